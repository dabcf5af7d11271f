/- Texts that belong together, joined. No condition. -/
import Derived.Test.YtgaenniknmphcaaJc
import Derived.Test.YtgaenniknmphcaaJd
import Derived.Shelf.SlSortCmp.NoneTotal
import Derived.Shelf.SlBodiesN
import Derived.Shelf.SlGeneric
import Derived.Shelf.SlicesE.Kit
import Derived.Shelf.RegionOpenPlain
import Derived.WalkKit
import Derived.Deep.LoopGhost
import Derived.Deep.Draws
import Derived.Lib.Walk
import Derived.Sort.WalkB12
import Derived.Lib.SliceRun
import Derived.Lib.SlicesCompact
import Derived.Shelf.SlicesQ.Load
import Derived.Shelf.SlicesQ.Reverse
import Derived.Laws.BitsLemmas
import Derived.Shelf.Spec.SlicesGrow
import Derived.Laws.AppendOwn
/-! Ewj -/
namespace Evl
open Go

mutual
/-- Nothing in it looks at memory that it does not own. -/
def nlk : AV → Bool
  | .sl o _ n cs => if o then nlkL cs else (n == 0 && cs.isEmpty)
  | .agg cs => nlkL cs
  | .tup cs => nlkL cs
  | .fnv _ cs => nlkL cs
  | .nbx _ => false
  | .cptr _ => false
  | _ => true
def nlkL : List AV → Bool
  | [] => true
  | x :: xs => nlk x && nlkL xs
end

variable {P : Program} {H : Hints} {fid : FuncId} {N : Nat} {w0 w w' : World} {M : Nat → Prop} {V0 V V' : Nat → Nat} {K K' : Nat → Nat × Nat} {O O' : Nat → Option Loc} {s : S} {a : Act} {fp : List Nat} {v : Value}

theorem Rep.still {m : Bool} {us : List Value} {cs : List AV} (h : Rep V w K m fp us cs) (hs : nlkL cs = true) (ho : ∀ g ∈ fp, w'.heap[g]? = w.heap[g]? ∧ V' g = V g) : Rep V' w' K m fp us cs := by
  induction h with
  | nil => exact .nil
  | lit hp _ ih => exact .lit hp (ih (by simpa [nlkL, nlk] using hs) ho)
  | nl _ ih => exact .nl (ih (by simpa [nlkL, nlk] using hs) ho)
  | ns _ ih => exact .ns (ih (by simpa [nlkL, nlk] using hs) ho)
  | on _ ih => exact .on (ih (by simpa [nlkL, nlk] using hs) ho)
  | sh a vs h1 h2 h3 hin _ ih1 ih2 =>
    simp only [nlkL, nlk, Bool.false_eq_true, if_false, Bool.and_eq_true, beq_iff_eq, List.isEmpty_iff] at hs
    obtain ⟨⟨h0, rfl⟩, hs⟩ := hs
    have hv : vs = [] := by have := hin.len; simpa using this
    subst hv
    exact .sh a [] h1 (.inl ⟨h0, rfl⟩) (by simp) .nil (ih2 hs ho)
  | ow g T arr fz vs h1 h2 h3 h4 h5 h6 h7 h8 hin _ ih1 ih2 =>
    simp only [nlkL, nlk, if_true, Bool.and_eq_true] at hs
    have hg := ho g (by simp)
    exact .ow g T arr fz vs h1 (hg.1.trans h2) h3 h4 h5 h6 h7 (hg.2.trans h8) (ih1 hs.1 fun x hx => ho x (by simp [hx])) (ih2 hs.2 fun x hx => ho x (by simp [hx]))
  | ms b h0 h1 _ ih => exact .ms b h0 h1 (ih (by simpa [nlkL, nlk] using hs) ho)
  | mv b h0 _ ih => exact .mv b h0 (ih (by simpa [nlkL, nlk] using hs) ho)
  | bd u hu _ ih => exact .bd u hu (ih (by simpa [nlkL, nlk] using hs) ho)
theorem RepP.still {x : AV} (h : RepP V w K v x) (hs : nlk x = true) : RepP V' w' K v x := by
  cases h with
  | ptr b off => exact .ptr b off
  | cptr a vs h1 h2 h3 h4 h5 => simp [nlk] at hs
  | bad v => exact .bad v
theorem RepPs.still {us xs} (h : RepPs V w K us xs) : nlkL xs = true → RepPs V' w' K us xs := by
  induction h with
  | nil => intro _; exact .nil
  | cons a _ ih =>
    intro hs
    simp only [nlkL, Bool.and_eq_true] at hs
    exact .cons (a.still hs.1) (ih hs.2)
theorem RepU.still {x : AV} (h : RepU V w K fp v x) (hs : nlk x = true) (ho : ∀ g ∈ fp, w'.heap[g]? = w.heap[g]? ∧ V' g = V g) : RepU V' w' K fp v x := by
  cases h with
  | one h => exact .one (h.still (by simp [nlkL, hs]) ho)
  | agg h => exact .agg (h.still (by simpa [nlk] using hs) ho)
  | p h => exact .p (h.still hs)
  | fnv h => exact .fnv (h.still (by simpa [nlk] using hs))
theorem RepT.still {us xs} (h : RepT V w K fp us xs) : nlkL xs = true → (∀ g ∈ fp, w'.heap[g]? = w.heap[g]? ∧ V' g = V g) → RepT V' w' K fp us xs := by
  induction h with
  | nil => intro _ _; exact .nil
  | cons a _ ih =>
    intro hs ho
    simp only [nlkL, Bool.and_eq_true] at hs
    exact .cons (a.still hs.1 fun g hg => ho g (by simp [hg])) (ih hs.2 fun g hg => ho g (by simp [hg]))
theorem RepV.still {x : AV} (h : RepV V w K fp v x) (hs : nlk x = true) (ho : ∀ g ∈ fp, w'.heap[g]? = w.heap[g]? ∧ V' g = V g) : RepV V' w' K fp v x := by
  cases h with
  | u h => exact .u (h.still hs ho)
  | tup h => exact .tup (h.still (by simpa [nlk] using hs) ho)

theorem Rep.fp_lt {m : Bool} {us : List Value} {cs : List AV} (h : Rep V w K m fp us cs) : ∀ g ∈ fp, g < w.heap.size := by
  induction h with
  | nil => intro g hg; cases hg
  | ow g T arr fz vs h1 h2 h3 h4 h5 h6 h7 h8 hin _ ih1 ih2 =>
    intro x hx
    rcases List.mem_cons.1 hx with rfl | hx
    · exact (Array.getElem?_eq_some_iff.1 h2).1
    · rcases List.mem_append.1 hx with hx | hx
      · exact ih1 x hx
      · exact ih2 x hx
  | lit _ _ ih => exact ih
  | nl _ ih => exact ih
  | ns _ ih => exact ih
  | on _ ih => exact ih
  | sh _ _ _ _ _ _ _ _ ih => exact ih
  | ms _ _ _ _ ih => exact ih
  | mv _ _ _ ih => exact ih
  | bd _ _ _ ih => exact ih

/-- A call turns one own tree, and nothing else that was there. 'mk': the arguments, by the tree's cell. -/
def TurnOk (P : Program) (f : FuncId) (mk : Value → Array Value) (T : AV) (r : Value) (T' : AV) : Prop :=
  ∀ (V : Nat → Nat) (w : World) (K : Nat → Nat × Nat) (fp : List Nat) (u : Value), Rep V w K false fp [u] [T] → fp.Nodup → (∀ g, 0 < V g → g < w.heap.size) →
    Calls P f (mk u) w fun e w' => e = .returned r ∧ ∃ (V' : Nat → Nat) (fp' : List Nat), Fr w (fun g => g ∈ fp) w' ∧ Rep V' w' K false fp' [u] [T'] ∧ fp'.Nodup ∧ (∀ g ∈ fp', g ∈ fp ∨ w.heap.size ≤ g) ∧
      (∀ g, 0 < V' g → g < w'.heap.size) ∧ ∀ g, g < w.heap.size → g ∉ fp → V' g = V g

def setBx (b : Nat) (y : Box) (s : S) : S := { s with b := fun k => if k = b then some y else s.b k }
/-- Nothing in a state looks at memory that it does not own. -/
def nlkS (s : S) : Prop := (∀ t, nlk (s.t t) = true) ∧ ∀ b x, s.b b = some x → nlkL x.cs = true

theorem set_mid {α : Type} (l1 : List α) (x y : α) (l2 : List α) : (l1 ++ x :: l2).set l1.length y = l1 ++ y :: l2 := by
  induction l1 with
  | nil => rfl
  | cons a l ih => simp [ih]
theorem lend (R : RelG N w0 M V0 K V O s a w) (hz : ∀ g, (w0.heap.size ≤ g ∨ M g) → V0 g = 0) (hn : nlkS s) {b j : Nat} {x : Box} {T T' : AV} {f : FuncId} {mk : Value → Array Value} {r : Value}
    (hb : s.b b = some x) (hj : x.cs[j]? = some T) (hT : TurnOk P f mk T r T') (hnT : ∀ b n, T ≠ .msl b n) :
    ∃ u, (∀ fb arr Ty fz us, BoxOk V w K b x fb arr Ty fz us → us[j]? = some u → True) ∧ w.cell? ⟨(K b).1, j, none⟩ = some u ∧
      Calls P f (mk u) w fun e w' => e = .returned r ∧ ∃ V' O', RelG N w0 M V0 K V' O' (setBx b { x with cs := x.cs.set j T' } s) a w' := by
  have hjl := (List.getElem?_eq_some_iff.1 hj).1
  obtain ⟨fb, arr, Ty, fz, us, q1, q2, q3⟩ := R.bxr b x hb (.inr (.inl fun e => by rw [e] at hjl; simp at hjl))
  have hsplit : x.cs = x.cs.take j ++ T :: x.cs.drop (j + 1) := by
    conv => lhs; rw [← List.take_append_drop j x.cs, List.drop_eq_getElem_cons hjl]
    rw [show x.cs[j] = T by have := (List.getElem?_eq_some_iff.1 hj).2; exact this]
  have hset : x.cs.set j T' = x.cs.take j ++ T' :: x.cs.drop (j + 1) := by
    conv => lhs; rw [hsplit]
    have hl : (x.cs.take j).length = j := by rw [List.length_take]; omega
    have := set_mid (x.cs.take j) T T' (x.cs.drop (j + 1))
    rw [hl] at this; exact this
  have hrep := q3.rep
  rw [hsplit] at hrep
  obtain ⟨f1, f2', u1, u2', hfb, hus, r1, r2⟩ := Rep.split _ hrep
  obtain ⟨f2, f3, u2, u3, rfl, rfl, r2, r3⟩ := Rep.split [T] r2
  obtain ⟨u, rfl⟩ : ∃ u, u2 = [u] := by
    match u2, r2.len with
    | [u], _ => exact ⟨u, rfl⟩
  have hl1 : u1.length = j := by rw [r1.len, List.length_take]; omega
  subst hfb; subst hus
  have hnall := hn.2 b x hb
  have n1 : nlkL (x.cs.take j) = true ∧ nlkL (x.cs.drop (j + 1)) = true := by
    have app : ∀ l1 l2 : List AV, nlkL (l1 ++ l2) = true → nlkL l1 = true ∧ nlkL l2 = true := by
      intro l1
      induction l1 with
      | nil => intro l2 h; exact ⟨rfl, h⟩
      | cons y l ih =>
        intro l2 h
        simp only [List.cons_append, nlkL, Bool.and_eq_true] at h ⊢
        exact ⟨⟨h.1, (ih l2 h.2).1⟩, (ih l2 h.2).2⟩
    rw [hsplit] at hnall
    have := app _ _ hnall
    refine ⟨this.1, ?_⟩
    have := this.2
    simp only [nlkL, Bool.and_eq_true] at this
    exact this.2
  have hcell : w.cell? ⟨(K b).1, j, none⟩ = some u := q3.cell (by rw [List.getElem?_append_right (by omega)]; simp [hl1])
  have r2d : Rep V w K false f2 [u] [T] := r2.down (fun c hc b n => by rw [List.mem_singleton.1 hc]; exact hnT b n)
  simp only [List.nodup_cons, List.mem_append, not_or, List.nodup_append] at q1
  obtain ⟨⟨k1, k2, k3⟩, d1, ⟨d2, d3, d23⟩, d123⟩ := q1
  refine ⟨u, fun _ _ _ _ _ _ _ => trivial, hcell, Calls.mono (hT V w K f2 u r2d d2 R.vr) fun e w' ⟨he, V', fp', hfr, hrep', hnd, hin, hvr, hvo⟩ => ⟨he, ?_⟩⟩
  have hold : ∀ g, O g = some (false, b) ∨ g ∉ f2 → True := fun _ _ => trivial
  have keep : ∀ g, g < w.heap.size → g ∉ f2 → w'.heap[g]? = w.heap[g]? ∧ V' g = V g := fun g h1 h2 => ⟨hfr.old g h1 h2, hvo g h1 h2⟩
  have hf2O : ∀ g ∈ f2, O g = some (false, b) := fun g hg => q2 g (by simp [hg])
  have hf2lt : ∀ g ∈ f2, g < w.heap.size := r2.fp_lt
  have hf2z : ∀ g ∈ f2, V0 g = 0 := fun g hg => hz g (R.rg g _ (hf2O g hg)).1
  have own_keep : ∀ g l, O g = some l → l ≠ (false, b) → w'.heap[g]? = w.heap[g]? ∧ V' g = V g := fun g l hg hl => keep g (R.rg g l hg).2 fun hin => hl (by rw [hf2O g hin] at hg; cases hg; rfl)
  have hnew : ∀ g l, O g = some l → g ∈ fp' → g ∈ f2 := fun g l hg hp => by
    rcases hin g hp with h | h
    · exact h
    · have := (R.rg g l hg).2; omega
  refine ⟨V', fun g => if g ∈ fp' then some (false, b) else if g ∈ f2 then none else O g, R.df, R.n, fun t => ?_, fun c y hc => ?_, fun g l hg => ?_, hvr, ?_, ?_, ?_⟩
  · obtain ⟨fp, p1, p2, p3⟩ := R.tm t
    refine ⟨fp, p1, fun g hg => ?_, p3.still (hn.1 t) fun g hg => own_keep g _ (p2 g hg) (by simp)⟩
    have h2 : g ∉ f2 := fun h => by have := hf2O g h; rw [p2 g hg] at this; cases this
    show (if g ∈ fp' then some (false, b) else if g ∈ f2 then none else O g) = some (true, t)
    rw [if_neg (fun h => h2 (hnew g _ (p2 g hg) h)), if_neg h2]; exact p2 g hg
  · by_cases hcb : c = b
    · subst hcb
      simp only [setBx, if_true, Option.some.injEq] at hc
      subst hc
      have kb := keep (K c).1 (R.rg _ _ (q2 _ List.mem_cons_self)).2 k2
      have e1 : ∀ g ∈ f1, w'.heap[g]? = w.heap[g]? ∧ V' g = V g := fun g hg => keep g (r1.fp_lt g hg) fun h => d123 g hg g (.inl h) rfl
      have e3 : ∀ g ∈ f3, w'.heap[g]? = w.heap[g]? ∧ V' g = V g := fun g hg => keep g (r3.fp_lt g hg) fun h => d23 g h g hg rfl
      have old_or : ∀ g ∈ fp', ∀ h, h < w.heap.size → h ∉ f2 → g ≠ h := fun g hg h hl hn e => by
        subst e
        rcases hin g hg with q | q
        · exact hn q
        · omega
      refine .inr ⟨f1 ++ (fp' ++ f3), arr, Ty, fz, u1 ++ ([u] ++ u3), ?_, fun g hg => ?_, ?_⟩
      · simp only [List.nodup_cons, List.mem_append, not_or, List.nodup_append]
        refine ⟨⟨k1, fun h => old_or _ h _ (R.rg _ _ (q2 _ List.mem_cons_self)).2 k2 rfl, k3⟩, d1, ⟨hnd, d3, fun x hx y hy => old_or x hx y (r3.fp_lt y hy) fun h => d23 y h y hy rfl⟩, fun x hx y hy e => ?_⟩
        subst e
        rcases hy with hy | hy
        · exact old_or x hy x (r1.fp_lt x hx) (fun h => d123 x hx x (.inl h) rfl) rfl
        · exact d123 x hx x (.inr hy) rfl
      · show (if g ∈ fp' then some (false, c) else if g ∈ f2 then none else O g) = some (false, c)
        by_cases h1 : g ∈ fp'
        · rw [if_pos h1]
        · rw [if_neg h1]
          have hg2 : g ∉ f2 := by
            simp only [List.mem_cons, List.mem_append] at hg
            rcases hg with rfl | hg | hg | hg
            · exact k2
            · exact fun h => d123 g hg g (.inl h) rfl
            · exact absurd hg h1
            · exact fun h => d23 g h g hg rfl
          rw [if_neg hg2]
          refine q2 g ?_
          simp only [List.mem_cons, List.mem_append] at hg ⊢
          rcases hg with hg | hg | hg | hg
          · exact .inl hg
          · exact .inr (.inl hg)
          · exact absurd hg h1
          · exact .inr (.inr (.inr hg))
      · refine ⟨kb.1.trans q3.hp, q3.th, q3.pre, ?_, ?_, q3.var, q3.row⟩
        · show Rep V' w' K (x.sz == 0) _ _ (x.cs.set j T')
          rw [hset]
          exact (r1.still n1.1 e1).app ((hrep'.up _ (fun e => by cases e)).app (r3.still n1.2 e3))
        · show V' (K c).1 = if x.st = true then 0 else (x.cs.set j T').length
          rw [kb.2, List.length_set]; exact q3.vis
    · have hcs : s.b c = some y := by simpa [setBx, hcb] using hc
      rcases R.bx c y hcs with h | ⟨gb, arr2, T2, fz2, us2, p1, p2, p3⟩
      · exact .inl h
      · have hkk : ∀ g ∈ (K c).1 :: gb, w'.heap[g]? = w.heap[g]? ∧ V' g = V g := fun g hg => own_keep g _ (p2 g hg) (by simp [hcb])
        refine .inr ⟨gb, arr2, T2, fz2, us2, p1, fun g hg => ?_, ⟨(hkk _ List.mem_cons_self).1.trans p3.hp, p3.th, p3.pre, p3.rep.still (hn.2 c y hcs) fun g hg => hkk g (by simp [hg]), by rw [(hkk _ List.mem_cons_self).2]; exact p3.vis, p3.var, p3.row⟩⟩
        have h2 : g ∉ f2 := fun h => by have := hf2O g h; rw [p2 g hg] at this; cases this; exact hcb rfl
        show (if g ∈ fp' then some (false, b) else if g ∈ f2 then none else O g) = some (false, c)
        rw [if_neg (fun h => h2 (hnew g _ (p2 g hg) h)), if_neg h2]; exact p2 g hg
  · split at hg
    · rename_i hp
      refine ⟨?_, hrep'.fp_lt g hp⟩
      rcases hin g hp with h | h
      · exact (R.rg g _ (hf2O g h)).1
      · have := R.fr.sz; exact .inl (by omega)
    · split at hg
      · cases hg
      · exact ⟨(R.rg g l hg).1, Nat.lt_of_lt_of_le (R.rg g l hg).2 hfr.sz⟩
  · exact ⟨hfr.os.trans R.fr.os, hfr.tape.trans R.fr.tape, hfr.output.trans R.fr.output, Nat.le_trans R.fr.sz hfr.sz, fun g hg hM => by
      have h2 : g ∉ f2 := fun h => by
        rcases (R.rg g _ (hf2O g h)).1 with h' | h'
        · omega
        · exact hM h'
      rw [hfr.old g (Nat.lt_of_lt_of_le hg R.fr.sz) h2]; exact R.fr.old g hg hM, Nat.le_trans R.fr.dr hfr.dr⟩
  · refine ⟨fun g off ho => ?_, fun g => ?_, Nat.le_trans R.nx.sz hfr.sz⟩
    · rw [← R.nx.cell g off ho]
      have h2 : g ∉ f2 := fun h => by rw [hf2z g h] at ho; omega
      have hlt : g < w.heap.size := R.vr g (by have := R.nx.le g; omega)
      have := hfr.old g hlt h2
      simp only [World.cell?, this]
    · by_cases h0 : V0 g = 0
      · omega
      · have h2 : g ∉ f2 := fun h => h0 (hf2z g h)
        have hlt : g < w.heap.size := R.vr g (by have := R.nx.le g; omega)
        rw [hvo g hlt h2]; exact R.nx.le g
  · intro g hg hM
    have h2 : g ∉ f2 := fun h => by
      rcases (R.rg g _ (hf2O g h)).1 with h' | h'
      · omega
      · exact hM h'
    rw [hvo g (Nat.lt_of_lt_of_le hg R.fr.sz) h2]; exact R.vo g hg hM
end Evl

/-! Ewk -/
namespace Evl
open Go

variable {P : Program} {H : Hints} {fid : FuncId} {N : Nat} {w0 w w' : World} {M : Nat → Prop} {V0 V V' : Nat → Nat} {K K' : Nat → Nat × Nat} {O O' : Nat → Option Loc} {s : S} {a : Act} {fp : List Nat} {v : Value} {G : GP}
variable {ops : Array Oper} {Q : Exit → Act → World → Prop}

theorem wpOps_val {i : Nat} {rest : List Nat} {o : Oper} (ho : ops[i]? = some o) (hg : o.guard = none) (hr : (execOp a.eval o).run P w = .ok (.value v) w') (h : wpOps P ops Q rest (a.put o.dst v) w') : wpOps P ops Q (i :: rest) a w := by
  rw [wpOps_cons]
  unfold wpOp
  rw [ho]
  have hw : Region.wanted o (yielded ops a.tmps) = true := by unfold Region.wanted; rw [hg]
  simp only [hw, if_true]
  refine .inl ?_
  unfold Oper.wp
  rw [hr]; exact h
theorem wpOps_call {i : Nat} {rest : List Nat} {o : Oper} {f : FuncId} {args : Array Value} (ho : ops[i]? = some o) (hg : o.guard = none) (hr : (execOp a.eval o).run P w = .ok (.enter f args) w)
    (h : Calls P f args w fun e w' => ∃ v, e = .returned v ∧ wpOps P ops Q rest (a.put o.dst v) w') : wpOps P ops Q (i :: rest) a w := by
  rw [wpOps_cons]
  unfold wpOp
  rw [ho]
  have hw : Region.wanted o (yielded ops a.tmps) = true := by unfold Region.wanted; rw [hg]
  simp only [hw, if_true]
  refine .inl ?_
  unfold Oper.wp
  rw [hr]
  simp only [Oper.upon]
  refine Calls.mono h fun e w' ⟨v, he, hq⟩ => ?_
  subst he; exact hq

def botS : S := ⟨fun _ => .bad, fun _ => none⟩
theorem relBot (hd : a.defers = []) : RelG a.tmps.size w (fun _ => True) (fun _ => 0) (fun _ => (0, 0)) (fun _ => 0) (fun _ => none) botS a w :=
  ⟨hd, rfl, fun _ => ⟨[], List.nodup_nil, by simp, .bad _⟩, fun _ _ h => (by cases h), fun _ _ h => (by cases h), fun _ h => absurd h (Nat.lt_irrefl 0), ⟨rfl, rfl, rfl, Nat.le_refl _, fun _ _ h => absurd trivial h, Nat.le_refl _⟩, Next.refl _ _, fun _ _ h => absurd trivial h⟩
theorem call_run {o : Oper} {f : FuncId} {xs : List Operand} (hd : a.defers = []) (h : calleeOf o botS = some (f, xs, [])) {fn : Func} {c : Code} (hf : P.funcs[f]? = some fn) (hb : fn.body = some c) (hn : (fn.name == "runtime.NumGoroutine") = false) :
    (execOp a.eval o).run P w = .ok (.enter f (xs.map a.eval).toArray) w := by
  obtain ⟨cvs, h1, h2⟩ := calleeOf_run (relBot (w := w) hd) h hf hb hn
  cases h1
  simpa using h2

theorem Fr.sub {M M' : Nat → Prop} (h : Fr w0 M w) (hm : ∀ g, M g → M' g) : Fr w0 M' w := ⟨h.os, h.tape, h.output, h.sz, fun g hg hn => h.old g hg fun h' => hn (hm g h'), h.dr⟩

theorem lit_back {V1 : Nat → Nat} {rv : Value} (h : RepQ V1 w fp v (.lit rv)) : v = rv := by
  cases h with
  | one _ _ _ hr =>
    cases hr with
    | v K _ _ _ hu hi =>
      cases hu with
      | one h => cases h with
        | lit hp h => rfl
      | p h => cases h

/-- Out of the walk of a borrowed row: a call turns an own tree. -/
theorem turn_row {f : FuncId} {n sz : Nat} {ds ds' : List AV} {kv rv : Value} {bx bx' : Nat → Option Box}
    (hG : ∀ M V0 w, (∀ g, (w.heap.size ≤ g ∨ M g) → V0 g = 0) → G M V0 w) (hbx : ∀ b x, bx b = some x → b = 1000 ∧ x = ⟨true, sz, ds⟩) (hbx' : bx' 1000 = some ⟨true, sz, ds'⟩)
    (hC : CallOk P G f [.msl 1000 n, .lit kv] bx (.lit rv) bx') (hnil : ds = [] → ds' = [] ∧ CallOk P G f [.nil, .lit kv] (fun _ => none) (.lit rv) (fun _ => none))
    (hp : plain kv = true) (hn : nlkL ds = true) (hn' : nlkL ds' = true) (hl : ds'.length = ds.length) (hsz : sz ≠ 0) :
    TurnOk P f (fun u => #[u, kv]) (.sl true sz n ds) rv (.sl true sz n ds') := by
  intro V w K fp u hrep hnd hvr
  cases hrep with
  | on h =>
    cases h
    obtain ⟨rfl, hCn⟩ := hnil rfl
    refine Calls.mono (hCn w V V K (fun _ => none) [.slice none 0 0, kv] (hG _ _ _ fun g hg => ?_) (fun _ => Nat.le_refl _) (fun _ _ => rfl) ⟨rfl, fun i x hx => ?_, fun b x hx => (by cases hx), fun g l hg => (by cases hg), hvr⟩) fun e w' hen => ?_
    · rcases hg with h | h
      · exact Nat.eq_zero_of_not_pos fun hp => by have := hvr g hp; omega
      · exact absurd rfl h
    · match i, hx with
      | 0, hx => cases hx; exact ⟨_, [], rfl, List.nodup_nil, by simp, .u (.one (.nl .nil))⟩
      | 1, hx => cases hx; exact ⟨_, [], rfl, List.nodup_nil, by simp, .lit hp⟩
    · obtain ⟨v, rfl, V1, O1, fp, b1, b2, b3, b4, b5, b6, hq, b7, b8⟩ := hen
      rw [lit_back hq]
      exact ⟨rfl, V1, [], b1.sub (fun g h => absurd rfl h), .on .nil, List.nodup_nil, by simp, b3, fun g hg _ => b4 g hg rfl⟩
  | @ow _ _ _ _ _ cap _ _ fq g T arr fz vs h1 h2 h3 h4 h5 h6 h7 h8 hin hrest =>
    cases hrest
    rw [List.append_nil] at hnd ⊢
    obtain ⟨hgq, hqd⟩ := List.nodup_cons.1 hnd
    have hglt : g < w.heap.size := (Array.getElem?_eq_some_iff.1 h2).1
    let V1 : Nat → Nat := fun x => if x = g then 0 else V x
    let V2 : Nat → Nat := fun x => if x ∈ g :: fq then 0 else V x
    let K1 : Nat → Nat × Nat := fun b => if b = 1000 then (g, cap + 1) else K b
    let O1 : Nat → Option Loc := fun x => if x ∈ g :: fq then some (false, 1000) else none
    have hvs : vs.length ≤ arr.size := Nat.le_trans (by rw [h5]; exact Nat.mul_le_mul_right _ h1) h4
    refine Calls.mono (hC w V2 V1 K1 O1 [.slice (some ⟨g, 0, none⟩) n cap, kv] (hG _ _ _ fun x hx => ?_) (fun x => ?_) (fun x hx => ?_) ⟨rfl, fun i x hx => ?_, fun b x hx => ?_, fun x l hx => ?_, fun x hx => ?_⟩) fun e w' hen => ?_
    · simp only [V2]
      split
      · rfl
      · rename_i hni
        rcases hx with h | h
        · exact Nat.eq_zero_of_not_pos fun hp => by have := hvr x hp; omega
        · simp only [O1, if_neg hni] at h; exact absurd rfl h
    · simp only [V1, V2]
      split
      · omega
      · rename_i hni
        rw [if_neg (fun e => hni (by rw [e]; exact List.mem_cons_self))]; omega
    · have hni : x ∉ g :: fq := fun h => by simp only [O1, if_pos h] at hx; cases hx
      simp only [V1, V2, if_neg hni]
      rw [if_neg (fun e => hni (by rw [e]; exact List.mem_cons_self))]
    · match i, hx with
      | 0, hx =>
        cases hx
        refine ⟨_, [], rfl, List.nodup_nil, by simp, .u (.one ?_)⟩
        have := Rep.ms (V := V1) (w := w) (K := K1) (fp := []) (us := []) (cs := []) (n := n) (cap := cap) 1000 (by simp [K1]) h1 .nil
        simpa [K1] using this
      | 1, hx => cases hx; exact ⟨_, [], rfl, List.nodup_nil, by simp, .lit hp⟩
    · obtain ⟨rfl, rfl⟩ := hbx b x hx
      refine ⟨Nat.le_refl _, fq, arr, T, fz, vs, hnd, fun x hx => by simp only [O1]; exact if_pos hx, ⟨h2, h3, h7, ?_, ?_, fun h => absurd h hsz, fun _ => ⟨cap, by simp [K1], h4, hvs, by rw [h5]; simp⟩⟩⟩
      · have := hin.still (w' := w) (V' := V1) hn fun x hx => ⟨rfl, by
          have hne : x ≠ g := fun e => hgq (by rw [← e]; exact hx)
          simp only [V1, if_neg hne]⟩
        exact (this.chK (this.noIds rfl) K1).up _ (fun e => by cases e)
      · simp [V1, K1]
    · simp only [O1] at hx
      split at hx
      · rename_i hm
        rcases List.mem_cons.1 hm with rfl | hm
        · exact hglt
        · exact hin.fp_lt x hm
      · cases hx
    · simp only [V1] at hx
      split at hx
      · omega
      · exact hvr x hx
    · obtain ⟨v, rfl, V3, O3, fp3, b1, b2, b3, b4, b5, b6, hq, b7, b8⟩ := hen
      rw [lit_back hq]
      obtain ⟨fb, arr', T', fz', us', q1, q2, q3⟩ := b7 1000 _ hbx'
      have eK : (K1 1000).1 = g := by simp [K1]
      have eK2 : (K1 1000).2 = cap + 1 := by simp [K1]
      obtain ⟨hgb, hbd⟩ := List.nodup_cons.1 (eK ▸ q1)
      obtain ⟨cap', e1, e2, e3, e4⟩ := q3.row hsz
      have hcap : cap' = cap := by omega
      subst hcap
      have hlen : us'.length = n * sz := by rw [q3.rep.len, hl, ← hin.len, h5]
      have hsz0 : ((sz : Nat) == 0) = false := by simpa using hsz
      have hrep3 : Rep V3 w' K1 false fb us' ds' := by have := q3.rep; rwa [hsz0] at this
      refine ⟨rfl, fun x => if x = g then us'.length else V3 x, g :: fb, b1.sub (fun x hx => ?_), ?_, List.nodup_cons.2 ⟨hgb, hbd⟩, fun x hx => ?_, fun x hx => ?_, fun x hx hn => ?_⟩
      · have hx : O1 x ≠ none := hx
        simp only [O1] at hx
        split at hx
        · assumption
        · exact absurd rfl hx
      · have h := hrep3.still (w' := w') (V' := fun x => if x = g then us'.length else V3 x) hn' fun x hx => ⟨rfl, by
          have hne : x ≠ g := fun e => hgb (by rw [← e]; exact hx)
          show (if x = g then us'.length else V3 x) = V3 x
          rw [if_neg hne]⟩
        have := Rep.ow (V := fun x => if x = g then us'.length else V3 x) (fp := []) (us := []) (cs := []) (m := false) g T' arr' fz' us' h1 (by have := q3.hp; rwa [eK] at this) q3.th e2 hlen hsz q3.pre (if_pos rfl) (h.chK (h.noIds rfl) K) .nil
        rwa [List.append_nil] at this
      · rcases List.mem_cons.1 hx with rfl | hx
        · exact .inl List.mem_cons_self
        · have hO := q2 x (by simp [hx])
          rcases (b8 x _ hO).1 with h | h
          · exact .inr h
          · left
            simp only [O1] at h
            split at h
            · assumption
            · exact absurd rfl h
      · have hx : 0 < (if x = g then us'.length else V3 x) := hx
        split at hx
        · rename_i e; subst e; exact Nat.lt_of_lt_of_le hglt b1.sz
        · exact b3 x hx
      · have hne : x ≠ g := fun e => hn (by rw [e]; exact List.mem_cons_self)
        show (if x = g then us'.length else V3 x) = V x
        rw [if_neg hne]
        have hO : O1 x = none := by simp only [O1]; exact if_neg hn
        rw [b4 x hx hO]
        simp only [V2]; exact if_neg hn

/-- A slot is set. -/
def stT (i : Nat) (x : AV) (s : S) : S := { s with t := fun k => if k = i then x else s.t k }
theorem killBox_nil (x : Box) : killBox [] x = x := by
  cases x; simp only [killBox, killAllL]; split <;> rfl
theorem apply_stT (d : Nat) (x : AV) (s : S) : (({ val := x } : Eff).apply (some d) s) = stT d x s := by
  have ht : ∀ i, ((({ val := x } : Eff).apply (some d) s)).t i = (stT d x s).t i := fun i => by
    simp only [Eff.apply, stT, lookup, killAll, Option.some.injEq]
    by_cases e : i = d
    · subst e; simp
    · rw [if_neg (fun h => e h.symm), if_neg e]
  have hb : ∀ i, ((({ val := x } : Eff).apply (some d) s)).b i = (stT d x s).b i := fun i => by
    simp only [Eff.apply, stT, lookup, List.not_mem_nil, if_false]
    cases s.b i with
    | none => rfl
    | some z => simp only [Option.map_some, killBox_nil]
  cases h1 : ({ val := x } : Eff).apply (some d) s with
  | mk t b =>
    cases h2 : stT d x s with
    | mk t' b' =>
      have e1 : t = t' := funext fun i => by have := ht i; rw [h1, h2] at this; exact this
      have e2 : b = b' := funext fun i => by have := hb i; rw [h1, h2] at this; exact this
      rw [e1, e2]
theorem RelG.stT (R : RelG N w0 M V0 K V O s a w) (d : Nat) (hd : d < N) (x : AV) (v : Value) (h : RepV V w K [] v x) : ∃ O', RelG N w0 M V0 K V O' (stT d x s) (a.put (some d) v) w := by
  obtain ⟨O', h'⟩ := R.pure (some d) v x [] (fun d' e => by cases e; exact hd) h
  rw [show (({ val := x, rd := [] } : Eff).apply (some d) s) = Evl.stT d x s from apply_stT d x s] at h'
  exact ⟨O', h'⟩
theorem eval_put_same {d : Nat} (hd : d < a.tmps.size) (v : Value) : (a.put (some d) v).eval (.tmp d) = v := getD_put_same a d v hd
theorem eval_put_other {d t : Nat} (h : d ≠ t) (v : Value) : (a.put (some d) v).eval (.tmp t) = a.eval (.tmp t) := getD_put a (some d) v t (fun e => h (by cases e; rfl))

/-- The last four operations of a region that turns a tree: its load, the number's move, the call, the result's assignment. -/
structure MarkOps (P : Program) (ops : Array Oper) (p : Nat) (f : FuncId) (tL : TypeId) (xa xk : Operand) (dl dk dr da : Nat) : Prop where
  sz : ops.size = p + 4
  o0 : ∃ o, ops[p]? = some o ∧ o.dst = some dl ∧ o.op = .load tL xa ∧ o.guard = none
  o1 : ∃ o, ops[p + 1]? = some o ∧ o.dst = some dk ∧ o.op = .move xk ∧ o.guard = none
  o2 : ∃ o, ops[p + 2]? = some o ∧ o.dst = some dr ∧ calleeOf o botS = some (f, [.tmp dl, .tmp dk], []) ∧ o.guard = none
  o3 : ∃ o, ops[p + 3]? = some o ∧ o.dst = some da ∧ o.op = .assign (.tmp dr) ∧ o.guard = none
  fn : ∃ fn c, P.funcs[f]? = some fn ∧ fn.body = some c ∧ (fn.name == "runtime.NumGoroutine") = false
  ne : dl ≠ dk ∧ xk ≠ .tmp dl

def markS (b j : Nat) (x : Box) (T' : AV) (kv rv : Value) (dl dk dr da : Nat) (s : S) : S :=
  stT da (.lit rv) (stT dr (.lit rv) (setBx b { x with cs := x.cs.set j T' } (stT dk (.lit kv) (stT dl .bad s))))

theorem mc_mark (hG : ∀ M V0 w0, G M V0 w0 → ∀ g, (w0.heap.size ≤ g ∨ M g) → V0 g = 0) {id p f tL dl dk dr da b j : Nat} {xa xk : Operand} (m : MarkOps P ops p f tL xa xk dl dk dr da)
    {s s1 : S} {lg : List LogE} (hch : Chain P G ops s lg s1) (hlg : lg.map (·.i) = List.range p) (hdst : ∀ x ∈ lg, x.dst = (ops[x.i]?).bind (·.dst))
    {x : Box} {T T' : AV} {kv rv : Value} {mk : Value → Array Value} {ld : Value → Value} (hk : s1.ev xk = .lit kv) (hb : s1.b b = some x) (hj : x.cs[j]? = some T) (hn : nlkS s1) (hnT : ∀ b n, T ≠ .msl b n)
    (hT : TurnOk P f mk T rv T') (hmk : ∀ u, mk u = #[ld u, kv]) (hrv : plain rv = true)
    (hld : ∀ {N w0 M V0 K V O a w}, RelG N w0 M V0 K V O s1 a w → ∀ u, w.cell? ⟨(K b).1, j, none⟩ = some u → ∀ o : Oper, o.op = .load tL xa → (execOp a.eval o).run P w = .ok (.value (ld u)) w) :
    MC P G (.region id ops false) s .nor (markS b j x T' kv rv dl dk dr da s1) := by
  intro N w0 M V0 V K O a w hg hok R Q hQ
  refine wp_region ?_
  obtain ⟨o0, i0, d0, p0, g0⟩ := m.o0
  obtain ⟨o1, i1, d1, p1, g1⟩ := m.o1
  obtain ⟨o2, i2, d2, p2, g2⟩ := m.o2
  obtain ⟨o3, i3, d3, p3, g3⟩ := m.o3
  obtain ⟨fn, c, hf, hbd, hnm⟩ := m.fn
  have hN : ∀ (i : Nat) (o : Oper) (d : Nat), ops[i]? = some o → o.dst = some d → d < N := fun i o d h e => by
    simp only [codeOk, opsOk, Array.all_eq_true_iff_forall_mem] at hok
    have := hok o (Array.mem_of_getElem? h)
    rw [e] at this; simpa using this
  have hr : List.range ops.size = lg.map (·.i) ++ [p, p + 1, p + 2, p + 3] := by
    rw [hlg, m.sz, show p + 4 = p + 1 + 1 + 1 + 1 from rfl, List.range_succ, List.range_succ, List.range_succ, List.range_succ]; simp
  rw [hr]
  -- the operations ahead
  have ahead : ∀ {s lg s1} (_ : Chain P G ops s lg s1) (_ : ∀ x ∈ lg, x.dst = (ops[x.i]?).bind (·.dst)) {V K O a w}, RelG N w0 M V0 K V O s a w → ∀ (rest : List Nat), (∀ a' w' K' V' O', RelG N w0 M V0 K' V' O' s1 a' w' → (∀ b, 1000 ≤ b → K' b = K b) → wpOps P ops Q rest a' w') → wpOps P ops Q (lg.map (·.i) ++ rest) a w := by
    intro s lg s1 h
    induction h with
    | nil s => intro _ V K O a w R rest hq; exact hq a w K V O R fun _ _ => rfl
    | cons s x lg s2 he _ ih =>
      intro hdst V K O a w R rest hq
      simp only [List.map_cons, List.cons_append, wpOps_cons]
      refine he N w0 M V0 V K O s a w hg R ⟨fun _ _ => rfl, fun _ _ => rfl⟩ (fun d hd => ?_) Q _ fun a' w' K' V' O' R' hK => ih (fun y hy => hdst y (by simp [hy])) R' rest fun a'' w'' K'' V'' O'' R'' hK'' => hq _ _ _ _ _ R'' fun b hb => (hK'' b hb).trans (hK b hb)
      have := hdst x (by simp)
      rw [hd] at this
      cases ho : ops[x.i]? with
      | none => rw [ho] at this; cases this
      | some o => rw [ho] at this; exact hN _ o d ho (by simpa using this.symm)
  refine ahead hch hdst R _ fun a1 w1 K1 V1 O1 R1 hK1 => ?_
  -- the tree's cell
  obtain ⟨u, -, hcell, -⟩ := lend R1 (hG _ _ _ hg) hn hb hj hT hnT
  have hdl := hN _ _ _ i0 d0
  have hdk := hN _ _ _ i1 d1
  have hdr := hN _ _ _ i2 d2
  have hda := hN _ _ _ i3 d3
  have hN1 := R1.n
  refine wpOps_val i0 g0 (hld R1 u hcell o0 p0) ?_
  rw [d0]
  obtain ⟨O2, R2⟩ := R1.stT dl hdl .bad (ld u) (.bad _)
  have hkv2 : (a1.put (some dl) (ld u)).eval xk = kv ∧ plainX kv = true := by
    have hev : (stT dl .bad s1).ev xk = .lit kv := by
      rw [← hk]
      cases xk with
      | tmp t =>
        have : t ≠ dl := fun e => m.ne.2 (by rw [e])
        simp [S.ev, stT, this]
      | _ => rfl
    obtain ⟨f1, _, _, _, h1⟩ := R2.ev xk
    rw [hev] at h1
    exact ⟨(inv_lit h1).1, (inv_lit h1).2.2⟩
  refine wpOps_val i1 g1 (v := kv) (w' := w1) (by simp [execOp, p1, hkv2.1]) ?_
  rw [d1]
  obtain ⟨O3, R3⟩ := R2.stT dk hdk (.lit kv) kv (.litX hkv2.2)
  have hn3 : nlkS (stT dk (.lit kv) (stT dl .bad s1)) := ⟨fun t => by
    simp only [stT]
    split
    · rfl
    · split
      · rfl
      · exact hn.1 t, hn.2⟩
  obtain ⟨u3, -, hcell3, hcall⟩ := lend R3 (hG _ _ _ hg) hn3 (b := b) (x := x) hb hj hT hnT
  have hu : u3 = u := by rw [hcell] at hcell3; exact (Option.some.inj hcell3).symm
  subst hu
  have hargs : ([.tmp dl, .tmp dk] : List Operand).map ((a1.put (some dl) (ld u3)).put (some dk) kv).eval = [ld u3, kv] := by
    simp only [List.map_cons, List.map_nil]
    rw [eval_put_same (by rw [put_size, hN1]; exact hdk), eval_put_other (Ne.symm m.ne.1), eval_put_same (by rw [hN1]; exact hdl)]
  refine wpOps_call i2 g2 (f := f) (args := #[ld u3, kv]) (by rw [call_run R3.df p2 hf hbd hnm, hargs]) ?_
  rw [hmk] at hcall
  refine Calls.mono hcall fun e w2 ⟨he, V4, O4, R4⟩ => ⟨rv, he, ?_⟩
  rw [d2]
  obtain ⟨O5, R5⟩ := R4.stT dr hdr (.lit rv) rv (.lit hrv)
  have hsz5 : dr < ((a1.put (some dl) (ld u3)).put (some dk) kv).tmps.size := by rw [put_size, put_size, hN1]; exact hdr
  refine wpOps_val i3 g3 (v := rv) (w' := w2) (by simp only [execOp, p3, eval_put_same hsz5]; rfl) ?_
  rw [d3]
  obtain ⟨O6, R6⟩ := R5.stT da hda (.lit rv) rv (.lit hrv)
  exact hQ _ _ _ _ _ R6 hK1
end Evl

/-! Ewl -/
namespace Evl
open Go

variable {P : Program} {w w' : World} {V V' : Nat → Nat} {a : Act} {v : Value}

/-- An operation of a region. -/
def IsOp (ops : Array Oper) (i d : Nat) (op : Op) : Prop := ∃ o, ops[i]? = some o ∧ o.dst = some d ∧ o.op = op ∧ o.guard = none

theorem turn_wrap {f g tS tL : Nat} {fn gn : Func} {gc : Code} {i0 i1 i2 : Nat} {p0 p1 p2 : Array Oper} {k0 : Value} {off size : Nat}
    (hf : P.funcs[f]? = some fn) (hb : fn.body = some (.seq (.region i0 p0 false) (.seq (.region i1 p1 false) (.seq (.region i2 p2 false) .ret)))) (hN : fn.ntmps = 10) (hres : fn.results = #[.tmp 4])
    (hg : P.funcs[g]? = some gn) (hgb : gn.body = some gc) (hgn : (gn.name == "runtime.NumGoroutine") = false)
    (s0 : p0.size = 2) (s1 : p1.size = 5) (s2 : p2.size = 2)
    (a0 : IsOp p0 0 2 (.box tS (.tmp 0))) (a1 : IsOp p0 1 4 (.assign (.const k0)))
    (b0 : IsOp p1 0 5 (.fieldAddr tS (.tmp 2) 2)) (b1 : IsOp p1 1 6 (.load tL (.tmp 5))) (b2 : IsOp p1 2 7 (.move (.tmp 1)))
    (b3 : ∃ o, p1[3]? = some o ∧ o.dst = some 8 ∧ calleeOf o botS = some (g, [.tmp 6, .tmp 7], []) ∧ o.guard = none) (b4 : IsOp p1 4 1 (.assign (.tmp 8)))
    (c0 : IsOp p2 0 9 (.move (.tmp 1))) (c1 : IsOp p2 1 4 (.assign (.tmp 9)))
    (hfl : tfield P tS 2 = some (off, size)) (hag : tagg P tL = some false)
    {T T' : AV} {kv rv : Value} {pre : List Value} (hpre : pre.length = off) (hT : TurnOk P g (fun u => #[u, kv]) T rv T') :
    TurnOk P f (fun u => #[.agg (pre ++ [u]).toArray, kv]) T rv T' := by
  intro V w K fp u hrep hnd hvr
  refine calls_of_wp hf hb ?_
  obtain ⟨oa0, ia0, da0, pa0, ga0⟩ := a0
  obtain ⟨oa1, ia1, da1, pa1, ga1⟩ := a1
  obtain ⟨ob0, ib0, db0, pb0, gb0⟩ := b0
  obtain ⟨ob1, ib1, db1, pb1, gb1⟩ := b1
  obtain ⟨ob2, ib2, db2, pb2, gb2⟩ := b2
  obtain ⟨ob3, ib3, db3, pb3, gb3⟩ := b3
  obtain ⟨ob4, ib4, db4, pb4, gb4⟩ := b4
  obtain ⟨oc0, ic0, dc0, pc0, gc0⟩ := c0
  obtain ⟨oc1, ic1, dc1, pc1, gc1⟩ := c1
  rw [hN]
  generalize ha : ({ tmps := #[.agg (pre ++ [u]).toArray, kv] ++ Array.replicate (10 - (#[Value.agg (pre ++ [u]).toArray, kv] : Array Value).size) undef, defers := [] } : Act) = a
  have had : a.defers = [] := by rw [← ha]
  have hsz : a.tmps.size = 10 := by rw [← ha]; simp
  have e0 : a.eval (.tmp 0) = .agg (pre ++ [u]).toArray := by rw [← ha]; rfl
  have e1 : a.eval (.tmp 1) = kv := by rw [← ha]; rfl
  clear ha
  let w1 := w.alloc (.cells (pre ++ [u]).toArray tS)
  let ad : Value := .pointer (some ⟨w.heap.size, 0, none⟩)
  have hold : ∀ x, x < w.heap.size → w1.heap[x]? = w.heap[x]? := fun x hx => by
    simp only [w1, World.alloc, Array.getElem?_push]; rw [if_neg (by omega)]
  have hh : w1.heap[w.heap.size]? = some (.cells (pre ++ [u]).toArray tS) := by
    show (w.heap.push _)[w.heap.size]? = _
    simp
  have hcell : w1.cell? ⟨w.heap.size, off, none⟩ = some u := by
    simp only [World.cell?, hh]
    simp [← hpre]
  have hw1 : w.heap.size ≤ w1.heap.size := by
    show w.heap.size ≤ (w.heap.push _).size
    simp
  refine wp_seq (wp_region ?_)
  rw [show List.range p0.size = [0, 1] by rw [s0]; rfl]
  refine wpOps_val ia0 ga0 (v := ad) (w' := w1) ?_ (wpOps_val ia1 ga1 (v := k0) (w' := w1) ?_ ?_)
  · simp [execOp, pa0, Instr.box, newVar, newRow, e0, ad, w1, Value.cells]
  · simp [execOp, pa1, Act.eval]
  rw [da0, da1]
  refine wp_seq (wp_region ?_)
  rw [show List.range p1.size = [0, 1, 2, 3, 4] by rw [s1]; rfl]
  have q2 : ((a.put (some 2) ad).put (some 4) k0).eval (.tmp 2) = ad := by rw [eval_put_other (by omega), eval_put_same (by omega)]
  have q1 : ((a.put (some 2) ad).put (some 4) k0).eval (.tmp 1) = kv := by rw [eval_put_other (by omega), eval_put_other (by omega), e1]
  have qs : ((a.put (some 2) ad).put (some 4) k0).tmps.size = 10 := by rw [put_size, put_size, hsz]
  have qd : ((a.put (some 2) ad).put (some 4) k0).defers = [] := by rw [put_defers, put_defers, had]
  generalize ((a.put (some 2) ad).put (some 4) k0) = a2 at *
  refine wpOps_val ib0 gb0 (v := .pointer (some ⟨w.heap.size, off, none⟩)) (w' := w1) ?_ ?_
  · simp only [execOp, pb0, q2, Sem.run_bind]
    rw [show ad = .pointer (some ⟨w.heap.size, 0, none⟩) from rfl, tfield_run hfl, Nat.zero_add]; rfl
  rw [db0]
  refine wpOps_val ib1 gb1 (v := u) (w' := w1) ?_ ?_
  · have e5 : (a2.put (some 5) (.pointer (some ⟨w.heap.size, off, none⟩))).eval (.tmp 5) = .pointer (some ⟨w.heap.size, off, none⟩) := by rw [eval_put_same (by omega)]
    have := run_loadVar_one (P := P) (w := w1) hag w.heap.size off u hcell
    simp [execOp, pb1, e5, Instr.loadAt, Instr.sureAddr, this]
  rw [db1]
  refine wpOps_val ib2 gb2 (v := kv) (w' := w1) ?_ ?_
  · simp only [execOp, pb2]
    rw [eval_put_other (by omega), eval_put_other (by omega), q1]; rfl
  rw [db2]
  have hd3 : (((a2.put (some 5) (.pointer (some ⟨w.heap.size, off, none⟩))).put (some 6) u).put (some 7) kv).defers = [] := by rw [put_defers, put_defers, put_defers, qd]
  have x6 : (((a2.put (some 5) (.pointer (some ⟨w.heap.size, off, none⟩))).put (some 6) u).put (some 7) kv).eval (.tmp 6) = u := by rw [eval_put_other (by omega), eval_put_same (by rw [put_size]; omega)]
  have x7 : (((a2.put (some 5) (.pointer (some ⟨w.heap.size, off, none⟩))).put (some 6) u).put (some 7) kv).eval (.tmp 7) = kv := by rw [eval_put_same (by rw [put_size, put_size]; omega)]
  have xs : (((a2.put (some 5) (.pointer (some ⟨w.heap.size, off, none⟩))).put (some 6) u).put (some 7) kv).tmps.size = 10 := by rw [put_size, put_size, put_size, qs]
  generalize (((a2.put (some 5) (.pointer (some ⟨w.heap.size, off, none⟩))).put (some 6) u).put (some 7) kv) = a3 at *
  have hrep1 : Rep V w1 K false fp [u] [T] := hrep.mono (fun x o ho => by simp only [World.cell?, hold x (hvr x (by omega))]) (fun _ => Nat.le_refl _) hw1 (fun x hx => ⟨hold x (hrep.fp_lt x hx), rfl⟩) (fun _ _ => rfl)
  refine wpOps_call ib3 gb3 (f := g) (args := #[u, kv]) (by rw [call_run hd3 pb3 hg hgb hgn]; simp only [List.map_cons, List.map_nil, x6, x7]) ?_
  refine Calls.mono (hT V w1 K fp u hrep1 hnd fun x hx => Nat.lt_of_lt_of_le (hvr x hx) hw1) fun e w2 ⟨he, V2, fp2, hfr, hr2, hn2, hi2, hv2, ho2⟩ => ⟨rv, he, ?_⟩
  rw [db3]
  refine wpOps_val ib4 gb4 (v := rv) (w' := w2) (by simp only [execOp, pb4]; rw [eval_put_same (by omega)]; rfl) ?_
  rw [db4]
  refine wp_seq (wp_region ?_)
  rw [show List.range p2.size = [0, 1] by rw [s2]; rfl]
  refine wpOps_val ic0 gc0 (v := rv) (w' := w2) (by simp only [execOp, pc0]; rw [eval_put_same (by rw [put_size]; omega)]; rfl) ?_
  rw [dc0]
  refine wpOps_val ic1 gc1 (v := rv) (w' := w2) (by simp only [execOp, pc1]; rw [eval_put_same (by rw [put_size, put_size]; omega)]; rfl) ?_
  rw [dc1]
  refine wp_ret ?_
  refine ⟨by rw [put_defers, put_defers, put_defers, put_defers, hd3], rv, ?_, rfl, V2, fp2, ?_, hr2, hn2, fun x hx => ?_, hv2, fun x hx hn => ho2 x (Nat.lt_of_lt_of_le hx hw1) hn⟩
  · have : ((((a3.put (some 8) rv).put (some 1) rv).put (some 9) rv).put (some 4) rv).tmps.getD 4 undef = rv := getD_put_same _ 4 rv (by rw [put_size, put_size, put_size]; omega)
    rw [Array.getD_eq_getD_getElem?] at this
    simp [results, hres, this]
  · exact ⟨hfr.os, hfr.tape, hfr.output, Nat.le_trans hw1 hfr.sz, fun x hx hn => (hfr.old x (Nat.lt_of_lt_of_le hx hw1) hn).trans (hold x hx), hfr.dr⟩
  · rcases hi2 x hx with h | h
    · exact .inl h
    · exact .inr (Nat.le_trans hw1 h)
end Evl

/-! Ewm -/
namespace Evl
open Go

variable {P : Program} {N : Nat} {w0 w w' : World} {M : Nat → Prop} {V0 V V' : Nat → Nat} {K K' : Nat → Nat × Nat} {O O' : Nat → Option Loc} {s : S} {a : Act} {fp : List Nat} {v : Value} {G : GP}
variable {ops : Array Oper} {Q : Exit → Act → World → Prop}

/-- One box's blocks are turned, and nothing else that was there. -/
theorem rel_turn (R : RelG N w0 M V0 K V O s a w) (hz : ∀ g, (w0.heap.size ≤ g ∨ M g) → V0 g = 0) (hn : nlkS s) {b : Nat} {y : Box} {f2 fp' : List Nat}
    (hf2O : ∀ g ∈ f2, O g = some (false, b)) (hfr : Fr w (fun g => g ∈ f2) w') (hvo : ∀ g, g < w.heap.size → g ∉ f2 → V' g = V g) (hvr : ∀ g, 0 < V' g → g < w'.heap.size)
    (hin : ∀ g ∈ fp', g ∈ f2 ∨ w.heap.size ≤ g) (hlt : ∀ g ∈ fp', g < w'.heap.size) (hbox : ∀ O', (∀ g ∈ fp', O' g = some (false, b)) → BoxAt V' w' K O' b y) :
    ∃ O', RelG N w0 M V0 K V' O' (setBx b y s) a w' := by
  have hf2z : ∀ g ∈ f2, V0 g = 0 := fun g hg => hz g (R.rg g _ (hf2O g hg)).1
  have keep : ∀ g, g < w.heap.size → g ∉ f2 → w'.heap[g]? = w.heap[g]? ∧ V' g = V g := fun g h1 h2 => ⟨hfr.old g h1 h2, hvo g h1 h2⟩
  have own_keep : ∀ g l, O g = some l → l ≠ (false, b) → w'.heap[g]? = w.heap[g]? ∧ V' g = V g := fun g l hg hl => keep g (R.rg g l hg).2 fun hin => hl (by rw [hf2O g hin] at hg; cases hg; rfl)
  have hnew : ∀ g l, O g = some l → g ∈ fp' → g ∈ f2 := fun g l hg hp => by
    rcases hin g hp with h | h
    · exact h
    · have := (R.rg g l hg).2; omega
  refine ⟨fun g => if g ∈ fp' then some (false, b) else if g ∈ f2 then none else O g, R.df, R.n, fun t => ?_, fun c x hc => ?_, fun g l hg => ?_, hvr, ?_, ?_, ?_⟩
  · obtain ⟨fp, p1, p2, p3⟩ := R.tm t
    refine ⟨fp, p1, fun g hg => ?_, p3.still (hn.1 t) fun g hg => own_keep g _ (p2 g hg) (by simp)⟩
    have h2 : g ∉ f2 := fun h => by have := hf2O g h; rw [p2 g hg] at this; cases this
    show (if g ∈ fp' then some (false, b) else if g ∈ f2 then none else O g) = some (true, t)
    rw [if_neg (fun h => h2 (hnew g _ (p2 g hg) h)), if_neg h2]; exact p2 g hg
  · by_cases hcb : c = b
    · subst hcb
      simp only [setBx, if_true, Option.some.injEq] at hc
      subst hc
      exact hbox _ fun g hg => if_pos hg
    · have hcs : s.b c = some x := by simpa [setBx, hcb] using hc
      rcases R.bx c x hcs with h | ⟨gb, arr2, T2, fz2, us2, p1, p2, p3⟩
      · exact .inl h
      · have hkk : ∀ g ∈ (K c).1 :: gb, w'.heap[g]? = w.heap[g]? ∧ V' g = V g := fun g hg => own_keep g _ (p2 g hg) (by simp [hcb])
        refine .inr ⟨gb, arr2, T2, fz2, us2, p1, fun g hg => ?_, ⟨(hkk _ List.mem_cons_self).1.trans p3.hp, p3.th, p3.pre, p3.rep.still (hn.2 c x hcs) fun g hg => hkk g (by simp [hg]), by rw [(hkk _ List.mem_cons_self).2]; exact p3.vis, p3.var, p3.row⟩⟩
        have h2 : g ∉ f2 := fun h => by have := hf2O g h; rw [p2 g hg] at this; cases this; exact hcb rfl
        show (if g ∈ fp' then some (false, b) else if g ∈ f2 then none else O g) = some (false, c)
        rw [if_neg (fun h => h2 (hnew g _ (p2 g hg) h)), if_neg h2]; exact p2 g hg
  · split at hg
    · rename_i hp
      refine ⟨?_, hlt g hp⟩
      rcases hin g hp with h | h
      · exact (R.rg g _ (hf2O g h)).1
      · have := R.fr.sz; exact .inl (by omega)
    · split at hg
      · cases hg
      · exact ⟨(R.rg g l hg).1, Nat.lt_of_lt_of_le (R.rg g l hg).2 hfr.sz⟩
  · exact ⟨hfr.os.trans R.fr.os, hfr.tape.trans R.fr.tape, hfr.output.trans R.fr.output, Nat.le_trans R.fr.sz hfr.sz, fun g hg hM => by
      have h2 : g ∉ f2 := fun h => by
        rcases (R.rg g _ (hf2O g h)).1 with h' | h'
        · omega
        · exact hM h'
      rw [hfr.old g (Nat.lt_of_lt_of_le hg R.fr.sz) h2]; exact R.fr.old g hg hM, Nat.le_trans R.fr.dr hfr.dr⟩
  · refine ⟨fun g off ho => ?_, fun g => ?_, Nat.le_trans R.nx.sz hfr.sz⟩
    · rw [← R.nx.cell g off ho]
      have h2 : g ∉ f2 := fun h => by rw [hf2z g h] at ho; omega
      have hlt : g < w.heap.size := R.vr g (by have := R.nx.le g; omega)
      have := hfr.old g hlt h2
      simp only [World.cell?, this]
    · by_cases h0 : V0 g = 0
      · omega
      · have h2 : g ∉ f2 := fun h => h0 (hf2z g h)
        have hlt : g < w.heap.size := R.vr g (by have := R.nx.le g; omega)
        rw [hvo g hlt h2]; exact R.nx.le g
  · intro g hg hM
    have h2 : g ∉ f2 := fun h => by
      rcases (R.rg g _ (hf2O g h)).1 with h' | h'
      · omega
      · exact hM h'
    rw [hvo g (Nat.lt_of_lt_of_le hg R.fr.sz) h2]; exact R.vo g hg hM
end Evl

/-! Exf -/
namespace Evl
open Go

variable {P : Program} {H : Hints} {Y : FuncId → List AV → (Nat → Option Box) → AV → (Nat → Option Box) → Prop} {fid : FuncId} {G : GP}

/-- Hints with marks: which functions turn their own blocks; what is known of old memory. -/
def withMarks (H : Hints) (P : Program) (fl : FuncId → Bool) (iv : (Nat → Nat) → World → Prop) : Hints :=
  { H with fl := fl, iv := iv, zc := fun fid c s s' => MC P (fun M V0 w0 => iv V0 w0 ∧ (fl fid = true → ∀ g, (w0.heap.size ≤ g ∨ M g) → V0 g = 0)) c s .nor s' }
theorem zc_of {H : Hints} {fl : FuncId → Bool} {iv : (Nat → Nat) → World → Prop} {c : Code} {s s' : S} (h : MC P (Gd (withMarks H P fl iv) fid) c s .nor s') : (withMarks H P fl iv).zc fid c s s' := h
theorem zc_to {H : Hints} {fl : FuncId → Bool} {iv : (Nat → Nat) → World → Prop} {c : Code} {s s' : S} (h : (withMarks H P fl iv).zc fid c s s') : MC P (Gd (withMarks H P fl iv) fid) c s .nor s' := h

def notTmp (d : Nat) : Operand → Bool
  | .tmp t => t != d
  | _ => true
theorem notTmp_ne {d : Nat} {x : Operand} (h : notTmp d x = true) : x ≠ .tmp d := by
  intro e; subst e; simp [notTmp] at h
/-- The four operations of a mark, read off. -/
def markOf (ops : Array Oper) (p : Nat) : Option (TypeId × Operand × Operand × FuncId × Nat × Nat × Nat × Nat) :=
  match ops[p]?, ops[p + 1]?, ops[p + 2]?, ops[p + 3]? with
  | some o0, some o1, some o2, some o3 =>
    match o0.op, o0.dst, o0.guard, o1.op, o1.dst, o1.guard with
    | .load tL xa, some dl, none, .move xk, some dk, none =>
      match calleeOf o2 botS, o2.dst, o2.guard, o3.op, o3.dst, o3.guard with
      | some (f, [.tmp a, .tmp b], []), some dr, none, .assign (.tmp r), some da, none =>
        if ops.size = p + 4 ∧ a = dl ∧ b = dk ∧ r = dr ∧ dl ≠ dk ∧ notTmp dl xk = true then some (tL, xa, xk, f, dl, dk, dr, da) else none
      | _, _, _, _, _, _ => none
    | _, _, _, _, _, _ => none
  | _, _, _, _ => none
def isFn (P : Program) (f : FuncId) : Bool := match P.funcs[f]? with
  | some fn => fn.body.isSome && !(fn.name == "runtime.NumGoroutine")
  | none => false
theorem isFn_of {f : FuncId} (h : isFn P f = true) : ∃ fn c, P.funcs[f]? = some fn ∧ fn.body = some c ∧ (fn.name == "runtime.NumGoroutine") = false := by
  unfold isFn at h
  split at h
  · rename_i fn hf
    simp only [Bool.and_eq_true, Bool.not_eq_true'] at h
    obtain ⟨c, hc⟩ := Option.isSome_iff_exists.1 h.1
    exact ⟨fn, c, hf, hc, h.2⟩
  · cases h
theorem markOf_ok {ops : Array Oper} {p f dl dk dr da : Nat} {tL : TypeId} {xa xk : Operand} (h : markOf ops p = some (tL, xa, xk, f, dl, dk, dr, da)) (hf : isFn P f = true) : MarkOps P ops p f tL xa xk dl dk dr da := by
  unfold markOf at h
  split at h
  · rename_i o0 o1 o2 o3 h0 h1 h2 h3
    split at h
    · rename_i q0 q1 q2 q3 q4 q5
      split at h
      · rename_i r0 r1 r2 r3 r4 r5
        simp only [Option.ite_none_right_eq_some, Option.some.injEq, Prod.mk.injEq] at h
        obtain ⟨⟨z, rfl, rfl, rfl, n1, n2⟩, rfl, rfl, rfl, rfl, rfl, rfl, rfl, rfl⟩ := h
        exact ⟨z, ⟨o0, h0, q1, q0, q2⟩, ⟨o1, h1, q4, q3, q5⟩, ⟨o2, h2, r1, r0, r2⟩, ⟨o3, h3, r4, r3, r5⟩, isFn_of hf, n1, notTmp_ne n2⟩
      · cases h
    · cases h
  · cases h

theorem L.toS_t (l : L) (i : Nat) : l.toS.t i = (match lookup i l.ts with | some v => v | none => .bad) := rfl
theorem L.toS_b (l : L) (i : Nat) : l.toS.b i = lookup i l.bs := rfl
/-- Behind a mark: slots that were not there stay untold. -/
theorem mark_less {l : L} {b j dl dk dr da : Nat} {x : Box} {T' : AV} {kv rv : Value} {s1 : S} (e : List Nat) (hs1 : (∀ i, i ∉ e → s1.t i = l.toS.t i) ∧ s1.b = l.toS.b) (he : ∀ i ∈ e, lookup i l.ts = none) (h1 : lookup dl l.ts = none) (h2 : lookup dk l.ts = none) (h3 : lookup dr l.ts = none) :
    WkS (markS b j x T' kv rv dl dk dr da s1) (⟨(da, .lit rv) :: l.ts, (b, { x with cs := x.cs.set j T' }) :: l.bs⟩ : L).toS := by
  refine ⟨fun i => ?_, fun c y hy => ?_⟩
  · rw [L.toS_t]
    simp only [lookup, markS, stT, setBx]
    by_cases ha : da = i
    · subst ha; simp only [if_true]; exact .inl (.inl (.inl rfl))
    · rw [if_neg ha, if_neg (fun e => ha e.symm)]
      by_cases hr : i = dr
      · subst hr; rw [h3]; exact .inl (.inl (.inr (.inl rfl)))
      · rw [if_neg hr]
        by_cases hk : i = dk
        · subst hk; rw [h2]; exact .inl (.inl (.inr (.inl rfl)))
        · rw [if_neg hk]
          by_cases hl : i = dl
          · subst hl; rw [h1]; exact .inl (.inl (.inr (.inl rfl)))
          · rw [if_neg hl]
            by_cases hi : i ∈ e
            · rw [he i hi]; exact .inl (.inl (.inr (.inl rfl)))
            · rw [hs1.1 i hi, L.toS_t]; exact .inl (.inl (.inl rfl))
  · rw [L.toS_b] at hy
    simp only [lookup] at hy
    simp only [markS, stT, setBx]
    by_cases hb : b = c
    · subst hb
      simp only [if_true, Option.some.injEq] at hy
      subst hy
      exact ⟨_, if_pos rfl, rfl, rfl, wkCs_refl _⟩
    · rw [if_neg hb] at hy
      rw [if_neg (fun e => hb e.symm)]
      exact ⟨y, by show s1.b c = _; rw [hs1.2, L.toS_b]; exact hy, rfl, rfl, wkCs_refl _⟩

theorem x_zone {k : List Td} {Q : X → L → Prop} {l u : L} {c : Code} {s' : S} (hr : Code.isRegion false c = true) (hz : H.zc fid c l.toS s') (hs : WkS s' u.toS) (hw : Wk P H Y fid k Q u) : Wk P H Y fid (.code c :: k) Q l := by
  refine ⟨?_⟩
  cases c <;> simp [Code.isRegion] at hr
  subst hr
  exact ⟨.nor, u, .wke (.zreg hz) hs, hw.out⟩

/-- Nothing in a list state looks at memory that it does not own. -/
def nlkLs (l : L) : Bool := (l.ts.all fun q => nlk q.2) && l.bs.all fun q => nlkL q.2.cs
theorem nlkLs_ok {l : L} (h : nlkLs l = true) : nlkS l.toS := by
  unfold nlkLs at h
  simp only [Bool.and_eq_true, List.all_eq_true] at h
  have lk : ∀ {α : Type} (i : Nat) (v : α) (m : List (Nat × α)), lookup i m = some v → (i, v) ∈ m := by
    intro α i v m
    induction m with
    | nil => intro h; cases h
    | cons q m ih =>
      obtain ⟨j, x⟩ := q
      intro h
      simp only [lookup] at h
      split at h
      · rename_i e; subst e; cases h; exact List.mem_cons_self
      · exact List.mem_cons_of_mem _ (ih h)
  refine ⟨fun t => ?_, fun b x hb => h.2 _ (lk b x _ hb)⟩
  rw [L.toS_t]
  split
  · rename_i v hv; exact h.1 _ (lk t v _ hv)
  · rfl

/-- A law's mark: the region loads a boxed solid and hands it over. -/
theorem x_mark {k : List Td} {Q : X → L → Prop} {l : L} {c : Code} {tL f dl dk dr da b : Nat} {xa xk : Operand} {pre : List Value} {T T' : AV} {kv rv : Value}
    (hfl : H.fl fid = true) (hzc : ∀ c s s', MC P (Gd H fid) c s .nor s' → H.zc fid c s s')
    (hr : (Code.isRegion false c, markOf (Code.opsOf c) 0, isFn P f, tagg P tL, tsize P tL) = (true, some (tL, xa, xk, f, dl, dk, dr, da), true, some true, some (pre.length + 1)))
    (hs : (l.toS.ev xa, l.toS.ev xk, lookup dl l.ts, lookup dk l.ts, lookup dr l.ts) = (.ptr b 0, .lit kv, none, none, none))
    (hb : lookup b l.bs = some ⟨true, 0, pre.map .lit ++ [T]⟩) (hn : nlkLs l = true) (hnT : ∀ b n, T ≠ .msl b n) (hrv : plain rv = true)
    (hT : TurnOk P f (fun u => #[.agg (pre ++ [u]).toArray, kv]) T rv T')
    (hw : Wk P H Y fid k Q ⟨(da, .lit rv) :: l.ts, (b, ⟨true, 0, pre.map .lit ++ [T']⟩) :: l.bs⟩) : Wk P H Y fid (.code c :: k) Q l := by
  simp only [Prod.mk.injEq] at hr hs
  obtain ⟨r1, r2, r3, r4, r5⟩ := hr
  obtain ⟨s1, s2, s3, s4, s5⟩ := hs
  have hlen : (pre.map AV.lit).length = pre.length := List.length_map ..
  have hset : (pre.map AV.lit ++ [T]).set pre.length T' = pre.map .lit ++ [T'] := by
    have := set_mid (pre.map AV.lit) T T' []
    rw [hlen] at this; exact this
  have hmc : MC P (Gd H fid) c l.toS .nor (markS b pre.length ⟨true, 0, pre.map .lit ++ [T]⟩ T' kv rv dl dk dr da l.toS) := by
    cases c <;> simp [Code.isRegion] at r1
    subst r1
    refine mc_mark (fun M V0 w0 h => h.2 hfl) (markOf_ok r2 r3) (lg := []) (.nil _) rfl (by simp) s2 hb ?_ (nlkLs_ok hn) hnT hT (fun u => rfl) hrv ?_
    · rw [List.getElem?_append_right (by rw [hlen]; exact Nat.le_refl _), hlen]; simp
    · intro N w0 M V0 K V O a w R u hu o ho
      obtain ⟨f1, _, _, _, h1⟩ := R.ev xa
      rw [s1] at h1
      obtain ⟨e1, -⟩ := inv_ptr h1
      obtain ⟨fb, arr, Ty, fz, us, q1, q2, q3⟩ := R.bxr b _ hb (.inl rfl)
      obtain ⟨f2, f3, u1, u2, rfl, rfl, g1, g2⟩ := Rep.split _ q3.rep
      obtain ⟨rfl, -, -⟩ := rep_lits _ g1
      obtain ⟨u', rfl⟩ : ∃ u', u2 = [u'] := by
        match u2, g2.len with
        | [u'], _ => exact ⟨u', rfl⟩
      have hcu : w.cell? ⟨(K b).1, u1.length, none⟩ = some u' := q3.cell (by rw [List.getElem?_append_right (Nat.le_refl _)]; simp)
      have : u' = u := by rw [hu] at hcu; exact (Option.some.inj hcu).symm
      subst this
      have hl := run_loadVar_agg (P := P) (w := w) r4 r5 (K b).1 0 (u1 ++ [u']) (by simp) (fun j v hj => by rw [Nat.zero_add]; exact q3.cell hj)
      simp [execOp, ho, e1, Instr.loadAt, Instr.sureAddr, hl]
  refine x_zone r1 (hzc _ _ _ hmc) (u := ⟨(da, .lit rv) :: l.ts, (b, ⟨true, 0, pre.map .lit ++ [T']⟩) :: l.bs⟩) ?_ hw
  have := mark_less (l := l) (b := b) (j := pre.length) (x := ⟨true, 0, pre.map .lit ++ [T]⟩) (T' := T') (kv := kv) (rv := rv) (da := da) (s1 := l.toS) [] ⟨fun _ _ => rfl, rfl⟩ (by simp) s3 s4 s5
  rw [show ({ (⟨true, 0, pre.map .lit ++ [T]⟩ : Box) with cs := (pre.map AV.lit ++ [T]).set pre.length T' } : Box) = ⟨true, 0, pre.map .lit ++ [T']⟩ by rw [hset]] at this
  exact this

/-- The four operations ahead of a nested mark: the row, the index, the element, the field. -/
def nestOf (ops : Array Oper) : Option (Nat × Nat × Nat × Nat × TypeId × Nat × TypeId × Nat × Nat) :=
  match ops[0]?, ops[1]?, ops[2]?, ops[3]? with
  | some o0, some o1, some o2, some o3 =>
    match o0.op, o0.dst, o0.guard, o1.op, o1.dst, o1.guard with
    | .move (.tmp tr), some e0, none, .move (.tmp ti), some e1, none =>
      match o2.op, o2.dst, o2.guard, o3.op, o3.dst, o3.guard with
      | .indexAddr tS (.tmp a0) (.tmp a1), some e2, none, .fieldAddr tF (.tmp a2) fld, some e3, none =>
        if a0 = e0 ∧ a1 = e1 ∧ a2 = e2 ∧ e0 ≠ e1 ∧ e0 ≠ ti then some (tr, ti, e0, e1, tS, e2, tF, fld, e3) else none
      | _, _, _, _, _, _ => none
    | _, _, _, _, _, _ => none
  | _, _, _, _ => none
theorem gd_none {ops : Array Oper} {o : Oper} {s : S} (h : o.guard = none) : gd ops o s = some true := by unfold gd; rw [h]
theorem stT_same (d : Nat) (x : AV) (s : S) : (stT d x s).t d = x := if_pos rfl
theorem stT_ne {d i : Nat} (x : AV) (s : S) (h : i ≠ d) : (stT d x s).t i = s.t i := if_neg h

/-- A mark within a row: an element's own tree is loaded and handed over. -/
theorem x_nest {k : List Td} {Q : X → L → Prop} {l : L} {c : Code} {tL f dl dk dr da b n z off szf el bytes tr ti tk e0 e1 tS e2 tF fld e3 : Nat} {kk : IntKind} {i : Int} {cs : List AV} {T T' : AV} {kv rv : Value}
    (hfl : H.fl fid = true) (hzc : ∀ c s s', MC P (Gd H fid) c s .nor s' → H.zc fid c s s')
    (hr : (Code.isRegion false c, nestOf (Code.opsOf c), markOf (Code.opsOf c) 4, isFn P f, tagg P tL, tarr P tS, tslice P tS, tfield P tF fld) = (true, some (tr, ti, e0, e1, tS, e2, tF, fld, e3), some (tL, .tmp e3, .tmp tk, f, dl, dk, dr, da), true, some false, none, some (el, z, bytes), some (off, szf)))
    (hs : (l.get tr, l.get ti, l.get tk) = (.msl b n, .lit (.int kk i), .lit kv))
    (hf : (lookup e0 l.ts, lookup e1 l.ts, lookup e2 l.ts, lookup e3 l.ts, lookup dl l.ts, lookup dk l.ts, lookup dr l.ts) = (none, none, none, none, none, none, none))
    (hb : lookup b l.bs = some ⟨true, z, cs⟩) (hi : 0 ≤ i ∧ i < n) (hj : cs[i.toNat * z + off]? = some T) (hn : nlkLs l = true) (hnT : ∀ b n, T ≠ .msl b n) (hrv : plain rv = true)
    (hT : TurnOk P f (fun u => #[u, kv]) T rv T')
    (hw : Wk P H Y fid k Q ⟨(da, .lit rv) :: l.ts, (b, ⟨true, z, cs.set (i.toNat * z + off) T'⟩) :: l.bs⟩) : Wk P H Y fid (.code c :: k) Q l := by
  simp only [Prod.mk.injEq] at hr hs hf
  obtain ⟨r1, r2, r3, r4, r5, r6, r7, r8⟩ := hr
  obtain ⟨v0, v1, v2⟩ := hs
  obtain ⟨n0, n1, n2, n3, n4, n5, n6⟩ := hf
  have hne : ∀ {t e : Nat} {y : AV}, l.get t = y → y ≠ .bad → lookup e l.ts = none → t ≠ e := fun h1 h2 h3 e => by
    subst e; unfold L.get at h1; rw [h3] at h1; exact h2 h1.symm
  have x1 : l.toS.t tr = .msl b n := v0
  have x2 : l.toS.t ti = .lit (.int kk i) := v1
  have x3 : l.toS.t tk = .lit kv := v2
  let sA := stT e0 (.msl b n) l.toS
  let sB := stT e1 (.lit (.int kk i)) sA
  let sC := stT e2 (.ptr b (i.toNat * z)) sB
  let sD := stT e3 (.ptr b (i.toNat * z + off)) sC
  have k3 : ∀ e ∈ [e0, e1, e2, e3], tk ≠ e := fun e he => hne v2 (by simp) (by
    simp only [List.mem_cons, List.not_mem_nil, or_false] at he
    rcases he with rfl | rfl | rfl | rfl <;> assumption)
  have hD : (∀ t, t ∉ [e0, e1, e2, e3] → sD.t t = l.toS.t t) ∧ sD.b = l.toS.b := by
    refine ⟨fun t ht => ?_, rfl⟩
    simp only [List.mem_cons, List.not_mem_nil, or_false, not_or] at ht
    simp only [sD, sC, sB, sA]
    rw [stT_ne _ _ ht.2.2.2, stT_ne _ _ ht.2.2.1, stT_ne _ _ ht.2.1, stT_ne _ _ ht.1]
  have hnD : nlkS sD := by
    have h0 := nlkLs_ok hn
    refine ⟨fun t => ?_, h0.2⟩
    have st : ∀ (d : Nat) (x : AV) (s : S), nlk x = true → (∀ t, nlk (s.t t) = true) → ∀ t, nlk ((stT d x s).t t) = true := fun d x s hx hs t => by
      simp only [stT]; split
      · exact hx
      · exact hs t
    exact st _ _ _ rfl (st _ _ _ rfl (st _ _ _ rfl (st _ _ _ rfl h0.1))) t
  have hmc : MC P (Gd H fid) c l.toS .nor (markS b (i.toNat * z + off) ⟨true, z, cs⟩ T' kv rv dl dk dr da sD) := by
    cases c <;> simp [Code.isRegion] at r1
    subst r1
    rename_i id ops
    simp only [Code.opsOf] at r2 r3
    unfold nestOf at r2
    split at r2
    · rename_i o0 o1 o2 o3 h0 h1 h2 h3
      split at r2
      · rename_i a0 e0' q0 q1 q2 q3 q4 q5 q6 q7
        split at r2
        · rename_i m0 m1 m2 m3 m4 m5 m6 m7 m8 m9 p0 p1 p2 p3 p4 p5
          simp only [Option.ite_none_right_eq_some, Option.some.injEq, Prod.mk.injEq] at r2
          obtain ⟨⟨y0, y1, y2, z1, z2⟩, w0, w1, w2, w3, w4, w5, w6, w7, w8⟩ := r2
          rw [w0] at q2; rw [w2] at q3; rw [w1] at q5; rw [w3] at q6; rw [w4, y0, w2, y1, w3] at p0; rw [w5] at p1; rw [w6, y2, w5, w7] at p3; rw [w8] at p4; rw [w2, w3] at z1; rw [w2, w1] at z2
          let Hz : Hints := { mv := fun _ _ => false, own := fun _ _ => false, mt := fun _ _ => false, eqt := fun _ => false }
          have hE : EqtOk P Hz := fun t h => by cases h
          have f0 : sD.t e3 = .ptr b (i.toNat * z + off) := stT_same _ _ _
          have fk : sD.ev (.tmp tk) = .lit kv := by
            show sD.t tk = _
            rw [hD.1 tk (fun h => k3 tk h rfl)]; exact x3
          have op0 : opE P Hz fid o0 l.toS = some { val := .msl b n, set := [] } := by simp [opE, q2, S.ev, x1, given, hasOwn]
          have op1 : opE P Hz fid o1 sA = some { val := .lit (.int kk i), set := [] } := by
            have : sA.t ti = .lit (.int kk i) := by rw [show sA.t ti = l.toS.t ti from stT_ne _ _ (Ne.symm z2)]; exact x2
            simp [opE, q5, S.ev, this, given, hasOwn]
          have op2 : opE P Hz fid o2 sB = some { val := .ptr b (i.toNat * z), rd := [b] } := by
            have u1 : sB.t e1 = .lit (.int kk i) := stT_same _ _ _
            have u0 : sB.t e0 = .msl b n := by rw [show sB.t e0 = sA.t e0 from stT_ne _ _ z1]; exact stT_same _ _ _
            have ub : sB.b b = some ⟨true, z, cs⟩ := hb
            simp only [opE, p0, S.ev, u1, u0, r6, r7, ub]
            rw [if_pos ⟨trivial, hi⟩]
          have op3 : opE P Hz fid o3 sC = some { val := .ptr b (i.toNat * z + off) } := by
            have u2 : sC.t e2 = .ptr b (i.toNat * z) := stT_same _ _ _
            simp only [opE, p3, S.ev, u2, r8]
          have en : ∀ (j : Nat) (o : Oper) (s : S) (e : Eff), ops[j]? = some o → o.guard = none → opE P Hz fid o s = some e → e.kl = [] → EntryOk P (Gd H fid) ops (mkLog ops j o s e) s := fun j o s e h1 h2 h3 h4 =>
            entry_step (H := Hz) hE h1 (gd_none h2) h3 (by rw [h4]; rfl)
          refine mc_mark (s1 := sD) (lg := [mkLog ops 0 o0 l.toS { val := .msl b n, set := [] }, mkLog ops 1 o1 sA { val := .lit (.int kk i), set := [] }, mkLog ops 2 o2 sB { val := .ptr b (i.toNat * z), rd := [b] }, mkLog ops 3 o3 sC { val := .ptr b (i.toNat * z + off) }])
            (fun M V0 w0 h => h.2 hfl) (markOf_ok r3 r4) ?_ rfl ?_ fk hb hj hnD hnT hT (ld := fun u => u) (fun u => rfl) hrv ?_
          · refine .cons _ _ _ _ (en 0 o0 _ _ h0 q4 op0 rfl) ?_
            rw [show (mkLog ops 0 o0 l.toS { val := .msl b n, set := [] }).eff.apply (mkLog ops 0 o0 l.toS { val := .msl b n, set := [] }).dst l.toS = sA by show Eff.apply _ o0.dst l.toS = _; rw [q3]; exact apply_stT _ _ _]
            refine .cons _ _ _ _ (en 1 o1 _ _ h1 q7 op1 rfl) ?_
            rw [show (mkLog ops 1 o1 sA { val := .lit (.int kk i), set := [] }).eff.apply (mkLog ops 1 o1 sA { val := .lit (.int kk i), set := [] }).dst sA = sB by show Eff.apply _ o1.dst sA = _; rw [q6]; exact apply_stT _ _ _]
            refine .cons _ _ _ _ (en 2 o2 _ _ h2 p2 op2 rfl) ?_
            rw [show (mkLog ops 2 o2 sB { val := .ptr b (i.toNat * z), rd := [b] }).eff.apply (mkLog ops 2 o2 sB { val := .ptr b (i.toNat * z), rd := [b] }).dst sB = sC by show Eff.apply _ o2.dst sB = _; rw [p1]; exact apply_stT _ _ _]
            refine .cons _ _ _ _ (en 3 o3 _ _ h3 p5 op3 rfl) ?_
            rw [show (mkLog ops 3 o3 sC { val := .ptr b (i.toNat * z + off) }).eff.apply (mkLog ops 3 o3 sC { val := .ptr b (i.toNat * z + off) }).dst sC = sD by show Eff.apply _ o3.dst sC = _; rw [p4]; exact apply_stT _ _ _]
            exact .nil _
          · intro x hx
            simp only [List.mem_cons, List.not_mem_nil, or_false] at hx
            rcases hx with rfl | rfl | rfl | rfl <;> simp [mkLog, *]
          · intro N w0 M V0 K V O a w R u hu o ho
            obtain ⟨f1, _, _, _, h1⟩ := R.ev (.tmp e3)
            rw [show sD.ev (.tmp e3) = .ptr b (i.toNat * z + off) from f0] at h1
            obtain ⟨e1, -⟩ := inv_ptr h1
            have hl := run_loadVar_one (P := P) (w := w) r5 (K b).1 (i.toNat * z + off) u hu
            simp [execOp, ho, e1, Instr.loadAt, Instr.sureAddr, hl]
        · cases r2
      · cases r2
    · cases r2
  refine x_zone r1 (hzc _ _ _ hmc) (u := ⟨(da, .lit rv) :: l.ts, (b, ⟨true, z, cs.set (i.toNat * z + off) T'⟩) :: l.bs⟩) ?_ hw
  exact mark_less (l := l) (b := b) (j := i.toNat * z + off) (x := ⟨true, z, cs⟩) (T' := T') (kv := kv) (rv := rv) (da := da) (s1 := sD) [e0, e1, e2, e3] hD (by
    intro e he
    simp only [List.mem_cons, List.not_mem_nil, or_false] at he
    rcases he with rfl | rfl | rfl | rfl <;> assumption) n4 n5 n6
end Evl

/-! Exg -/
namespace Evl.T
open Go Evl

variable {P : Program} {H : Hints} {Y : FuncId → List AV → (Nat → Option Box) → AV → (Nat → Option Box) → Prop} {fid : FuncId}

/-- What a function that marks does to a list of trees. -/
def TurnP (P : Program) (f : FuncId) {τ : Type} (e : Enc τ) (a : List τ × Int) (r : Int × List τ) : Prop :=
  r.2.length = a.1.length ∧ TurnOk P f (fun u => #[u, .int .i64 a.2]) (.sl true e.z a.1.length (e.f a.1)) (.int .i64 r.1) (.sl true e.z r.2.length (e.f r.2))

theorem x_endR (n : Nat) (q : List (Nat × Or)) {k : List Td} {l : L} {fn : Func} {i : Nat} {x y : Box} {r : AV} {ps : List Prop} (hobs : All ps)
    (h : (ex P H Y fid n k l q).bind (fun x => match resH P x.2.1.toS [] fn.results.toList with
      | some (v, []) => some (atEnd x.1, v, lookup i x.2.1.bs, x.2.2)
      | _ => none) = some (true, r, some y, ps)) (hi : 1000 ≤ i) (hc : cleanL y.cs = true) (hz : (y.sz, y.st) = (x.sz, true)) (hl : y.cs.length = x.cs.length) : Wk P H Y fid k (FinX P fn [(i, x)] r [(i, y)]) l := by
  obtain ⟨⟨k1, l1, ps1⟩, h1, h2⟩ := Option.bind_eq_some_iff.1 h
  simp only at h2
  split at h2
  · rename_i hr
    simp only [Option.some.injEq, Prod.mk.injEq] at h2 hz
    obtain ⟨h3, rfl, hb, rfl⟩ := h2
    have e1 : exitOk (lk [(i, x)]) l1.toS := fun j z hj => by
      simp only [lk, lookup] at hj
      split at hj
      · rename_i e; subst e
        simp only [Option.some.injEq] at hj; subst hj
        exact ⟨hi, y, hb, hc, hz.1, hz.2, hl⟩
      · cases hj
    have e2 : exitB (lk [(i, x)]) l1.toS = lk [(i, y)] := funext fun j => by
      simp only [exitB, lk, lookup]
      by_cases e : i = j
      · subst e; simp only [if_pos rfl]; exact hb
      · simp only [if_neg e]
    exact ⟨ex_ok n h1 hobs (wx_end ⟨.inl rfl, resH_ok hr trivial, e1, e2⟩ ⟨.inr rfl, resH_ok hr trivial, e1, e2⟩ h3)⟩
  · cases h2
theorem x_callR {f : FuncId} {fn : Func} {c : Code} {args : List AV} {r : AV} {i : Nat} {x y : Box} (h1 : P.funcs[f]? = some fn)
    (h2 : (fn.body, fn.name == "runtime.NumGoroutine", args.length, decide (args.length ≤ fn.ntmps), codeOk fn.ntmps c) = (some c, false, fn.params.size + fn.nfree, true, true)) (hz : y.sz = x.sz ∧ y.cs.length = x.cs.length)
    (hw : Wk P H Y f [.code c] (FinX P fn [(i, y)] r [(i, y)]) ⟨args.zipIdx.map fun q => (q.2, q.1), [(i, x)]⟩) : Big P H Y (.call f args (lk [(i, x)]) r (lk [(i, y)])) := by
  simp only [Prod.mk.injEq] at h2
  obtain ⟨e1, e2, e3, e4, e5⟩ := h2
  obtain ⟨x', l', hb, h3, ⟨v, h4, h5⟩, h6, h7⟩ := hw.out
  have h8 : exitOk (lk [(i, x)]) l'.toS := fun j z hj => by
    simp only [lk, lookup] at hj
    split at hj
    · rename_i e; subst e
      simp only [Option.some.injEq] at hj; subst hj
      obtain ⟨g1, u, g2, g3, g4, g5, g6⟩ := h6 i y (by simp [lk, lookup])
      exact ⟨g1, u, g2, g3, g4.trans hz.1, g5, g6.trans hz.2⟩
    · cases hj
  have h9 : exitB (lk [(i, x)]) l'.toS = lk [(i, y)] := by
    rw [← h7]
    funext j
    simp only [exitB, lk, lookup]
    by_cases e : i = j
    · subst e; simp
    · simp only [if_neg e]
  exact .wkr (call_of [(i, x)] (fun _ => rfl) h1 e1 e2 e3 (of_decide_eq_true e4) e5 _ rfl ⟨x', l', hb, h3, h4, h8, h9⟩) h5

theorem lget_in {α : Type} {l : List α} {j : Int} {x : α} (h : lget l j = some x) : 0 ≤ j ∧ j < (l.length : Nat) := by
  unfold lget at h
  split at h
  · rename_i hj
    have := (List.getElem?_eq_some_iff.1 h).1
    omega
  · cases h
theorem lget_at {α : Type} {l : List α} {j : Int} {x : α} (h : lget l j = some x) : l[j.toNat]? = some x := by
  unfold lget at h
  split at h
  · exact h
  · cases h
theorem solGet {l : List Sol} {j : Int} {x : Sol} (h : lget l j = some x) : ((eSol true).f l)[j.toNat * 6 + 5]? = some (.sl true 6 x.kids.length ((eSol true).f x.kids)) := by
  have h1 := (eSol true).dropx (lget_at h)
  have : ((eSol true).f l)[j.toNat * 6 + 5]? = (((eSol true).f l).drop (j.toNat * 6))[5]? := by rw [List.getElem?_drop]
  rw [this]
  have h1' : ((eSol true).f l).drop (j.toNat * 6) = (eSol true).c x ++ (eSol true).f (l.drop (j.toNat + 1)) := h1
  rw [h1']; rfl
theorem solSet {l : List Sol} {j : Int} {x : Sol} (h : lget l j = some x) (k : List Sol) : ((eSol true).f l).set (j.toNat * 6 + 5) (.sl true 6 k.length ((eSol true).f k)) = (eSol true).f (l.set j.toNat (Sol.mk x.inn x.pl k)) := by
  have hs := stA (eSol true) h 5 1 [.sl true 6 k.length ((eSol true).f k)] (Sol.mk x.inn x.pl k) rfl rfl
  have hs2 : (eSol true).f (l.set j.toNat (Sol.mk x.inn x.pl k)) = ((eSol true).f l).take (j.toNat * 6 + 5) ++ [.sl true 6 k.length ((eSol true).f k)] ++ ((eSol true).f l).drop (j.toNat * 6 + 5 + 1) := hs.2
  have hlt : j.toNat * 6 + 5 < ((eSol true).f l).length := by have := hs.1; exact this
  rw [hs2, List.set_eq_take_append_cons_drop, if_pos hlt]
  simp
mutual
theorem nLk1 : ∀ s : Sol, nlkL (cSol true s) = true
  | .mk i p k => by rw [cSol]; simp [nlkL, nlk, nLk0 k]
theorem nLk0 : ∀ l : List Sol, nlkL (cSols true l) = true
  | [] => by rw [cSols]; rfl
  | x :: xs => by
    rw [cSols]
    have app : ∀ a b : List AV, nlkL (a ++ b) = (nlkL a && nlkL b) := by
      intro a b
      induction a with
      | nil => simp [nlkL]
      | cons y a ih => simp [nlkL, ih, Bool.and_assoc]
    rw [app, nLk1 x, nLk0 xs]; rfl
end
theorem nLk (l : List Sol) : nlkL ((eSol true).f l) = true := nLk0 l
theorem clean_app : ∀ a b : List AV, cleanL (a ++ b) = (cleanL a && cleanL b) := fun a b => by unfold cleanL; exact List.all_append
theorem cleanEnc {τ : Type} (e : Enc τ) (h : ∀ x, cleanL (e.c x) = true) (l : List τ) : cleanL (e.f l) = true := by
  rw [e.hf]
  induction l with
  | nil => rfl
  | cons x l ih => simp only [fl]; rw [clean_app, h, ih]; rfl
theorem cleanSol (l : List Sol) : cleanL ((eSol true).f l) = true := cleanEnc (eSol true) (fun _ => rfl) l
theorem eNlk {τ : Type} (e : Enc τ) (h : ∀ x, nlkL (e.c x) = true) (l : List τ) : nlkL (e.f l) = true := by
  rw [e.hf]
  induction l with
  | nil => rfl
  | cons x l ih =>
    have app : ∀ a b : List AV, nlkL (a ++ b) = (nlkL a && nlkL b) := by
      intro a b
      induction a with
      | nil => simp [nlkL]
      | cons y a ih => simp [nlkL, ih, Bool.and_assoc]
    simp only [fl]; rw [app, h, ih]; rfl

/-- Out of a row's walk: what the function does to own trees. -/
theorem turnP_of {H0 : Hints} {fl : FuncId → Bool} {f : FuncId} {τ : Type} {e : Enc τ} (hE : EqtOk P (withMarks H0 P fl fun _ _ => True)) (hM : P.follows .mixedOrders = true) {a0 : List τ} {a1 : Int} {r : Int × List τ} (hl : r.2.length = a0.length)
    (hw : Big P (withMarks H0 P fl fun _ _ => True) (fun _ _ _ _ _ => False) (.call f [.msl 1000 a0.length, i64 a1] (lk [(1000, ⟨true, e.z, e.f a0⟩)]) (i64 r.1) (lk [(1000, ⟨true, e.z, e.f r.2⟩)])))
    (hnil : a0 = [] → Big P (withMarks H0 P fl fun _ _ => True) (fun _ _ _ _ _ => False) (.call f [.nil, i64 a1] (lk []) (i64 r.1) (lk []))) (hn : ∀ l, nlkL (e.f l) = true) (hz : e.z ≠ 0) : TurnP P f e (a0, a1) r := by
  refine ⟨hl, ?_⟩
  rw [hl]
  have hf : ∀ l : List τ, e.f l = [] → l = [] := fun l h => by
    have := e.len l
    rw [h, List.length_nil] at this
    rcases Nat.mul_eq_zero.1 this.symm with h | h
    · exact List.length_eq_zero_iff.1 h
    · exact absurd h hz
  refine turn_row (G := Gd (withMarks H0 P fl fun _ _ => True) f) (fun M V0 w h => ⟨trivial, fun _ => h⟩) (fun b x hx => ?_) ?_ (big_sound hE hM (fun _ _ _ _ _ _ => trivial) (fun _ _ _ _ _ h => zc_to h) (fun _ _ _ _ _ h => h.elim) hw).1 (fun h => ?_) rfl (hn _) (hn _) (by rw [e.len, e.len, hl]) hz
  · simp only [lk, lookup] at hx
    split at hx
    · rename_i eb; cases hx; exact ⟨eb.symm, rfl⟩
    · cases hx
  · simp [lk, lookup]
  · have h0 := hf a0 h
    have h1 : r.2 = [] := List.length_eq_zero_iff.1 (by rw [hl, h0]; rfl)
    refine ⟨by rw [h1, e.hf]; rfl, ?_⟩
    exact (big_sound hE hM (fun _ _ _ _ _ _ => trivial) (fun _ _ _ _ _ h => zc_to h) (fun _ _ _ _ _ h => h.elim) (hnil h0)).1

/-! laws that mark: their arguments' slices, told to the letter -/
def oldS (K : List Sol) : AV := .sl false 6 K.length ((eSol false).f K)
def oldP (K : List Pl) : AV := .sl false 4 K.length ((ePl).f K)
def oldB (K : List Int) : AV := .sl false 1 K.length ((eU8).f K)
inductive OldCs (l : List (Value × AV)) : List AV → List AV → Prop
  | nil : OldCs l [] []
  | same {xs ys} (x : AV) : OldCs l xs ys → OldCs l (x :: xs) (x :: ys)
  | old {u x xs ys} : (u, x) ∈ l → OldCs l xs ys → OldCs l (.lit u :: xs) (x :: ys)
inductive OldA (l : List (Value × AV)) : AV → AV → Prop
  | same (x : AV) : OldA l x x
  | one {u : Value} {x : AV} : (u, x) ∈ l → OldA l (.lit u) x
  | agg {cs ds : List AV} : OldCs l cs ds → OldA l (.agg cs) (.agg ds)
inductive OldAs (l : List (Value × AV)) : List AV → List AV → Prop
  | nil : OldAs l [] []
  | cons {x y xs ys} : OldA l x y → OldAs l xs ys → OldAs l (x :: xs) (y :: ys)
theorem oNil {l : List (Value × AV)} : OldAs l [] [] := .nil
theorem oCons {l : List (Value × AV)} {x y : AV} {xs ys : List AV} (h : OldA l x y) (k : OldAs l xs ys) : OldAs l (x :: xs) (y :: ys) := .cons h k
theorem oSame {l : List (Value × AV)} (x : AV) : OldA l x x := .same x
theorem oSol {l : List (Value × AV)} {u : Value} {K : List Sol} {i : Bool} {a b c d : Int} (h : (u, oldS K) ∈ l) : OldA l (.agg [bl i, i64 a, i64 b, i64 c, i64 d, .lit u]) (.agg [bl i, i64 a, i64 b, i64 c, i64 d, .sl false 6 K.length ((eSol false).f K)]) :=
  .agg (.same _ (.same _ (.same _ (.same _ (.same _ (.old h .nil))))))
theorem oS {l : List (Value × AV)} {u : Value} {K : List Sol} (h : (u, oldS K) ∈ l) : OldA l (.lit u) (.sl false 6 K.length ((eSol false).f K)) := .one h
theorem oP {l : List (Value × AV)} {u : Value} {K : List Pl} (h : (u, oldP K) ∈ l) : OldA l (.lit u) (.sl false 4 K.length ((ePl).f K)) := .one h
theorem oB {l : List (Value × AV)} {u : Value} {K : List Int} (h : (u, oldB K) ∈ l) : OldA l (.lit u) (.sl false 1 K.length ((eU8).f K)) := .one h
theorem OldAs.at {l : List (Value × AV)} {xs ys : List AV} (h : OldAs l xs ys) : xs.length = ys.length ∧ ∀ (i : Nat) (y : AV), ys[i]? = some y → ∃ x, xs[i]? = some x ∧ OldA l x y := by
  induction h with
  | nil => exact ⟨rfl, fun i y h => by simp at h⟩
  | cons h _ ih =>
    refine ⟨by simp [ih.1], fun i y hy => ?_⟩
    cases i with
    | zero => simp only [List.getElem?_cons_zero, Option.some.injEq] at hy; subst hy; exact ⟨_, rfl, h⟩
    | succ i => simpa using ih.2 i y (by simpa using hy)
def ivL (l : List (Value × AV)) : (Nat → Nat) → World → Prop := fun V w => ∀ q ∈ l, Rep V w (fun _ => (0, 0)) false [] [q.1] [q.2]
theorem OldCs.rep {l : List (Value × AV)} {V : Nat → Nat} {w : World} {K : Nat → Nat × Nat} (hl : ∀ q ∈ l, Rep V w K true [] [q.1] [q.2]) {cs ds : List AV} (h : OldCs l cs ds) : ∀ {fp : List Nat} {us : List Value}, Rep V w K true fp us cs → Rep V w K true fp us ds := by
  induction h with
  | nil => intro fp us h; exact h
  | same x _ ih =>
    intro fp us h
    obtain ⟨f1, f2, u1, u2, rfl, rfl, r1, r2⟩ := Rep.split [x] h
    exact r1.app (ih r2)
  | @old u x xs ys hm _ ih =>
    intro fp us h
    obtain ⟨f1, f2, u1, u2, rfl, rfl, r1, r2⟩ := Rep.split [.lit u] h
    cases r1 with
    | lit hp r3 => cases r3; exact (hl _ hm).app (ih r2)
def HLg (H0 : Hints) (P : Program) (fl : FuncId → Bool) (l : List (Value × AV)) : Hints := withMarks H0 P fl (ivL l)
def YLg (H : Hints) (P : Program) (l : List (Value × AV)) : FuncId → List AV → (Nat → Option Box) → AV → (Nat → Option Box) → Prop :=
  fun f args bx r bx' => ∃ args', OldAs l args args' ∧ Big P H (fun _ _ _ _ _ => False) (.call f args' bx r bx')
theorem call_fn {j : Judg} (h : Big P H Y j) : ∀ f args bx r bx', j = .call f args bx r bx' → ∃ fn c, P.funcs[f]? = some fn ∧ fn.body = some c ∧ (fn.name == "runtime.NumGoroutine") = false := by
  induction h with
  | wka _ _ ih => intro f args bx r bx' e; cases e; exact ih _ _ _ _ _ rfl
  | wkr _ _ ih => intro f args bx r bx' e; cases e; exact ih _ _ _ _ _ rfl
  | given h1 h2 h3 _ => intro f args bx r bx' e; cases e; exact ⟨_, _, h1, h2, h3⟩
  | body h1 h2 h3 => intro f args bx r bx' e; cases e; exact ⟨_, _, h1, h2, h3⟩
  | bodyq i t3 t4 z n cs s1 xc xf sc sf rf h1 h2 h3 => intro f args bx r bx' e; cases e; exact ⟨_, _, h1, h2, h3⟩
  | _ => intro f args bx r bx' e; cases e
theorem gvL {HL : Hints} {l : List (Value × AV)} {f : FuncId} {args args' : List AV} {bx bx' : Nat → Option Box} {r : AV} (h : Big P H (fun _ _ _ _ _ => False) (.call f args' bx r bx')) (ho : OldAs l args args') : Big P HL (YLg H P l) (.call f args bx r bx') := by
  obtain ⟨fn, c, h1, h2, h3⟩ := call_fn h _ _ _ _ _ rfl
  exact .given h1 h2 h3 ⟨args', ho, h⟩
theorem mark_law {H0 : Hints} {fl : FuncId → Bool} {l : List (Value × AV)} (hE : EqtOk P (withMarks H0 P fl fun _ _ => True)) (hM : P.follows .mixedOrders = true) {j : Judg} (h : Big P (HLg H0 P fl l) (YLg (withMarks H0 P fl fun _ _ => True) P l) j) : Mot P (HLg H0 P fl l) j := by
  refine big_sound (H := HLg H0 P fl l) (fun t ht => hE t ht) hM (fun V V' w w' n hi q hq => ?_) (fun _ _ _ _ _ h => zc_to h) (fun f args bx r bx' hy => ?_) h
  · have := hi q hq
    exact this.mono n.cell n.le n.sz (by simp) (by rw [this.noIds rfl]; simp)
  · obtain ⟨args', ho, hb⟩ := hy
    have hc := (big_sound hE hM (fun _ _ _ _ _ _ => trivial) (fun _ _ _ _ _ h => zc_to h) (fun _ _ _ _ _ h => h.elim) hb).1
    intro w0 V0 V K O vs hg hle heq E
    refine hc w0 V0 V K O vs ⟨trivial, hg.2⟩ hle heq ⟨E.len.trans ho.at.1, fun i y hy => ?_, E.bx, E.rg, E.vr⟩
    obtain ⟨x, hx, hoa⟩ := ho.at.2 i y hy
    obtain ⟨v, fp, g1, g2, g3, g4⟩ := E.args i x hx
    have hl : ∀ q ∈ l, Rep V w0 K true [] [q.1] [q.2] := fun q hq => by
      have h1 := (hg.1 q hq).vmono hle (by simp)
      exact (h1.chK (h1.noIds rfl) K).up true (by simp)
    cases hoa with
    | same => exact ⟨v, fp, g1, g2, g3, g4⟩
    | one hm =>
      obtain ⟨rfl, rfl, -⟩ := inv_lit g4
      exact ⟨v, [], g1, g2, g3, .u (.one (hl _ hm))⟩
    | agg hc =>
      refine ⟨v, fp, g1, g2, g3, ?_⟩
      obtain ⟨us, rfl, hr⟩ := inv_agg g4
      exact .u (.agg (hc.rep hl hr))

theorem frk_tt {α : Type} (x y : Option α) : frk true x y = x := rfl
/-- An operation, read off. -/
def opAt (ops : Array Oper) (i : Nat) : Option (Option Nat × Op × Option (Nat × Bool)) := (ops[i]?).map fun o => (o.dst, o.op, o.guard)
theorem isOp_of {ops : Array Oper} {i d : Nat} {op : Op} (h : opAt ops i = some (some d, op, none)) : IsOp ops i d op := by
  unfold opAt at h
  obtain ⟨o, h1, h2⟩ := Option.map_eq_some_iff.1 h
  simp only [Prod.mk.injEq] at h2
  exact ⟨o, h1, h2.1, h2.2.1, h2.2.2⟩
def calleeAt (ops : Array Oper) (i : Nat) : Option (Option Nat × Option (FuncId × List Operand × List AV) × Option (Nat × Bool)) := (ops[i]?).map fun o => (o.dst, calleeOf o botS, o.guard)
theorem calleeAt_of {ops : Array Oper} {i d : Nat} {q : FuncId × List Operand × List AV} (h : calleeAt ops i = some (some d, some q, none)) : ∃ o, ops[i]? = some o ∧ o.dst = some d ∧ calleeOf o botS = some q ∧ o.guard = none := by
  unfold calleeAt at h
  obtain ⟨o, h1, h2⟩ := Option.map_eq_some_iff.1 h
  simp only [Prod.mk.injEq] at h2
  exact ⟨o, h1, h2.1, h2.2.1, h2.2.2⟩
end Evl.T

/-! Exh -/
namespace Evl
open Go

section
variable {P : Program} {N : Nat} {w0 w w' : World} {M : Nat → Prop} {V0 V V' : Nat → Nat} {K K' : Nat → Nat × Nat} {O O' : Nat → Option Loc} {s : S} {a : Act} {fp : List Nat} {v : Value} {G : GP}
variable {ops : Array Oper} {Q : Exit → Act → World → Prop}

theorem lendR (R : RelG N w0 M V0 K V O s a w) (hz : ∀ g, (w0.heap.size ≤ g ∨ M g) → V0 g = 0) (hn : nlkS s) {t b n sz : Nat} {st : Bool} {cs cs' : List AV} {f : FuncId} {mk : Value → Array Value} {r : Value}
    (ht : s.t t = .msl b n) (hb : s.b b = some ⟨st, sz, cs⟩) (hsz : sz ≠ 0) (hl : cs.length = n * sz) (hl' : cs'.length = n * sz) (hn' : nlkL cs' = true) (hT : TurnOk P f mk (.sl true sz n cs) r (.sl true sz n cs')) :
    Calls P f (mk (a.eval (.tmp t))) w fun e w' => e = .returned r ∧ ∃ V' O', RelG N w0 M V0 K V' O' (setBx b ⟨st, sz, cs'⟩ s) a w' := by
  obtain ⟨fp0, -, -, h3⟩ := R.tm t
  rw [ht] at h3
  obtain ⟨-, ⟨hv, rfl, hK⟩ | ⟨cap, hv, hK, hcap⟩⟩ := inv_msl h3
  · have hcs : cs = [] := List.eq_nil_of_length_eq_zero (by simpa using hl)
    have hcs' : cs' = [] := List.eq_nil_of_length_eq_zero (by simpa using hl')
    subst hcs; subst hcs'
    have he : a.eval (.tmp t) = .slice none 0 0 := hv
    rw [he]
    refine Calls.mono (hT V w K [] _ (.on .nil) List.nodup_nil R.vr) fun e w' ⟨he, V', fp', hfr, hrep', hnd, hin, hvr, hvo⟩ => ⟨he, V', ?_⟩
    have hfp : fp' = [] := by
      cases hrep' with
      | on h => cases h; rfl
    subst hfp
    obtain ⟨O', h⟩ := rel_turn (V' := V') R hz hn (b := b) (y := ⟨st, sz, []⟩) (f2 := []) (fp' := []) (by simp) hfr hvo hvr (by simp) (by simp) (fun O' _ => .inl ⟨hsz, rfl, hK⟩)
    exact ⟨O', h⟩
  · obtain ⟨fb, arr, Ty, fz, us, q1, q2, q3⟩ := R.bxr b _ hb (.inr (.inr (by rw [hK]; simp)))
    obtain ⟨hgb, hbd⟩ := List.nodup_cons.1 q1
    obtain ⟨cap', e1, e2, e3, e4⟩ := q3.row hsz
    have hcc : cap' = cap := by rw [hK] at e1; omega
    subst hcc
    have hf : ((sz : Nat) == 0) = false := by simpa using hsz
    have hr0 : Rep V w K false fb us cs := by have := q3.rep; rwa [hf] at this
    have hul : us.length = n * sz := by rw [hr0.len, hl]
    have he : a.eval (.tmp t) = .slice (some ⟨(K b).1, 0, none⟩) n cap' := hv
    rw [he]
    have hglt : (K b).1 < w.heap.size := (Array.getElem?_eq_some_iff.1 q3.hp).1
    let V1 : Nat → Nat := fun x => if x = (K b).1 then us.length else V x
    have hnc : nlkL cs = true := hn.2 b _ hb
    have hin0 : Rep V1 w K false fb us cs := hr0.still hnc fun x hx => ⟨rfl, by
      have : x ≠ (K b).1 := fun e => hgb (by rw [← e]; exact hx)
      simp only [V1, if_neg this]⟩
    have hrep : Rep V1 w K false ((K b).1 :: (fb ++ [])) [.slice (some ⟨(K b).1, 0, none⟩) n cap'] [.sl true sz n cs] :=
      .ow (K b).1 Ty arr fz us hcap q3.hp q3.th e2 hul hsz q3.pre (if_pos rfl) hin0 .nil
    rw [List.append_nil] at hrep
    refine Calls.mono (hT V1 w K _ _ hrep q1 fun x hx => ?_) fun e w' ⟨he, V', fp', hfr, hrep', hnd, hin, hvr, hvo⟩ => ⟨he, ?_⟩
    · simp only [V1] at hx
      split at hx
      · rename_i e; subst e; exact hglt
      · exact R.vr x hx
    · cases hrep' with
      | @ow _ _ _ _ _ _ _ _ fq _ T' arr' fz' vs' h1 h2 h3 h4 h5 h6 h7 h8 hin' hrest =>
        cases hrest
        rw [List.append_nil] at hnd hin
        obtain ⟨hgq, hqd⟩ := List.nodup_cons.1 hnd
        let V2 : Nat → Nat := fun x => if x = (K b).1 then (if st = true then 0 else cs'.length) else V' x
        have hglt' : (K b).1 < w'.heap.size := (Array.getElem?_eq_some_iff.1 h2).1
        refine ⟨V2, rel_turn (V' := V2) R hz hn (b := b) (y := ⟨st, sz, cs'⟩) (f2 := (K b).1 :: fb) (fp' := (K b).1 :: fq) q2 hfr (fun x hx hni => ?_) (fun x hx => ?_) hin (fun x hx => ?_) (fun O' hO => ?_)⟩
        · have hne : x ≠ (K b).1 := fun e => hni (by rw [e]; exact List.mem_cons_self)
          have h1 : V' x = V1 x := hvo x hx hni
          simp only [V2, if_neg hne, h1, V1]
        · simp only [V2] at hx
          split at hx
          · rename_i e; subst e; exact hglt'
          · exact hvr x hx
        · rcases List.mem_cons.1 hx with rfl | hx
          · exact hglt'
          · exact hin'.fp_lt x hx
        · refine .inr ⟨fq, arr', T', fz', vs', hnd, hO, ⟨h2, h3, h7, ?_, ?_, fun h => absurd h hsz, fun _ => ⟨cap', e1, h4, Nat.le_trans (by rw [h5]; exact Nat.mul_le_mul_right _ h1) h4, by rw [h5]; exact Nat.mul_mod_left _ _⟩⟩⟩
          · rw [hf]
            exact hin'.still hn' fun x hx => ⟨rfl, by
              have : x ≠ (K b).1 := fun e => hgq (by rw [← e]; exact hx)
              simp only [V2, if_neg this]⟩
          · show V2 (K b).1 = _
            simp only [V2, if_true]

/-- The four operations of a row's mark, read off. -/
def markOfR (ops : Array Oper) : Option (Nat × Nat × FuncId × Nat × Nat × Nat × Nat) :=
  match ops[0]?, ops[1]?, ops[2]?, ops[3]? with
  | some o0, some o1, some o2, some o3 =>
    match o0.op, o0.dst, o0.guard, o1.op, o1.dst, o1.guard with
    | .move (.tmp ta), some dl, none, .move (.tmp tk), some dk, none =>
      match calleeOf o2 botS, o2.dst, o2.guard, o3.op, o3.dst, o3.guard with
      | some (f, [.tmp x, .tmp y], []), some dr, none, .assign (.tmp r), some da, none =>
        if ops.size = 4 ∧ x = dl ∧ y = dk ∧ r = dr ∧ dl ≠ dk ∧ tk ≠ dl then some (ta, tk, f, dl, dk, dr, da) else none
      | _, _, _, _, _, _ => none
    | _, _, _, _, _, _ => none
  | _, _, _, _ => none
def markSR (b : Nat) (y : Box) (m kv rv : AV) (dl dk dr da : Nat) (s : S) : S := stT da rv (stT dr rv (setBx b y (stT dk kv (stT dl m s))))

theorem mc_markR (hG : ∀ M V0 w0, G M V0 w0 → ∀ g, (w0.heap.size ≤ g ∨ M g) → V0 g = 0) {id ta tk f dl dk dr da b n sz : Nat} (hm : markOfR ops = some (ta, tk, f, dl, dk, dr, da)) (hf : isFn P f = true)
    {st : Bool} {cs cs' : List AV} {kv rv : Value} (hk : s.t tk = .lit kv) (ht : s.t ta = .msl b n) (hb : s.b b = some ⟨st, sz, cs⟩) (hn : nlkS s) (hsz : sz ≠ 0) (hl : cs.length = n * sz) (hl' : cs'.length = n * sz) (hn' : nlkL cs' = true)
    (hT : TurnOk P f (fun u => #[u, kv]) (.sl true sz n cs) rv (.sl true sz n cs')) (hrv : plain rv = true) :
    MC P G (.region id ops false) s .nor (markSR b ⟨st, sz, cs'⟩ (.msl b n) (.lit kv) (.lit rv) dl dk dr da s) := by
  intro N w0 M V0 V K O a w hg hok R Q hQ
  refine wp_region ?_
  unfold markOfR at hm
  split at hm
  · rename_i o0 o1 o2 o3 i0 i1 i2 i3
    split at hm
    · rename_i q0 q1 q2 q3 q4 q5
      split at hm
      · rename_i r0 r1 r2 r3 r4 r5
        simp only [Option.ite_none_right_eq_some, Option.some.injEq, Prod.mk.injEq] at hm
        obtain ⟨⟨z, x1, x2, x3, n1, n2⟩, e1, e2, e3, e4, e5, e6, e7⟩ := hm
        subst x1 x2 x3
        replace e1 := e1.symm; replace e2 := e2.symm; replace e3 := e3.symm; replace e4 := e4.symm; replace e5 := e5.symm; replace e6 := e6.symm; replace e7 := e7.symm
        subst e1 e2 e3 e4 e5 e6 e7
        obtain ⟨fn, c, hfn, hbd, hnm⟩ := isFn_of hf
        have hN : ∀ (i : Nat) (o : Oper) (d : Nat), ops[i]? = some o → o.dst = some d → d < N := fun i o d h e => by
          simp only [codeOk, opsOk, Array.all_eq_true_iff_forall_mem] at hok
          have := hok o (Array.mem_of_getElem? h)
          rw [e] at this; simpa using this
        rw [show List.range ops.size = [0, 1, 2, 3] by rw [z]; rfl]
        have hdl := hN _ _ _ i0 q1
        have hdk := hN _ _ _ i1 q4
        have hdr := hN _ _ _ i2 r1
        have hda := hN _ _ _ i3 r4
        have hN1 := R.n
        obtain ⟨fq, -, -, h3⟩ := R.tm ta
        rw [ht] at h3
        have hfq := (inv_msl h3).1
        subst hfq
        obtain ⟨O2, R2⟩ := R.stT dl hdl (.msl b n) (a.eval (.tmp ta)) h3
        refine wpOps_val i0 q2 (v := a.eval (.tmp ta)) (w' := w) (by simp [execOp, q0]) ?_
        rw [q1]
        have hkv2 : (a.put (some dl) (a.eval (.tmp ta))).eval (.tmp tk) = kv ∧ plainX kv = true := by
          have hev : (stT dl (.msl b n) s).t tk = .lit kv := by rw [stT_ne _ _ n2]; exact hk
          obtain ⟨f1, _, _, h1⟩ := R2.tm tk
          rw [hev] at h1
          exact ⟨(inv_lit h1).1, (inv_lit h1).2.2⟩
        refine wpOps_val i1 q5 (v := kv) (w' := w) (by simp [execOp, q3, hkv2.1]) ?_
        rw [q4]
        obtain ⟨O3, R3⟩ := R2.stT dk hdk (.lit kv) kv (.litX hkv2.2)
        have hn3 : nlkS (stT dk (.lit kv) (stT dl (.msl b n) s)) := ⟨fun t => by
          simp only [stT]
          split
          · rfl
          · split
            · rfl
            · exact hn.1 t, hn.2⟩
        have ht3 : (stT dk (.lit kv) (stT dl (.msl b n) s)).t dl = .msl b n := by rw [stT_ne _ _ n1]; exact stT_same _ _ _
        have hcall := lendR (mk := fun u => #[u, kv]) R3 (hG _ _ _ hg) hn3 ht3 hb hsz hl hl' hn' hT
        have hargs : ([.tmp dl, .tmp dk] : List Operand).map ((a.put (some dl) (a.eval (.tmp ta))).put (some dk) kv).eval = [((a.put (some dl) (a.eval (.tmp ta))).put (some dk) kv).eval (.tmp dl), kv] := by
          simp only [List.map_cons, List.map_nil]
          rw [eval_put_same (by rw [put_size, hN1]; exact hdk)]
        refine wpOps_call i2 r2 (f := f) (args := #[((a.put (some dl) (a.eval (.tmp ta))).put (some dk) kv).eval (.tmp dl), kv]) (by rw [call_run R3.df r0 hfn hbd hnm, hargs]) ?_
        refine Calls.mono hcall fun e w2 ⟨he, V4, O4, R4⟩ => ⟨rv, he, ?_⟩
        rw [r1]
        obtain ⟨O5, R5⟩ := R4.stT dr hdr (.lit rv) rv (.lit hrv)
        have hsz5 : dr < ((a.put (some dl) (a.eval (.tmp ta))).put (some dk) kv).tmps.size := by rw [put_size, put_size, hN1]; exact hdr
        refine wpOps_val i3 r5 (v := rv) (w' := w2) (by simp only [execOp, r3, eval_put_same hsz5]; rfl) ?_
        rw [r4]
        obtain ⟨O6, R6⟩ := R5.stT da hda (.lit rv) rv (.lit hrv)
        exact hQ _ _ _ _ _ R6 fun _ _ => rfl
      · cases hm
    · cases hm
  · cases hm
end

variable {P : Program} {H : Hints} {Y : FuncId → List AV → (Nat → Option Box) → AV → (Nat → Option Box) → Prop} {fid : FuncId}

/-- A law's mark of a local row. -/
theorem x_markR {k : List Td} {Q : X → L → Prop} {l : L} {c : Code} {f ta tk dl dk dr da b n z : Nat} {st : Bool} {cs cs' : List AV} {kv rv : Value}
    (hfl : H.fl fid = true) (hzc : ∀ c s s', MC P (Gd H fid) c s .nor s' → H.zc fid c s s')
    (hr : (Code.isRegion false c, markOfR (Code.opsOf c), isFn P f) = (true, some (ta, tk, f, dl, dk, dr, da), true))
    (hs : (l.get ta, l.get tk, lookup dl l.ts, lookup dk l.ts, lookup dr l.ts) = (.msl b n, .lit kv, none, none, none))
    (hb : lookup b l.bs = some ⟨st, z, cs⟩) (hn : nlkLs l = true) (hz : z ≠ 0) (hl : cs.length = n * z) (hl' : cs'.length = n * z) (hn' : nlkL cs' = true) (hrv : plain rv = true)
    (hT : TurnOk P f (fun u => #[u, kv]) (.sl true z n cs) rv (.sl true z n cs'))
    (hw : Wk P H Y fid k Q ⟨(da, .lit rv) :: l.ts, (b, ⟨st, z, cs'⟩) :: l.bs⟩) : Wk P H Y fid (.code c :: k) Q l := by
  simp only [Prod.mk.injEq] at hr hs
  obtain ⟨r1, r2, r3⟩ := hr
  obtain ⟨s1, s2, s3, s4, s5⟩ := hs
  have hmc : MC P (Gd H fid) c l.toS .nor (markSR b ⟨st, z, cs'⟩ (.msl b n) (.lit kv) (.lit rv) dl dk dr da l.toS) := by
    cases c <;> simp [Code.isRegion] at r1
    subst r1
    exact mc_markR (fun M V0 w0 h => h.2 hfl) r2 r3 s2 s1 hb (nlkLs_ok hn) hz hl hl' hn' hT hrv
  refine x_zone r1 (hzc _ _ _ hmc) (u := ⟨(da, .lit rv) :: l.ts, (b, ⟨st, z, cs'⟩) :: l.bs⟩) ⟨fun i => ?_, fun j y hy => ?_⟩ hw
  · rw [L.toS_t]
    simp only [lookup, markSR, stT, setBx]
    by_cases ha : da = i
    · subst ha; simp only [if_true]; exact .inl (.inl (.inl rfl))
    · rw [if_neg ha, if_neg (fun e => ha e.symm)]
      by_cases hr : i = dr
      · subst hr; rw [s5]; exact .inl (.inl (.inr (.inl rfl)))
      · rw [if_neg hr]
        by_cases hk : i = dk
        · subst hk; rw [s4]; exact .inl (.inl (.inr (.inl rfl)))
        · rw [if_neg hk]
          by_cases hl : i = dl
          · subst hl; rw [s3]; exact .inl (.inl (.inr (.inl rfl)))
          · rw [if_neg hl, L.toS_t]; exact .inl (.inl (.inl rfl))
  · rw [L.toS_b] at hy
    simp only [lookup] at hy
    simp only [markSR, stT, setBx]
    by_cases hb' : b = j
    · subst hb'
      simp only [if_true, Option.some.injEq] at hy
      subst hy
      exact ⟨_, if_pos rfl, rfl, rfl, wkCs_refl _⟩
    · rw [if_neg hb'] at hy
      rw [if_neg (fun e => hb' e.symm)]
      exact ⟨y, by rw [L.toS_b]; exact hy, rfl, rfl, wkCs_refl _⟩
end Evl
namespace Evl.T
open Go Evl
theorem turn_len {P : Program} {f : FuncId} {τ : Type} {e : Enc τ} {a : List τ × Int} {r : Int × List τ} (h : TurnP P f e a r) :
    TurnOk P f (fun u => #[u, .int .i64 a.2]) (.sl true e.z a.1.length (e.f a.1)) (.int .i64 r.1) (.sl true e.z a.1.length (e.f r.2)) := by
  obtain ⟨h1, h2⟩ := h
  rw [← h1] at h2 ⊢; exact h2
theorem turn_rows {P : Program} {f : FuncId} {τ : Type} {e : Enc τ} {a : List τ × Int} {r : Int × List τ} (h : TurnP P f e a r) : (e.f r.2).length = a.1.length * e.z := by rw [e.len, h.1]
theorem nLkB (l : List Int) : nlkL ((eU8).f l) = true := eNlk eU8 (fun _ => rfl) l
theorem nLkP (l : List Pl) : nlkL ((ePl).f l) = true := eNlk ePl (fun _ => rfl) l
end Evl.T

/-! Ewq -/
namespace Evl
open Go

/-- The cells of a list's elements. -/
def flv {α : Type} (enc : α → List Value) (l : List α) : List AV := (l.flatMap enc).map AV.lit
theorem flat_len {α : Type} {enc : α → List Value} {k : Nat} (hk : ∀ x, (enc x).length = k) : ∀ l : List α, (l.flatMap enc).length = l.length * k
  | [] => by simp
  | x :: l => by rw [List.flatMap_cons, List.length_append, hk, flat_len hk l, List.length_cons, Nat.add_mul]; omega
theorem flv_len {α : Type} {enc : α → List Value} {k : Nat} (hk : ∀ x, (enc x).length = k) (l : List α) : (flv enc l).length = l.length * k := by
  unfold flv; rw [List.length_map, flat_len hk]
section
variable {α : Type} [Inhabited α] {enc : α → List Value} {k : Nat}
theorem flat_get (hk : ∀ x, (enc x).length = k) : ∀ (l : List α) (t : Nat), t < l.length * k → (l.flatMap enc)[t]? = some ((enc (l.toArray[t / k]!))[t % k]!)
  | [], t, h => by simp at h
  | x :: l, t, h => by
    have k0 : 0 < k := Nat.pos_of_ne_zero fun e => by subst e; simp at h
    rw [List.flatMap_cons]
    by_cases ht : t < k
    · rw [List.getElem?_append_left (by rw [hk]; exact ht), Nat.div_eq_of_lt ht, Nat.mod_eq_of_lt ht]
      have : t < (enc x).length := by rw [hk]; exact ht
      simp [this]
    · have ht' : k ≤ t := by omega
      rw [List.length_cons, Nat.add_mul, Nat.one_mul] at h
      rw [List.getElem?_append_right (by rw [hk]; exact ht'), hk, flat_get hk l (t - k) (by omega)]
      have e1 : (t - k) % k = t % k := (Nat.mod_eq_sub_mod ht').symm
      have e2 : t / k = (t - k) / k + 1 := Nat.div_eq_sub_div k0 ht'
      rw [e1, e2]
      simp
theorem flatK_get (hk : ∀ x, (enc x).length = k) (l : List α) (t : Nat) (h : t < l.length * k) : (l.flatMap enc)[t]? = some ((Go.Sort.flatK enc k l.toArray)[t]!) := by
  rw [flat_get hk l t h, Go.Sort.get_flatK enc k l.toArray t (by simpa using h)]
end

theorem rep_litv {V : Nat → Nat} {w : World} {K : Nat → Nat × Nat} {m : Bool} : ∀ (l : List Value) {fp : List Nat} {us : List Value}, Rep V w K m fp us (l.map AV.lit) → us = l ∧ fp = []
  | [], _, _, h => by cases h; exact ⟨rfl, rfl⟩
  | x :: l, _, _, h => by
    cases h with
    | lit _ h => obtain ⟨rfl, rfl⟩ := rep_litv l h; exact ⟨rfl, rfl⟩
theorem litv_rep {V : Nat → Nat} {w : World} {K : Nat → Nat × Nat} {m : Bool} : ∀ (l : List Value), (∀ v ∈ l, plain v = true) → Rep V w K m [] l (l.map AV.lit)
  | [], _ => .nil
  | x :: l, h => .lit (plain_X (h x List.mem_cons_self)) (litv_rep l fun v hv => h v (List.mem_cons_of_mem _ hv))
theorem nlk_flv {α : Type} (enc : α → List Value) (l : List α) : nlkL (flv enc l) = true := by
  unfold flv
  induction l.flatMap enc with
  | nil => rfl
  | cons x l ih => rw [List.map_cons]; simp only [nlkL, nlk, Bool.true_and]; exact ih

/-- What a call that writes one row leaves: the row, new blocks. -/
theorem row_world {w : World} {g : Nat} {arr : Array Value} {T : TypeId} {fz : Nat × Nat} (F : Array Value) (q : Nat) (os : Array Obj) (h : w.heap[g]? = some (.cells arr T fz)) :
    (Go.Sort.grow (Go.Sort.putRow id (Go.Sort.ahead w q) g 0 F) os).heap[g]? = some (.cells (Go.Sort.putCells id 0 F arr) T fz) ∧
    (∀ x, x < w.heap.size → x ≠ g → (Go.Sort.grow (Go.Sort.putRow id (Go.Sort.ahead w q) g 0 F) os).heap[x]? = w.heap[x]?) ∧ w.heap.size ≤ (Go.Sort.grow (Go.Sort.putRow id (Go.Sort.ahead w q) g 0 F) os).heap.size := by
  have hg : g < w.heap.size := (Array.getElem?_eq_some_iff.1 h).1
  have hsz : (w.heap.modify g (Go.Sort.onCells (Go.Sort.putCells id 0 F))).size = w.heap.size := Array.size_modify
  refine ⟨?_, fun x hx hne => ?_, ?_⟩
  · show ((w.heap.modify g (Go.Sort.onCells (Go.Sort.putCells id 0 F))) ++ os)[g]? = _
    rw [Array.getElem?_append_left (by rw [hsz]; exact hg), Array.getElem?_modify, if_pos rfl, h]; rfl
  · show ((w.heap.modify g (Go.Sort.onCells (Go.Sort.putCells id 0 F))) ++ os)[x]? = _
    rw [Array.getElem?_append_left (by rw [hsz]; exact hx), Array.getElem?_modify, if_neg (Ne.symm hne)]
  · show w.heap.size ≤ ((w.heap.modify g (Go.Sort.onCells (Go.Sort.putCells id 0 F))) ++ os).size
    rw [Array.size_append, hsz]; omega
theorem putCells_size (F arr : Array Value) : (Go.Sort.putCells id 0 F arr).size = arr.size := by simp [Go.Sort.putCells]
theorem putCells_get (F arr : Array Value) (j : Nat) (hj : j < F.size) (ha : F.size ≤ arr.size) : (Go.Sort.putCells id 0 F arr)[j]? = some F[j]! := by
  simp only [Go.Sort.putCells, Array.getElem?_mapIdx]
  rw [Array.getElem?_eq_getElem (by omega), Option.map_some, if_pos ⟨Nat.zero_le _, by omega⟩]
  rfl
theorem thawed_at {w : World} {g : Nat} {arr : Array Value} {T : TypeId} {fz : Nat × Nat} (h : w.heap[g]? = some (.cells arr T fz)) (ht : thawed arr fz) {j : Nat} (hj : j < arr.size) : w.frozen? ⟨g, j, none⟩ = false := by
  have := ht.not j hj
  simp only [World.frozen?, h]
  rw [Bool.eq_false_iff, ne_eq, Bool.and_eq_true, decide_eq_true_eq, decide_eq_true_eq]
  exact this

section
variable {P : Program} {α : Type} [Inhabited α] {enc : α → List Value} {k : Nat}
/-- A row's cells are held. -/
theorem holds_of {w : World} {g : Nat} {arr : Array Value} {T : TypeId} {fz : Nat × Nat} (hk : ∀ x, (enc x).length = k) (l : List α) (h : w.heap[g]? = some (.cells arr T fz)) (ht : thawed arr fz) (hl : l.length * k ≤ arr.size)
    (hp : ∀ (j : Nat) (v : Value), (l.flatMap enc)[j]? = some v → arr[j]? = some v) : Go.Sort.HoldsK enc k w g 0 l.toArray := by
  intro j hj
  have hj' : j < l.length * k := by simpa using hj
  refine ⟨?_, ?_⟩
  · have := hp j _ (flatK_get hk l j hj')
    simp only [World.cell?, h, Nat.zero_add]
    exact this
  · rw [Nat.zero_add]; exact thawed_at h ht (by omega)
/-- A function that writes a row turns an own list. -/
theorem turn_of {f : FuncId} {mk : Value → Array Value} {r : Value} (hk0 : k ≠ 0) (hk : ∀ x, (enc x).length = k) (hpl : ∀ x, ∀ v ∈ enc x, plain v = true) (l l' : List α) (hll : l'.length = l.length)
    (hnil : l = [] → ∀ w, Calls P f (mk (.slice none 0 0)) w fun e w' => e = .returned r ∧ w' = w)
    (hrow : ∀ g cap w, Go.Sort.HoldsK enc k w g 0 l.toArray → g < w.heap.size → l.length ≤ cap → Calls P f (mk (.slice (some ⟨g, 0, none⟩) l.length cap)) w fun e w' => e = .returned r ∧ ∃ n os, w' = Go.Sort.grow (Go.Sort.putRowK enc k (Go.Sort.ahead w n) g 0 l'.toArray) os) :
    TurnOk P f mk (.sl true k l.length (flv enc l)) r (.sl true k l.length (flv enc l')) := by
  intro V w K fp u hrep hnd hvr
  have hfl := flv_len hk l
  have hpf : ∀ v ∈ l'.flatMap enc, plain v = true := fun v hv => by
    obtain ⟨x, _, hx⟩ := List.mem_flatMap.1 hv
    exact hpl x v hx
  generalize hn : l.length = n at hrep hll hrow hfl
  generalize hc : flv enc l = cs at hrep
  cases hrep with
  | on h =>
    cases h
    have hl0 : l = [] := List.eq_nil_of_length_eq_zero hn
    have hl1 : l' = [] := List.eq_nil_of_length_eq_zero hll
    subst hl1
    refine Calls.mono (hnil hl0 w) fun e w' ⟨he, hw⟩ => ?_
    subst hw
    exact ⟨he, V, [], ⟨rfl, rfl, rfl, Nat.le_refl _, fun _ _ _ => rfl, Nat.le_refl _⟩, .on .nil, List.nodup_nil, by simp, hvr, fun _ _ _ => rfl⟩
  | @ow _ _ _ _ _ cap _ _ fq g T arr fz vs h1 h2 h3 h4 h5 h6 h7 h8 hin hrest =>
    cases hrest
    subst hc
    obtain ⟨rfl, rfl⟩ := rep_litv _ hin
    have hglt : g < w.heap.size := (Array.getElem?_eq_some_iff.1 h2).1
    have hca : n * k ≤ arr.size := Nat.le_trans (Nat.mul_le_mul_right _ h1) h4
    have hH : Go.Sort.HoldsK enc k w g 0 l.toArray := holds_of hk l h2 h3 (by rw [hn]; exact hca) h7
    refine Calls.mono (hrow g cap w hH hglt h1) fun e w' ⟨he, q, os, hw⟩ => ?_
    obtain ⟨r1, r2, r3⟩ := row_world (Go.Sort.flatK enc k l'.toArray) q os h2
    have hF : (Go.Sort.flatK enc k l'.toArray).size = n * k := by rw [Go.Sort.size_flatK]; simp [hll]
    have hw' : w' = Go.Sort.grow (Go.Sort.putRow id (Go.Sort.ahead w q) g 0 (Go.Sort.flatK enc k l'.toArray)) os := hw
    refine ⟨he, V, [g], ?_, ?_, by simp, by simp, fun x hx => ?_, fun _ _ _ => rfl⟩
    · rw [hw']
      refine ⟨rfl, rfl, rfl, r3, fun x hx hni => r2 x hx (by simpa using hni), ?_⟩
      show w.drawn ≤ w.drawn + q
      omega
    · have := Rep.ow (V := V) (w := w') (K := K) (m := false) (fp := []) (us := []) (cs := []) (n := n) (cap := cap) (sz := k) (ds := flv enc l') (fq := []) g T (Go.Sort.putCells id 0 (Go.Sort.flatK enc k l'.toArray) arr) fz (l'.flatMap enc) h1 (by rw [hw']; exact r1)
        (by unfold thawed at *; rw [putCells_size]; exact h3) (by rw [putCells_size]; exact h4) (by rw [flat_len hk, hll]) hk0
        (fun j v hj => by
          have hj' : j < l'.length * k := by rw [← flat_len hk]; exact (List.getElem?_eq_some_iff.1 hj).1
          rw [flatK_get hk l' j hj'] at hj
          rw [← hj]
          exact putCells_get _ _ j (by rw [hF, ← hll]; exact hj') (by rw [hF]; exact hca))
        (by rw [h8, flat_len hk, flat_len hk, hll, hn]) (litv_rep _ hpf) .nil
      simpa using this
    · rw [hw']; exact Nat.lt_of_lt_of_le (hvr x hx) r3
end

/-- A function that compares, and lays blocks at most. -/
def CmpOk (P : Program) (g : Nat) {α : Type} (enc : α → List Value) (cf : α → α → Int) : Prop :=
  ∀ x y W, Calls P g #[.agg (enc x).toArray, .agg (enc y).toArray] W fun e w' => e = .returned (.int .i64 (cf x y)) ∧ ∃ q os', w' = Go.Sort.grow (W.drewN q) os'
/-- What leaves all old blocks alone: more is drawn, new blocks. -/
theorem fr_grow {W w' : World} {M : Nat → Prop} (h : Fr W M w') (hM : ∀ g, ¬ M g) : ∃ q os, w' = Go.Sort.grow (W.drewN q) os := by
  refine ⟨w'.drawn - W.drawn, w'.heap.extract W.heap.size w'.heap.size, ?_⟩
  have hh : w'.heap = W.heap ++ w'.heap.extract W.heap.size w'.heap.size := by
    apply Array.ext_getElem?
    intro i
    by_cases hi : i < W.heap.size
    · rw [Array.getElem?_append_left hi, h.old i hi (hM i)]
    · rw [Array.getElem?_append_right (by omega), Array.getElem?_extract]
      have hs := h.sz
      by_cases h2 : i < w'.heap.size
      · rw [if_pos (by omega), show W.heap.size + (i - W.heap.size) = i by omega]
      · rw [if_neg (by omega), Array.getElem?_eq_none (by omega)]
  have hd := h.dr
  have h1 := h.os; have h2 := h.tape; have h3 := h.output
  cases w' with
  | mk heap tape drawn os output =>
    cases W with
    | mk heap0 tape0 drawn0 os0 output0 =>
      simp only at hh hd h1 h2 h3
      subst h1 h2 h3
      show World.mk heap tape drawn os output = World.mk (heap0 ++ heap.extract heap0.size heap.size) tape (drawn0 + (drawn - drawn0)) os output
      rw [← hh, show drawn0 + (drawn - drawn0) = drawn by omega]
/-- A walked function that compares. -/
theorem cmp_of {P : Program} {H0 : Hints} {fl : FuncId → Bool} {g : FuncId} {α : Type} {enc : α → List Value} {cf : α → α → Int} (hE : EqtOk P (withMarks H0 P fl fun _ _ => True)) (hM : P.follows .mixedOrders = true) (hfl : fl g = false) (hpl : ∀ x, ∀ v ∈ enc x, plain v = true)
    (h : ∀ x y, Big P (withMarks H0 P fl fun _ _ => True) (fun _ _ _ _ _ => False) (.call g [.agg ((enc x).map AV.lit), .agg ((enc y).map AV.lit)] (lk []) (.lit (.int .i64 (cf x y))) (lk []))) : CmpOk P g enc cf := by
  intro x y W
  have hC : CallOk P (Gd (withMarks H0 P fl fun _ _ => True) g) g _ _ _ _ := (big_sound hE hM (fun _ _ _ _ _ _ => trivial) (fun _ _ _ _ _ h => zc_to h) (fun _ _ _ _ _ h => h.elim) (h x y)).1
  refine Calls.mono (hC W (fun _ => 0) (fun _ => 0) (fun _ => (0, 0)) (fun _ => none) [.agg (enc x).toArray, .agg (enc y).toArray] ⟨trivial, fun e => ?_⟩ (fun _ => Nat.le_refl _) (fun _ _ => rfl) ⟨rfl, fun i z hz => ?_, fun b z hz => (by cases hz), fun g l hg => (by cases hg), fun g hg => absurd hg (Nat.lt_irrefl 0)⟩) fun e w' hen => ?_
  · have e : fl g = true := e
    rw [hfl] at e; cases e
  · match i, hz with
    | 0, hz => cases hz; exact ⟨_, [], rfl, List.nodup_nil, by simp, .u (.agg (litv_rep _ (hpl x)))⟩
    | 1, hz => cases hz; exact ⟨_, [], rfl, List.nodup_nil, by simp, .u (.agg (litv_rep _ (hpl y)))⟩
  · obtain ⟨v, rfl, V1, O1, fp, b1, b2, b3, b4, b5, b6, hq, b7, b8⟩ := hen
    rw [lit_back hq]
    exact ⟨rfl, fr_grow b1 fun g hg => hg rfl⟩
/-- slices.SortFunc of an own list. -/
theorem sort_turn {P : Program} {ρ : Go.Shelf.Ren} {α : Type} [Inhabited α] (L : Go.Proofs.SlLaysF0.n6 P ρ) (k : Nat) (hk0 : k ≠ 0) (aE : ∀ w, (isAgg (ρ.t 24)).run P w = .ok true w) (zE : ∀ w, (Go.sizeOf (ρ.t 24)).run P w = .ok k w) (enc : α → List Value) (hk : ∀ x, (enc x).length = k) (hpl : ∀ x, ∀ v ∈ enc x, plain v = true)
    (cf : α → α → Int) (hO : Go.Sort.SWO (Go.Proofs.ltOf cf)) (hT : ∀ x y, (Go.Proofs.ltOf cf) x y = false → (Go.Proofs.ltOf cf) y x = false → x = y) (g : Nat) (eg : ∀ args w, (callFunc g args).run P w = .ok (.enter g args) w) (hcmp : CmpOk P g enc cf) (l : List α) (hsz : l.length < 4611686018427387904) :
    TurnOk P (ρ.f 6) (fun u => #[u, .func (.func g) #[] #[]]) (.sl true k l.length (flv enc l)) (.tuple #[]) (.sl true k l.length (flv enc (l.mergeSort fun x y => !(Go.Proofs.ltOf cf) y x))) := by
  refine turn_of hk0 hk hpl l _ (List.length_mergeSort _) (fun e w => ?_) fun g' cap w hH hg hc => ?_
  · exact Go.Proofs.AnyF.slices_SortFunc_none L none 0 _ w
  · have h1 : ∀ x, ∀ v ∈ enc x, v.oneCell' = true := fun x v hv => by
      have := hpl x v hv
      cases v <;> simp_all [plain, Value.oneCell']
    have := Go.Proofs.AnyQ.slices_SortFunc_total L k aE zE enc hk h1 cf hO g #[] g' 0 cap l.toArray w eg (fun m os dk _ x y => by simpa using hcmp x y _) hH hg (by simpa using hsz) hT
    simpa [Go.Proofs.sortWorldK] using this
end Evl

/-! Ewr -/
namespace Evl
open Go

section
variable {P : Program} {N : Nat} {w0 w w' : World} {M : Nat → Prop} {V0 V V' : Nat → Nat} {K K' : Nat → Nat × Nat} {O O' : Nat → Option Loc} {s : S} {a : Act} {fp : List Nat} {v : Value} {G : GP}
variable {ops : Array Oper} {Q : Exit → Act → World → Prop}

/-- A slot is told no more. -/
theorem rel_gone (R : RelG N w0 M V0 K V O s a w) (d : Nat) (hd : d < N) (v : Value) : RelG N w0 M V0 K V (fun g => if O g = some (true, d) then none else O g) (Evl.stT d .bad s) (a.put (some d) v) w where
  df := by rw [put_defers]; exact R.df
  n := by rw [put_size]; exact R.n
  tm t := by
    by_cases htd : t = d
    · subst htd
      refine ⟨[], List.nodup_nil, by simp, ?_⟩
      rw [stT_same]; exact .bad _
    · obtain ⟨fp, p1, p2, p3⟩ := R.tm t
      refine ⟨fp, p1, fun g hg => ?_, ?_⟩
      · show (if O g = some (true, d) then none else O g) = _
        rw [p2 g hg, if_neg (fun e => htd (by cases e; rfl))]
      · rw [getD_put a (some d) v t (fun e => htd (by cases e; rfl)), stT_ne _ _ htd]; exact p3
  bx c x hc := by
    rcases R.bx c x hc with h | ⟨gb, arr2, T2, fz2, us2, p1, p2, p3⟩
    · exact .inl h
    · refine .inr ⟨gb, arr2, T2, fz2, us2, p1, fun g hg => ?_, p3⟩
      show (if O g = some (true, d) then none else O g) = _
      rw [p2 g hg, if_neg (fun e => by cases e)]
  rg g l hg := by
    split at hg
    · cases hg
    · exact R.rg g l hg
  vr := R.vr
  fr := R.fr
  nx := R.nx
  vo := R.vo
/-- The two operations of a row's turn, read off: the move, the call with a function. -/
def sortOfR (ops : Array Oper) : Option (Nat × FuncId × Nat × Nat × FuncId) :=
  match ops[0]?, ops[1]? with
  | some o0, some o1 =>
    match o0.op, o0.dst, o0.guard, calleeOf o1 botS, o1.dst, o1.guard with
    | .move (.tmp ta), some dl, none, some (f, [.tmp x, .func g], []), some dr, none => if ops.size = 2 ∧ x = dl then some (ta, f, dl, dr, g) else none
    | _, _, _, _, _, _ => none
  | _, _ => none
def sortS (b : Nat) (y : Box) (m : AV) (dl dr : Nat) (s : S) : S := stT dr .bad (setBx b y (stT dl m s))

theorem mc_sort (hG : ∀ M V0 w0, G M V0 w0 → ∀ g, (w0.heap.size ≤ g ∨ M g) → V0 g = 0) {id ta f dl dr b n sz g : Nat} (hm : sortOfR ops = some (ta, f, dl, dr, g)) (hf : isFn P f = true)
    {st : Bool} {cs cs' : List AV} {rv : Value} (ht : s.t ta = .msl b n) (hb : s.b b = some ⟨st, sz, cs⟩) (hn : nlkS s) (hsz : sz ≠ 0) (hl : cs.length = n * sz) (hl' : cs'.length = n * sz) (hn' : nlkL cs' = true)
    (hT : TurnOk P f (fun u => #[u, .func (.func g) #[] #[]]) (.sl true sz n cs) rv (.sl true sz n cs')) :
    MC P G (.region id ops false) s .nor (sortS b ⟨st, sz, cs'⟩ (.msl b n) dl dr s) := by
  intro N w0 M V0 V K O a w hg hok R Q hQ
  refine wp_region ?_
  unfold sortOfR at hm
  split at hm
  · rename_i o0 o1 i0 i1
    split at hm
    · rename_i q0 q1 q2 r0 r1 r2
      simp only [Option.ite_none_right_eq_some, Option.some.injEq, Prod.mk.injEq] at hm
      obtain ⟨⟨z, x1⟩, e1, e2, e3, e4, e5⟩ := hm
      subst x1
      replace e1 := e1.symm; replace e2 := e2.symm; replace e3 := e3.symm; replace e4 := e4.symm; replace e5 := e5.symm
      subst e1 e2 e3 e4 e5
      obtain ⟨fn, c, hfn, hbd, hnm⟩ := isFn_of hf
      have hN : ∀ (i : Nat) (o : Oper) (d : Nat), ops[i]? = some o → o.dst = some d → d < N := fun i o d h e => by
        simp only [codeOk, opsOk, Array.all_eq_true_iff_forall_mem] at hok
        have := hok o (Array.mem_of_getElem? h)
        rw [e] at this; simpa using this
      rw [show List.range ops.size = [0, 1] by rw [z]; rfl]
      have hdl := hN _ _ _ i0 q1
      have hdr := hN _ _ _ i1 r1
      have hN1 := R.n
      obtain ⟨fq, -, -, h3⟩ := R.tm ta
      rw [ht] at h3
      have hfq := (inv_msl h3).1
      subst hfq
      obtain ⟨O2, R2⟩ := R.stT dl hdl (.msl b n) (a.eval (.tmp ta)) h3
      refine wpOps_val i0 q2 (v := a.eval (.tmp ta)) (w' := w) (by simp [execOp, q0]) ?_
      rw [q1]
      have hn3 : nlkS (stT dl (.msl b n) s) := ⟨fun t => by
        simp only [stT]
        split
        · rfl
        · exact hn.1 t, hn.2⟩
      have ht3 : (stT dl (.msl b n) s).t dl = .msl b n := stT_same _ _ _
      have hcall := lendR (mk := fun u => #[u, .func (.func g) #[] #[]]) R2 (hG _ _ _ hg) hn3 ht3 hb hsz hl hl' hn' hT
      have hargs : ([.tmp dl, .func g] : List Operand).map (a.put (some dl) (a.eval (.tmp ta))).eval = [(a.put (some dl) (a.eval (.tmp ta))).eval (.tmp dl), .func (.func g) #[] #[]] := rfl
      refine wpOps_call i1 r2 (f := f) (args := #[(a.put (some dl) (a.eval (.tmp ta))).eval (.tmp dl), .func (.func g) #[] #[]]) (by rw [call_run R2.df r0 hfn hbd hnm, hargs]) ?_
      refine Calls.mono hcall fun e w2 ⟨he, V4, O4, R4⟩ => ⟨rv, he, ?_⟩
      rw [r1]
      obtain ⟨O5, R5⟩ := R4.stT dr hdr .bad rv (.bad rv)
      exact hQ _ _ _ _ _ R5 fun _ _ => rfl
    · cases hm
  · cases hm

/-- A row's blocks, as a tree of one's own. -/
theorem lendC (R : RelG N w0 M V0 K V O s a w) (hn : nlkS s) {t b n sz : Nat} {st : Bool} {cs : List AV} (ht : s.t t = .msl b n) (hb : s.b b = some ⟨st, sz, cs⟩) (hsz : sz ≠ 0) (hl : cs.length = n * sz) :
    ∃ V1 f2, Rep V1 w K false f2 [a.eval (.tmp t)] [.sl true sz n cs] ∧ f2.Nodup ∧ (∀ g, 0 < V1 g → g < w.heap.size) ∧ (∀ g ∈ f2, O g = some (false, b)) ∧ ∀ g, g ∉ f2 → V1 g = V g := by
  obtain ⟨fp0, -, -, h3⟩ := R.tm t
  rw [ht] at h3
  obtain ⟨-, ⟨hv, rfl, hK⟩ | ⟨cap, hv, hK, hcap⟩⟩ := inv_msl h3
  · have hcs : cs = [] := List.eq_nil_of_length_eq_zero (by simpa using hl)
    subst hcs
    have he : a.eval (.tmp t) = .slice none 0 0 := hv
    rw [he]
    exact ⟨V, [], .on .nil, List.nodup_nil, R.vr, by simp, fun _ _ => rfl⟩
  · obtain ⟨fb, arr, Ty, fz, us, q1, q2, q3⟩ := R.bxr b _ hb (.inr (.inr (by rw [hK]; simp)))
    obtain ⟨hgb, hbd⟩ := List.nodup_cons.1 q1
    obtain ⟨cap', e1, e2, e3, e4⟩ := q3.row hsz
    have hcc : cap' = cap := by rw [hK] at e1; omega
    subst hcc
    have hf : ((sz : Nat) == 0) = false := by simpa using hsz
    have hr0 : Rep V w K false fb us cs := by have := q3.rep; rwa [hf] at this
    have hul : us.length = n * sz := by rw [hr0.len, hl]
    have he : a.eval (.tmp t) = .slice (some ⟨(K b).1, 0, none⟩) n cap' := hv
    rw [he]
    have hglt : (K b).1 < w.heap.size := (Array.getElem?_eq_some_iff.1 q3.hp).1
    let V1 : Nat → Nat := fun x => if x = (K b).1 then us.length else V x
    have hnc : nlkL cs = true := hn.2 b _ hb
    have hin0 : Rep V1 w K false fb us cs := hr0.still hnc fun x hx => ⟨rfl, by
      have : x ≠ (K b).1 := fun e => hgb (by rw [← e]; exact hx)
      simp only [V1, if_neg this]⟩
    have hrep : Rep V1 w K false ((K b).1 :: (fb ++ [])) [.slice (some ⟨(K b).1, 0, none⟩) n cap'] [.sl true sz n cs] :=
      .ow (K b).1 Ty arr fz us hcap q3.hp q3.th e2 hul hsz q3.pre (if_pos rfl) hin0 .nil
    rw [List.append_nil] at hrep
    refine ⟨V1, _, hrep, q1, fun x hx => ?_, q2, fun x hx => ?_⟩
    · simp only [V1] at hx
      split at hx
      · rename_i e; subst e; exact hglt
      · exact R.vr x hx
    · have hne : x ≠ (K b).1 := fun e => hx (by rw [e]; exact List.mem_cons_self)
      simp only [V1, if_neg hne]

def dropS (b d : Nat) (T : AV) (s : S) : S where
  t := fun i => if i = d then T else s.t i
  b := fun k => if k = b then none else s.b k
/-- A box's blocks become a slot's tree. -/
theorem rel_take (R : RelG N w0 M V0 K V O s a w) (hz : ∀ g, (w0.heap.size ≤ g ∨ M g) → V0 g = 0) (hn : nlkS s) {b d : Nat} (hd : d < N) {T : AV} {u : Value} {f2 fp' : List Nat}
    (hf2O : ∀ g ∈ f2, O g = some (false, b)) (hfr : Fr w (fun g => g ∈ f2) w') (hvo : ∀ g, g < w.heap.size → g ∉ f2 → V' g = V g) (hvr : ∀ g, 0 < V' g → g < w'.heap.size)
    (hin : ∀ g ∈ fp', g ∈ f2 ∨ w.heap.size ≤ g) (hnd : fp'.Nodup) (hrep : Rep V' w' K false fp' [u] [T]) :
    ∃ O', RelG N w0 M V0 K V' O' (dropS b d T s) (a.put (some d) u) w' := by
  have hf2z : ∀ g ∈ f2, V0 g = 0 := fun g hg => hz g (R.rg g _ (hf2O g hg)).1
  have hlt : ∀ g ∈ fp', g < w'.heap.size := fun g hg => hrep.fp_lt g hg
  have keep : ∀ g, g < w.heap.size → g ∉ f2 → w'.heap[g]? = w.heap[g]? ∧ V' g = V g := fun g h1 h2 => ⟨hfr.old g h1 h2, hvo g h1 h2⟩
  have own_keep : ∀ g l, O g = some l → l ≠ (false, b) → w'.heap[g]? = w.heap[g]? ∧ V' g = V g := fun g l hg hl => keep g (R.rg g l hg).2 fun hin => hl (by rw [hf2O g hin] at hg; cases hg; rfl)
  have hnew : ∀ g l, O g = some l → g ∈ fp' → g ∈ f2 := fun g l hg hp => by
    rcases hin g hp with h | h
    · exact h
    · have := (R.rg g l hg).2; omega
  refine ⟨fun g => if g ∈ fp' then some (true, d) else if g ∈ f2 then none else if O g = some (true, d) then none else O g, by rw [put_defers]; exact R.df, by rw [put_size]; exact R.n, fun t => ?_, fun c x hc => ?_, fun g l hg => ?_, hvr, ?_, ?_, ?_⟩
  · by_cases htd : t = d
    · subst htd
      refine ⟨fp', hnd, fun g hg => if_pos hg, ?_⟩
      have e1 : (a.put (some t) u).tmps.getD t undef = u := getD_put_same a t u (by rw [R.n]; exact hd)
      rw [e1]
      simp only [dropS, if_true]
      exact .u (.one (hrep.up _ (fun e => by cases e)))
    · obtain ⟨fp, p1, p2, p3⟩ := R.tm t
      have e1 : (a.put (some d) u).tmps.getD t undef = a.tmps.getD t undef := getD_put a (some d) u t (fun e => htd (by cases e; rfl))
      refine ⟨fp, p1, fun g hg => ?_, ?_⟩
      · have h2 : g ∉ f2 := fun h => by have := hf2O g h; rw [p2 g hg] at this; cases this
        show (if g ∈ fp' then some (true, d) else if g ∈ f2 then none else if O g = some (true, d) then none else O g) = some (true, t)
        rw [if_neg (fun h => h2 (hnew g _ (p2 g hg) h)), if_neg h2, p2 g hg, if_neg (fun e => htd (by cases e; rfl))]
      · rw [e1]
        simp only [dropS, if_neg htd]
        exact p3.still (hn.1 t) fun g hg => own_keep g _ (p2 g hg) (by simp)
  · simp only [dropS] at hc
    split at hc
    · cases hc
    · rename_i hcb
      rcases R.bx c x hc with h | ⟨gb, arr2, T2, fz2, us2, p1, p2, p3⟩
      · exact .inl h
      · have hkk : ∀ g ∈ (K c).1 :: gb, w'.heap[g]? = w.heap[g]? ∧ V' g = V g := fun g hg => own_keep g _ (p2 g hg) (by simp [hcb])
        refine .inr ⟨gb, arr2, T2, fz2, us2, p1, fun g hg => ?_, ⟨(hkk _ List.mem_cons_self).1.trans p3.hp, p3.th, p3.pre, p3.rep.still (hn.2 c x hc) fun g hg => hkk g (by simp [hg]), by rw [(hkk _ List.mem_cons_self).2]; exact p3.vis, p3.var, p3.row⟩⟩
        have h2 : g ∉ f2 := fun h => by have := hf2O g h; rw [p2 g hg] at this; cases this; exact hcb rfl
        show (if g ∈ fp' then some (true, d) else if g ∈ f2 then none else if O g = some (true, d) then none else O g) = some (false, c)
        rw [if_neg (fun h => h2 (hnew g _ (p2 g hg) h)), if_neg h2, p2 g hg, if_neg (fun e => by cases e)]
  · split at hg
    · rename_i hp
      refine ⟨?_, hlt g hp⟩
      rcases hin g hp with h | h
      · exact (R.rg g _ (hf2O g h)).1
      · have := R.fr.sz; exact .inl (by omega)
    · split at hg
      · cases hg
      · split at hg
        · cases hg
        · exact ⟨(R.rg g l hg).1, Nat.lt_of_lt_of_le (R.rg g l hg).2 hfr.sz⟩
  · exact ⟨hfr.os.trans R.fr.os, hfr.tape.trans R.fr.tape, hfr.output.trans R.fr.output, Nat.le_trans R.fr.sz hfr.sz, fun g hg hM => by
      have h2 : g ∉ f2 := fun h => by
        rcases (R.rg g _ (hf2O g h)).1 with h' | h'
        · omega
        · exact hM h'
      rw [hfr.old g (Nat.lt_of_lt_of_le hg R.fr.sz) h2]; exact R.fr.old g hg hM, Nat.le_trans R.fr.dr hfr.dr⟩
  · refine ⟨fun g off ho => ?_, fun g => ?_, Nat.le_trans R.nx.sz hfr.sz⟩
    · rw [← R.nx.cell g off ho]
      have h2 : g ∉ f2 := fun h => by rw [hf2z g h] at ho; omega
      have hlt : g < w.heap.size := R.vr g (by have := R.nx.le g; omega)
      have := hfr.old g hlt h2
      simp only [World.cell?, this]
    · by_cases h0 : V0 g = 0
      · omega
      · have h2 : g ∉ f2 := fun h => h0 (hf2z g h)
        have hlt : g < w.heap.size := R.vr g (by have := R.nx.le g; omega)
        rw [hvo g hlt h2]; exact R.nx.le g
  · intro g hg hM
    have h2 : g ∉ f2 := fun h => by
      rcases (R.rg g _ (hf2O g h)).1 with h' | h'
      · omega
      · exact hM h'
    rw [hvo g (Nat.lt_of_lt_of_le hg R.fr.sz) h2]; exact R.vo g hg hM

/-- Two functions, one behind the other, make another own tree of an own tree. -/
def CutOk (P : Program) (f g : FuncId) (T T' : AV) : Prop :=
  ∀ (V : Nat → Nat) (w : World) (K : Nat → Nat × Nat) (fp : List Nat) (u : Value), Rep V w K false fp [u] [T] → fp.Nodup → (∀ x, 0 < V x → x < w.heap.size) →
    Calls P f #[u] w fun e w1 => ∃ u1, e = .returned u1 ∧ Calls P g #[u1] w1 fun e w' => ∃ u2, e = .returned u2 ∧ ∃ (V' : Nat → Nat) (fp' : List Nat), Fr w (fun x => x ∈ fp) w' ∧ Rep V' w' K false fp' [u2] [T'] ∧ fp'.Nodup ∧ (∀ x ∈ fp', x ∈ fp ∨ w.heap.size ≤ x) ∧
      (∀ x, 0 < V' x → x < w'.heap.size) ∧ ∀ x, x < w.heap.size → x ∉ fp → V' x = V x

/-- The four operations of a row's cut, read off: the move, two calls, the assignment. -/
def cutOfR (ops : Array Oper) : Option (Nat × FuncId × FuncId × Nat × Nat × Nat × Nat) :=
  match ops[0]?, ops[1]?, ops[2]?, ops[3]? with
  | some o0, some o1, some o2, some o3 =>
    match o0.op, o0.dst, o0.guard, calleeOf o1 botS, o1.dst, o1.guard with
    | .move (.tmp ta), some d0, none, some (f, [.tmp x], []), some d1, none =>
      match calleeOf o2 botS, o2.dst, o2.guard, o3.op, o3.dst, o3.guard with
      | some (g, [.tmp y], []), some d2, none, .assign (.tmp r), some da, none =>
        if ops.size = 4 ∧ x = d0 ∧ y = d1 ∧ r = d2 then some (ta, f, g, d0, d1, d2, da) else none
      | _, _, _, _, _, _ => none
    | _, _, _, _, _, _ => none
  | _, _, _, _ => none
def cutS (b : Nat) (T : AV) (m : AV) (d0 d1 d2 da : Nat) (s : S) : S := dropS b da T (stT d2 .bad (stT d1 .bad (stT d0 m s)))

theorem eval_put_ne {d t : Nat} (h : t ≠ d) (v : Value) : (a.put (some d) v).eval (.tmp t) = a.eval (.tmp t) := eval_put_other (Ne.symm h) v
theorem mc_cut (hG : ∀ M V0 w0, G M V0 w0 → ∀ g, (w0.heap.size ≤ g ∨ M g) → V0 g = 0) {id ta f g d0 d1 d2 da b n sz : Nat} (hm : cutOfR ops = some (ta, f, g, d0, d1, d2, da)) (hf : isFn P f = true) (hg' : isFn P g = true)
    {st : Bool} {cs : List AV} {T : AV} (ht : s.t ta = .msl b n) (hb : s.b b = some ⟨st, sz, cs⟩) (hn : nlkS s) (hsz : sz ≠ 0) (hl : cs.length = n * sz) (hT : CutOk P f g (.sl true sz n cs) T) :
    MC P G (.region id ops false) s .nor (cutS b T (.msl b n) d0 d1 d2 da s) := by
  intro N w0 M V0 V K O a w hg hok R Q hQ
  refine wp_region ?_
  unfold cutOfR at hm
  split at hm
  · rename_i o0 o1 o2 o3 i0 i1 i2 i3
    split at hm
    · rename_i q0 q1 q2 p0 p1 p2
      split at hm
      · rename_i r0 r1 r2 r3 r4 r5
        simp only [Option.ite_none_right_eq_some, Option.some.injEq, Prod.mk.injEq] at hm
        obtain ⟨⟨z, x1, x2, x3⟩, e1, e2, e3, e4, e5, e6, e7⟩ := hm
        subst x1 x2 x3
        replace e1 := e1.symm; replace e2 := e2.symm; replace e3 := e3.symm; replace e4 := e4.symm; replace e5 := e5.symm; replace e6 := e6.symm; replace e7 := e7.symm
        subst e1 e2 e3 e4 e5 e6 e7
        obtain ⟨fn, c, hfn, hbd, hnm⟩ := isFn_of hf
        obtain ⟨fn', c', hfn', hbd', hnm'⟩ := isFn_of hg'
        have hN : ∀ (i : Nat) (o : Oper) (d : Nat), ops[i]? = some o → o.dst = some d → d < N := fun i o d h e => by
          simp only [codeOk, opsOk, Array.all_eq_true_iff_forall_mem] at hok
          have := hok o (Array.mem_of_getElem? h)
          rw [e] at this; simpa using this
        rw [show List.range ops.size = [0, 1, 2, 3] by rw [z]; rfl]
        have hd0 := hN _ _ _ i0 q1
        have hd1 := hN _ _ _ i1 p1
        have hd2 := hN _ _ _ i2 r1
        have hda := hN _ _ _ i3 r4
        have hN1 := R.n
        obtain ⟨fq, -, -, h3⟩ := R.tm ta
        rw [ht] at h3
        have hfq := (inv_msl h3).1
        subst hfq
        obtain ⟨O2, R2⟩ := R.stT d0 hd0 (.msl b n) (a.eval (.tmp ta)) h3
        refine wpOps_val i0 q2 (v := a.eval (.tmp ta)) (w' := w) (by simp [execOp, q0]) ?_
        rw [q1]
        have hn3 : nlkS (stT d0 (.msl b n) s) := ⟨fun t => by
          simp only [stT]
          split
          · rfl
          · exact hn.1 t, hn.2⟩
        have ht3 : (stT d0 (.msl b n) s).t d0 = .msl b n := stT_same _ _ _
        obtain ⟨V1, f2, hrep, hnd, hvr1, hO2, hV1⟩ := lendC R2 hn3 ht3 hb hsz hl
        refine wpOps_call i1 p2 (f := f) (args := #[(a.put (some d0) (a.eval (.tmp ta))).eval (.tmp d0)]) (by rw [call_run R2.df p0 hfn hbd hnm]; rfl) ?_
        refine Calls.mono (hT V1 w K f2 _ hrep hnd hvr1) fun e w1 ⟨u1, he, hcall⟩ => ⟨u1, he, ?_⟩
        rw [p1]
        have hs1 : d1 < (a.put (some d0) (a.eval (.tmp ta))).tmps.size := by rw [put_size, hN1]; exact hd1
        refine wpOps_call i2 r2 (f := g) (args := #[u1]) (by rw [call_run (by rw [put_defers]; exact R2.df) r0 hfn' hbd' hnm']; simp only [List.map_cons, List.map_nil, eval_put_same hs1]) ?_
        refine Calls.mono hcall fun e w2 ⟨u2, he2, V', fp', hfr, hrep', hnd', hin, hvr', hvo⟩ => ⟨u2, he2, ?_⟩
        rw [r1]
        have hs2 : d2 < ((a.put (some d0) (a.eval (.tmp ta))).put (some d1) u1).tmps.size := by rw [put_size, put_size, hN1]; exact hd2
        refine wpOps_val i3 r5 (v := u2) (w' := w2) (by simp only [execOp, r3, eval_put_same hs2]; rfl) ?_
        rw [r4]
        have R3 := rel_gone R2 d1 hd1 u1
        have R4 := rel_gone R3 d2 hd2 u2
        have hn4 : nlkS (stT d2 .bad (stT d1 .bad (stT d0 (.msl b n) s))) := ⟨fun t => by
          simp only [stT]
          split
          · rfl
          · split
            · rfl
            · exact hn3.1 t, hn.2⟩
        obtain ⟨O5, R5⟩ := rel_take R4 (hG _ _ _ hg) hn4 hda (f2 := f2) (fun x hx => by
          show (if (if O2 x = some (true, d1) then none else O2 x) = some (true, d2) then none else if O2 x = some (true, d1) then none else O2 x) = _
          rw [hO2 x hx]; rfl) hfr (fun x hx hni => (hvo x hx hni).trans (hV1 x hni)) hvr' hin hnd' hrep'
        exact hQ _ _ _ _ _ R5 fun _ _ => rfl
      · cases hm
    · cases hm
  · cases hm
end

variable {P : Program} {H : Hints} {Y : FuncId → List AV → (Nat → Option Box) → AV → (Nat → Option Box) → Prop} {fid : FuncId}

/-- A local row is sorted. -/
theorem x_sort {k : List Td} {Q : X → L → Prop} {l : L} {c : Code} {f ta dl dr b n z g : Nat} {st : Bool} {cs cs' : List AV} {rv : Value}
    (hfl : H.fl fid = true) (hzc : ∀ c s s', MC P (Gd H fid) c s .nor s' → H.zc fid c s s')
    (hr : (Code.isRegion false c, sortOfR (Code.opsOf c), isFn P f) = (true, some (ta, f, dl, dr, g), true))
    (hs : (l.get ta, lookup dl l.ts, lookup dr l.ts) = (.msl b n, none, none))
    (hb : lookup b l.bs = some ⟨st, z, cs⟩) (hn : nlkLs l = true) (hz : z ≠ 0) (hl : cs.length = n * z) (hl' : cs'.length = n * z) (hn' : nlkL cs' = true)
    (hT : TurnOk P f (fun u => #[u, .func (.func g) #[] #[]]) (.sl true z n cs) rv (.sl true z n cs'))
    (hw : Wk P H Y fid k Q ⟨l.ts, (b, ⟨st, z, cs'⟩) :: l.bs⟩) : Wk P H Y fid (.code c :: k) Q l := by
  simp only [Prod.mk.injEq] at hr hs
  obtain ⟨r1, r2, r3⟩ := hr
  obtain ⟨s1, s3, s4⟩ := hs
  have hmc : MC P (Gd H fid) c l.toS .nor (sortS b ⟨st, z, cs'⟩ (.msl b n) dl dr l.toS) := by
    cases c <;> simp [Code.isRegion] at r1
    subst r1
    exact mc_sort (fun M V0 w0 h => h.2 hfl) r2 r3 s1 hb (nlkLs_ok hn) hz hl hl' hn' hT
  refine x_zone r1 (hzc _ _ _ hmc) (u := ⟨l.ts, (b, ⟨st, z, cs'⟩) :: l.bs⟩) ⟨fun i => ?_, fun j y hy => ?_⟩ hw
  · rw [L.toS_t]
    simp only [sortS, stT, setBx]
    by_cases hr : i = dr
    · subst hr; rw [s4]; exact .inl (.inl (.inr (.inl rfl)))
    · rw [if_neg hr]
      by_cases hl : i = dl
      · subst hl; rw [s3]; exact .inl (.inl (.inr (.inl rfl)))
      · rw [if_neg hl, L.toS_t]; exact .inl (.inl (.inl rfl))
  · rw [L.toS_b] at hy
    simp only [lookup] at hy
    simp only [sortS, stT, setBx]
    by_cases hb' : b = j
    · subst hb'
      simp only [if_true, Option.some.injEq] at hy
      subst hy
      exact ⟨_, if_pos rfl, rfl, rfl, wkCs_refl _⟩
    · rw [if_neg hb'] at hy
      rw [if_neg (fun e => hb' e.symm)]
      exact ⟨y, by rw [L.toS_b]; exact hy, rfl, rfl, wkCs_refl _⟩
theorem lookup_no {α : Type} (b j : Nat) : ∀ l : List (Nat × α), lookup j (l.filter fun q => q.1 != b) = if j = b then none else lookup j l
  | [] => by simp [lookup]
  | (i, x) :: l => by
    rw [List.filter_cons]
    by_cases hi : i = b
    · subst hi
      rw [if_neg (by simp), lookup_no i j l]
      by_cases hj : j = i
      · rw [if_pos hj, if_pos hj]
      · rw [if_neg hj, if_neg hj]; simp only [lookup]; rw [if_neg (fun e => hj e.symm)]
    · rw [if_pos (by simpa using hi)]
      simp only [lookup]
      rw [lookup_no b j l]
      by_cases hj : i = j
      · subst hj; rw [if_pos rfl, if_neg hi, if_pos rfl]
      · rw [if_neg hj, if_neg hj]
/-- A local row is cut, and goes to a slot. -/
theorem x_cut {k : List Td} {Q : X → L → Prop} {l : L} {c : Code} {f g ta d0 d1 d2 da b n z : Nat} {st : Bool} {cs : List AV} {T : AV}
    (hfl : H.fl fid = true) (hzc : ∀ c s s', MC P (Gd H fid) c s .nor s' → H.zc fid c s s')
    (hr : (Code.isRegion false c, cutOfR (Code.opsOf c), isFn P f, isFn P g) = (true, some (ta, f, g, d0, d1, d2, da), true, true))
    (hs : (l.get ta, lookup d0 l.ts, lookup d1 l.ts, lookup d2 l.ts) = (.msl b n, none, none, none))
    (hb : lookup b l.bs = some ⟨st, z, cs⟩) (hn : nlkLs l = true) (hz : z ≠ 0) (hl : cs.length = n * z)
    (hT : CutOk P f g (.sl true z n cs) T)
    (hw : Wk P H Y fid k Q ⟨(da, T) :: l.ts, l.bs.filter fun q => q.1 != b⟩) : Wk P H Y fid (.code c :: k) Q l := by
  simp only [Prod.mk.injEq] at hr hs
  obtain ⟨r1, r2, r3, r4⟩ := hr
  obtain ⟨s1, s3, s4, s5⟩ := hs
  have hmc : MC P (Gd H fid) c l.toS .nor (cutS b T (.msl b n) d0 d1 d2 da l.toS) := by
    cases c <;> simp [Code.isRegion] at r1
    subst r1
    exact mc_cut (fun M V0 w0 h => h.2 hfl) r2 r3 r4 s1 hb (nlkLs_ok hn) hz hl hT
  refine x_zone r1 (hzc _ _ _ hmc) (u := ⟨(da, T) :: l.ts, l.bs.filter fun q => q.1 != b⟩) ⟨fun i => ?_, fun j y hy => ?_⟩ hw
  · rw [L.toS_t]
    simp only [lookup, cutS, dropS, stT]
    by_cases ha : da = i
    · subst ha; simp only [if_true]; exact .inl (.inl (.inl rfl))
    · rw [if_neg ha, if_neg (fun e => ha e.symm)]
      by_cases h2 : i = d2
      · subst h2; rw [s5]; exact .inl (.inl (.inr (.inl rfl)))
      · rw [if_neg h2]
        by_cases h1 : i = d1
        · subst h1; rw [s4]; exact .inl (.inl (.inr (.inl rfl)))
        · rw [if_neg h1]
          by_cases h0 : i = d0
          · subst h0; rw [s3]; exact .inl (.inl (.inr (.inl rfl)))
          · rw [if_neg h0, L.toS_t]; exact .inl (.inl (.inl rfl))
  · rw [L.toS_b] at hy
    change lookup j (l.bs.filter fun q => q.1 != b) = some y at hy
    rw [lookup_no] at hy
    split at hy
    · cases hy
    · rename_i hj
      simp only [cutS, dropS, stT]
      rw [if_neg hj]
      exact ⟨y, by rw [L.toS_b]; exact hy, rfl, rfl, wkCs_refl _⟩
end Evl

/-! Ewt -/
namespace EvlC.Cmpct
open Go Go.Proofs Go.Shelf Go.RowKit Go.Lib Go.Sort
theorem flatK_set {α : Type} [Inhabited α] {enc : α → List Value} {k : Nat} (hk : ∀ x, (enc x).length = k) (d : Array α) (i : Nat) (hi : i < d.size) (x : α) : setMany (flatK enc k d) (i * k) (enc x) = flatK enc k (d.setIfInBounds i x) := by
  refine ext_get! (by simp) fun t ht => ?_
  have ht' : t < d.size * k := by simpa using ht
  have k0 : 0 < k := Nat.pos_of_ne_zero fun h => by subst h; simp at ht'
  rw [get_setMany _ _ _ t (by simpa using ht'), get_flatK _ _ _ t ht', get_flatK _ _ _ t (by simpa using ht'), hk]
  by_cases a : t / k = i
  · rw [if_pos ((blk_iff k i t k0).2 a), a, getElem!_set_same d i x hi]
    have : t - i * k = t % k := by subst a; rw [Nat.mod_eq_sub_div_mul]
    rw [this]
  · rw [if_neg (fun h => a ((blk_iff k i t k0).1 h)), getElem!_set_other d i _ x a]

variable {P : Program} {ρ : Ren} {α : Type} [Inhabited α] [DecidableEq α]

structure Lays (P : Program) (ρ : Ren) (k : Nat) : Prop where
  mixed : P.follows .mixedOrders = true
  f43 : Bears P (ρ.f 43) (SlBodyN.n43 ρ)
  t0 : P.underlying (ρ.t 0) = some (TypeDesc.tuple #[])
  a0 : ∀ w, (isAgg (ρ.t 0)).run P w = .ok false w
  z0 : ∀ w, (Go.sizeOf (ρ.t 0)).run P w = .ok 1 w
  v0 : ∀ w, (zeroValue (ρ.t 0)).run P w = .ok (Value.tuple #[]) w
  t3 : P.underlying (ρ.t 3) = some (TypeDesc.int IntKind.i64)
  a3 : ∀ w, (isAgg (ρ.t 3)).run P w = .ok false w
  z3 : ∀ w, (Go.sizeOf (ρ.t 3)).run P w = .ok 1 w
  v3 : ∀ w, (zeroValue (ρ.t 3)).run P w = .ok (Value.int IntKind.i64 0) w
  t4 : P.underlying (ρ.t 4) = some (TypeDesc.bool)
  a4 : ∀ w, (isAgg (ρ.t 4)).run P w = .ok false w
  z4 : ∀ w, (Go.sizeOf (ρ.t 4)).run P w = .ok 1 w
  v4 : ∀ w, (zeroValue (ρ.t 4)).run P w = .ok (Value.bool false) w
  t22 : P.underlying (ρ.t 22) = some (TypeDesc.slice (ρ.t 23))
  a22 : ∀ w, (isAgg (ρ.t 22)).run P w = .ok false w
  z22 : ∀ w, (Go.sizeOf (ρ.t 22)).run P w = .ok 1 w
  v22 : ∀ w, (zeroValue (ρ.t 22)).run P w = .ok (Value.slice none 0 0) w
  a23 : ∀ w, (isAgg (ρ.t 23)).run P w = .ok true w
  z23 : ∀ w, (Go.sizeOf (ρ.t 23)).run P w = .ok k w

/-- A slice of structs is cleared. -/
theorem run_clear (w : World) (t e ty : TypeId) (z : Array Value) (ht : P.underlying t = some (.slice e)) (hv : ∀ w, (zeroValue e).run P w = .ok (.agg z) w) (h1 : ∀ v ∈ z.toList, v.oneCell' = true) (hz : 0 < z.size) (b o n c : Nat) (hn : 0 < n)
    (hc : ∀ j, j < n * z.size → (w.cell? ⟨b, o + j, none⟩).isSome = true) (hf : ∀ j, j < n * z.size → w.frozen? ⟨b, o + j, none⟩ = false) :
    (Builtin.clear_ #[t] ty #[.slice (some ⟨b, o, none⟩) n c]).run P w = .ok (.tuple #[]) (w.setCells b o (Builtin.zeroCells z n).toList) := by
  have hlen : (Builtin.zeroCells z n).toList.length = n * z.size := by simp [Builtin.zeroCells]
  have hst := run_storeCells_cells (P := P) b o (Builtin.zeroCells z n).toList 0 w (by rw [hlen]; simpa using hc) (by rw [hlen]; simpa using hf) (by
    intro v hv'
    simp only [Builtin.zeroCells, Array.toList_map, List.mem_map, Array.mem_toList_iff, Array.mem_range] at hv'
    obtain ⟨i, hi, rfl⟩ := hv'
    have : i % z.size < z.size := Nat.mod_lt _ hz
    rw [getElem!_pos z _ this]
    exact h1 _ (by simp))
  simp only [Nat.add_zero] at hst
  obtain ⟨m, rfl⟩ : ∃ m, n = m + 1 := ⟨n - 1, by omega⟩
  simp [Builtin.clear_, run_underlying ht, hv, Value.cells, hst]

/-- What the row holds behind Compact: the elements kept, at its head. -/
def Kept (enc : α → List Value) (k : Nat) (w : World) (blk off : Nat) (d : Array α) (w' : World) : Prop :=
  ∃ q F, w' = putRow id (Sort.ahead w q) blk off F ∧ F.size = d.size * k ∧ ∀ t, t < (compactUpTo d d.size).length * k → F[t]! = (enc ((compactUpTo d d.size)[t / k]!))[t % k]!

set_option maxHeartbeats 4000000 in
set_option maxRecDepth 1000000 in
theorem slices_Compact {k : Nat} (L : Lays P ρ k) (hk0 : 0 < k) (enc : α → List Value) (hk : ∀ x, (enc x).length = k) (h1 : ∀ x, ∀ v ∈ enc x, v.oneCell' = true) (heq' : ∀ (x y : α) (w : World), Sem.run P (binOp .eql (ρ.t 23) (.agg (enc x).toArray) (.agg (enc y).toArray)) w = .ok (.bool (decide (x = y))) w) (hne' : ∀ (x y : α) (w : World), Sem.run P (binOp .neq (ρ.t 23) (.agg (enc x).toArray) (.agg (enc y).toArray)) w = .ok (.bool (!decide (x = y))) w) (hgd' : ∀ (op : BinOp) (a b : Operand) (x y : α) (w : World), Sem.run P (eqGuard op (ρ.t 23) a b (.agg (enc x).toArray) (.agg (enc y).toArray)) w = .ok () w) (zr : α) (v23 : ∀ w, (zeroValue (ρ.t 23)).run P w = .ok (.agg (enc zr).toArray) w) (blk off cap : Nat) (d : Array α) (w : World) (hH : HoldsK enc k w blk off d) (hsz : d.size ≤ 4611686018427387904) (hcap : d.size ≤ cap) :
    Calls P (ρ.f 43) #[.slice (some ⟨blk, off, none⟩) d.size cap] w fun e w' => e = .returned (.slice (some ⟨blk, off, none⟩) (compactUpTo d d.size).length cap) ∧ Kept enc k w blk off d w' := by
  have mixed := L.mixed; have t0 := L.t0; have a0 := L.a0; have z0 := L.z0; have v0 := L.v0; have t3 := L.t3; have a3 := L.a3; have z3 := L.z3; have v3 := L.v3; have t4 := L.t4; have a4 := L.a4; have z4 := L.z4; have v4 := L.v4; have t22 := L.t22; have a22 := L.a22; have z22 := L.z22; have v22 := L.v22; have a23 := L.a23; have z23 := L.z23
  have same : ∀ q, (∀ j, j < d.size → keeps d j = true) → (compactUpTo d d.size).length = d.size ∧ Kept enc k w blk off d (w.drewN q) := by
    intro q hall
    have e : compactUpTo d d.size = d.toList := by rw [compactUpTo_all d _ hall, range_map_get]
    refine ⟨by rw [e]; simp, q, flatK enc k d, (putRowK_self enc k (Sort.ahead w q) blk off d (holdsK_ahead enc k w q blk off d hH)).symm, by simp, fun t ht => ?_⟩
    rw [e] at ht ⊢
    have hi : t / k < d.size := (Nat.div_lt_iff_lt_mul hk0).2 (by simpa using ht)
    rw [get_flatK enc k d t (by simpa using ht), getElem!_pos d _ hi, getElem!_pos d.toList _ (by simpa using hi)]
    rfl
  have HS : Aside (∀ q, (∀ j, j < d.size → keeps d j = true) → (compactUpTo d d.size).length = d.size ∧ Kept enc k w blk off d (w.drewN q)) := same
  clear same
  by_cases h2 : d.size < 2
  · have HH : Aside (HoldsK enc k w blk off d) := hH
    clear hH
    obtain ⟨_, _, FG⟩ := L.f43
    go_enter FG, SlBodyN.n43_ntmps ρ
    go_wp2
    go_ret
    obtain ⟨e1, e2⟩ := HS.out 0 (fun j hj => keeps_lt_one d j (by omega))
    exact ⟨by rw [e1]; rfl, e2⟩
  · obtain ⟨_, _, FG⟩ := L.f43
    have HK : Hid (∀ x, (enc x).length = k) := hk
    have H1 : Hid (∀ x, ∀ v ∈ enc x, v.oneCell' = true) := h1
    have HH : Hid (HoldsK enc k w blk off d) := hH
    clear hH hk h1
    go_enter FG, SlBodyN.n43_ntmps ρ
    go_wp2
    go_loopg [3] d.size (fun g s3 wr => ∃ kp q : Nat, kp + 1 ≤ d.size ∧ d.size - (kp + 1) ≤ g ∧ s3 = .int .i64 ((kp : Int) + 1) ∧ wr = w.drewN q ∧ Aside (∀ j, j < kp + 1 → keeps d j = true))
    case atStart => exact ⟨0, 0, by omega, by omega, rfl, rfl, (show Aside _ from keeps_lt_one d)⟩
    case round =>
      obtain ⟨kp, q, hkp, hg, rfl, rfl, A⟩ := hrel
      by_cases hlt : kp + 1 < d.size
      · have hltz : (kp : Int) + 1 < (d.size : Int) := by omega
        have hwp : IntKind.i64.wrap (kp : Int) = (kp : Int) := by rw [IntKind.wrap_i64]; omega
        have p0 : (0 : Int) ≤ (kp : Int) + 1 := by omega
        have jz1 : (kp : Int) < (d.size : Int) := by omega
        have e0 : ((kp : Int) + 1).toNat = kp + 1 := by omega
        have hHq : ∀ m, HoldsK enc k ((w.drewN q).drewN m) blk off d := fun m => by rw [World.drewN_drewN]; exact HH.out
        have l1 : ∀ m, Sem.run P (loadCellsFrom ⟨blk, off + (kp + 1) * k, none⟩ 0 k #[]) ((w.drewN q).drewN m) = .ok (enc d[kp + 1]!).toArray ((w.drewN q).drewN m) := fun m => run_loadCellsFrom_list P _ _ _ k (HK.out _) (HoldsK.cells (hHq m) HK.out hlt)
        have l0 : ∀ m, Sem.run P (loadCellsFrom ⟨blk, off + kp * k, none⟩ 0 k #[]) ((w.drewN q).drewN m) = .ok (enc d[kp]!).toArray ((w.drewN q).drewN m) := fun m => run_loadCellsFrom_list P _ _ _ k (HK.out _) (HoldsK.cells (hHq m) HK.out (by omega))
        clear hHq
        generalize hx : d[kp + 1]! = x at l1
        generalize hy : d[kp]! = y at l0
        have B : Aside (d[kp + 1]! = x ∧ d[kp]! = y) := ⟨hx, hy⟩
        clear hx hy
        generalize hwq : w.drewN q = wq at l0 l1 ⊢
        by_cases hdup : x = y
        · subst hdup
          go_wp2_with fail
          go_quiet_o (fail)
          go_wp2
          clear l0 l1
          go_loopg [3, 5] d.size (fun g s3 s5 wr => ∃ (kk k2 q2 : Nat) (dk : Array α), s3 = .int .i64 kk ∧ s5 = .int .i64 ((k2 : Int) + 1) ∧ kp + 1 + (k2 + 1) ≤ d.size ∧ d.size - (kp + 1 + (k2 + 1)) ≤ g ∧ wr = putRowK enc k (Sort.ahead w q2) blk off dk ∧ Aside (CompInv d (kp + 1 + (k2 + 1)) kk dk))
          case atStart => exact ⟨kp + 1, 0, q + nq, d, by go_num, by go_num, by omega, by omega, by rw [putRowK_self enc k (Sort.ahead w (q + nq)) blk off d (holdsK_ahead enc k w (q + nq) blk off d HH.out), ← hwq, World.drewN_drewN]; rfl, (show Aside _ from CompInv.start A.out (keeps_neg (by omega) (by rw [B.out.1, show kp + 1 - 1 = kp from rfl, B.out.2])))⟩
          case round =>
            obtain ⟨kk, k2, q2, dk, rfl, rfl, hle, hg2, hwr, I2⟩ := hrel
            have hkk := I2.out.lt
            have hds := I2.out.size
            have W2 : Aside (wr = putRowK enc k (Sort.ahead w q2) blk off dk) := hwr
            have hHk : ∀ m, HoldsK enc k (wr.drewN m) blk off dk := fun m => by
              rw [hwr, putRowK_drewN]
              exact holdsK_putRowK enc k _ blk off d dk (holdsK_ahead enc k w (q2 + m) blk off d HH.out) hds
            have HQ : Aside (∀ m, HoldsK enc k (wr.drewN m) blk off dk) := hHk
            clear hwr hHk
            by_cases hlt2 : kp + 1 + (k2 + 1) < d.size
            · have hb2 : (k2 : Int) + 1 < (d.size : Int) - ((kp : Int) + 1) := by omega
              have hwp2 : IntKind.i64.wrap (k2 : Int) = (k2 : Int) := by rw [IntKind.wrap_i64]; omega
              have p2 : (0 : Int) ≤ (k2 : Int) + 1 := by omega
              have jz2 : (k2 : Int) < (d.size : Int) - ((kp : Int) + 1) := by omega
              have e2 : ((k2 : Int) + 1).toNat = k2 + 1 := by omega
              have jz3 : (k2 : Int) < ((d.size - (kp + 1) : Nat) : Int) := by omega
              have jz4 : k2 < d.size - (kp + 1) := by omega
              have m1 : ∀ m, Sem.run P (loadCellsFrom ⟨blk, off + (kp + 1) * k + (k2 + 1) * k, none⟩ 0 k #[]) (wr.drewN m) = .ok (enc d[kp + 1 + (k2 + 1)]!).toArray (wr.drewN m) := fun m => by
                have := run_loadCellsFrom_list P _ _ _ k (HK.out _) (HoldsK.cells (HQ.out m) HK.out (i := kp + 1 + (k2 + 1)) (by omega))
                rwa [I2.out.high _ (by omega), Nat.add_mul (kp + 1) (k2 + 1), ← Nat.add_assoc] at this
              have m0 : ∀ m, Sem.run P (loadCellsFrom ⟨blk, off + (kp + 1) * k + k2 * k, none⟩ 0 k #[]) (wr.drewN m) = .ok (enc d[kp + 1 + k2]!).toArray (wr.drewN m) := fun m => by
                have := run_loadCellsFrom_list P _ _ _ k (HK.out _) (HoldsK.cells (HQ.out m) HK.out (i := kp + 1 + k2) (by omega))
                rwa [I2.out.high _ (by omega), Nat.add_mul (kp + 1) k2, ← Nat.add_assoc] at this
              have sS : ∀ m, Sem.run P (storeCells ⟨blk, off + kk * k, none⟩ (enc d[kp + 1 + (k2 + 1)]!) 0) (wr.drewN m) = .ok () ((wr.drewN m).setCells blk (off + kk * k) (enc d[kp + 1 + (k2 + 1)]!)) := fun m =>
                stores_of_holds P (HQ.out m) (kk * k) _ (by
                  rw [HK.out, size_flatK]
                  have := Nat.mul_le_mul_right k (show kk + 1 ≤ dk.size by omega); rwa [Nat.add_mul, Nat.one_mul] at this) (H1.out _)
              have hsu : (enc d[kp + 1 + (k2 + 1)]!).length = k := HK.out _
              generalize hu : d[kp + 1 + (k2 + 1)]! = u at m1 sS hsu
              generalize hv : d[kp + 1 + k2]! = v at m0
              have C : Aside (d[kp + 1 + (k2 + 1)]! = u ∧ d[kp + 1 + k2]! = v) := ⟨hu, hv⟩
              clear hu hv
              have hkz : (kk : Int) < (d.size : Int) := by omega
              by_cases huv : u = v
              · subst huv
                go_wp2_with fail
                go_quiet_o (fail)
                go_wp2
                go_roundg (d.size - (kp + 1 + (k2 + 1 + 1)))
                case measure => omega
                case rel => exact ⟨kk, k2 + 1, q2 + nq, dk, rfl, by go_num, by omega, Nat.le_refl _, by rw [W2.out, putRowK_drewN], (show Aside _ from I2.out.skip (keeps_neg (by omega) (by rw [C.out.1, show kp + 1 + (k2 + 1) - 1 = kp + 1 + k2 from rfl, C.out.2])))⟩
              · go_wp2_with fail
                go_quiet_o (fail)
                go_wp2
                go_roundg (d.size - (kp + 1 + (k2 + 1 + 1)))
                case measure => omega
                case rel =>
                  refine ⟨kk + 1, k2 + 1, q2 + nq, dk.setIfInBounds kk u, by go_num, by go_num, by omega, Nat.le_refl _, ?_, (show Aside _ from ?_)⟩
                  · rw [W2.out, putRowK_drewN]
                    unfold putRowK
                    rw [setCells_putRow _ _ _ _ _ _ (by
                      rw [HK.out, size_flatK]
                      have := Nat.mul_le_mul_right k (show kk + 1 ≤ dk.size by omega); rwa [Nat.add_mul, Nat.one_mul] at this), flatK_set HK.out dk kk (by omega)]
                  · have := I2.out.keep hlt2 (keeps_pos (by rw [C.out.1, show kp + 1 + (k2 + 1) - 1 = kp + 1 + k2 from rfl, C.out.2]; exact huv))
                    rwa [C.out.1] at this
            · have hend : kp + 1 + (k2 + 1) = d.size := by omega
              have hb2 : ¬ (k2 : Int) + 1 < (d.size : Int) - ((kp : Int) + 1) := by omega
              have hb3 : ¬ (k2 : Int) + 1 < ((d.size - (kp + 1) : Nat) : Int) := by omega
              have hkz : (kk : Int) ≤ (d.size : Int) := by omega
              have hkz2 : kk ≤ d.size := by omega
              have hzs : (enc zr).toArray.size = k := by rw [List.size_toArray, HK.out]
              have hH0 : HoldsK enc k wr blk off dk := HQ.out 0
              have hin : ∀ j, j < (d.size - kk) * (enc zr).toArray.size → kk * k + j < (flatK enc k dk).size := fun j hj => by
                rw [hzs] at hj
                rw [size_flatK, hds]
                have : kk * k + (d.size - kk) * k = d.size * k := by rw [← Nat.add_mul]; congr 1; omega
                omega
              have hcl : ∀ ty, (Builtin.clear_ #[ρ.t 22] ty #[.slice (some ⟨blk, off + kk * k, none⟩) (d.size - kk) (cap - kk)]).run P wr = .ok (.tuple #[]) (wr.setCells blk (off + kk * k) (Builtin.zeroCells (enc zr).toArray (d.size - kk)).toList) :=
                fun ty => run_clear wr _ _ ty _ t22 v23 (by simpa using H1.out zr) (by rw [hzs]; exact hk0) blk (off + kk * k) _ _ (by omega) (fun j hj => by rw [Nat.add_assoc, (hH0 (kk * k + j) (hin j hj)).1]; rfl) (fun j hj => by rw [Nat.add_assoc]; exact (hH0 (kk * k + j) (hin j hj)).2)
              have HI : Aside (∀ j, j < (d.size - kk) * (enc zr).toArray.size → kk * k + j < (flatK enc k dk).size) := hin
              clear hin hH0
              go_wp2
              go_ret
              have hI := I2.out
              rw [hend] at hI
              refine ⟨by rw [hI.len]; rfl, q2, setMany (flatK enc k dk) (kk * k) (Builtin.zeroCells (enc zr).toArray (d.size - kk)).toList, ?_, by rw [size_setMany, size_flatK, hds], fun t ht => ?_⟩
              · rw [W2.out]
                exact setCells_putRow _ _ _ _ _ _ (by
                  simp only [Builtin.zeroCells, Array.length_toList, Array.size_map, Array.size_range]
                  rw [hzs, size_flatK, hds, ← Nat.add_mul]
                  exact Nat.mul_le_mul_right _ (by omega))
              · rw [hI.len] at ht
                have htd : t < dk.size * k := Nat.lt_of_lt_of_le ht (Nat.mul_le_mul_right _ (by omega))
                have hlo := hI.low (t / k) ((Nat.div_lt_iff_lt_mul hk0).2 ht)
                rw [get_setMany _ _ _ t (by simpa using htd), if_neg (by omega), get_flatK _ _ _ t htd]
                have : (compactUpTo d d.size)[t / k]! = dk[t / k]! := by
                  rw [List.getElem!_eq_getElem?_getD, hlo]; rfl
                rw [this]
        · go_wp2_with fail
          go_quiet_o (fail)
          go_wp2
          go_roundg (d.size - (kp + 1 + 1))
          case measure => omega
          case rel =>
            refine ⟨kp + 1, q + nq, by omega, Nat.le_refl _, by go_num, by rw [← hwq, World.drewN_drewN], (show Aside _ from fun j hj => ?_)⟩
            by_cases e : j = kp + 1
            · subst e
              exact keeps_pos (by rw [B.out.1, show kp + 1 - 1 = kp from rfl, B.out.2]; exact hdup)
            · exact A.out j (by omega)
      · have hkd : kp + 1 = d.size := by omega
        have hltz : ¬ (kp : Int) + 1 < (d.size : Int) := by omega
        go_wp2
        go_ret
        obtain ⟨e1, e2⟩ := HS.out q (fun j hj => A.out j (by omega))
        exact ⟨by rw [e1]; rfl, e2⟩
end EvlC.Cmpct

/-! Ewu -/
namespace Evl
open Go

/-- What stays of a list: an element that is not the one ahead of it. -/
def once {α : Type} [Inhabited α] [DecidableEq α] (l : List α) : List α := Go.Lib.compactUpTo l.toArray l.length
theorem once_len {α : Type} [Inhabited α] [DecidableEq α] (l : List α) : (once l).length ≤ l.length := by
  unfold once Go.Lib.compactUpTo
  rw [List.length_map]
  exact Nat.le_trans (List.length_filter_le _ _) (by rw [List.length_range]; exact Nat.le_refl _)
/-- slices.Clip: the same elements, no more room. -/
structure ClipOk (P : Program) (f : FuncId) : Prop where
  atNil : ∀ w, Calls P f #[.slice none 0 0] w fun e w' => e = .returned (.slice none 0 0) ∧ w' = w
  atSome : ∀ (b n c : Nat) (w : World), n ≤ c → Calls P f #[.slice (some ⟨b, 0, none⟩) n c] w fun e w' => e = .returned (.slice (some ⟨b, 0, none⟩) n n) ∧ w' = w
/-- slices.Compact, then slices.Clip, of an own list. -/
theorem cut_turn {P : Program} {ρ : Go.Shelf.Ren} {α : Type} [Inhabited α] [DecidableEq α] {k : Nat} (L : EvlC.Cmpct.Lays P ρ k) (hk0 : 0 < k) (enc : α → List Value) (hk : ∀ x, (enc x).length = k) (hpl : ∀ x, ∀ v ∈ enc x, plain v = true)
    (heq' : ∀ (x y : α) (w : World), Sem.run P (binOp .eql (ρ.t 23) (.agg (enc x).toArray) (.agg (enc y).toArray)) w = .ok (.bool (decide (x = y))) w) (hne' : ∀ (x y : α) (w : World), Sem.run P (binOp .neq (ρ.t 23) (.agg (enc x).toArray) (.agg (enc y).toArray)) w = .ok (.bool (!decide (x = y))) w) (hgd' : ∀ (op : BinOp) (a b : Operand) (x y : α) (w : World), Sem.run P (eqGuard op (ρ.t 23) a b (.agg (enc x).toArray) (.agg (enc y).toArray)) w = .ok () w)
    (zr : α) (v23 : ∀ w, (zeroValue (ρ.t 23)).run P w = .ok (.agg (enc zr).toArray) w) {fD : FuncId} (hD : ClipOk P fD) (hnone : ∀ w, Calls P (ρ.f 43) #[.slice none 0 0] w fun e w' => e = .returned (.slice none 0 0) ∧ w' = w) (l : List α) (hsz : l.length ≤ 4611686018427387904) :
    CutOk P (ρ.f 43) fD (.sl true k l.length (flv enc l)) (.sl true k (once l).length (flv enc (once l))) := by
  intro V w K fp u hrep hnd hvr
  have h1 : ∀ x, ∀ v ∈ enc x, v.oneCell' = true := fun x v hv => by
    have := hpl x v hv
    cases v <;> simp_all [plain, Value.oneCell']
  have hpf : ∀ v ∈ (once l).flatMap enc, plain v = true := fun v hv => by
    obtain ⟨x, _, hx⟩ := List.mem_flatMap.1 hv
    exact hpl x v hx
  generalize hn : l.length = n at hrep
  generalize hc : flv enc l = cs at hrep
  cases hrep with
  | on h =>
    cases h
    have hl0 : l = [] := List.eq_nil_of_length_eq_zero hn
    subst hl0
    refine Calls.mono (hnone w) fun e w1 ⟨he, hw1⟩ => ⟨_, he, ?_⟩
    subst hw1
    refine Calls.mono (hD.atNil w1) fun e w' ⟨he, hw'⟩ => ⟨_, he, ?_⟩
    subst hw'
    have e0 : once ([] : List α) = [] := List.eq_nil_of_length_eq_zero (Nat.le_zero.1 (once_len []))
    rw [e0]
    exact ⟨V, [], ⟨rfl, rfl, rfl, Nat.le_refl _, fun _ _ _ => rfl, Nat.le_refl _⟩, .on .nil, List.nodup_nil, by simp, hvr, fun _ _ _ => rfl⟩
  | @ow _ _ _ _ _ cap _ _ fq g T arr fz vs g1 g2 g3 g4 g5 g6 g7 g8 hin hrest =>
    cases hrest
    subst hc
    obtain ⟨rfl, rfl⟩ := rep_litv _ hin
    have hglt : g < w.heap.size := (Array.getElem?_eq_some_iff.1 g2).1
    have hca : n * k ≤ arr.size := Nat.le_trans (Nat.mul_le_mul_right _ g1) g4
    have hH : Go.Sort.HoldsK enc k w g 0 l.toArray := holds_of hk l g2 g3 (by rw [hn]; exact hca) g7
    have hm : (once l).length ≤ n := hn ▸ once_len l
    have hC := EvlC.Cmpct.slices_Compact L hk0 enc hk h1 heq' hne' hgd' zr v23 g 0 cap l.toArray w hH (by simpa using hsz) (by simpa [hn] using g1)
    rw [show l.toArray.size = n by simp [hn]] at hC
    refine Calls.mono hC fun e w1 ⟨he, q, F, hw1, hF, hFt⟩ => ⟨_, he, ?_⟩
    have eo : Go.Lib.compactUpTo l.toArray n = once l := by unfold once; rw [hn]
    rw [show l.toArray.size = n by simp [hn], eo] at hFt
    rw [show l.toArray.size = n by simp [hn]] at hF
    rw [eo]
    refine Calls.mono (hD.atSome g _ cap w1 (Nat.le_trans hm g1)) fun e w' ⟨he, hw'⟩ => ⟨_, he, ?_⟩
    subst hw'
    obtain ⟨r1, r2, r3⟩ := row_world F q #[] g2
    rw [Go.Sort.grow_empty] at r1 r2 r3
    refine ⟨fun x => if x = g then (once l).length * k else V x, [g], ?_, ?_, by simp, by simp, fun x hx => ?_, fun x _ hx => if_neg (by simpa using hx)⟩
    · rw [hw1]
      refine ⟨rfl, rfl, rfl, r3, fun x hx hni => r2 x hx (by simpa using hni), ?_⟩
      show w.drawn ≤ w.drawn + q
      omega
    · have hml : (once l).length * k ≤ arr.size := Nat.le_trans (Nat.mul_le_mul_right _ hm) hca
      have := Rep.ow (V := fun x => if x = g then (once l).length * k else V x) (w := w') (K := K) (m := false) (fp := []) (us := []) (cs := []) (n := (once l).length) (cap := (once l).length) (sz := k) (ds := flv enc (once l)) (fq := []) g T (Go.Sort.putCells id 0 F arr) fz ((once l).flatMap enc) (Nat.le_refl _) (by rw [hw1]; exact r1)
        (by unfold thawed at *; rw [putCells_size]; exact g3) (by rw [putCells_size]; exact hml) (flat_len hk _) (by omega)
        (fun j v hj => by
          have hj' : j < (once l).length * k := by rw [← flat_len hk]; exact (List.getElem?_eq_some_iff.1 hj).1
          rw [flat_get hk (once l) j hj'] at hj
          have e2 := hFt j hj'
          rw [← hj, putCells_get _ _ j (by rw [hF]; exact Nat.lt_of_lt_of_le hj' (Nat.mul_le_mul_right _ hm)) (by rw [hF]; exact hca), e2]
          simp)
        (by rw [if_pos rfl, flat_len hk]) (litv_rep _ hpf) .nil
      simpa using this
    · rw [hw1]
      have hx : 0 < (if x = g then (once l).length * k else V x) := hx
      split at hx
      · rename_i e; subst e; exact Nat.lt_of_lt_of_le hglt r3
      · exact Nat.lt_of_lt_of_le (hvr x hx) r3
end Evl

/-! Ewv -/
namespace Evl
open Go

/-- The model's '==' at a struct of numbers. -/
theorem struct_eq {P : Program} {t : TypeId} (E : EqS P t) (xs ys : List Value) (r : Bool) (hl : xs.length = ys.length) (hn : tsize P t = some xs.length) (hi : (xs.map AV.lit).all litInt = true) (hs : sameLits (xs.map AV.lit) (ys.map AV.lit) = some r) (w : World) :
    Sem.run P (binOp .eql t (.agg xs.toArray) (.agg ys.toArray)) w = .ok (.bool r) w ∧ Sem.run P (binOp .neq t (.agg xs.toArray) (.agg ys.toArray)) w = .ok (.bool (!r)) w ∧
      ∀ op a b, Sem.run P (eqGuard op t a b (.agg xs.toArray) (.agg ys.toArray)) w = .ok () w := by
  have hr := E.run w xs ys hl (by simpa using hn) hi hs
  refine ⟨?_, ?_, fun op a b => run_eqGuard_agg w op t a b xs.toArray ys.toArray E.g⟩
  · simp only [run_eql_struct, hr, Result.andThen_ok]
  · simp only [run_neq_struct, hr, Result.andThen_ok]
end Evl
namespace Evl.T
open Go Evl

theorem flv_f {τ : Type} (e : Enc τ) (enc : τ → List Value) (h : ∀ x, e.c x = (enc x).map AV.lit) (l : List τ) : flv enc l = e.f l := by
  rw [e.hf]
  unfold flv
  induction l with
  | nil => rfl
  | cons x l ih => rw [List.flatMap_cons, List.map_append, ih, ← h]; rfl
def cmpI (a b : Int) : Int := if a < b then -1 else if a > b then 1 else 0
theorem cmpI_lt (a b : Int) : cmpI a b < 0 ↔ a < b := by unfold cmpI; split; omega; split <;> omega
theorem cmpI_eq (a b : Int) : cmpI a b = 0 ↔ a = b := by unfold cmpI; split; omega; split <;> omega
def or3 (a b c : Int) : Int := if a ≠ 0 then a else if b ≠ 0 then b else c
def or4 (a b c d : Int) : Int := if a ≠ 0 then a else if b ≠ 0 then b else if c ≠ 0 then c else d
theorem or3_lt (a b c : Int) : or3 a b c < 0 ↔ a < 0 ∨ (a = 0 ∧ (b < 0 ∨ (b = 0 ∧ c < 0))) := by unfold or3; split; omega; split <;> omega
theorem or4_lt (a b c d : Int) : or4 a b c d < 0 ↔ a < 0 ∨ (a = 0 ∧ (b < 0 ∨ (b = 0 ∧ (c < 0 ∨ (c = 0 ∧ d < 0))))) := by unfold or4; split; omega; split; omega; split <;> omega
instance : Inhabited Pl := ⟨⟨0, 0, 0, 0⟩⟩
instance : Inhabited Spot := ⟨⟨0, 0, 0, 1⟩⟩
/-! planes -/
def vPl (p : Pl) : List Value := [.int .i64 p.A, .int .i64 p.B, .int .i64 p.C, .int .i64 p.D]
theorem vPl_k (p : Pl) : (vPl p).length = 4 := rfl
theorem vPl_pl (p : Pl) : ∀ v ∈ vPl p, plain v = true := by
  intro v hv
  simp only [vPl, List.mem_cons, List.not_mem_nil, or_false] at hv
  rcases hv with rfl | rfl | rfl | rfl <;> rfl
theorem vPl_f (l : List Pl) : flv vPl l = ePl.f l := flv_f ePl vPl (fun _ => rfl) l
def cmpP (p q : Pl) : Int := or4 (cmpI p.A q.A) (cmpI p.B q.B) (cmpI p.C q.C) (cmpI p.D q.D)
theorem cmpP_lt (p q : Pl) : Go.Proofs.ltOf cmpP p q = true ↔ p.A < q.A ∨ (p.A = q.A ∧ (p.B < q.B ∨ (p.B = q.B ∧ (p.C < q.C ∨ (p.C = q.C ∧ p.D < q.D))))) := by
  unfold Go.Proofs.ltOf cmpP
  rw [decide_eq_true_iff, or4_lt, cmpI_lt, cmpI_lt, cmpI_lt, cmpI_lt, cmpI_eq, cmpI_eq, cmpI_eq]
theorem swoP : Go.Sort.SWO (Go.Proofs.ltOf cmpP) where
  irrefl x := by rw [Bool.eq_false_iff, ne_eq, cmpP_lt]; omega
  trans x y z h1 h2 := by rw [cmpP_lt] at *; omega
  ntrans x y z h1 h2 := by rw [Bool.eq_false_iff, ne_eq, cmpP_lt] at *; omega
theorem totP (x y : Pl) (h1 : Go.Proofs.ltOf cmpP x y = false) (h2 : Go.Proofs.ltOf cmpP y x = false) : x = y := by
  rw [Bool.eq_false_iff, ne_eq, cmpP_lt] at h1 h2
  cases x; cases y
  simp only [Pl.mk.injEq] at *
  omega
def srtP (l : List Pl) : List Pl := l.mergeSort fun x y => !(Go.Proofs.ltOf cmpP) y x
def lim62 : Nat := 4611686018427387904
instance decPl : DecidableEq Pl := fun x y => decidable_of_iff (x.A = y.A ∧ x.B = y.B ∧ x.C = y.C ∧ x.D = y.D) ⟨fun h => by cases x; cases y; simp at h; obtain ⟨rfl, rfl, rfl, rfl⟩ := h; rfl, fun h => by subst h; exact ⟨rfl, rfl, rfl, rfl⟩⟩
instance decSpot : DecidableEq Spot := fun x y => decidable_of_iff (x.X = y.X ∧ x.Y = y.Y ∧ x.Z = y.Z ∧ x.W = y.W) ⟨fun h => by cases x; cases y; simp at h; obtain ⟨rfl, rfl, rfl, rfl⟩ := h; rfl, fun h => by subst h; exact ⟨rfl, rfl, rfl, rfl⟩⟩
def DsrtPl (l : List Pl) : Option (List Pl) := if l.length < lim62 then some (srtP l) else none
def DcutPl (l : List Pl) : Option (List Pl) := if l.length < lim62 then some (once l) else none
theorem eqvPl {P : Program} {t : TypeId} (E : EqS P t) (hz : tsize P t = some 4) (x y : Pl) (w : World) :
    Sem.run P (binOp .eql t (.agg (vPl x).toArray) (.agg (vPl y).toArray)) w = .ok (.bool (decide (x = y))) w ∧ Sem.run P (binOp .neq t (.agg (vPl x).toArray) (.agg (vPl y).toArray)) w = .ok (.bool (!decide (x = y))) w ∧
      ∀ op a b, Sem.run P (eqGuard op t a b (.agg (vPl x).toArray) (.agg (vPl y).toArray)) w = .ok () w := by
  refine struct_eq E (vPl x) (vPl y) (decide (x = y)) rfl hz rfl ?_ w
  have e : decide (x = y) = ((x.A == y.A) && ((x.B == y.B) && ((x.C == y.C) && ((x.D == y.D) && true)))) := by
    cases x; cases y
    rw [Bool.eq_iff_iff, decide_eq_true_iff]
    simp
  rw [e]; rfl
/-! spots -/
def vSp (p : Spot) : List Value := [.int .i64 p.X, .int .i64 p.Y, .int .i64 p.Z, .int .i64 p.W]
def SpG (s : Spot) : Prop := (1 ≤ s.W ∧ s.W ≤ 1000000000) ∧ s.X.natAbs ≤ 1000000000 ∧ s.Y.natAbs ≤ 1000000000 ∧ s.Z.natAbs ≤ 1000000000 ∧ Nat.gcd (Nat.gcd s.X.natAbs s.Y.natAbs) (Nat.gcd s.Z.natAbs s.W.natAbs) = 1
instance decSpG (s : Spot) : Decidable (SpG s) := by unfold SpG; exact inferInstance
abbrev Spt := { s : Spot // SpG s }
instance : Inhabited Spt := ⟨⟨0, 0, 0, 1⟩, by unfold SpG; decide⟩
def vSpt (p : Spt) : List Value := vSp p.1
theorem vSpt_k (p : Spt) : (vSpt p).length = 4 := rfl
theorem vSpt_pl (p : Spt) : ∀ v ∈ vSpt p, plain v = true := by
  intro v hv
  simp only [vSpt, vSp, List.mem_cons, List.not_mem_nil, or_false] at hv
  rcases hv with rfl | rfl | rfl | rfl <;> rfl
theorem vSpt_f (l : List Spt) : flv vSpt l = eSpot.f (l.map (·.1)) := by
  rw [eSpot.hf]
  unfold flv
  induction l with
  | nil => rfl
  | cons x l ih => rw [List.flatMap_cons, List.map_append, ih]; rfl
def cmpS (s t : Spot) : Int := or3 (cmpI (s.X * t.W) (t.X * s.W)) (cmpI (s.Y * t.W) (t.Y * s.W)) (cmpI (s.Z * t.W) (t.Z * s.W))
def cmpSt (s t : Spt) : Int := cmpS s.1 t.1
def ltS (s t : Spot) : Prop := s.X * t.W < t.X * s.W ∨ (s.X * t.W = t.X * s.W ∧ (s.Y * t.W < t.Y * s.W ∨ (s.Y * t.W = t.Y * s.W ∧ s.Z * t.W < t.Z * s.W)))
theorem cmpS_lt (s t : Spt) : Go.Proofs.ltOf cmpSt s t = true ↔ ltS s.1 t.1 := by
  unfold Go.Proofs.ltOf cmpSt cmpS ltS
  rw [decide_eq_true_iff, or3_lt, cmpI_lt, cmpI_lt, cmpI_lt, cmpI_eq, cmpI_eq]
theorem q_le {a b c d e f : Int} (hb : 0 < b) (hd : 0 < d) (hf : 0 < f) (h1 : a * d ≤ c * b) (h2 : c * f ≤ e * d) : a * f ≤ e * b := by
  have e1 := Int.mul_le_mul_of_nonneg_right h1 (Int.le_of_lt hf)
  have e2 := Int.mul_le_mul_of_nonneg_right h2 (Int.le_of_lt hb)
  have e3 : (a * f) * d ≤ (e * b) * d := by
    have x1 : (a * f) * d = a * d * f := by rw [Int.mul_assoc, Int.mul_comm f d, ← Int.mul_assoc]
    have x2 : c * b * f = c * f * b := by rw [Int.mul_assoc, Int.mul_comm b f, ← Int.mul_assoc]
    have x3 : (e * b) * d = e * d * b := by rw [Int.mul_assoc, Int.mul_comm b d, ← Int.mul_assoc]
    omega
  exact Int.le_of_mul_le_mul_right e3 hd
theorem q_lt1 {a b c d e f : Int} (hb : 0 < b) (hd : 0 < d) (hf : 0 < f) (h1 : a * d < c * b) (h2 : c * f ≤ e * d) : a * f < e * b := by
  have e1 := Int.mul_lt_mul_of_pos_right h1 hf
  have e2 := Int.mul_le_mul_of_nonneg_right h2 (Int.le_of_lt hb)
  have e3 : (a * f) * d < (e * b) * d := by
    have x1 : (a * f) * d = a * d * f := by rw [Int.mul_assoc, Int.mul_comm f d, ← Int.mul_assoc]
    have x2 : c * b * f = c * f * b := by rw [Int.mul_assoc, Int.mul_comm b f, ← Int.mul_assoc]
    have x3 : (e * b) * d = e * d * b := by rw [Int.mul_assoc, Int.mul_comm b d, ← Int.mul_assoc]
    omega
  exact Int.lt_of_mul_lt_mul_right e3 (Int.le_of_lt hd)
theorem q_lt2 {a b c d e f : Int} (hb : 0 < b) (hd : 0 < d) (hf : 0 < f) (h1 : a * d ≤ c * b) (h2 : c * f < e * d) : a * f < e * b := by
  have e1 := Int.mul_le_mul_of_nonneg_right h1 (Int.le_of_lt hf)
  have e2 := Int.mul_lt_mul_of_pos_right h2 hb
  have e3 : (a * f) * d < (e * b) * d := by
    have x1 : (a * f) * d = a * d * f := by rw [Int.mul_assoc, Int.mul_comm f d, ← Int.mul_assoc]
    have x2 : c * b * f = c * f * b := by rw [Int.mul_assoc, Int.mul_comm b f, ← Int.mul_assoc]
    have x3 : (e * b) * d = e * d * b := by rw [Int.mul_assoc, Int.mul_comm b d, ← Int.mul_assoc]
    omega
  exact Int.lt_of_mul_lt_mul_right e3 (Int.le_of_lt hd)
/-- One coordinate of three spots. -/
theorem q3 {a b c d e f : Int} (hb : 0 < b) (hd : 0 < d) (hf : 0 < f) : (a * d ≤ c * b → c * f ≤ e * d → a * f ≤ e * b) ∧ (a * d < c * b → c * f ≤ e * d → a * f < e * b) ∧ (a * d ≤ c * b → c * f < e * d → a * f < e * b) ∧
    (c * b ≤ a * d → e * d ≤ c * f → e * b ≤ a * f) ∧ (c * b < a * d → e * d ≤ c * f → e * b < a * f) ∧ (c * b ≤ a * d → e * d < c * f → e * b < a * f) :=
  ⟨q_le hb hd hf, q_lt1 hb hd hf, q_lt2 hb hd hf, fun h1 h2 => q_le hf hd hb h2 h1, fun h1 h2 => q_lt2 hf hd hb h2 h1, fun h1 h2 => q_lt1 hf hd hb h2 h1⟩
theorem spW (s : Spt) : 0 < s.1.W := by have := s.2.1; omega
def geS (s t : Spot) : Prop := t.X * s.W < s.X * t.W ∨ (t.X * s.W = s.X * t.W ∧ (t.Y * s.W < s.Y * t.W ∨ (t.Y * s.W = s.Y * t.W ∧ t.Z * s.W ≤ s.Z * t.W)))
theorem not_ltS (s t : Spot) : ¬ltS s t ↔ geS s t := by unfold ltS geS; omega
theorem ltS_trans {x y z : Spt} (h1 : ltS x.1 y.1) (h2 : ltS y.1 z.1) : ltS x.1 z.1 := by
  obtain ⟨a1, a2, a3, a4, a5, a6⟩ := q3 (a := x.1.X) (c := y.1.X) (e := z.1.X) (spW x) (spW y) (spW z)
  obtain ⟨b1, b2, b3, b4, b5, b6⟩ := q3 (a := x.1.Y) (c := y.1.Y) (e := z.1.Y) (spW x) (spW y) (spW z)
  obtain ⟨c1, c2, c3, c4, c5, c6⟩ := q3 (a := x.1.Z) (c := y.1.Z) (e := z.1.Z) (spW x) (spW y) (spW z)
  unfold ltS at *
  rcases h1 with h1 | ⟨e1, h1⟩
  · rcases h2 with h2 | ⟨e2, -⟩
    · exact .inl (a2 h1 (Int.le_of_lt h2))
    · exact .inl (a2 h1 (Int.le_of_eq e2))
  · rcases h2 with h2 | ⟨e2, h2⟩
    · exact .inl (a3 (Int.le_of_eq e1) h2)
    · refine .inr ⟨Int.le_antisymm (a1 (Int.le_of_eq e1) (Int.le_of_eq e2)) (a4 (Int.le_of_eq e1.symm) (Int.le_of_eq e2.symm)), ?_⟩
      rcases h1 with h1 | ⟨f1, h1⟩
      · rcases h2 with h2 | ⟨f2, -⟩
        · exact .inl (b2 h1 (Int.le_of_lt h2))
        · exact .inl (b2 h1 (Int.le_of_eq f2))
      · rcases h2 with h2 | ⟨f2, h2⟩
        · exact .inl (b3 (Int.le_of_eq f1) h2)
        · exact .inr ⟨Int.le_antisymm (b1 (Int.le_of_eq f1) (Int.le_of_eq f2)) (b4 (Int.le_of_eq f1.symm) (Int.le_of_eq f2.symm)), c2 h1 (Int.le_of_lt h2)⟩
theorem geS_trans {x y z : Spt} (h1 : geS x.1 y.1) (h2 : geS y.1 z.1) : geS x.1 z.1 := by
  obtain ⟨a1, a2, a3, a4, a5, a6⟩ := q3 (a := x.1.X) (c := y.1.X) (e := z.1.X) (spW x) (spW y) (spW z)
  obtain ⟨b1, b2, b3, b4, b5, b6⟩ := q3 (a := x.1.Y) (c := y.1.Y) (e := z.1.Y) (spW x) (spW y) (spW z)
  obtain ⟨c1, c2, c3, c4, c5, c6⟩ := q3 (a := x.1.Z) (c := y.1.Z) (e := z.1.Z) (spW x) (spW y) (spW z)
  unfold geS at *
  rcases h1 with h1 | ⟨e1, h1⟩
  · rcases h2 with h2 | ⟨e2, -⟩
    · exact .inl (a5 h1 (Int.le_of_lt h2))
    · exact .inl (a5 h1 (Int.le_of_eq e2))
  · rcases h2 with h2 | ⟨e2, h2⟩
    · exact .inl (a6 (Int.le_of_eq e1) h2)
    · refine .inr ⟨Int.le_antisymm (a4 (Int.le_of_eq e1) (Int.le_of_eq e2)) (a1 (Int.le_of_eq e1.symm) (Int.le_of_eq e2.symm)), ?_⟩
      rcases h1 with h1 | ⟨f1, h1⟩
      · rcases h2 with h2 | ⟨f2, -⟩
        · exact .inl (b5 h1 (Int.le_of_lt h2))
        · exact .inl (b5 h1 (Int.le_of_eq f2))
      · rcases h2 with h2 | ⟨f2, h2⟩
        · exact .inl (b6 (Int.le_of_eq f1) h2)
        · exact .inr ⟨Int.le_antisymm (b4 (Int.le_of_eq f1) (Int.le_of_eq f2)) (b1 (Int.le_of_eq f1.symm) (Int.le_of_eq f2.symm)), c4 h1 h2⟩
theorem swoS : Go.Sort.SWO (Go.Proofs.ltOf cmpSt) where
  irrefl x := by rw [Bool.eq_false_iff, ne_eq, cmpS_lt]; unfold ltS; omega
  trans x y z h1 h2 := by
    rw [cmpS_lt] at *
    exact ltS_trans h1 h2
  ntrans x y z h1 h2 := by
    rw [Bool.eq_false_iff, ne_eq, cmpS_lt, not_ltS] at *
    exact geS_trans h1 h2
theorem gcd4_mul (a b c d k : Nat) : Nat.gcd (Nat.gcd (a * k) (b * k)) (Nat.gcd (c * k) (d * k)) = Nat.gcd (Nat.gcd a b) (Nat.gcd c d) * k := by
  rw [Nat.gcd_mul_right, Nat.gcd_mul_right, Nat.gcd_mul_right]
/-- Spots in lowest terms that are the same. -/
theorem sp_same {s t : Spot} (hs : SpG s) (ht : SpG t) (h1 : s.X * t.W = t.X * s.W) (h2 : s.Y * t.W = t.Y * s.W) (h3 : s.Z * t.W = t.Z * s.W) : s = t := by
  obtain ⟨s1, s2, s3, s4, s5⟩ := hs
  obtain ⟨t1, t2, t3, t4, t5⟩ := ht
  have e1 := congrArg Int.natAbs h1
  have e2 := congrArg Int.natAbs h2
  have e3 := congrArg Int.natAbs h3
  rw [Int.natAbs_mul, Int.natAbs_mul] at e1 e2 e3
  have g1 := gcd4_mul s.X.natAbs s.Y.natAbs s.Z.natAbs s.W.natAbs t.W.natAbs
  have g2 := gcd4_mul t.X.natAbs t.Y.natAbs t.Z.natAbs t.W.natAbs s.W.natAbs
  rw [e1, e2, e3, Nat.mul_comm s.W.natAbs t.W.natAbs, g2, s5, t5] at g1
  have hw : s.W = t.W := by omega
  rw [hw] at h1 h2 h3
  have hne : t.W ≠ 0 := by omega
  have x1 := Int.eq_of_mul_eq_mul_right hne h1
  have x2 := Int.eq_of_mul_eq_mul_right hne h2
  have x3 := Int.eq_of_mul_eq_mul_right hne h3
  cases s; cases t
  simp only at hw x1 x2 x3
  rw [hw, x1, x2, x3]
theorem totS (x y : Spt) (h1 : Go.Proofs.ltOf cmpSt x y = false) (h2 : Go.Proofs.ltOf cmpSt y x = false) : x = y := by
  rw [Bool.eq_false_iff, ne_eq, cmpS_lt] at h1 h2
  unfold ltS at h1 h2
  exact Subtype.ext (sp_same x.2 y.2 (by omega) (by omega) (by omega))
def DsrtSpot (l : List Spot) : Option (List Spot) := if h : (∀ s ∈ l, SpG s) ∧ l.length < lim62 then some (((l.pmap Subtype.mk h.1).mergeSort fun x y => !(Go.Proofs.ltOf cmpSt) y x).map (·.1)) else none
def DcutSpot (l : List Spot) : Option (List Spot) := if l.length < lim62 then some (once l) else none
theorem vSp_k (p : Spot) : (vSp p).length = 4 := rfl
theorem vSp_pl (p : Spot) : ∀ v ∈ vSp p, plain v = true := by
  intro v hv
  simp only [vSp, List.mem_cons, List.not_mem_nil, or_false] at hv
  rcases hv with rfl | rfl | rfl | rfl <;> rfl
theorem vSp_f (l : List Spot) : flv vSp l = eSpot.f l := flv_f eSpot vSp (fun _ => rfl) l
theorem eqvSp {P : Program} {t : TypeId} (E : EqS P t) (hz : tsize P t = some 4) (x y : Spot) (w : World) :
    Sem.run P (binOp .eql t (.agg (vSp x).toArray) (.agg (vSp y).toArray)) w = .ok (.bool (decide (x = y))) w ∧ Sem.run P (binOp .neq t (.agg (vSp x).toArray) (.agg (vSp y).toArray)) w = .ok (.bool (!decide (x = y))) w ∧
      ∀ op a b, Sem.run P (eqGuard op t a b (.agg (vSp x).toArray) (.agg (vSp y).toArray)) w = .ok () w := by
  refine struct_eq E (vSp x) (vSp y) (decide (x = y)) rfl hz rfl ?_ w
  have e : decide (x = y) = ((x.X == y.X) && ((x.Y == y.Y) && ((x.Z == y.Z) && ((x.W == y.W) && true)))) := by
    cases x; cases y
    rw [Bool.eq_iff_iff, decide_eq_true_iff]
    simp
  rw [e]; rfl
theorem nLkSp (l : List Spot) : nlkL (eSpot.f l) = true := eNlk eSpot (fun _ => rfl) l
theorem w64s {x : Int} (h : x.natAbs ≤ 1000000000000000000) : w64 x = x := by
  show IntKind.i64.wrap x = x
  rw [IntKind.wrap_i64]; omega
theorem w64m {x y : Int} (hx : x.natAbs ≤ 1000000000) (hy : y.natAbs ≤ 1000000000) : w64 (x * y) = x * y :=
  w64s (by rw [Int.natAbs_mul]; exact Nat.mul_le_mul hx hy)
end Evl.T

/-! Ewx -/
namespace Evl
open Go

/-- A number that a row may be asked to have room for. -/
def grB (n : Int) : Bool := decide (0 ≤ n) && decide (n ≤ 1000000)
/-- A call that makes an empty row. -/
def GrownOk (P : Program) (f : FuncId) (z : Nat) (n : Int) : Prop :=
  ∀ (V : Nat → Nat) (w : World) (K : Nat → Nat × Nat), (∀ x, 0 < V x → x < w.heap.size) →
    Calls P f #[.slice none 0 0, .int .i64 n] w fun e w' => ∃ u, e = .returned u ∧ ∃ fp' : List Nat, Fr w (fun _ => False) w' ∧ Rep V w' K false fp' [u] [.sl true z 0 []] ∧ fp'.Nodup ∧ ∀ x ∈ fp', w.heap.size ≤ x
theorem grow_turn {P : Program} {ρ : Go.Shelf.Ren} (L : Go.Proofs.Lays8.n4 P ρ) (i0 : TypeInfo) (z : Value) (hi0 : P.info? (ρ.t 25) = some i0) (hz0 : i0.zero = some z) (hs0 : 0 < i0.size) (hzc : z.cells.size = i0.size) (n : Nat) (hb : n * i0.bytes ≤ 140737488355328) (hn : n ≤ 4611686018427387904) :
    GrownOk P (ρ.f 4) i0.size n := by
  intro V w K hvr
  by_cases h0 : n = 0
  · subst h0
    refine Calls.mono (Go.Proofs.Any8.slices_Grow_room L none 0 0 0 w (by omega) (by omega) (by omega) (by omega)) fun e w' ⟨he, hw⟩ => ⟨_, he, [], ?_⟩
    subst hw
    exact ⟨⟨rfl, rfl, rfl, Nat.le_refl _, fun _ _ _ => rfl, Nat.le_refl _⟩, .on .nil, List.nodup_nil, by simp⟩
  · refine Calls.mono (Go.Proofs.Any8.slices_Grow_grow L i0 z hi0 hz0 hs0 none 0 0 n [] w (by omega) (by omega) (by simpa using hb) (by omega) (by simp) (fun _ => rfl) (fun a h => by cases h)) fun e w' ⟨he, hw⟩ => ⟨_, he, [w.heap.size], ?_⟩
    have hV : V w.heap.size = 0 := Nat.eq_zero_of_not_pos fun h => Nat.lt_irrefl _ (hvr _ h)
    have hcell : w'.heap[w.heap.size]? = some (.cells ((([] : List Value).toArray ++ Builtin.zeroCells z.cells (0 + n - 0)) ++ Builtin.zeroCells z.cells (grownCap w (0 + n) 0 (ρ.t 25) - (0 + n))) (ρ.t 25) (0, 0)) := by
      rw [hw]
      show (w.heap.push _)[w.heap.size]? = _
      rw [Array.getElem?_push_size]
    refine ⟨⟨by rw [hw]; rfl, by rw [hw]; rfl, by rw [hw]; rfl, ?_, fun g hg _ => ?_, ?_⟩, ?_, by simp, by simp⟩
    · rw [hw]
      show w.heap.size ≤ (w.heap.push _).size
      rw [Array.size_push]; omega
    · rw [hw]
      show (w.heap.push _)[g]? = _
      rw [Array.getElem?_push_lt hg, Array.getElem?_eq_getElem hg]
    · rw [hw]
      show w.drawn ≤ w.drawn + 1
      omega
    · have := Rep.ow (V := V) (w := w') (K := K) (m := false) (fp := []) (us := []) (cs := []) (n := 0) (cap := grownCap w (0 + n) 0 (ρ.t 25)) (sz := i0.size) (ds := []) (fq := []) w.heap.size _ _ (0, 0) [] (Nat.zero_le _) hcell (by unfold thawed; simp) (by
          simp only [Array.size_append, size_zeroCells, List.size_toArray, List.length_nil, hzc]
          rw [Nat.add_assoc, ← Nat.add_mul]
          refine Nat.le_trans ?_ (Nat.le_add_left _ _)
          exact Nat.mul_le_mul_right _ (by omega)) (by simp) (by omega) (by simp) (by rw [hV]; rfl) .nil .nil
      simpa using this
section
variable {P : Program} {N : Nat} {w0 w w' : World} {M : Nat → Prop} {V0 V V' : Nat → Nat} {K K' : Nat → Nat × Nat} {O O' : Nat → Option Loc} {s : S} {a : Act} {fp : List Nat} {v : Value} {G : GP}
variable {ops : Array Oper} {Q : Exit → Act → World → Prop}
/-- A tree of new blocks goes to a slot. -/
theorem rel_fresh (R : RelG N w0 M V0 K V O s a w) {d : Nat} (hd : d < N) {T : AV} {u : Value} {fp' : List Nat} (hfr : Fr w (fun _ => False) w') (hin : ∀ g ∈ fp', w.heap.size ≤ g) (hnd : fp'.Nodup) (hrep : Rep V w' K false fp' [u] [T]) :
    ∃ O', RelG N w0 M V0 K V O' (Evl.stT d T s) (a.put (some d) u) w' := by
  have hnx : Next V V w w' := ⟨fun g off ho => by
    have hg : g < w.heap.size := R.vr g (by omega)
    have := hfr.old g hg (fun h => h)
    simp only [World.cell?, this], fun _ => Nat.le_refl _, hfr.sz⟩
  have hlt : ∀ g ∈ fp', g < w'.heap.size := fun g hg => hrep.fp_lt g hg
  have keep : ∀ g l, O g = some l → w'.heap[g]? = w.heap[g]? ∧ V g = V g := fun g l hg => ⟨hfr.old g (R.rg g l hg).2 (fun h => h), rfl⟩
  have hnew : ∀ g l, O g = some l → g ∉ fp' := fun g l hg hp => by
    have h1 := hin g hp; have h2 := (R.rg g l hg).2; omega
  refine ⟨fun g => if g ∈ fp' then some (true, d) else if O g = some (true, d) then none else O g, by rw [put_defers]; exact R.df, by rw [put_size]; exact R.n, fun t => ?_, fun c x hc => ?_, fun g l hg => ?_, fun g hg => Nat.lt_of_lt_of_le (R.vr g hg) hfr.sz, ?_, ?_, R.vo⟩
  · by_cases htd : t = d
    · subst htd
      refine ⟨fp', hnd, fun g hg => if_pos hg, ?_⟩
      have e1 : (a.put (some t) u).tmps.getD t undef = u := getD_put_same a t u (by rw [R.n]; exact hd)
      rw [e1, stT_same]
      exact .u (.one (hrep.up _ (fun e => by cases e)))
    · obtain ⟨fp, p1, p2, p3⟩ := R.tm t
      have e1 : (a.put (some d) u).tmps.getD t undef = a.tmps.getD t undef := getD_put a (some d) u t (fun e => htd (by cases e; rfl))
      refine ⟨fp, p1, fun g hg => ?_, ?_⟩
      · show (if g ∈ fp' then some (true, d) else if O g = some (true, d) then none else O g) = some (true, t)
        rw [if_neg (hnew g _ (p2 g hg)), p2 g hg, if_neg (fun e => htd (by cases e; rfl))]
      · rw [e1, stT_ne _ _ htd]
        exact p3.next hnx (fun g hg => keep g _ (p2 g hg)) [] (fun _ _ => rfl)
  · rcases R.bx c x hc with h | ⟨gb, arr2, T2, fz2, us2, p1, p2, p3⟩
    · exact .inl h
    · have hkk : ∀ g ∈ (K c).1 :: gb, w'.heap[g]? = w.heap[g]? ∧ V g = V g := fun g hg => keep g _ (p2 g hg)
      refine .inr ⟨gb, arr2, T2, fz2, us2, p1, fun g hg => ?_, ⟨(hkk _ List.mem_cons_self).1.trans p3.hp, p3.th, p3.pre, p3.rep.next hnx (fun g hg => hkk g (by simp [hg])) [] (fun _ _ => rfl), p3.vis, p3.var, p3.row⟩⟩
      show (if g ∈ fp' then some (true, d) else if O g = some (true, d) then none else O g) = some (false, c)
      rw [if_neg (hnew g _ (p2 g hg)), p2 g hg, if_neg (fun e => by cases e)]
  · split at hg
    · rename_i hp
      have h1 := hin g hp; have := R.fr.sz
      exact ⟨.inl (by omega), hlt g hp⟩
    · split at hg
      · cases hg
      · exact ⟨(R.rg g l hg).1, Nat.lt_of_lt_of_le (R.rg g l hg).2 hfr.sz⟩
  · exact ⟨hfr.os.trans R.fr.os, hfr.tape.trans R.fr.tape, hfr.output.trans R.fr.output, Nat.le_trans R.fr.sz hfr.sz, fun g hg hM => by
      rw [hfr.old g (Nat.lt_of_lt_of_le hg R.fr.sz) (fun h => h)]; exact R.fr.old g hg hM, Nat.le_trans R.fr.dr hfr.dr⟩
  · exact ⟨fun g off ho => by rw [hnx.cell g off (Nat.lt_of_lt_of_le ho (R.nx.le g))]; exact R.nx.cell g off ho, fun g => R.nx.le g, Nat.le_trans R.nx.sz hfr.sz⟩
/-- The three operations: the move, the call with nothing and a number, the assignment. -/
def growOfR (ops : Array Oper) : Option (Nat × FuncId × Nat × Nat × Nat) :=
  match ops[0]?, ops[1]?, ops[2]? with
  | some o0, some o1, some o2 =>
    match o0.op, o0.dst, o0.guard, calleeOf o1 botS, o1.dst, o1.guard with
    | .move (.tmp ta), some d0, none, some (f, [.const (.slice none 0 0), .tmp x], []), some d1, none =>
      match o2.op, o2.dst, o2.guard with
      | .assign (.tmp r), some da, none => if ops.size = 3 ∧ x = d0 ∧ r = d1 then some (ta, f, d0, d1, da) else none
      | _, _, _ => none
    | _, _, _, _, _, _ => none
  | _, _, _ => none
def growS (T : AV) (d0 d1 da : Nat) (s : S) : S := stT da T (stT d1 .bad (stT d0 .bad s))
theorem mc_grow {id ta f d0 d1 da sz : Nat} {n : Int} (hm : growOfR ops = some (ta, f, d0, d1, da)) (hf : isFn P f = true)
    (ht : s.t ta = .lit (.int .i64 n)) (hT : GrownOk P f sz n) :
    MC P G (.region id ops false) s .nor (growS (.sl true sz 0 []) d0 d1 da s) := by
  intro N w0 M V0 V K O a w hg hok R Q hQ
  refine wp_region ?_
  unfold growOfR at hm
  split at hm
  · rename_i o0 o1 o2 i0 i1 i2
    split at hm
    · rename_i q0 q1 q2 p0 p1 p2
      split at hm
      · rename_i r3 r4 r5
        simp only [Option.ite_none_right_eq_some, Option.some.injEq, Prod.mk.injEq] at hm
        obtain ⟨⟨z, x1, x2⟩, e1, e2, e3, e4, e5⟩ := hm
        subst x1 x2
        replace e1 := e1.symm; replace e2 := e2.symm; replace e3 := e3.symm; replace e4 := e4.symm; replace e5 := e5.symm
        subst e1 e2 e3 e4 e5
        obtain ⟨fn, c, hfn, hbd, hnm⟩ := isFn_of hf
        have hN : ∀ (i : Nat) (o : Oper) (d : Nat), ops[i]? = some o → o.dst = some d → d < N := fun i o d h e => by
          simp only [codeOk, opsOk, Array.all_eq_true_iff_forall_mem] at hok
          have := hok o (Array.mem_of_getElem? h)
          rw [e] at this; simpa using this
        rw [show List.range ops.size = [0, 1, 2] by rw [z]; rfl]
        have hd0 := hN _ _ _ i0 q1
        have hd1 := hN _ _ _ i1 p1
        have hda := hN _ _ _ i2 r4
        have hN1 := R.n
        obtain ⟨fq, -, -, h3⟩ := R.tm ta
        rw [ht] at h3
        obtain ⟨hv, rfl, -⟩ := inv_lit h3
        have hv' : a.eval (.tmp ta) = .int .i64 n := hv
        refine wpOps_val i0 q2 (v := a.eval (.tmp ta)) (w' := w) (by simp [execOp, q0]) ?_
        rw [q1]
        have R2 := rel_gone R d0 hd0 (a.eval (.tmp ta))
        have hs0 : d0 < a.tmps.size := by rw [hN1]; exact hd0
        refine wpOps_call i1 p2 (f := f) (args := #[.slice none 0 0, .int .i64 n]) (by rw [call_run R2.df p0 hfn hbd hnm]; simp only [List.map_cons, List.map_nil, eval_put_same hs0, hv']; rfl) ?_
        refine Calls.mono (hT V w K R.vr) fun e w2 ⟨u, he, fp', hfr, hrep, hnd, hin⟩ => ⟨u, he, ?_⟩
        rw [p1]
        have hs1 : d1 < (a.put (some d0) (a.eval (.tmp ta))).tmps.size := by rw [put_size, hN1]; exact hd1
        refine wpOps_val i2 r5 (v := u) (w' := w2) (by simp only [execOp, r3, eval_put_same hs1]; rfl) ?_
        rw [r4]
        have R3 := rel_gone R2 d1 hd1 u
        obtain ⟨O5, R5⟩ := rel_fresh R3 hda hfr hin hnd hrep
        exact hQ _ _ _ _ _ R5 fun _ _ => rfl
      · cases hm
    · cases hm
  · cases hm
end
variable {P : Program} {H : Hints} {Y : FuncId → List AV → (Nat → Option Box) → AV → (Nat → Option Box) → Prop} {fid : FuncId}
/-- An empty row is made, and goes to a slot. -/
theorem x_grow {k : List Td} {Q : X → L → Prop} {l : L} {c : Code} {f ta d0 d1 da z : Nat} {n : Int}
    (hzc : ∀ c s s', MC P (Gd H fid) c s .nor s' → H.zc fid c s s')
    (hr : (Code.isRegion false c, growOfR (Code.opsOf c), isFn P f) = (true, some (ta, f, d0, d1, da), true))
    (hs : (l.get ta, lookup d0 l.ts, lookup d1 l.ts) = (.lit (.int .i64 n), none, none))
    (hT : GrownOk P f z n)
    (hw : Wk P H Y fid k Q ⟨(da, .sl true z 0 []) :: l.ts, l.bs⟩) : Wk P H Y fid (.code c :: k) Q l := by
  simp only [Prod.mk.injEq] at hr hs
  obtain ⟨r1, r2, r3⟩ := hr
  obtain ⟨s1, s3, s4⟩ := hs
  have hmc : MC P (Gd H fid) c l.toS .nor (growS (.sl true z 0 []) d0 d1 da l.toS) := by
    cases c <;> simp [Code.isRegion] at r1
    subst r1
    exact mc_grow r2 r3 s1 hT
  refine x_zone r1 (hzc _ _ _ hmc) (u := ⟨(da, .sl true z 0 []) :: l.ts, l.bs⟩) ⟨fun i => ?_, fun j y hy => ?_⟩ hw
  · rw [L.toS_t]
    simp only [lookup, growS, stT]
    by_cases ha : da = i
    · subst ha; simp only [if_true]; exact .inl (.inl (.inl rfl))
    · rw [if_neg ha, if_neg (fun e => ha e.symm)]
      by_cases h1 : i = d1
      · subst h1; rw [s4]; exact .inl (.inl (.inr (.inl rfl)))
      · rw [if_neg h1]
        by_cases h0 : i = d0
        · subst h0; rw [s3]; exact .inl (.inl (.inr (.inl rfl)))
        · rw [if_neg h0, L.toS_t]; exact .inl (.inl (.inl rfl))
  · rw [L.toS_b] at hy
    change lookup j l.bs = some y at hy
    simp only [growS, stT]
    exact ⟨y, by rw [L.toS_b]; exact hy, rfl, rfl, wkCs_refl _⟩
end Evl
