/- Operations on scalars and moves: both machines do the same. No condition. -/
import Derived.Test.YtpjeibdllddkjaaEve
import Derived.Laws.Small
import Derived.Laws.StructEq
namespace Evl
open Go

variable {P : Program} {H : Hints} {fid : FuncId} {N : Nat} {w0 w w' : World} {M : Nat → Prop} {V0 V V' : Nat → Nat} {K K' : Nat → Nat × Nat} {O O' : Nat → Option Loc} {s : S} {a : Act} {fp : List Nat} {v : Value}

theorem inv_lit {u : Value} (h : RepV V w K fp v (.lit u)) : v = u ∧ fp = [] ∧ plain u = true := by
  cases h with
  | u h => cases h with
    | one h => cases h with
      | lit hp h => cases h; exact ⟨rfl, rfl, hp⟩
    | p h => cases h
theorem inv_nil (h : RepV V w K fp v .nil) : v = .slice none 0 0 ∧ fp = [] := by
  cases h with
  | u h => cases h with
    | one h => cases h with
      | nl h => cases h; exact ⟨rfl, rfl⟩
    | p h => cases h
theorem inv_one {x : AV} (h : RepV V w K fp v x) (hx : (∃ o z n cs, x = .sl o z n cs) ∨ (∃ b n, x = .msl b n)) : Rep V w K true fp [v] [x] := by
  cases h with
  | u h => cases h with
    | one h => exact h
    | agg h => rcases hx with ⟨_, _, _, _, e⟩ | ⟨_, _, e⟩ <;> cases e
    | p h => cases h <;> rcases hx with ⟨_, _, _, _, e⟩ | ⟨_, _, e⟩ <;> cases e
    | fnv h => rcases hx with ⟨_, _, _, _, e⟩ | ⟨_, _, e⟩ <;> cases e
  | tup h => rcases hx with ⟨_, _, _, _, e⟩ | ⟨_, _, e⟩ <;> cases e
theorem inv_msl {b n : Nat} (h : RepV V w K fp v (.msl b n)) : fp = [] ∧ ((v = .slice none 0 0 ∧ n = 0 ∧ (K b).2 = 0) ∨ ∃ cap, v = .slice (some ⟨(K b).1, 0, none⟩) n cap ∧ (K b).2 = cap + 1 ∧ n ≤ cap) := by
  have := inv_one h (.inr ⟨_, _, rfl⟩)
  cases this with
  | ms b h0 hn h => cases h; exact ⟨rfl, .inr ⟨_, rfl, h0, hn⟩⟩
  | mv b h0 h => cases h; exact ⟨rfl, .inl ⟨rfl, rfl, h0⟩⟩
theorem inv_agg {cs : List AV} (h : RepV V w K fp v (.agg cs)) : ∃ us : List Value, v = .agg us.toArray ∧ Rep V w K true fp us cs := by
  cases h with
  | u h => cases h with
    | one h => cases h
    | agg h => exact ⟨_, rfl, h⟩
    | p h => cases h
theorem inv_tup {cs : List AV} (h : RepV V w K fp v (.tup cs)) : ∃ us : List Value, v = .tuple us.toArray ∧ RepT V w K fp us cs := by
  cases h with
  | u h => cases h with
    | one h => cases h
    | p h => cases h
  | tup h => exact ⟨_, rfl, h⟩
theorem inv_ptr {b off : Nat} (h : RepV V w K fp v (.ptr b off)) : v = .pointer (some ⟨(K b).1, off, none⟩) ∧ fp = [] := by
  cases h with
  | u h => cases h with
    | one h => cases h
    | p h => cases h; exact ⟨rfl, rfl⟩
theorem inv_cptr {cs : List AV} (h : RepV V w K fp v (.cptr cs)) : ∃ (ad : Addr) (vs : List Value), v = .pointer (some ad) ∧ fp = [] ∧ ad.spot = none ∧ (∀ (j : Nat) (v : Value), vs[j]? = some v → w.cell? ⟨ad.block, ad.off + j, none⟩ = some v) ∧ ad.off + vs.length ≤ V ad.block ∧ ad.block < w.heap.size ∧ Rep V w K false [] vs cs := by
  cases h with
  | u h => cases h with
    | one h => cases h
    | p h => cases h with
      | cptr ad vs h1 h2 h3 h4 h5 => exact ⟨ad, vs, rfl, rfl, h1, h2, h3, h4, h5⟩
theorem inv_fnv {f : FuncId} {cs : List AV} (h : RepV V w K fp v (.fnv f cs)) : ∃ vs : List Value, v = .func (.func f) #[] vs.toArray ∧ fp = [] ∧ RepPs V w K vs cs := by
  cases h with
  | u h => cases h with
    | one h => cases h
    | p h => cases h
    | fnv h => exact ⟨_, rfl, rfl, h⟩

theorem ownless_rep {m us cs} (h : Rep V w K m fp us cs) : hasOwnL cs = false → fp = [] := by
  induction h with
  | nil => intro _; rfl
  | lit _ _ ih => intro e; exact ih (by simpa [hasOwnL, hasOwn] using e)
  | nl _ ih => intro e; exact ih (by simpa [hasOwnL, hasOwn] using e)
  | ns _ ih => intro e; exact ih (by simpa [hasOwnL, hasOwn] using e)
  | on _ _ => intro e; simp [hasOwnL, hasOwn] at e
  | sh _ _ _ _ _ _ _ _ ih => intro e; exact ih (by simpa [hasOwnL, hasOwn] using e)
  | ow _ _ _ _ _ _ _ _ _ _ _ _ _ _ _ _ _ => intro e; simp [hasOwnL, hasOwn] at e
  | ms _ _ _ _ ih => intro e; exact ih (by simpa [hasOwnL, hasOwn] using e)
  | mv _ _ _ ih => intro e; exact ih (by simpa [hasOwnL, hasOwn] using e)
  | bd _ _ _ ih => intro e; exact ih (by simpa [hasOwnL, hasOwn] using e)
theorem ownless_u {x : AV} (h : RepU V w K fp v x) (e : hasOwn x = false) : fp = [] := by
  cases h with
  | one h => exact ownless_rep h (by simp [hasOwnL, e])
  | agg h => exact ownless_rep h (by simpa [hasOwn] using e)
  | p h => rfl
  | fnv h => rfl
theorem ownless_t {us cs} (h : RepT V w K fp us cs) : hasOwnL cs = false → fp = [] := by
  induction h with
  | nil => intro _; rfl
  | cons a _ ih =>
    intro e
    simp only [hasOwnL, Bool.or_eq_false_iff] at e
    rw [ownless_u a e.1, ih e.2]; rfl
theorem ownless_v {x : AV} (h : RepV V w K fp v x) (e : hasOwn x = false) : fp = [] := by
  cases h with
  | u h => exact ownless_u h e
  | tup h => exact ownless_t h (by simpa [hasOwn] using e)

/-- What one operation has to show. -/
def Step1 (P : Program) (N : Nat) (w0 : World) (M : Nat → Prop) (V0 : Nat → Nat) (K : Nat → Nat × Nat) (o : Oper) (s' : S) (a : Act) (w : World) : Prop :=
  ∃ v w' K' V' O', ((execOp a.eval o).run P w = .ok (.value v) w' ∨ ((execOp a.eval o).run P w = .ok .skip w' ∧ v = undef)) ∧ RelG N w0 M V0 K' V' O' s' (a.put o.dst v) w' ∧ ∀ b, 1000 ≤ b → K' b = K b

theorem RelG.take (R : RelG N w0 M V0 K V O s a w) (x : Operand) (dst : Option Nat) (v : Value) (y : AV) (rd : List Nat) (hd : ∀ d, dst = some d → d < N) {fp : List Nat} (hn : fp.Nodup) (ho : ∀ t, x = .tmp t → ∀ g ∈ fp, O g = some (true, t)) (he : (∀ t, x ≠ .tmp t) → fp = [])
    (hw : hasOwn (s.ev x) = false → fp = []) (h : RepV V w K fp v y) :
    ∃ O', RelG N w0 M V0 K V O' (({ val := y, set := given x (s.ev x), rd := rd } : Eff).apply dst s) (a.put dst v) w := by
  refine ⟨fun g => if g ∈ fp then dst.map (fun d => (true, d)) else if O g = dst.map (fun d => (true, d)) then none else O g, R.apply _ dst v hd (Next.refl V w) (fun _ _ => rfl) ?_ ?_ ?_ ?_ ?_ R.vr R.fr (fun _ _ _ => rfl)⟩
  · intro g l hl ht hb
    refine ⟨rfl, rfl, ?_⟩
    have hg : g ∉ fp := by
      intro hg
      cases x with
      | tmp t =>
        have e := ho t rfl g hg
        rw [hl] at e; cases e
        have := (ht t rfl).2
        simp only [given] at this
        split at this
        · simp [lookup] at this
        · rename_i hh
          rw [hw (by simpa using hh)] at hg; cases hg
      | _ => rw [he (by intro t e; cases e)] at hg; cases hg
    rw [if_neg hg, if_neg ?_]; exact hl
    rw [hl]
    cases dst with
    | none => simp
    | some d => simp only [Option.map_some]; intro e; cases e; exact (ht d rfl).1 rfl
  · intro t z hne hl
    cases x with
    | tmp t' =>
      simp only [given] at hl
      split at hl
      · simp only [lookup] at hl
        split at hl
        · rename_i e; subst e; cases hl
          obtain ⟨fq, h1, h2, h3⟩ := R.tm t'
          exact ⟨[], List.nodup_nil, by simp, h3.share⟩
        · cases hl
      · simp [lookup] at hl
    | _ => simp [given, lookup] at hl
  · intro d hd; subst hd
    exact ⟨fp, hn, fun g hg => by simp [hg], h⟩
  · intro b x hl; simp [lookup] at hl
  · intro g l hl
    split at hl
    · rename_i hg
      cases x with
      | tmp t => exact R.rg g _ (ho t rfl g hg)
      | _ => rw [he (by intro t e; cases e)] at hg; cases hg
    · split at hl
      · cases hl
      · exact R.rg g l hl

theorem step_pure (R : RelG N w0 M V0 K V O s a w) (o : Oper) (hd : ∀ d, o.dst = some d → d < N) (v : Value) (x : AV) (rd : List Nat) (hr : (execOp a.eval o).run P w = .ok (.value v) w) (h : RepV V w K [] v x) :
    Step1 P N w0 M V0 K o (({ val := x, rd := rd } : Eff).apply o.dst s) a w := by
  obtain ⟨O', h'⟩ := R.pure o.dst v x rd hd h
  exact ⟨v, w, K, V, O', .inl hr, h', fun _ _ => rfl⟩

theorem sound_move (R : RelG N w0 M V0 K V O s a w) (o : Oper) (hd : ∀ d, o.dst = some d → d < N) (x : Operand) (hx : o.op = .move x ∨ o.op = .assign x) :
    Step1 P N w0 M V0 K o (({ val := s.ev x, set := given x (s.ev x) } : Eff).apply o.dst s) a w := by
  obtain ⟨fp, h1, h2, h3, h4⟩ := R.ev x
  obtain ⟨O', h⟩ := R.take x o.dst (a.eval x) (s.ev x) [] hd h1 h2 h3 (ownless_v h4) h4
  refine ⟨a.eval x, w, K, V, O', .inl ?_, h, fun _ _ => rfl⟩
  rcases hx with hx | hx <;> simp [execOp, hx]

theorem binV_run {op : BinOp} {x y u : Value} (h : binV op x y = some u) (t : TypeId) (xo yo : Operand) (w : World) : ((do eqGuard op t xo yo x y; binOp op t x y : Sem Value)).run P w = .ok u w ∧ plain u = true := by
  unfold binV at h
  split at h
  · rename_i k a k' b
    cases op <;> simp only [Option.ite_none_right_eq_some, Option.ite_none_left_eq_some, Option.some.injEq, reduceCtorEq] at h
    all_goals first
      | (obtain ⟨rfl, rfl⟩ := h; refine ⟨?_, rfl⟩; simp [eqGuard, binOp, Op.intArith, Op.intCmp, Op.intBits])
      | (obtain ⟨rfl, hb, rfl⟩ := h; refine ⟨?_, rfl⟩; simp [eqGuard, binOp, Op.intDiv, hb])
      | (obtain ⟨hb, rfl⟩ := h; refine ⟨?_, rfl⟩; simp [eqGuard, binOp, Op.shift, hb])
  · rename_i a b
    cases op <;> simp only [Option.ite_none_right_eq_some, Option.some.injEq, reduceCtorEq] at h
    all_goals first
      | (subst h; refine ⟨?_, rfl⟩; simp [eqGuard, binOp, Op.stringOp])
      | (obtain ⟨hb, rfl⟩ := h; refine ⟨?_, rfl⟩; simp [eqGuard, binOp, Op.stringOp, IntKind.max, IntKind.signed, IntKind.bits]; omega)
  · cases h

theorem unV_run {op : UnOp} {x u : Value} (h : unV op x = some u) (w : World) : (Op.unary op x).run P w = .ok u w ∧ plain u = true := by
  unfold unV at h
  split at h
  · split at h
    · cases h; exact ⟨by simp [Op.unary, Op.intArith], rfl⟩
    · cases h
  · split at h
    · cases h; exact ⟨by simp [Op.unary], rfl⟩
    · cases h
  · cases h

/-- '==' on types whose cells are scalars: cell by cell. -/
def EqtOk (P : Program) (H : Hints) : Prop := ∀ t, H.eqt t = true → ∀ (xs ys : List Value) (w : World), xs.length = ys.length → (∀ v ∈ xs, plain v = true) → (∀ v ∈ ys, plain v = true) →
  ∀ (cs ds : List AV) r, cs = xs.map .lit → ds = ys.map .lit → tsize P t = some cs.length → cs.all litInt = true → sameLits cs ds = some r → ∀ (op : BinOp) (xo yo : Operand),
    (op = .eql → ((do eqGuard op t xo yo (.agg xs.toArray) (.agg ys.toArray); binOp op t (.agg xs.toArray) (.agg ys.toArray) : Sem Value)).run P w = .ok (.bool r) w) ∧
    (op = .neq → ((do eqGuard op t xo yo (.agg xs.toArray) (.agg ys.toArray); binOp op t (.agg xs.toArray) (.agg ys.toArray) : Sem Value)).run P w = .ok (.bool (!r)) w)

theorem sameLits_lit : ∀ (cs ds : List AV) (r : Bool), sameLits cs ds = some r → ∃ us vs : List Value, cs = us.map .lit ∧ ds = vs.map .lit ∧ us.length = vs.length := by
  intro cs
  induction cs with
  | nil =>
    intro ds r h
    cases ds with
    | nil => exact ⟨[], [], rfl, rfl, rfl⟩
    | cons d ds => simp [sameLits] at h
  | cons c cs ih =>
    intro ds r h
    cases ds with
    | nil => unfold sameLits at h; split at h <;> simp_all
    | cons d ds =>
      cases c <;> first | (simp [sameLits] at h; done) | skip
      cases d <;> first | (simp [sameLits] at h; done) | skip
      rename_i u v
      cases u <;> first | (simp [sameLits] at h; done) | skip
      all_goals (cases v <;> first | (simp [sameLits] at h; done) | skip)
      · simp only [sameLits, Option.map_eq_some_iff] at h
        obtain ⟨q, hq, _⟩ := h
        obtain ⟨us, vs, rfl, rfl, hl⟩ := ih ds q hq
        exact ⟨_ :: us, _ :: vs, rfl, rfl, by simp [hl]⟩
      · simp only [sameLits, Option.ite_none_right_eq_some, Option.map_eq_some_iff] at h
        obtain ⟨-, q, hq, _⟩ := h
        obtain ⟨us, vs, rfl, rfl, hl⟩ := ih ds q hq
        exact ⟨_ :: us, _ :: vs, rfl, rfl, by simp [hl]⟩

theorem rep_lits {V w K m fp} : ∀ {us : List Value} (vs : List Value), Rep V w K m fp us (vs.map .lit) → us = vs ∧ fp = [] ∧ ∀ v ∈ us, plain v = true := by
  intro us vs
  induction vs generalizing us with
  | nil => intro h; cases h; exact ⟨rfl, rfl, by simp⟩
  | cons v vs ih =>
    intro h
    simp only [List.map_cons] at h
    cases h with
    | lit hp h => obtain ⟨rfl, rfl, h3⟩ := ih h; exact ⟨rfl, rfl, by intro u hu; rcases List.mem_cons.1 hu with rfl | hu; exact hp; exact h3 u hu⟩

theorem tbool_of {t : TypeId} (h : tbool P t = true) : P.underlying t = some .bool := by
  unfold tbool at h
  split at h
  · assumption
  · cases h
theorem eqB_run {op : BinOp} {x y u : Value} (h : eqB op x y = some u) {t : TypeId} (ht : tbool P t = true) (xo yo : Operand) (w : World) : ((do eqGuard op t xo yo x y; binOp op t x y : Sem Value)).run P w = .ok u w ∧ plain u = true := by
  have hu := tbool_of ht
  unfold eqB at h
  split at h
  · cases h; refine ⟨?_, rfl⟩; simp [eqGuard, run_eql_bool w t _ _ hu]
  · cases h; refine ⟨?_, rfl⟩; simp [eqGuard, run_neq_bool w t _ _ hu]
  · cases h

theorem sound_binOp (hE : EqtOk P H) (R : RelG N w0 M V0 K V O s a w) (o : Oper) (hd : ∀ d, o.dst = some d → d < N) {e : Eff} (h : opE P H fid o s = some e) {op t x y t'} (hop : o.op = .binOp op t x y t') :
    Step1 P N w0 M V0 K o (e.apply o.dst s) a w := by
  simp only [opE, hop] at h
  obtain ⟨f1, _, _, _, h1⟩ := R.ev x
  obtain ⟨f2, _, _, _, h2⟩ := R.ev y
  split at h
  · rename_i p q hp hq
    rw [hp] at h1; rw [hq] at h2
    obtain ⟨e1, -, -⟩ := inv_lit h1
    obtain ⟨e2, -, -⟩ := inv_lit h2
    split at h
    · rename_i u hu
      simp only [Option.some.injEq] at h
      subst h
      have := binV_run (P := P) hu t x y w
      refine step_pure R o hd u _ [] ?_ (.lit this.2)
      simp only [execOp, hop, e1, e2]
      simp only [Sem.run_bind] at this ⊢
      rw [this.1]; rfl
    · simp only [Option.ite_none_right_eq_some, Option.map_eq_some_iff] at h
      obtain ⟨ht, u, hu, rfl⟩ := h
      have := eqB_run (P := P) hu ht x y w
      refine step_pure R o hd u _ [] ?_ (.lit this.2)
      simp only [execOp, hop, e1, e2]
      simp only [Sem.run_bind] at this ⊢
      rw [this.1]; rfl
  · rename_i p q hp hq
    rw [hp] at h1; rw [hq] at h2
    obtain ⟨us, e1, r1⟩ := inv_agg h1
    obtain ⟨vs, e2, r2⟩ := inv_agg h2
    split at h
    · rename_i ht0
      simp only [Bool.and_eq_true, decide_eq_true_eq] at ht0
      obtain ⟨⟨ht, ht1⟩, ht2⟩ := ht0
      have key : ∀ r, sameLits p q = some r → us.length = vs.length ∧ (∀ v ∈ us, plain v = true) ∧ (∀ v ∈ vs, plain v = true) ∧ p = us.map .lit ∧ q = vs.map .lit := by
        intro r hr
        obtain ⟨us', vs', rfl, rfl, hl⟩ := sameLits_lit p q r hr
        obtain ⟨rfl, -, g1⟩ := rep_lits _ r1
        obtain ⟨rfl, -, g2⟩ := rep_lits _ r2
        exact ⟨hl, g1, g2, rfl, rfl⟩
      split at h
      · simp only [Option.map_eq_some_iff] at h
        obtain ⟨r, hr, rfl⟩ := h
        obtain ⟨hl, g1, g2, k1, k2⟩ := key r hr
        have := (hE t ht us vs w hl g1 g2 p q r k1 k2 ht1 ht2 hr .eql x y).1 rfl
        refine step_pure R o hd _ _ [] ?_ (.lit rfl)
        simp only [execOp, hop, e1, e2]
        simp only [Sem.run_bind] at this ⊢
        rw [this]; rfl
      · simp only [Option.map_eq_some_iff] at h
        obtain ⟨r, hr, rfl⟩ := h
        obtain ⟨hl, g1, g2, k1, k2⟩ := key r hr
        have := (hE t ht us vs w hl g1 g2 p q r k1 k2 ht1 ht2 hr .neq x y).2 rfl
        refine step_pure R o hd _ _ [] ?_ (.lit rfl)
        simp only [execOp, hop, e1, e2]
        simp only [Sem.run_bind] at this ⊢
        rw [this]; rfl
      · cases h
    · cases h
  · cases h

theorem sound_unOp (R : RelG N w0 M V0 K V O s a w) (o : Oper) (hd : ∀ d, o.dst = some d → d < N) {e : Eff} (h : opE P H fid o s = some e) {op t x} (hop : o.op = .unOp op t x) :
    Step1 P N w0 M V0 K o (e.apply o.dst s) a w := by
  simp only [opE, hop] at h
  obtain ⟨f1, _, _, _, h1⟩ := R.ev x
  split at h
  · rename_i p hp
    simp only [Option.map_eq_some_iff] at h
    obtain ⟨u, hu, rfl⟩ := h
    rw [hp] at h1
    obtain ⟨e1, -, -⟩ := inv_lit h1
    have := unV_run (P := P) hu w
    refine step_pure R o hd u _ [] ?_ (.lit this.2)
    simp only [execOp, hop, e1, Sem.run_bind, this.1]; rfl
  · cases h

theorem sound_pick (R : RelG N w0 M V0 K V O s a w) (o : Oper) (hd : ∀ d, o.dst = some d → d < N) {e : Eff} (h : opE P H fid o s = some e) {c x y} (hop : o.op = .pick c x y) :
    Step1 P N w0 M V0 K o (e.apply o.dst s) a w := by
  simp only [opE, hop] at h
  obtain ⟨f0, _, _, _, h0⟩ := R.ev c
  obtain ⟨f1, _, _, _, h1⟩ := R.ev x
  obtain ⟨f2, _, _, _, h2⟩ := R.ev y
  split at h
  · rename_i hc
    rw [hc] at h0
    obtain ⟨e0, -, -⟩ := inv_lit h0
    split at h
    · rename_i u hu
      cases h; rw [hu] at h1
      obtain ⟨e1, rfl, hp⟩ := inv_lit h1
      refine step_pure R o hd u _ [] ?_ (.lit hp)
      simp [execOp, hop, e0, e1, asBool]
    · cases h
  · rename_i hc
    rw [hc] at h0
    obtain ⟨e0, -, -⟩ := inv_lit h0
    split at h
    · rename_i u hu
      cases h; rw [hu] at h2
      obtain ⟨e1, rfl, hp⟩ := inv_lit h2
      refine step_pure R o hd u _ [] ?_ (.lit hp)
      simp [execOp, hop, e0, e1, asBool]
    · cases h
  · cases h

theorem sound_nilCheck (R : RelG N w0 M V0 K V O s a w) (o : Oper) (hd : ∀ d, o.dst = some d → d < N) {e : Eff} (h : opE P H fid o s = some e) {x} (hop : o.op = .nilCheck x) :
    Step1 P N w0 M V0 K o (e.apply o.dst s) a w := by
  simp only [opE, hop] at h
  obtain ⟨f1, _, _, _, h1⟩ := R.ev x
  split at h
  · rename_i b k hp
    cases h; rw [hp] at h1
    obtain ⟨e1, rfl⟩ := inv_ptr h1
    refine step_pure R o hd (a.eval x) _ [] ?_ h1
    simp [execOp, hop, e1]
  · rename_i cs hp
    cases h; rw [hp] at h1
    obtain ⟨ad, vs, e1, rfl, -⟩ := inv_cptr h1
    refine step_pure R o hd (a.eval x) _ [] ?_ h1
    simp [execOp, hop, e1]
  · cases h

theorem info_of {t : TypeId} {k : Nat} (h : tsize P t = some k) : ∃ i, P.info? t = some i ∧ i.size = k := by
  simp only [tsize, Option.map_eq_some_iff] at h; exact h

theorem tfield_run {t f off k : Nat} (h : tfield P t f = some (off, k)) (b o : Nat) (w : World) :
    (Instr.fieldAt t (.pointer (some ⟨b, o, none⟩)) f).run P w = .ok (.pointer (some ⟨b, o + off, none⟩)) w := by
  unfold tfield at h
  split at h
  · rename_i fs hfs
    split at h
    · rename_i fd hfd
      split at h
      · rename_i n hn
        cases h
        simp only [Option.map_eq_some_iff] at hn
        obtain ⟨i, hi, hs⟩ := hn
        have : (⟨b, o, none⟩ : Addr).add fd.offset = ⟨b, o + fd.offset, none⟩ := by
          unfold Addr.add; split <;> simp_all
        simp [Instr.fieldAt, underlying, hfs, hfd, Instr.sureAddr, fieldPlace, Go.sizeOf, Go.typeInfo, hi, hs, this]
      · cases h
    · cases h
  · cases h

theorem sound_fieldAddr (R : RelG N w0 M V0 K V O s a w) (o : Oper) (hd : ∀ d, o.dst = some d → d < N) {e : Eff} (h : opE P H fid o s = some e) {t x f} (hop : o.op = .fieldAddr t x f) :
    Step1 P N w0 M V0 K o (e.apply o.dst s) a w := by
  simp only [opE, hop] at h
  obtain ⟨f1, _, _, _, h1⟩ := R.ev x
  split at h
  · rename_i b k off z hp hf
    cases h; rw [hp] at h1
    obtain ⟨e1, rfl⟩ := inv_ptr h1
    refine step_pure R o hd _ _ [] ?_ (.u (.p (.ptr b (k + off))))
    simp only [execOp, hop, e1, Sem.run_bind, tfield_run hf]; rfl
  · rename_i cs off z hp hf
    simp only [Option.ite_none_right_eq_some, Option.some.injEq] at h
    obtain ⟨hl, rfl⟩ := h
    rw [hp] at h1
    obtain ⟨⟨ab, ao, as⟩, vs, e1, rfl, q1, q2, q3, q4, q5⟩ := inv_cptr h1
    obtain rfl : as = none := q1
    refine step_pure R o hd (.pointer (some ⟨ab, ao + off, none⟩)) _ [] ?_ ?_
    · simp only [execOp, hop, e1, Sem.run_bind, tfield_run hf]; rfl
    · obtain ⟨p1, p2, u1, u2, hp, rfl, r1, r2⟩ := Rep.split (cs.take off) (cs₂ := cs.drop off) (by rw [List.take_append_drop]; exact q5)
      have hu1 : u1.length = off := by rw [r1.len, List.length_take]; omega
      obtain ⟨rfl, rfl⟩ : p1 = [] ∧ p2 = [] := by simpa using hp.symm
      refine .u (.p (.cptr ⟨ab, ao + off, none⟩ u2 rfl (fun j v hj => ?_) ?_ q4 r2))
      · have := q2 (off + j) v (by rw [List.getElem?_append_right (by omega)]; rw [← hj]; congr 1; omega)
        rw [← this]; simp [Nat.add_assoc]
      · simp only [List.length_append, hu1] at q3 ⊢; omega
  · cases h

end Evl
