/- The executor over code, its rules. No condition. -/
import Derived.Test.YtpjeibdllddkjaaExc
namespace Evl
open Go

variable {P : Program} {H : Hints} {Y : FuncId → List AV → (Nat → Option Box) → AV → (Nat → Option Box) → Prop} {fid : FuncId}

def addO {α β : Type _} (ps : List Prop) : Option (α × β × List Prop) → Option (α × β × List Prop)
  | some (k, l, qs) => some (k, l, ps ++ qs)
  | none => none

/-- What is told at the front, for an operation that stands there. -/
def front : List (Nat × Or) → Option Or × List (Nat × Or)
  | (0, w) :: q => (some w, q)
  | (g + 1, w) :: q => (none, (g, w) :: q)
  | [] => (none, [])

def virtL (i b sz : Nat) (l : L) : L := applyL { val := .msl b 0, kl := [b], put := [(b, ⟨true, sz, []⟩)] } (some i) l
def virtcL (k : Nat) (y : Box) (j b sz : Nat) (l : L) : L := applyL { val := .bad, kl := [b], put := [(b, ⟨true, sz, []⟩), (k, { y with cs := (killL b y.cs).set j (.msl b 0) })] } none l

/-- At most n steps; it ends where n is used up, and what was told with it. -/
def ex (P : Program) (H : Hints) (Y : FuncId → List AV → (Nat → Option Box) → AV → (Nat → Option Box) → Prop) (fid : FuncId) : Nat → List Td → L → List (Nat × Or) → Option (List Td × L × List Prop)
  | 0, k, l, q => match q with
    | [] => some (k, l, [])
    | _ => none
  | n + 1, k, l, q => match k with
    | .code c :: k => match q with
      | (0, .virt i b sz) :: q => addO [l.get i = .nil, b < 1000 ∧ sz ≠ 0] (ex P H Y fid n (.code c :: k) (virtL i b sz l) q)
      | (0, .virtc a y j b sz) :: q => addO [lookup a l.bs = some y, y.cs[j]? = some .nil ∧ y.sz = 0 ∧ a ≠ b ∧ b < 1000 ∧ sz ≠ 0] (ex P H Y fid n (.code c :: k) (virtcL a y j b sz l) q)
      | (0, .fix t v) :: q => addO [l.get t = v] (ex P H Y fid n (.code c :: k) (setT l t v) q)
      | (0, .fixb b x) :: q => addO [lookup b l.bs = some x] (ex P H Y fid n (.code c :: k) (setB l b x) q)
      | (0, .wkb b y x) :: q => addO [lookup b l.bs = some y, WkB y x] (ex P H Y fid n (.code c :: k) (setB l b x) q)
      | q => match c with
        | .seq a b => ex P H Y fid n (.code a :: .code b :: k) l q
        | .skip => ex P H Y fid n k l q
        | .block i a => ex P H Y fid n (.code a :: .blk i :: k) l q
        | .region _ o false => ex P H Y fid n (.ops o (List.range o.size) :: k) l q
        | .region _ o true => ex P H Y fid n (.opsd o (List.range o.size) [] :: k) l q
        | .cond c a b => match l.toS.ev c with
          | .lit (.bool true) => ex P H Y fid n (.code a :: k) l q
          | .lit (.bool false) => ex P H Y fid n (.code b :: k) l q
          | _ => none
        | .exit i => match exitX i k with
          | some k' => ex P H Y fid n k' l q
          | none => none
        | .loop a => ex P H Y fid n (.code a :: .lp (.loop a) :: k) l q
        | _ => none
    | .lp c :: k => ex P H Y fid n (.code c :: k) l q
    | .blk _ :: k => ex P H Y fid n k l q
    | .ops _ [] :: k => ex P H Y fid n k l q
    | .ops o (i :: is) :: k => match q with
      | (0, .fix t v) :: q => addO [l.get t = v] (ex P H Y fid n (.ops o (i :: is) :: k) (setT l t v) q)
      | (0, .fixb b x) :: q => addO [lookup b l.bs = some x] (ex P H Y fid n (.ops o (i :: is) :: k) (setB l b x) q)
      | q => match opX P H Y fid o i l (front q).1 with
        | some (l', _, ps) => addO ps (ex P H Y fid n (.ops o is :: k) l' (front q).2)
        | none => none
    | .opsd o [] lg :: k => if drawOk o lg then ex P H Y fid n k l q else none
    | .opsd o (i :: is) lg :: k => match q with
      | (0, .fix t v) :: q => addO [l.get t = v] (ex P H Y fid n (.opsd o (i :: is) lg :: k) (setT l t v) q)
      | (0, .fixb b x) :: q => addO [lookup b l.bs = some x] (ex P H Y fid n (.opsd o (i :: is) lg :: k) (setB l b x) q)
      | q => match opX P H Y fid o i l (front q).1 with
        | some (l', e, ps) => addO ps (ex P H Y fid n (.opsd o is (lg ++ [e]) :: k) l' (front q).2)
        | none => none
    | [] => none

theorem addO_some {α β : Type _} {ps : List Prop} {x : Option (α × β × List Prop)} {k l rs} (h : addO ps x = some (k, l, rs)) : ∃ qs, x = some (k, l, qs) ∧ rs = ps ++ qs := by
  unfold addO at h
  split at h
  · simp only [Option.some.injEq, Prod.mk.injEq] at h
    obtain ⟨rfl, rfl, rfl⟩ := h
    exact ⟨_, rfl, rfl⟩
  · cases h

theorem wx_code_toS {c : Code} {k : List Td} {Q : X → L → Prop} {l u : L} (e : u.toS = l.toS) (h : WX P H Y fid (.code c :: k) Q .nor u) : WX P H Y fid (.code c :: k) Q .nor l := by
  obtain ⟨x, l1, hb, hq⟩ := h
  rw [e] at hb
  exact ⟨x, l1, hb, hq⟩
theorem W.toS {c : Code} {K : X → L → Prop} {l u : L} (e : u.toS = l.toS) (h : W P H Y fid c u K) : W P H Y fid c l K := by
  obtain ⟨x, l1, hb, hq⟩ := h
  rw [e] at hb
  exact ⟨x, l1, hb, hq⟩
theorem wo_toS {ops : Array Oper} {is : List Nat} {Q : L → List LogE → Prop} {l u : L} (e : u.toS = l.toS) (h : WO P H Y fid ops is u Q) : WO P H Y fid ops is l Q := by
  unfold WO at h ⊢
  rw [e] at h; exact h

theorem ex_ok {Q : X → L → Prop} : ∀ n {k l q k' l' ps}, ex P H Y fid n k l q = some (k', l', ps) → All ps → WX P H Y fid k' Q .nor l' → WX P H Y fid k Q .nor l := by
  intro n
  induction n with
  | zero =>
    intro k l q k' l' ps h _ hw
    simp only [ex] at h
    split at h
    · simp only [Option.some.injEq, Prod.mk.injEq] at h; obtain ⟨rfl, rfl, -⟩ := h; exact hw
    · cases h
  | succ n ih =>
    intro k l q k' l' ps h hp hw
    simp only [ex] at h
    split at h
    · rename_i c k
      split at h
      · obtain ⟨qs, h1, rfl⟩ := addO_some h
        obtain ⟨p1, p2, p3⟩ := hp
        obtain ⟨x, l1, hb, hq⟩ := ih h1 p3 hw
        unfold virtL at hb
        rw [applyL_ok] at hb
        exact ⟨x, l1, .virt _ _ _ p1 p2.1 p2.2 hb, hq⟩
      · obtain ⟨qs, h1, rfl⟩ := addO_some h
        obtain ⟨p1, p2, p3⟩ := hp
        obtain ⟨x, l1, hb, hq⟩ := ih h1 p3 hw
        unfold virtcL at hb
        rw [applyL_ok] at hb
        exact ⟨x, l1, .virtc _ _ _ _ _ p1 p2.1 p2.2.1 p2.2.2.1 p2.2.2.2.1 p2.2.2.2.2 hb, hq⟩
      · obtain ⟨qs, h1, rfl⟩ := addO_some h
        exact wx_code_toS (setT_eq hp.1) (ih h1 hp.2 hw)
      · obtain ⟨qs, h1, rfl⟩ := addO_some h
        exact wx_code_toS (setB_eq hp.1) (ih h1 hp.2 hw)
      · obtain ⟨qs, h1, rfl⟩ := addO_some h
        obtain ⟨p1, p2, p3⟩ := hp
        obtain ⟨x, l1, hb, hq⟩ := ih h1 p3 hw
        refine ⟨x, l1, Big.wks ?_ hb, hq⟩
        refine ⟨fun i => .inl (.inl (.inl rfl)), fun b' z hz => ?_⟩
        simp only [L.toS, setB, lookup] at hz
        split at hz
        · rename_i e; subst e
          simp only [Option.some.injEq] at hz; subst hz
          exact ⟨_, p1, p2⟩
        · exact ⟨z, hz, rfl, rfl, wkCs_refl _⟩
      · split at h
        · refine w_seq rfl (W.mono (ih h hp hw) fun x l h => ?_)
          cases x <;> exact h
        · exact w_skip rfl (ih h hp hw)
        · refine w_block rfl (W.mono (ih h hp hw) fun x l h => ?_)
          cases x <;> exact h
        · exact w_region rfl (ih h hp hw)
        · exact w_draw rfl (ih h hp hw)
        · split at h
          · rename_i hc; exact w_cond rfl (b := true) hc (fun _ => ih h hp hw) (fun e => by cases e)
          · rename_i hc; exact w_cond rfl (b := false) hc (fun e => by cases e) (fun _ => ih h hp hw)
          · cases h
        · split at h
          · rename_i i k1 hx
            refine w_exit rfl ?_
            have hk := ih h hp hw
            clear h hw
            induction k with
            | nil => cases hx
            | cons f k ihk =>
              cases f with
              | blk j =>
                simp only [exitX] at hx
                show (if _ = j then _ else _)
                split at hx
                · rename_i e; cases hx; rw [if_pos e]; exact hk
                · rename_i e; rw [if_neg e]; exact ihk hx
              | _ => exact ihk hx
          · cases h
        · have hk := ih h hp hw
          obtain ⟨x, l1, hb, hq⟩ := hk
          cases x with
          | nor =>
            obtain ⟨x', l2, hb', hq'⟩ := hq
            exact ⟨x', l2, .loopn hb hb', hq'⟩
          | ext id => exact ⟨_, l1, .loopx hb (by simp), hq⟩
          | ret => exact ⟨_, l1, .loopx hb (by simp), hq⟩
        · cases h
    · have := ih h hp hw; exact this
    · have := ih h hp hw; exact this
    · exact wo_nil (ih h hp hw)
    · split at h
      · obtain ⟨qs, h1, rfl⟩ := addO_some h
        exact wo_toS (setT_eq hp.1) (ih h1 hp.2 hw)
      · obtain ⟨qs, h1, rfl⟩ := addO_some h
        exact wo_toS (setB_eq hp.1) (ih h1 hp.2 hw)
      · split at h
        · rename_i ho
          obtain ⟨qs, h1, rfl⟩ := addO_some h
          rw [all_app] at hp
          exact opX_ok ho hp.1 (ih h1 hp.2 hw)
        · cases h
    · split at h
      · rename_i hd
        exact wo_nil ⟨by rw [List.append_nil]; exact hd, ih h hp hw⟩
      · cases h
    · split at h
      · obtain ⟨qs, h1, rfl⟩ := addO_some h
        exact wo_toS (setT_eq hp.1) (ih h1 hp.2 hw)
      · obtain ⟨qs, h1, rfl⟩ := addO_some h
        exact wo_toS (setB_eq hp.1) (ih h1 hp.2 hw)
      · split at h
        · rename_i ho
          obtain ⟨qs, h1, rfl⟩ := addO_some h
          rw [all_app] at hp
          refine opX_ok ho hp.1 ?_
          have := ih h1 hp.2 hw
          obtain ⟨l2, lg2, hb, hd, hq⟩ := this
          exact ⟨l2, lg2, hb, by rw [List.append_assoc] at hd; exact hd, hq⟩
        · cases h
    · cases h

/-- Only frames at which less may be told. -/
def lookAt : List Td → Bool
  | .code _ :: _ => true
  | .lp _ :: _ => true
  | .blk _ :: k => lookAt k
  | _ => false
theorem wx_look {Q : X → L → Prop} {l u : L} (h : look u l = seen u) : ∀ {k : List Td}, lookAt k = true → WX P H Y fid k Q .nor u → WX P H Y fid k Q .nor l := by
  intro k
  induction k with
  | nil => intro hk; cases hk
  | cons f k ih =>
    intro hk hw
    cases f with
    | code c => exact w_look u h hw
    | lp c => exact w_look u h hw
    | blk i => exact ih hk hw
    | ops o is => cases hk
    | opsd o is lg => cases hk

/-- What is to be shown, shut: nothing looks into it by the way. -/
structure Wk (P : Program) (H : Hints) (Y : FuncId → List AV → (Nat → Option Box) → AV → (Nat → Option Box) → Prop) (fid : FuncId) (k : List Td) (Q : X → L → Prop) (l : L) : Prop where
  out : WX P H Y fid k Q .nor l

/-- To a state that is told. -/
theorem x_to (n : Nat) (q : List (Nat × Or)) {k k' : List Td} {l u : L} {ps : List Prop} {Q : X → L → Prop} (hobs : All ps) (hw : Wk P H Y fid k' Q u)
    (h : (ex P H Y fid n k l q).map (fun r => (r.1, look u r.2.1, r.2.2, lookAt r.1)) = some (k', seen u, ps, true)) : Wk P H Y fid k Q l := by
  obtain ⟨⟨k1, l1, ps1⟩, h1, h2⟩ := Option.map_eq_some_iff.1 h
  simp only [Prod.mk.injEq] at h2
  obtain ⟨rfl, h3, rfl, h4⟩ := h2
  exact ⟨ex_ok n h1 hobs (wx_look h3 h4 hw.out)⟩

/-- Where the way forks. -/
def forkX : List Td → L → Option (AV × (List Td × L) × (List Td × L))
  | .code (.cond (.tmp t) a b) :: k, l => some (l.get t, (.code a :: k, setT l t (.lit (.bool true))), (.code b :: k, setT l t (.lit (.bool false))))
  | .ops o (i :: is) :: k, l => match (o[i]?).bind (·.guard) with
    | some (j, _) => match (o[j]?).bind (·.dst) with
      | some t => some (l.get t, (.ops o (i :: is) :: k, setT l t (.lit (.bool true))), (.ops o (i :: is) :: k, setT l t (.lit (.bool false))))
      | none => none
    | none => none
  | .opsd o (i :: is) lg :: k, l => match (o[i]?).bind (·.guard) with
    | some (j, _) => match (o[j]?).bind (·.dst) with
      | some t => some (l.get t, (.opsd o (i :: is) lg :: k, setT l t (.lit (.bool true))), (.opsd o (i :: is) lg :: k, setT l t (.lit (.bool false))))
      | none => none
    | none => none
  | _, _ => none
theorem forkX_ok {Q : X → L → Prop} {k : List Td} {l : L} {v : Bool} {kt kf : List Td} {lt lf : L} (h : forkX k l = some (.lit (.bool v), (kt, lt), (kf, lf)))
    (ht : v = true → WX P H Y fid kt Q .nor lt) (hf : v = false → WX P H Y fid kf Q .nor lf) : WX P H Y fid k Q .nor l := by
  unfold forkX at h
  split at h
  · rename_i t a b k
    simp only [Option.some.injEq, Prod.mk.injEq] at h
    obtain ⟨hv, ⟨rfl, rfl⟩, rfl, rfl⟩ := h
    refine w_cond (b := v) rfl hv (fun e => ?_) (fun e => ?_)
    · subst e; exact W.toS (setT_eq hv) (ht rfl)
    · subst e; exact W.toS (setT_eq hv) (hf rfl)
  · split at h
    · split at h
      · simp only [Option.some.injEq, Prod.mk.injEq] at h
        obtain ⟨hv, ⟨rfl, rfl⟩, rfl, rfl⟩ := h
        cases v with
        | true => exact wo_toS (setT_eq hv) (ht rfl)
        | false => exact wo_toS (setT_eq hv) (hf rfl)
      · cases h
    · cases h
  · split at h
    · split at h
      · simp only [Option.some.injEq, Prod.mk.injEq] at h
        obtain ⟨hv, ⟨rfl, rfl⟩, rfl, rfl⟩ := h
        cases v with
        | true => exact wo_toS (setT_eq hv) (ht rfl)
        | false => exact wo_toS (setT_eq hv) (hf rfl)
      · cases h
    · cases h
  · cases h

/-- The two ways behind a fork, as they come. -/
def frkK (b : Bool) (r : Option (List Td × L × List Prop)) : List Td :=
  match r with
  | some (k, l, _) => match forkX k l with
    | some (_, t, f) => if b then t.1 else f.1
    | none => []
  | none => []
def frkL (b : Bool) (r : Option (List Td × L × List Prop)) : L :=
  match r with
  | some (k, l, _) => match forkX k l with
    | some (_, t, f) => if b then t.2 else f.2
    | none => ⟨[], []⟩
  | none => ⟨[], []⟩
theorem x_frk (n : Nat) (q : List (Nat × Or)) {k : List Td} {l : L} {v : Bool} {ps : List Prop} {Q : X → L → Prop} {α : Type} {A B : Option α} {r : α} (hobs : All ps) (h : frk v A B = some r)
    (hx : (ex P H Y fid n k l q).bind (fun r => (forkX r.1 r.2.1).map fun f => (f.1, r.2.2)) = some (.lit (.bool v), ps))
    (ht : A = some r → Wk P H Y fid (frkK true (ex P H Y fid n k l q)) Q (frkL true (ex P H Y fid n k l q)))
    (hf : B = some r → Wk P H Y fid (frkK false (ex P H Y fid n k l q)) Q (frkL false (ex P H Y fid n k l q))) : Wk P H Y fid k Q l := by
  obtain ⟨⟨k1, l1, ps1⟩, h1, h2⟩ := Option.bind_eq_some_iff.1 hx
  obtain ⟨⟨a, ⟨kt, lt⟩, kf, lf⟩, h3, h4⟩ := Option.map_eq_some_iff.1 h2
  simp only [Prod.mk.injEq] at h4
  obtain ⟨rfl, rfl⟩ := h4
  simp only [frkK, frkL, h1, h3] at ht hf
  refine ⟨ex_ok n h1 hobs (forkX_ok h3 (fun e => ?_) (fun e => ?_))⟩
  · exact (ht (frk_true e h)).out
  · exact (hf (frk_false e h)).out

/-! a function's end -/
def resEH (P : Program) (s : S) : ResultVar → Option ((AV × List Nat × List Nat) × List Prop)
  | .tmp t => match s.t t with
    | .msl r n => match freezeH s.b [.msl r n] with
      | some (([y], ks), ps) => some ((y, ks, [t]), ps)
      | _ => none
    | .agg cs => match freezeH s.b cs with
      | some ((ys, ks), ps) => some ((.agg ys, ks, [t]), ps)
      | none => none
    | .ptr b 0 => match s.b b with
      | some x => if b < 1000 ∧ x.sz = 0 ∧ x.st = true ∧ cleanL x.cs then some ((.nbx x.cs, [b], [t]), []) else none
      | none => none
    | .lit v => some ((.lit v, [], [t]), [])
    | .nil => some ((.nil, [], [t]), [])
    | .sl o sz n cs => some ((.sl o sz n cs, [], [t]), [])
    | _ => none
  | .cell a t => match s.t a, tsize P t, tagg P t with
    | .ptr b 0, some k, some ag => match s.b b with
      | some x => if b < 1000 ∧ x.cs.length = k ∧ x.sz = 0 then
          match freezeH s.b x.cs with
          | some ((ys, ks), ps) => if b ∈ ks then none else
            (match ag, ys with
            | true, _ => some ((.agg ys, b :: ks, []), ps)
            | false, [y] => some ((y, b :: ks, []), ps)
            | _, _ => none)
          | none => none
        else none
      | none => none
    | _, _, _ => none
theorem resEH_ok {s : S} {v : ResultVar} {r ps} (h : resEH P s v = some (r, ps)) (hp : All ps) : resE P s v = some r := by
  unfold resEH at h
  split at h
  · split at h
    · rename_i hv
      split at h
      · rename_i hf
        simp only [Option.some.injEq, Prod.mk.injEq] at h
        obtain ⟨rfl, rfl⟩ := h
        simp only [resE, hv, freezeH_ok hf hp]
      · cases h
    · rename_i hv
      split at h
      · rename_i hf
        simp only [Option.some.injEq, Prod.mk.injEq] at h
        obtain ⟨rfl, rfl⟩ := h
        simp only [resE, hv, freezeH_ok hf hp]
      · cases h
    · rename_i hv
      split at h
      · rename_i hb
        simp only [Option.ite_none_right_eq_some, Option.some.injEq, Prod.mk.injEq] at h
        obtain ⟨hc, rfl, rfl⟩ := h
        simp only [resE, hv, hb]
        rw [if_pos hc]
      · cases h
    · rename_i hv
      simp only [Option.some.injEq, Prod.mk.injEq] at h
      obtain ⟨rfl, rfl⟩ := h
      simp only [resE, hv]
    · rename_i hv
      simp only [Option.some.injEq, Prod.mk.injEq] at h
      obtain ⟨rfl, rfl⟩ := h
      simp only [resE, hv]
    · rename_i hv
      simp only [Option.some.injEq, Prod.mk.injEq] at h
      obtain ⟨rfl, rfl⟩ := h
      simp only [resE, hv]
    · cases h
  · split at h
    · rename_i hv ht hg
      split at h
      · rename_i hb
        simp only [Option.ite_none_right_eq_some] at h
        obtain ⟨hc, h⟩ := h
        split at h
        · rename_i hf
          simp only [Option.ite_none_left_eq_some] at h
          obtain ⟨hn, h⟩ := h
          split at h
          · simp only [Option.some.injEq, Prod.mk.injEq] at h
            obtain ⟨rfl, rfl⟩ := h
            simp only [resE, hv, ht, hg, hb]
            rw [if_pos hc]
            simp only [freezeH_ok hf hp]
            rw [if_neg hn]
          · simp only [Option.some.injEq, Prod.mk.injEq] at h
            obtain ⟨rfl, rfl⟩ := h
            simp only [resE, hv, ht, hg, hb]
            rw [if_pos hc]
            simp only [freezeH_ok hf hp]
            rw [if_neg hn]
          · cases h
        · cases h
      · cases h
    · cases h
def resLH (P : Program) (s : S) : List ResultVar → Option ((List AV × List Nat × List Nat) × List Prop)
  | [] => some (([], [], []), [])
  | x :: xs => match resEH P s x, resLH P s xs with
    | some ((v, ks, ts), ps), some ((vs, ls, us), qs) => if disj ks ls && disj ts us && ks.all (· < 1000) then some ((v :: vs, ks ++ ls, ts ++ us), ps ++ qs) else none
    | _, _ => none
theorem resLH_ok {s : S} : ∀ {l r ps}, resLH P s l = some (r, ps) → All ps → resL P s l = some r := by
  intro l
  induction l with
  | nil => intro r ps h _; simp only [resLH, Option.some.injEq, Prod.mk.injEq] at h; rw [← h.1]; rfl
  | cons x l ih =>
    intro r ps h hp
    simp only [resLH] at h
    split at h
    · rename_i h1 h2
      simp only [Option.ite_none_right_eq_some, Option.some.injEq, Prod.mk.injEq] at h
      obtain ⟨hc, rfl, rfl⟩ := h
      rw [all_app] at hp
      simp only [resL, resEH_ok h1 hp.1, ih h2 hp.2]
      rw [if_pos hc]
    · cases h
def resH (P : Program) (s : S) (m : List (Bool × Nat)) (l : List ResultVar) : Option (AV × List Prop) :=
  match resLH P s l with
  | some (([v], _, _), ps) => some (wkV m v, ps)
  | some ((vs, _, _), ps) => if vs.any isNbx then none else some (wkV m (.tup vs), ps)
  | none => none
theorem resH_ok {s : S} {m : List (Bool × Nat)} {l : List ResultVar} {r ps} (h : resH P s m l = some (r, ps)) (hp : All ps) : ∃ v, resOf P s l = some v ∧ WkV v r := by
  unfold resH at h
  split at h
  · rename_i hl
    simp only [Option.some.injEq, Prod.mk.injEq] at h
    obtain ⟨rfl, rfl⟩ := h
    exact ⟨_, by simp only [resOf, resLH_ok hl hp], wkV_ok _ _⟩
  · rename_i hn hl
    simp only [Option.ite_none_left_eq_some, Option.some.injEq, Prod.mk.injEq] at h
    obtain ⟨hc, rfl, rfl⟩ := h
    refine ⟨_, ?_, wkV_ok _ _⟩
    simp only [resOf, resLH_ok hl hp]
    rw [if_neg hc]
  · cases h

/-- The borrowed boxes at the end. -/
def backB (s : S) : List (Nat × Box) → Option (List (Nat × Box))
  | [] => some []
  | (i, x) :: l => match s.b i, backB s l with
    | some y, some r => if 1000 ≤ i ∧ cleanL y.cs = true ∧ y.sz = 0 ∧ y.st = true ∧ y.cs.length = x.cs.length then some ((i, y) :: r) else none
    | _, _ => none
theorem backB_ok {s : S} : ∀ {bs bs'}, backB s bs = some bs' → exitOk (lk bs) s ∧ exitB (lk bs) s = lk bs' := by
  intro bs
  induction bs with
  | nil => intro bs' h; simp only [backB, Option.some.injEq] at h; subst h; exact ⟨fun i x h => (by cases h), rfl⟩
  | cons q bs ih =>
    obtain ⟨i, x⟩ := q
    intro bs' h
    simp only [backB] at h
    split at h
    · rename_i y r hb hr
      simp only [Option.ite_none_right_eq_some, Option.some.injEq] at h
      obtain ⟨⟨h1, h2, h3, h4, h5⟩, rfl⟩ := h
      obtain ⟨i1, i2⟩ := ih hr
      refine ⟨fun j z hz => ?_, funext fun j => ?_⟩
      · simp only [lk, lookup] at hz
        split at hz
        · rename_i e; subst e
          simp only [Option.some.injEq] at hz; subst hz
          exact ⟨h1, y, hb, h2, h3, h4, h5⟩
        · exact i1 j z hz
      · have := congrFun i2 j
        simp only [exitB, lk, lookup] at this ⊢
        by_cases e : i = j
        · subst e; simp only [if_pos rfl]; simpa using hb
        · simp only [if_neg e]; exact this
    · cases h

def FinX (P : Program) (fn : Func) (bs : List (Nat × Box)) (r : AV) (bs' : List (Nat × Box)) : X → L → Prop := fun x l' => (x = .nor ∨ x = .ret) ∧ (∃ v, resOf P l'.toS fn.results.toList = some v ∧ WkV v r) ∧ exitOk (lk bs) l'.toS ∧ exitB (lk bs) l'.toS = lk bs'
def atEnd : List Td → Bool
  | [] => true
  | .code .ret :: _ => true
  | .blk _ :: k => atEnd k
  | _ => false
theorem wx_ret {Q : X → L → Prop} {l : L} : ∀ {k : List Td}, Q .ret l → WX P H Y fid k Q .ret l := by
  intro k hq
  induction k with
  | nil => exact hq
  | cons f k ih => cases f <;> exact ih
theorem wx_end {Q : X → L → Prop} {l : L} (h1 : Q .nor l) (h2 : Q .ret l) : ∀ {k : List Td}, atEnd k = true → WX P H Y fid k Q .nor l := by
  intro k
  induction k with
  | nil => intro _; exact h1
  | cons f k ih =>
    intro h
    cases f with
    | code c => cases c <;> first | (cases h; done) | exact w_ret rfl (wx_ret h2)
    | blk i => exact ih h
    | lp c => cases h
    | ops o is => cases h
    | opsd o is lg => cases h
theorem x_end (n : Nat) (q : List (Nat × Or)) (m : List (Bool × Nat)) {k : List Td} {l : L} {fn : Func} {bs bs' : List (Nat × Box)} {r : AV} {ps os : List Prop} (hobs : All ps) (hos : All os)
    (h : (ex P H Y fid n k l q).bind (fun x => match resH P x.2.1.toS m fn.results.toList, backB x.2.1.toS bs with
      | some (v, os), some bs' => some (atEnd x.1, v, bs', x.2.2, os)
      | _, _ => none) = some (true, r, bs', ps, os)) : Wk P H Y fid k (FinX P fn bs r bs') l := by
  obtain ⟨⟨k1, l1, ps1⟩, h1, h2⟩ := Option.bind_eq_some_iff.1 h
  simp only at h2
  split at h2
  · rename_i hr hb
    simp only [Option.some.injEq, Prod.mk.injEq] at h2
    obtain ⟨h3, rfl, rfl, rfl, rfl⟩ := h2
    obtain ⟨e1, e2⟩ := backB_ok hb
    exact ⟨ex_ok n h1 hobs (wx_end ⟨.inl rfl, resH_ok hr hos, e1, e2⟩ ⟨.inr rfl, resH_ok hr hos, e1, e2⟩ h3)⟩
  · cases h2

/-- Boxes by their sizes alone. -/
def shapeB (bs : List (Nat × Box)) : List (Nat × Box) := bs.map fun q => (q.1, (fun x : Box => (⟨true, 0, x.cs.map fun _ => .bad⟩ : Box)) q.2)
theorem shapeB_lk (bs : List (Nat × Box)) (i : Nat) : lk (shapeB bs) i = (lk bs i).map fun x : Box => (⟨true, 0, x.cs.map fun _ => .bad⟩ : Box) := lookup_map (fun x : Box => (⟨true, 0, x.cs.map fun _ => .bad⟩ : Box)) i bs
theorem shapeB_ok {bs : List (Nat × Box)} {s : S} (h : exitOk (lk (shapeB bs)) s) : exitOk (lk bs) s ∧ exitB (lk (shapeB bs)) s = exitB (lk bs) s := by
  refine ⟨fun i x hx => ?_, funext fun i => ?_⟩
  · obtain ⟨h1, y, h2, h3, h4, h5, h6⟩ := h i _ (by rw [shapeB_lk, hx]; rfl)
    exact ⟨h1, y, h2, h3, h4, h5, by simpa using h6⟩
  · simp only [exitB, shapeB_lk]
    cases lk bs i <;> rfl

/-- A function, by its body. -/
theorem x_call {f : FuncId} {fn : Func} {c : Code} {args : List AV} {r : AV} {bs bs0 bs' : List (Nat × Box)} (h1 : P.funcs[f]? = some fn) (h0 : shapeB bs = bs0)
    (h2 : (fn.body, fn.name == "runtime.NumGoroutine", args.length, decide (args.length ≤ fn.ntmps), codeOk fn.ntmps c) = (some c, false, fn.params.size + fn.nfree, true, true))
    (hw : Wk P H Y f [.code c] (FinX P fn bs0 r bs') ⟨args.zipIdx.map fun q => (q.2, q.1), bs⟩) : Big P H Y (.call f args (lk bs) r (lk bs')) := by
  simp only [Prod.mk.injEq] at h2
  obtain ⟨e1, e2, e3, e4, e5⟩ := h2
  subst h0
  obtain ⟨x, l', hb, h3, ⟨v, h4, h5⟩, h6, h7⟩ := hw.out
  obtain ⟨h8, h9⟩ := shapeB_ok h6
  rw [h9] at h7
  exact .wkr (call_of bs (fun _ => rfl) h1 e1 e2 e3 (of_decide_eq_true e4) e5 _ rfl ⟨x, l', hb, h3, h4, h8, h7⟩) h5
end Evl
