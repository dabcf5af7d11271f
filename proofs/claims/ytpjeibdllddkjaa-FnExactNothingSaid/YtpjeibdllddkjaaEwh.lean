/- Walking with what is still to be done. No condition. -/
import Derived.Test.YtpjeibdllddkjaaEwg
namespace Evl
open Go

variable {P : Program} {H : Hints} {Y : FuncId → List AV → (Nat → Option Box) → AV → (Nat → Option Box) → Prop} {fid : FuncId}

/-- What is still to be done: code; a block's end; a loop's next round. -/
inductive Todo where
  | code (c : Code)
  | blk (i : Nat)
  | lp (c : Code)

def WK (P : Program) (H : Hints) (Y : FuncId → List AV → (Nat → Option Box) → AV → (Nat → Option Box) → Prop) (fid : FuncId) : List Todo → (X → L → Prop) → X → L → Prop
  | [], Q => Q
  | .code c :: k, Q => fun x l => match x with
    | .nor => W P H Y fid c l (WK P H Y fid k Q)
    | x => WK P H Y fid k Q x l
  | .lp c :: k, Q => fun x l => match x with
    | .nor => W P H Y fid c l (WK P H Y fid k Q)
    | x => WK P H Y fid k Q x l
  | .blk i :: k, Q => fun x l => match x with
    | .nor => WK P H Y fid k Q .nor l
    | .ext j => if j = i then WK P H Y fid k Q .nor l else WK P H Y fid k Q (.ext j) l
    | .ret => WK P H Y fid k Q .ret l

variable {k : List Todo} {c : Code} {l : L} {Q : X → L → Prop}

theorem W.mono {K K' : X → L → Prop} (h : W P H Y fid c l K) (hk : ∀ x l, K x l → K' x l) : W P H Y fid c l K' := by
  obtain ⟨x, l', hb, hq⟩ := h; exact ⟨x, l', hb, hk _ _ hq⟩

theorem k_seq (h : Code.isSeq c = true) (hw : WK P H Y fid (.code (Code.fst c) :: .code (Code.snd c) :: k) Q .nor l) : WK P H Y fid (.code c :: k) Q .nor l := by
  refine w_seq h (W.mono hw fun x l h => ?_)
  cases x <;> exact h
theorem k_reg (u : L) (h1 : Code.isRegion false c = true) (h2 : (stepsL P H fid (Code.opsOf c) (List.range (Code.opsOf c).size) l).map (look u) = some (seen u)) (hk : WK P H Y fid k Q .nor u) : WK P H Y fid (.code c :: k) Q .nor l :=
  w_reg u h1 h2 hk
theorem k_regd (u : L) (h1 : Code.isRegion true c = true) (h2 : (stepsL P H fid (Code.opsOf c) (List.range (Code.opsOf c).size) l).map (look u) = some (seen u)) (h3 : drawOk (Code.opsOf c) (logL P H fid (Code.opsOf c) (List.range (Code.opsOf c).size) l) = true) (hk : WK P H Y fid k Q .nor u) : WK P H Y fid (.code c :: k) Q .nor l :=
  w_regd u h1 h2 h3 hk
theorem k_region (h : Code.isRegion false c = true) (hw : WO P H Y fid (Code.opsOf c) (List.range (Code.opsOf c).size) l fun l' _ => WK P H Y fid k Q .nor l') : WK P H Y fid (.code c :: k) Q .nor l :=
  w_region h hw
theorem k_draw (h : Code.isRegion true c = true) (hw : WO P H Y fid (Code.opsOf c) (List.range (Code.opsOf c).size) l fun l' lg => drawOk (Code.opsOf c) lg = true ∧ WK P H Y fid k Q .nor l') : WK P H Y fid (.code c :: k) Q .nor l :=
  w_draw h hw
theorem k_cond {b : Bool} (h : Code.isCond c = true) (hc : l.toS.ev (Code.on c) = .lit (.bool b)) (h1 : b = true → WK P H Y fid (.code (Code.fst c) :: k) Q .nor l) (h2 : b = false → WK P H Y fid (.code (Code.snd c) :: k) Q .nor l) : WK P H Y fid (.code c :: k) Q .nor l :=
  w_cond h hc h1 h2
theorem k_block (h : Code.isBlock c = true) (hw : WK P H Y fid (.code (Code.fst c) :: .blk (Code.id c) :: k) Q .nor l) : WK P H Y fid (.code c :: k) Q .nor l := by
  refine w_block h (W.mono hw fun x l h => ?_)
  cases x <;> exact h
theorem k_blk {i : Nat} (hw : WK P H Y fid k Q .nor l) : WK P H Y fid (.blk i :: k) Q .nor l := hw
theorem k_loop (h : Code.isLoop c = true) (hw : WK P H Y fid (.code (Code.fst c) :: .lp c :: k) Q .nor l) : WK P H Y fid (.code c :: k) Q .nor l := by
  cases c <;> simp [Code.isLoop] at h
  obtain ⟨x, l1, hb, hq⟩ := hw
  cases x with
  | nor =>
    obtain ⟨x', l2, hb', hq'⟩ := hq
    exact ⟨x', l2, .loopn hb hb', hq'⟩
  | ext id => exact ⟨_, l1, .loopx hb (by simp), hq⟩
  | ret => exact ⟨_, l1, .loopx hb (by simp), hq⟩
theorem k_lp (hw : WK P H Y fid (.code c :: k) Q .nor l) : WK P H Y fid (.lp c :: k) Q .nor l := hw
theorem k_skip (h : c = .skip) (hk : WK P H Y fid k Q .nor l) : WK P H Y fid (.code c :: k) Q .nor l := w_skip h hk
theorem k_ret (h : c = .ret) (hk : Q .ret l) : WK P H Y fid (.code c :: k) Q .nor l := by
  refine w_ret h ?_
  clear h
  induction k with
  | nil => exact hk
  | cons f k ih => cases f <;> exact ih

/-- Where an exit leads. -/
def exitTo (i : Nat) : List Todo → Option (List Todo)
  | [] => none
  | .blk j :: k => if i = j then some k else exitTo i k
  | _ :: k => exitTo i k
def exitOf : Code → Option Nat | .exit i => some i | _ => none
theorem k_exit {k' : List Todo} {i : Nat} (h : exitOf c = some i) (hx : exitTo i k = some k') (hk : WK P H Y fid k' Q .nor l) : WK P H Y fid (.code c :: k) Q .nor l := by
  cases c <;> simp [exitOf] at h
  subst h
  refine w_exit rfl ?_
  induction k with
  | nil => cases hx
  | cons f k ih =>
    cases f with
    | code c => exact ih hx
    | lp c => exact ih hx
    | blk j =>
      simp only [exitTo] at hx
      show (if _ = j then _ else _)
      split at hx
      · rename_i e; cases hx; rw [if_pos e]; exact hk
      · rename_i e; rw [if_neg e]; exact ih hx
theorem k_nil (h : Q .nor l) : WK P H Y fid [] Q .nor l := h
theorem k_look (u : L) (h : look u l = seen u) (hw : WK P H Y fid (.code c :: k) Q .nor u) : WK P H Y fid (.code c :: k) Q .nor l := w_look u h hw
theorem k_less (u : L) (h1 : lessT l u.ts) (h2 : lessB l u.bs) (hw : WK P H Y fid (.code c :: k) Q .nor u) : WK P H Y fid (.code c :: k) Q .nor l := w_less u h1 h2 hw
theorem k_virt {u : L} (i b sz : Nat) (h0 : l.toS.t i = .nil) (h1 : b < 1000) (h2 : sz ≠ 0) (hu : u = applyL { val := .msl b 0, kl := [b], put := [(b, ⟨true, sz, []⟩)] } (some i) l) (hw : WK P H Y fid (.code c :: k) Q .nor u) : WK P H Y fid (.code c :: k) Q .nor l := by
  subst hu
  obtain ⟨x, l1, hb, hq⟩ := hw
  rw [applyL_ok] at hb
  exact ⟨x, l1, .virt i b sz h0 h1 h2 hb, hq⟩

/-- A function's end. -/
def Fin (P : Program) (fn : Func) (bx : Nat → Option Box) (r : AV) (bx' : Nat → Option Box) : X → L → Prop := fun x l' => (x = .nor ∨ x = .ret) ∧ resOf P l'.toS fn.results.toList = some r ∧ exitOk bx l'.toS ∧ exitB bx l'.toS = bx'
def nob : Nat → Option Box := fun _ => none
theorem fin_nob {fn : Func} {r : AV} {x : X} (hx : x = .nor ∨ x = .ret) (hr : resOf P l.toS fn.results.toList = some r) : Fin P fn nob r nob x l := ⟨hx, hr, fun i x h => (by cases h), rfl⟩

theorem k_call {f : FuncId} {fn : Func} {args : List AV} {r : AV} (h1 : P.funcs[f]? = some fn) (h2 : fn.body = some c) (h3 : (fn.name == "runtime.NumGoroutine") = false) (h4 : args.length = fn.params.size + fn.nfree) (h5 : decide (args.length ≤ fn.ntmps) = true) (h6 : codeOk fn.ntmps c = true)
    (hw : WK P H Y f [.code c] (Fin P fn nob r nob) .nor ⟨args.zipIdx.map fun q => (q.2, q.1), []⟩) : Big P H Y (.call f args nob r nob) :=
  call_of [] (fun _ => rfl) h1 h2 h3 h4 (of_decide_eq_true h5) h6 _ rfl hw
end Evl
