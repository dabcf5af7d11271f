/- How a value of the abstract machine stands for one of the model. No condition. -/
import Derived.Test.YtpjeibdllddkjaaEvb
import Derived.Laws.Cells
namespace Evl
open Go

abbrev Loc := Bool × Nat

/-- The cells of a block that may be written are not frozen. -/
def thawed (arr : Array Value) (fz : Nat × Nat) : Prop := fz.1 = fz.2 ∨ arr.size ≤ fz.1
theorem thawed.not {arr : Array Value} {fz : Nat × Nat} (h : thawed arr fz) : ∀ off, off < arr.size → ¬(fz.1 ≤ off ∧ off < fz.2) := by
  intro off ho hh; rcases h with h | h <;> omega

/-- What a slice looks at: nothing, or cells that nobody writes any more. -/
def Seen (V : Nat → Nat) (w : World) (a : Addr) (n : Nat) (vs : List Value) : Prop := (n = 0 ∧ vs = []) ∨ (a.spot = none ∧ a.off + vs.length ≤ V a.block ∧ a.block < w.heap.size)
theorem Seen.mono {V V' : Nat → Nat} {w w' : World} {a : Addr} {n : Nat} {vs : List Value} (h : Seen V w a n vs) (hV : ∀ g, V g ≤ V' g) (hs : w.heap.size ≤ w'.heap.size) : Seen V' w' a n vs :=
  h.imp id fun ⟨h1, h2, h3⟩ => ⟨h1, Nat.le_trans h2 (hV _), Nat.lt_of_lt_of_le h3 hs⟩

/-- 'Rep V w K m fp us cs': the cells us of the world w stand for cs. V g: how many cells of block g, from its begin, nobody writes any more. K b: the block of box b, and the capacity of a row and one; 0: a row that is nil as yet. m: may local rows stand there? fp: the blocks that belong to these cells alone. -/
inductive Rep (V : Nat → Nat) (w : World) (K : Nat → Nat × Nat) : Bool → List Nat → List Value → List AV → Prop
  | nil {m} : Rep V w K m [] [] []
  | lit {m fp v us cs} : plain v = true → Rep V w K m fp us cs → Rep V w K m fp (v :: us) (.lit v :: cs)
  | nl {m fp us cs} : Rep V w K m fp us cs → Rep V w K m fp (.slice none 0 0 :: us) (.nil :: cs)
  | ns {m fp us cs sz} : Rep V w K m fp us cs → Rep V w K m fp (.slice none 0 0 :: us) (.sl false sz 0 [] :: cs)
  | sh {m fp us cs n cap sz ds} (a : Addr) (vs : List Value) : n ≤ cap → Seen V w a n vs → (∀ (j : Nat) (v : Value), vs[j]? = some v → w.cell? ⟨a.block, a.off + j, none⟩ = some v) →
      Rep V w K false [] vs ds → Rep V w K m fp us cs → Rep V w K m fp (.slice (some a) n cap :: us) (.sl false sz n ds :: cs)
  | ow {m fp us cs n cap sz ds fq} (g : Nat) (T : TypeId) (arr : Array Value) (fz : Nat × Nat) (vs : List Value) : n ≤ cap → w.heap[g]? = some (.cells arr T fz) → thawed arr fz → arr.size = cap * sz → vs.length = n * sz → sz ≠ 0 →
      (∀ (j : Nat) (v : Value), vs[j]? = some v → arr[j]? = some v) → V g = vs.length → Rep V w K false fq vs ds → Rep V w K m fp us cs →
      Rep V w K m (g :: (fq ++ fp)) (.slice (some ⟨g, 0, none⟩) n cap :: us) (.sl true sz n ds :: cs)
  | on {m fp us cs sz} : Rep V w K m fp us cs → Rep V w K m fp (.slice none 0 0 :: us) (.sl true sz 0 [] :: cs)
  | ms {fp us cs n cap} (b : Nat) : (K b).2 = cap + 1 → n ≤ cap → Rep V w K true fp us cs → Rep V w K true fp (.slice (some ⟨(K b).1, 0, none⟩) n cap :: us) (.msl b n :: cs)
  | mv {fp us cs} (b : Nat) : (K b).2 = 0 → Rep V w K true fp us cs → Rep V w K true fp (.slice none 0 0 :: us) (.msl b 0 :: cs)
  | bd {m fp us cs} (u : Value) : oc u = true → Rep V w K m fp us cs → Rep V w K m fp (u :: us) (.bad :: cs)

variable {V V' : Nat → Nat} {w w' : World} {K K' : Nat → Nat × Nat} {m : Bool} {fp : List Nat} {us : List Value} {cs : List AV}

theorem plain_oc {v : Value} (h : plain v = true) : oc v = true := by
  cases v <;> simp_all [plain, oc]

theorem Rep.len (h : Rep V w K m fp us cs) : us.length = cs.length := by
  induction h <;> simp_all

theorem Rep.oc (h : Rep V w K m fp us cs) : ∀ u ∈ us, oc u = true := by
  induction h with
  | nil => intro u hu; cases hu
  | lit hp _ ih => intro u hu; rcases List.mem_cons.1 hu with rfl | hu; exact plain_oc hp; exact ih u hu
  | nl _ ih => intro u hu; rcases List.mem_cons.1 hu with rfl | hu; rfl; exact ih u hu
  | ns _ ih => intro u hu; rcases List.mem_cons.1 hu with rfl | hu; rfl; exact ih u hu
  | on _ ih => intro u hu; rcases List.mem_cons.1 hu with rfl | hu; rfl; exact ih u hu
  | sh _ _ _ _ _ _ _ _ ih => intro u hu; rcases List.mem_cons.1 hu with rfl | hu; rfl; exact ih u hu
  | ow _ _ _ _ _ _ _ _ _ _ _ _ _ _ _ _ ih => intro u hu; rcases List.mem_cons.1 hu with rfl | hu; rfl; exact ih u hu
  | ms _ _ _ _ ih => intro u hu; rcases List.mem_cons.1 hu with rfl | hu; rfl; exact ih u hu
  | mv _ _ _ ih => intro u hu; rcases List.mem_cons.1 hu with rfl | hu; rfl; exact ih u hu
  | bd _ ho _ ih => intro u hu; rcases List.mem_cons.1 hu with rfl | hu; exact ho; exact ih u hu

/-- In cells where no local row stands no box is spoken of. -/
theorem Rep.noIds (h : Rep V w K m fp us cs) : m = false → idsL cs = [] := by
  induction h with
  | nil => intro _; rfl
  | lit _ _ ih => intro e; simp [idsL, ids, ih e]
  | nl _ ih => intro e; simp [idsL, ids, ih e]
  | ns _ ih => intro e; simp [idsL, ids, ih e]
  | on _ ih => intro e; simp [idsL, ids, ih e]
  | sh _ _ _ _ _ _ _ _ ih => intro e; simp [idsL, ids, ih e]
  | ow _ _ _ _ _ _ _ _ _ _ _ _ _ _ _ _ ih => intro e; simp [idsL, ids, ih e]
  | ms _ _ _ _ ih => intro e; cases e
  | mv _ _ _ ih => intro e; cases e
  | bd _ _ _ ih => intro e; simp [idsL, ids, ih e]

/-- The world goes on: what nobody writes stays; what belongs to these cells stays. -/
theorem Rep.mono (h : Rep V w K m fp us cs) (hc : ∀ g off, off < V g → w'.cell? ⟨g, off, none⟩ = w.cell? ⟨g, off, none⟩) (hV : ∀ g, V g ≤ V' g) (hs : w.heap.size ≤ w'.heap.size)
    (ho : ∀ g ∈ fp, w'.heap[g]? = w.heap[g]? ∧ V' g = V g) (hK : ∀ b ∈ idsL cs, K' b = K b) : Rep V' w' K' m fp us cs := by
  induction h with
  | nil => exact .nil
  | lit hp _ ih => exact .lit hp (ih ho (by simpa [idsL, ids] using hK))
  | nl _ ih => exact .nl (ih ho (by simpa [idsL, ids] using hK))
  | ns _ ih => exact .ns (ih ho (by simpa [idsL, ids] using hK))
  | on _ ih => exact .on (ih ho (by simpa [idsL, ids] using hK))
  | sh a vs h1 h2 h3 hin _ ih1 ih2 =>
    refine .sh a vs h1 (h2.mono hV hs) (fun j v hj => ?_) (ih1 (by simp) ?_) (ih2 ho (by simpa [idsL, ids] using hK))
    · have hl := (List.getElem?_eq_some_iff.1 hj).1
      rw [hc _ _ ?_]; exact h3 j v hj
      rcases h2 with ⟨_, rfl⟩ | ⟨_, h4, _⟩
      · simp at hl
      · omega
    · rw [hin.noIds rfl]; simp
  | ow g T arr fz vs h1 h2 h3 h4 h5 h6 h7 h8 hin _ ih1 ih2 =>
    have hg := ho g (by simp)
    refine .ow g T arr fz vs h1 (hg.1.trans h2) h3 h4 h5 h6 h7 (hg.2.trans h8) (ih1 (fun x hx => ho x (by simp [hx])) ?_) (ih2 (fun x hx => ho x (by simp [hx])) (by simpa [idsL, ids] using hK))
    rw [hin.noIds rfl]; simp
  | @ms fp us cs n cap b h0 h1 _ ih =>
    have hb : K' b = K b := hK b (by simp [idsL, ids])
    rw [← hb]
    exact .ms b (by rw [hb]; exact h0) h1 (ih ho (fun x hx => hK x (by simp [idsL, hx])))
  | @mv fp us cs b h0 _ ih =>
    have hb : K' b = K b := hK b (by simp [idsL, ids])
    exact .mv b (by rw [hb]; exact h0) (ih ho (fun x hx => hK x (by simp [idsL, hx])))
  | bd u hu _ ih => exact .bd u hu (ih ho (by simpa [idsL, ids] using hK))

/-- Where only the boxes that are no more may stand elsewhere. -/
theorem Rep.kill (d : Nat) (h : Rep V w K m fp us cs) (hK : ∀ b, b ≠ d → K' b = K b) : Rep V w K' m fp us (killL d cs) := by
  have key : ∀ {m fp us cs}, Rep V w K m fp us cs → m = false → Rep V w K' m fp us cs := by
    intro m fp us cs h e
    exact h.mono (fun _ _ _ => rfl) (fun _ => Nat.le_refl _) (Nat.le_refl _) (fun _ _ => ⟨rfl, rfl⟩) (by rw [h.noIds e]; simp)
  induction h with
  | nil => exact .nil
  | lit hp _ ih => simp only [killL, Evl.kill]; exact .lit hp ih
  | nl _ ih => simp only [killL, Evl.kill]; exact .nl ih
  | ns _ ih => simp only [killL, Evl.kill]; exact .ns ih
  | on _ ih => simp only [killL, Evl.kill]; exact .on ih
  | sh a vs h1 h2 h3 hin _ ih1 ih2 => simp only [killL, Evl.kill]; exact .sh a vs h1 h2 h3 (key hin rfl) ih2
  | ow g T arr fz vs h1 h2 h3 h4 h5 h6 h7 h8 hin _ ih1 ih2 => simp only [killL, Evl.kill]; exact .ow g T arr fz vs h1 h2 h3 h4 h5 h6 h7 h8 (key hin rfl) ih2
  | @ms fp us cs n cap b h0 h1 _ ih =>
    simp only [killL, Evl.kill]
    by_cases hb : b = d
    · rw [if_pos hb]; exact .bd _ rfl ih
    · rw [if_neg hb, ← hK b hb]; exact .ms b (by rw [hK b hb]; exact h0) h1 ih
  | @mv fp us cs b h0 _ ih =>
    simp only [killL, Evl.kill]
    by_cases hb : b = d
    · rw [if_pos hb]; exact .bd _ rfl ih
    · rw [if_neg hb]; exact .mv b (by rw [hK b hb]; exact h0) ih
  | bd u hu _ ih => simp only [killL, Evl.kill]; exact .bd u hu ih

theorem Rep.killAll (l : List Nat) : ∀ {cs K}, Rep V w K m fp us cs → (∀ b, b ∉ l → K' b = K b) → Rep V w K' m fp us (killAllL l cs) := by
  induction l with
  | nil => intro cs K h hK; obtain rfl : K' = K := funext fun b => hK b (by simp); exact h
  | cons d l ih =>
    intro cs K h hK
    simp only [killAllL]
    exact ih (K := fun b => if b = d then K' b else K b) (h.kill d (fun b hb => by simp [hb])) (fun b hb => by
      by_cases e : b = d
      · simp [e]
      · simp only [e, if_false]; exact hK b (by simp [e, hb]))

theorem cell_of_heap {g : Nat} {arr : Array Value} {T : TypeId} {fz : Nat × Nat} (h : w.heap[g]? = some (.cells arr T fz)) (j : Nat) : w.cell? ⟨g, j, none⟩ = arr[j]? := by
  simp [World.cell?, h]
theorem lt_of_heap {g : Nat} {o : Obj} (h : w.heap[g]? = some o) : g < w.heap.size := (Array.getElem?_eq_some_iff.1 h).1

/-- A look at a tree: nobody's own. -/
theorem Rep.share (h : Rep V w K m fp us cs) : Rep V w K m [] us (shareL cs) := by
  induction h with
  | nil => exact .nil
  | lit hp _ ih => simp only [shareL, Evl.share]; exact .lit hp ih
  | nl _ ih => simp only [shareL, Evl.share]; exact .nl ih
  | ns _ ih => simp only [shareL, Evl.share]; exact .ns ih
  | on _ ih => simp only [shareL, Evl.share]; exact .ns ih
  | sh a vs h1 h2 h3 hin _ ih1 ih2 => simp only [shareL, Evl.share]; exact .sh a vs h1 h2 h3 hin ih2
  | ow g T arr fz vs h1 h2 h3 h4 h5 h6 h7 h8 hin _ ih1 ih2 =>
    simp only [shareL, Evl.share]
    refine .sh ⟨g, 0, none⟩ vs h1 (.inr ⟨rfl, by simp [h8], lt_of_heap h2⟩) (fun j v hj => ?_) ih1 ih2
    simp only [Nat.zero_add]; rw [cell_of_heap h2]; exact h7 j v hj
  | ms b h0 h1 _ ih => simp only [shareL, Evl.share]; exact .ms b h0 h1 ih
  | mv b h0 _ ih => simp only [shareL, Evl.share]; exact .mv b h0 ih
  | bd u hu _ ih => simp only [shareL, Evl.share]; exact .bd u hu ih

theorem Rep.app {fq : List Nat} {vs : List Value} {ds : List AV} (h : Rep V w K m fp us cs) (k : Rep V w K m fq vs ds) : Rep V w K m (fp ++ fq) (us ++ vs) (cs ++ ds) := by
  induction h with
  | nil => exact k
  | lit hp _ ih => exact .lit hp (ih k)
  | nl _ ih => exact .nl (ih k)
  | ns _ ih => exact .ns (ih k)
  | on _ ih => exact .on (ih k)
  | sh a vs h1 h2 h3 hin _ ih1 ih2 => exact .sh a vs h1 h2 h3 hin (ih2 k)
  | ow g T arr fz vs h1 h2 h3 h4 h5 h6 h7 h8 hin _ ih1 ih2 =>
    have := Rep.ow (m := _) g T arr fz vs h1 h2 h3 h4 h5 h6 h7 h8 hin (ih2 k)
    simpa [List.append_assoc] using this
  | ms b h0 h1 _ ih => exact .ms b h0 h1 (ih k)
  | mv b h0 _ ih => exact .mv b h0 (ih k)
  | bd u hu _ ih => exact .bd u hu (ih k)

theorem Rep.split : ∀ (cs₁ : List AV) {fp us cs₂}, Rep V w K m fp us (cs₁ ++ cs₂) → ∃ fp₁ fp₂ us₁ us₂, fp = fp₁ ++ fp₂ ∧ us = us₁ ++ us₂ ∧ Rep V w K m fp₁ us₁ cs₁ ∧ Rep V w K m fp₂ us₂ cs₂ := by
  intro cs₁
  induction cs₁ with
  | nil => intro fp us cs₂ h; exact ⟨[], fp, [], us, rfl, rfl, .nil, h⟩
  | cons c cs₁ ih =>
    intro fp us cs₂ h
    cases h with
    | lit hp h => obtain ⟨f1, f2, u1, u2, rfl, rfl, a, b⟩ := ih h; exact ⟨f1, f2, _ :: u1, u2, rfl, rfl, .lit hp a, b⟩
    | nl h => obtain ⟨f1, f2, u1, u2, rfl, rfl, a, b⟩ := ih h; exact ⟨f1, f2, _ :: u1, u2, rfl, rfl, .nl a, b⟩
    | ns h => obtain ⟨f1, f2, u1, u2, rfl, rfl, a, b⟩ := ih h; exact ⟨f1, f2, _ :: u1, u2, rfl, rfl, .ns a, b⟩
    | on h => obtain ⟨f1, f2, u1, u2, rfl, rfl, a, b⟩ := ih h; exact ⟨f1, f2, _ :: u1, u2, rfl, rfl, .on a, b⟩
    | sh a vs h1 h2 h3 hin h => obtain ⟨f1, f2, u1, u2, rfl, rfl, k, b⟩ := ih h; exact ⟨f1, f2, _ :: u1, u2, rfl, rfl, .sh a vs h1 h2 h3 hin k, b⟩
    | ow g T arr fz vs h1 h2 h3 h4 h5 h6 h7 h8 hin h =>
      obtain ⟨f1, f2, u1, u2, rfl, rfl, k, b⟩ := ih h
      refine ⟨g :: (_ ++ f1), f2, _ :: u1, u2, ?_, rfl, .ow g T arr fz vs h1 h2 h3 h4 h5 h6 h7 h8 hin k, b⟩
      simp [List.append_assoc]
    | ms b h0 h1 h => obtain ⟨f1, f2, u1, u2, rfl, rfl, k, b'⟩ := ih h; exact ⟨f1, f2, _ :: u1, u2, rfl, rfl, .ms b h0 h1 k, b'⟩
    | mv b h0 h => obtain ⟨f1, f2, u1, u2, rfl, rfl, k, b'⟩ := ih h; exact ⟨f1, f2, _ :: u1, u2, rfl, rfl, .mv b h0 k, b'⟩
    | bd u hu h => obtain ⟨f1, f2, u1, u2, rfl, rfl, k, b⟩ := ih h; exact ⟨f1, f2, _ :: u1, u2, rfl, rfl, .bd u hu k, b⟩

/-- Cells without local rows stand wherever local rows may. -/
theorem Rep.up (h : Rep V w K m fp us cs) (m' : Bool) (hm : m = true → m' = true) : Rep V w K m' fp us cs := by
  induction h with
  | nil => exact .nil
  | lit hp _ ih => exact .lit hp (ih hm)
  | nl _ ih => exact .nl (ih hm)
  | ns _ ih => exact .ns (ih hm)
  | on _ ih => exact .on (ih hm)
  | sh a vs h1 h2 h3 hin _ ih1 ih2 => exact .sh a vs h1 h2 h3 hin (ih2 hm)
  | ow g T arr fz vs h1 h2 h3 h4 h5 h6 h7 h8 hin _ ih1 ih2 => exact .ow g T arr fz vs h1 h2 h3 h4 h5 h6 h7 h8 hin (ih2 hm)
  | ms b h0 h1 _ ih => obtain rfl := hm rfl; exact .ms b h0 h1 (ih fun _ => rfl)
  | mv b h0 _ ih => obtain rfl := hm rfl; exact .mv b h0 (ih fun _ => rfl)
  | bd u hu _ ih => exact .bd u hu (ih hm)

/-- Cells in which no local row is written stand without. -/
theorem Rep.down (h : Rep V w K m fp us cs) (hn : ∀ c ∈ cs, ∀ b n, c ≠ .msl b n) : Rep V w K false fp us cs := by
  induction h with
  | nil => exact .nil
  | lit hp _ ih => exact .lit hp (ih fun c hc => hn c (by simp [hc]))
  | nl _ ih => exact .nl (ih fun c hc => hn c (by simp [hc]))
  | ns _ ih => exact .ns (ih fun c hc => hn c (by simp [hc]))
  | on _ ih => exact .on (ih fun c hc => hn c (by simp [hc]))
  | sh a vs h1 h2 h3 hin _ ih1 ih2 => exact .sh a vs h1 h2 h3 hin (ih2 fun c hc => hn c (by simp [hc]))
  | ow g T arr fz vs h1 h2 h3 h4 h5 h6 h7 h8 hin _ ih1 ih2 => exact .ow g T arr fz vs h1 h2 h3 h4 h5 h6 h7 h8 hin (ih2 fun c hc => hn c (by simp [hc]))
  | @ms fp us cs n cap b h0 h1 _ ih => exact absurd rfl (hn (.msl b n) (by simp) b n)
  | @mv fp us cs b h0 _ ih => exact absurd rfl (hn (.msl b 0) (by simp) b 0)
  | bd u hu _ ih => exact .bd u hu (ih fun c hc => hn c (by simp [hc]))

end Evl
