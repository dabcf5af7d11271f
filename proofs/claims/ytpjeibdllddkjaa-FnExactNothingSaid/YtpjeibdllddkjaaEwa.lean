/- Appends, any operation: both machines do the same. No condition. -/
import Derived.Test.YtpjeibdllddkjaaEvz
namespace Evl
open Go

variable {P : Program} {H : Hints} {fid : FuncId} {N : Nat} {w0 w w' : World} {M : Nat → Prop} {V0 V V' : Nat → Nat} {K K' : Nat → Nat × Nat} {O O' : Nat → Option Loc} {s : S} {a : Act} {fp : List Nat} {v : Value}

/-- What is appended, in the model. -/
theorem appArg_ok (R : RelG N w0 M V0 K V O s a w) {sz : Nat} {y : Operand} {ys : List AV} {ks rs : List Nat} (hsz : sz ≠ 0) (h : appArg s sz (s.ev y) = some (ys, ks, rs)) :
    ∃ (base : Option Addr) (m c : Nat) (news : List Value) (fq : List Nat), a.eval y = .slice base m c ∧ ys.length = m * sz ∧ (base = none → m = 0) ∧ (∀ ad, base = some ad → ∀ (j : Nat) (v : Value), news[j]? = some v → w.cell? (ad.add j) = some v) ∧
      Rep V w K false fq news ys ∧ fq.Nodup ∧ (∀ g ∈ fq, ∃ r ∈ ks, O g = some (false, r) ∧ g ≠ (K r).1) := by
  obtain ⟨fp, _, _, _, h1⟩ := R.ev y
  cases hy : s.ev y with
  | nil =>
    rw [hy] at h h1
    cases h
    exact ⟨none, 0, 0, [], [], (inv_nil h1).1, by simp, fun _ => rfl, by simp, .nil, List.nodup_nil, by simp⟩
  | sl ow z n cs =>
    rw [hy] at h h1
    simp only [appArg, Option.ite_none_right_eq_some, Option.some.injEq, Prod.mk.injEq] at h
    obtain ⟨⟨rfl, hl⟩, rfl, rfl, rfl⟩ := h
    obtain ⟨ev, rfl, rfl⟩ | ⟨ad, cap, ev, rfl, rfl⟩ | ⟨ab, ao, cap, vs, ev, hn, i2, i3, i4, i5⟩ := inv_sl h1
    rotate_left
    · have e3 : (if ow = true then shareL [] else ([] : List AV)) = [] := by cases ow <;> rfl
      rw [e3]
      exact ⟨some ad, 0, cap, [], [], ev, by simp, by simp, by simp, .nil, List.nodup_nil, by simp⟩
    rotate_left
    · have e3 : (if ow = true then shareL [] else ([] : List AV)) = [] := by cases ow <;> rfl
      rw [e3]
      exact ⟨none, 0, 0, [], [], ev, by simp, fun _ => rfl, by simp, .nil, List.nodup_nil, by simp⟩
    refine ⟨some ⟨ab, ao, none⟩, n, cap, vs, [], ev, ?_, by simp, fun ad e j v hj => ?_, i5, List.nodup_nil, by simp⟩
    · cases ow <;> simp [shareL_length, hl]
    · cases e; rw [Addr.add_lit]; exact i2 j v hj
  | msl b n =>
    rw [hy] at h h1
    obtain ⟨-, hinv⟩ := inv_msl h1
    simp only [appArg] at h
    split at h
    · rename_i r hb
      simp only [Option.ite_none_right_eq_some] at h
      obtain ⟨⟨hz, hl⟩, h⟩ := h
      obtain ⟨ev, rfl, hv0⟩ | ⟨cap, ev, hre, hn⟩ := hinv
      · have hcs : r.cs = [] := List.eq_nil_of_length_eq_zero (by simpa using hl)
        have hys : ys = [] := by
          split at h <;> cases h <;> exact hcs
        rw [hys]
        exact ⟨none, 0, 0, [], [], ev, by simp, fun _ => rfl, by simp, .nil, List.nodup_nil, by simp⟩
      obtain ⟨fb, arr, T, fz, us, q1, q2, q3⟩ := R.bxr b r hb (.inr (.inr (by omega)))
      have hxz : (r.sz == 0) = false := by simp [hz, hsz]
      have hrep := q3.rep
      rw [hxz] at hrep
      have hc : ∀ ad, some (⟨(K b).1, 0, none⟩ : Addr) = some ad → ∀ (j : Nat) (v : Value), us[j]? = some v → w.cell? (ad.add j) = some v := fun ad e j v hj => by
        cases e; rw [Addr.add_lit, Nat.zero_add]; exact q3.cell hj
      split at h
      · simp only [Option.some.injEq, Prod.mk.injEq] at h
        obtain ⟨rfl, rfl, rfl⟩ := h
        exact ⟨_, n, _, us, fb, ev, hl, by simp, hc, hrep, (List.nodup_cons.1 q1).2, fun g hg => ⟨b, by simp, q2 g (by simp [hg]), fun e => (List.nodup_cons.1 q1).1 (by rw [← e]; exact hg)⟩⟩
      · rename_i ho
        simp only [Option.some.injEq, Prod.mk.injEq] at h
        obtain ⟨rfl, rfl, rfl⟩ := h
        obtain rfl := ownless_rep hrep (by simpa using ho)
        exact ⟨_, n, _, us, [], ev, hl, by simp, hc, hrep, List.nodup_nil, by simp⟩
    · cases h
  | _ => rw [hy] at h; cases h

theorem exec_append {o : Oper} {x y : Operand} {args : Array Operand} {ts : Array TypeId} {t : TypeId} (hop : o.op = .call { callee := .builtin .append, args := args, argTypes := ts }) (hargs : args.toList = [x, y]) (hts : ts.toList = [t, t]) {v : Value} (h : (Builtin.append_ #[t, t] o.type #[a.eval x, a.eval y]).run P w = .ok v w') :
    (execOp a.eval o).run P w = .ok (.value v) w' := by
  have e1 : args = #[x, y] := by apply Array.ext'; simpa using hargs
  have e2 : ts = #[t, t] := by apply Array.ext'; simpa using hts
  subst e1; subst e2
  simp [execOp, hop, resolve, invoke, builtin, h]

theorem grown_row (R : RelG N w0 M V0 K V O s a w) (o : Oper) {d : Nat} (hdst : o.dst = some d) (hd : d < N) (hk : d < 1000) (ks : List Nat) (hks : ks.all (· < 1000) = true) (rd : List Nat) (el : TypeId) (st : Bool) (sz n cap : Nat) (hsz : sz ≠ 0) (us : List Value) (cs : List AV) (arr : Array Value) (fb : List Nat)
    (hr : Rep V w K false fb us cs) (hnd : fb.Nodup) (hfb : ∀ g ∈ fb, ∃ r ∈ ks, O g = some (false, r)) (hl : us.length = n * sz) (hc : n ≤ cap) (ha : arr.size = cap * sz) (hpre : ∀ (j : Nat) (v : Value), us[j]? = some v → arr[j]? = some v)
    (hrun : (execOp a.eval o).run P w = .ok (.value (.slice (some ⟨w.heap.size, 0, none⟩) n cap)) (w.drew.alloc (.cells arr el))) :
    Step1 P N w0 M V0 K o (({ val := .msl d n, kl := d :: ks, put := [(d, ⟨st, sz, cs⟩)], rd := rd } : Eff).apply o.dst s) a w := by
  have hdr : w.drew.heap = w.heap := rfl
  have hVn : V w.heap.size = 0 := Nat.eq_zero_of_not_pos fun hp => by have := R.vr _ hp; omega
  let V1 : Nat → Nat := fun g => if g = w.heap.size then (if st then 0 else cs.length) else V g
  have hle : ∀ g, V g ≤ V1 g := fun g => by
    by_cases e : g = w.heap.size
    · rw [e, hVn]; exact Nat.zero_le _
    · simp only [V1, if_neg e]; exact Nat.le_refl _
  have hlt : ∀ g ∈ fb, g < w.heap.size := fun g hg => by
    obtain ⟨r, _, e⟩ := hfb g hg; exact (R.rg g _ e).2
  refine row_step (w' := w.drew.alloc (.cells arr el)) (V' := V1) (T := el) (fz := (0, 0)) (us := us) (fb := fb) (arr := arr) R o hdst hd hk [] (by simp [lookup]) ks hks rd n ⟨st, sz, cs⟩ w.heap.size cap ?_ (next_alloc R V1 hle _ rfl) ⟨rfl, rfl, rfl⟩ (by simp [hdr]) ?_ ?_ ?_ (.inl rfl) (fun g hg => .inr (hfb g hg)) ?_ hc hrun
  · intro g hg _; simp only [World.alloc, hdr, Array.getElem?_push]; rw [if_neg (by omega)]
  · intro g hg _; simp only [V1, if_neg hg]
  · intro g hg
    by_cases e : g = w.heap.size
    · simp [e, hdr]
    · simp only [V1, if_neg e] at hg; have := R.vr g hg; simp [hdr]; omega
  · exact List.nodup_cons.2 ⟨fun hm => by have := hlt _ hm; omega, hnd⟩
  · intro K' hK'
    have hsz0 : (sz == 0) = false := by simp [hsz]
    refine ⟨?_, .inl rfl, hpre, ?_, ?_, fun e => absurd e hsz, fun _ => ⟨cap, by rw [hK'], ha, ?_, by rw [hl]; exact Nat.mul_mod_left _ _⟩⟩
    · rw [hK']; show (w.heap.push _)[w.heap.size]? = _; simp
    · show Rep _ _ _ (sz == 0) _ _ _
      rw [hsz0]
      refine (hr.chK (hr.noIds rfl) K').mono (K := K') (fun g off ho => by
        have hg := R.vr g (by omega)
        simp only [World.cell?, World.alloc, hdr, Array.getElem?_push]; rw [if_neg (by omega)]) hle (by simp [hdr]) (fun g hg => ⟨by have := hlt g hg; simp only [World.alloc, hdr, Array.getElem?_push]; rw [if_neg (by omega)], ?_⟩) (fun _ _ => rfl)
      have := hlt g hg
      simp only [V1]; rw [if_neg (by omega)]
    · rw [hK']; simp [V1]
    · show us.length ≤ arr.size
      rw [hl, ha]; exact Nat.mul_le_mul_right _ hc

theorem append_to_nil (R : RelG N w0 M V0 K V O s a w) (o : Oper) {d : Nat} {x y : Operand} {args : Array Operand} {ts : Array TypeId} {t el : TypeId} (hop : o.op = .call { callee := .builtin .append, args := args, argTypes := ts }) (hargs : args.toList = [x, y]) (hts : ts.toList = [t, t]) (hdst : o.dst = some d) (hd : d < N) (hk : d < 1000)
    {base : Option Addr} {m c sz bytes : Nat} {news : List Value} {ys : List AV} {fq : List Nat} (ex : a.eval x = .slice none 0 0) (ey : a.eval y = .slice base m c) (hyl : ys.length = m * sz) (hb0 : base = none → m = 0) (hcell : ∀ ad, base = some ad → ∀ (j : Nat) (v : Value), news[j]? = some v → w.cell? (ad.add j) = some v) (hrep : Rep V w K false fq news ys) (hnd : fq.Nodup)
    (ks : List Nat) (hks : ks.all (· < 1000) = true) (hfq : ∀ g ∈ fq, ∃ r ∈ ks, O g = some (false, r)) (rd : List Nat) (st : Bool) (hsz : sz ≠ 0) {i : TypeInfo} {zv : Value} (hu : P.underlying t = some (.slice el)) (hi : P.info? el = some i) (hzv : i.zero = some zv) (hs' : i.size = sz) (hb' : i.bytes = bytes) (hzsz : zv.cells.size = sz) (hys : ys ≠ []) (hl1 : ys.length * bytes ≤ limBytes * sz) (hl2 : ys.length ≤ 9223372036854775807 * sz) :
    Step1 P N w0 M V0 K o (({ val := .msl d (ys.length / sz), kl := d :: ks, put := [(d, ⟨st, sz, ys⟩)], rd := rd } : Eff).apply o.dst s) a w := by
  have hspos : 0 < sz := Nat.pos_of_ne_zero hsz
  have hnl : news.length = m * sz := hrep.len.trans hyl
  have hm : 0 < m := by
    rcases Nat.eq_zero_or_pos m with e | e
    · rw [e] at hyl; simp at hyl; exact absurd hyl hys
    · exact e
  have hms : ys.length / sz = m := by rw [hyl]; exact Nat.mul_div_cancel _ hspos
  obtain ⟨ad, rfl⟩ : ∃ ad, base = some ad := by
    cases base with
    | none => exact absurd (hb0 rfl) (by omega)
    | some ad => exact ⟨ad, rfl⟩
  have hbnd : m * bytes ≤ limBytes := by
    rw [hyl] at hl1
    have : m * bytes * sz ≤ limBytes * sz := by rw [Nat.mul_right_comm]; exact hl1
    exact Nat.le_of_mul_le_mul_right this hspos
  have h63 : m ≤ 9223372036854775807 := by
    rw [hyl] at hl2; exact Nat.le_of_mul_le_mul_right hl2 hspos
  have hrun := run_append_nil (P := P) w t o.type el i zv hu hi hzv ad m c news (by rw [hs']; exact hnl) (hcell ad rfl) hm (by omega) (by rw [hb']; simp only [limBytes] at hbnd; omega)
  have hge := grownCap_ge w m 0 el
  rw [hms]
  refine grown_row (P := P) R o hdst hd hk ks hks rd el st sz m (grownCap w m 0 el) hsz news ys _ fq hrep hnd hfq hnl hge ?_ ?_ (exec_append hop hargs hts (by rw [ex, ey]; exact hrun))
  · rw [Array.size_append, size_zeroCells, hzsz]; simp only [List.size_toArray, hnl]; rw [← Nat.add_mul]; congr 1; omega
  · intro j v hj
    rw [Array.getElem?_append_left (by have := (List.getElem?_eq_some_iff.1 hj).1; simpa using this)]; simpa using hj

theorem run_append_none {t el ty : TypeId} {i : TypeInfo} {base : Option Addr} {c : Nat} (hu : P.underlying t = some (.slice el)) (hi : P.info? el = some i) (w : World) : (Builtin.append_ #[t, t] ty #[.slice none 0 0, .slice base 0 c]).run P w = .ok (.slice none 0 0) w := by
  have hfc : (Builtin.firstCells i.size 0 (.slice base 0 c)).run P w = .ok #[] w := by
    cases base with
    | none => exact run_firstCells_none w _ _ _ _
    | some ad => exact run_firstCells_some w _ 0 ad 0 c [] (by simp) (by simp)
  simp [Builtin.append_, run_underlying hu, Go.sizeOf, Go.typeInfo, hi, Builtin.lenOf, hfc]

theorem sound_append (R : RelG N w0 M V0 K V O s a w) (o : Oper) (hd : ∀ d, o.dst = some d → d < N) {e : Eff} (h : opE P H fid o s = some e) (hk : e.kl.all (· < 1000) = true) {args ts} (hop : o.op = .call { callee := .builtin .append, args := args, argTypes := ts }) :
    Step1 P N w0 M V0 K o (e.apply o.dst s) a w := by
  simp only [opE, hop] at h
  split at h
  · rename_i d x y t u hdst hargs hts
    simp only [Option.ite_none_right_eq_some] at h
    obtain ⟨rfl, h⟩ := h
    unfold appendE at h
    split at h
    · rename_i el sz bytes ht
      simp only [Option.ite_none_left_eq_some, not_or, Decidable.not_not] at h
      obtain ⟨⟨hsz, hzl⟩, h⟩ := h
      obtain ⟨z, hz, hzl⟩ := Option.map_eq_some_iff.1 hzl
      obtain ⟨i, zv, hi, hzv, rfl, hoc⟩ := tzero_of hz
      obtain ⟨i', hu, hi', hs', hb'⟩ := tslice_of ht
      rw [hi] at hi'; cases hi'
      have hzsz : zv.cells.size = sz := by simpa using hzl
      split at h
      · rename_i ys ks rs hy
        simp only [Option.ite_none_left_eq_some] at h
        obtain ⟨hdk, h⟩ := h
        obtain ⟨base, m, c, news, fq, ey, hyl, hb0, hcell, hrep, hnd, hfq⟩ := appArg_ok R hsz hy
        have hnl : news.length = m * sz := hrep.len.trans hyl
        have hspos : 0 < sz := Nat.pos_of_ne_zero hsz
        obtain ⟨fx, _, _, _, h1⟩ := R.ev x
        split at h
        · rename_i hx
          rw [hx] at h1
          obtain ⟨ex, -⟩ := inv_nil h1
          simp only [Option.ite_none_right_eq_some] at h
          obtain ⟨⟨hl1, hl2⟩, h⟩ := h
          split at h
          · rename_i hys
            cases h
            have hm : m = 0 := by
              rw [hys] at hyl
              rcases Nat.eq_zero_or_pos m with e | e
              · exact e
              · have := Nat.mul_pos e hspos
                simp only [List.length_nil] at hyl; omega
            subst hm
            refine step_pure R o hd (.slice none 0 0) _ rs (exec_append hop hargs hts ?_) (.u (.one (.nl .nil)))
            rw [ex, ey]
            exact run_append_none hu hi w
          · rename_i hys
            cases h
            simp only [List.all_cons, Bool.and_eq_true, decide_eq_true_eq] at hk
            have := append_to_nil (P := P) R o hop hargs hts hdst (hd d hdst) hk.1 ex ey hyl hb0 hcell hrep hnd ks hk.2 (fun g hg => by obtain ⟨r, h1, h2, _⟩ := hfq g hg; exact ⟨r, h1, h2⟩) rs true hsz hu hi hzv hs' hb' hzsz hys hl1 hl2
            exact this
        · rename_i b n hx
          rw [hx] at h1
          obtain ⟨-, hinv⟩ := inv_msl h1
          split at h
          · rename_i r hb
            simp only [Option.ite_none_right_eq_some, Option.some.injEq] at h
            obtain ⟨⟨hrz, hrl, hbk, hl1, hl2⟩, rfl⟩ := h
            simp only [List.all_cons, Bool.and_eq_true, decide_eq_true_eq] at hk
            obtain ⟨ex, rfl, hv0⟩ | ⟨cap, ex, hre, hn⟩ := hinv
            · have hcs : r.cs = [] := List.eq_nil_of_length_eq_zero (by simpa using hrl)
              simp only [hcs, List.length_nil, Nat.zero_add, List.nil_append] at hl1 hl2 ⊢
              have hbks : (b :: ks).all (· < 1000) = true := by simp only [List.all_cons, Bool.and_eq_true, decide_eq_true_eq]; exact hk.2
              by_cases hys : ys = []
              · have hm : m = 0 := by
                  rw [hys] at hyl
                  rcases Nat.eq_zero_or_pos m with e | e
                  · exact e
                  · have := Nat.mul_pos e hspos
                    simp only [List.length_nil] at hyl; omega
                subst hm
                have e0 : ys.length / sz = 0 := by rw [hys]; simp
                rw [e0]
                exact virt_row (P := P) R o hdst (hd d hdst) hk.1 (b :: ks) hbks (b :: rs) (x := ⟨r.st, sz, ys⟩) hsz hys (exec_append hop hargs hts (by rw [ex, ey]; exact run_append_none hu hi w))
              · exact append_to_nil (P := P) R o hop hargs hts hdst (hd d hdst) hk.1 ex ey hyl hb0 hcell hrep hnd (b :: ks) hbks (fun g hg => by obtain ⟨r, h1, h2, _⟩ := hfq g hg; exact ⟨r, by simp [h1], h2⟩) (b :: rs) r.st hsz hu hi hzv hs' hb' hzsz hys hl1 hl2
            obtain ⟨fb, arr, T, fz, us, q1, q2, q3⟩ := R.bxr b r hb (.inr (.inr (by omega)))
            have hn1 := List.nodup_cons.1 q1
            have hxz : (r.sz == 0) = false := by simp [hrz, hsz]
            have hrb := q3.rep
            rw [hxz] at hrb
            have hul : us.length = n * sz := hrb.len.trans hrl
            have hms : ys.length / sz = m := by rw [hyl]; exact Nat.mul_div_cancel _ hspos
            obtain ⟨cap', hce, hrow⟩ := q3.row (by omega)
            obtain rfl : cap' = cap := by omega
            rw [hrz] at hrow
            have hdis : ∀ g ∈ fb, g ∉ fq := fun g hg hm => by
              obtain ⟨r', hr', e, _⟩ := hfq g hm
              rw [q2 g (by simp [hg])] at e; cases e; exact hbk hr'
            have hnd2 : (fb ++ fq).Nodup := List.nodup_append.2 ⟨hn1.2, hnd, fun x hx y hy e => hdis x hx (by rw [e]; exact hy)⟩
            have hown : ∀ g ∈ fb ++ fq, ∃ r ∈ b :: ks, O g = some (false, r) := fun g hg => by
              rcases List.mem_append.1 hg with hg | hg
              · exact ⟨b, by simp, q2 g (by simp [hg])⟩
              · obtain ⟨r, h1, h2, _⟩ := hfq g hg; exact ⟨r, by simp [h1], h2⟩
            have hbnd : (n + m) * bytes ≤ limBytes := by
              rw [hyl, hrl] at hl1
              have : (n + m) * bytes * sz ≤ limBytes * sz := by rw [Nat.mul_right_comm, Nat.add_mul]; exact hl1
              exact Nat.le_of_mul_le_mul_right this hspos
            have h63 : n + m ≤ 9223372036854775807 := by
              rw [hyl, hrl, ← Nat.add_mul] at hl2; exact Nat.le_of_mul_le_mul_right hl2 hspos
            have hcu : ∀ (j : Nat) (v : Value), us[j]? = some v → w.cell? ((⟨(K b).1, 0, none⟩ : Addr).add j) = some v := fun j v hj => by
              rw [Addr.add_lit, Nat.zero_add]; exact q3.cell hj
            rw [hms]
            by_cases hroom : n + m ≤ cap'
            · have hsz2 : n * sz + news.length ≤ arr.size := by rw [hrow.1, hnl, ← Nat.add_mul]; exact Nat.mul_le_mul_right _ hroom
              have hVle : V (K b).1 ≤ (if r.st then 0 else (r.cs ++ ys).length) := by
                rw [q3.vis]; split
                · exact Nat.le_refl _
                · simp
              let V1 : Nat → Nat := fun g => if g = (K b).1 then (if r.st then 0 else (r.cs ++ ys).length) else V g
              have hle : ∀ g, V g ≤ V1 g := fun g => by
                by_cases e : g = (K b).1
                · simp only [V1, if_pos e]; rw [e]; exact hVle
                · simp only [V1, if_neg e]; exact Nat.le_refl _
              let w' := putRow w (K b).1 (splice arr (n * sz) news) T fz
              have hOb : O (K b).1 = some (false, b) := q2 _ List.mem_cons_self
              have hspl : ∀ (j : Nat), j < n * sz → (splice arr (n * sz) news)[j]? = arr[j]? := fun j hj => by
                rw [← Array.getElem?_toList, ← Array.getElem?_toList]
                simp only [splice]
                rw [List.getElem?_append_left (by simp only [List.length_append, List.length_take, Array.length_toList]; omega), List.getElem?_append_left (by simp only [List.length_take, Array.length_toList]; omega), List.getElem?_take, if_pos hj]
              have hnx : Next V V1 w w' := ⟨fun g off ho => by
                  by_cases e : g = (K b).1
                  · subst e
                    rw [cell_of_heap (putRow_same q3.hp _ _ _), cell_of_heap q3.hp]
                    refine hspl off ?_
                    rw [q3.vis] at ho
                    split at ho
                    · omega
                    · rw [hrl] at ho; exact ho
                  · simp only [World.cell?, w', putRow_other e], hle, by simp [w', putRow_size]⟩
              have hrun : (Builtin.append_ #[t, t] o.type #[.slice (some ⟨(K b).1, 0, none⟩) n cap', .slice base m c]).run P w = .ok (.slice (some ⟨(K b).1, 0, none⟩) (n + m) cap') w' := by
                have hfc : (Builtin.firstCells i.size m (.slice base m c)).run P w = .ok news.toArray w := by
                  cases base with
                  | none =>
                    have : m = 0 := hb0 rfl
                    have e : news = [] := List.eq_nil_of_length_eq_zero (by rw [hnl, this]; simp)
                    rw [e]; exact run_firstCells_none w _ _ _ _
                  | some ad => exact run_firstCells_some w _ m ad m c news (by rw [hs']; exact hnl) (hcell ad rfl)
                have hst := run_storeCells (P := P) news (n * sz) 0 arr w q3.hp q3.th hrep.oc (by simpa using hsz2)
                simp only [Nat.add_zero] at hst
                have hst' : (storeCells ⟨(K b).1, n * sz, none⟩ news).run P w = .ok () w' := hst
                rw [← hs'] at hst'
                simp [Builtin.append_, run_underlying hu, Go.sizeOf, Go.typeInfo, hi, Builtin.lenOf, hroom, hfc, Addr.add_lit, hst']
              refine row_step (w' := w') (V' := V1) (T := T) (fz := fz) (us := us ++ news) (fb := fb ++ fq) (arr := splice arr (n * sz) news) R o hdst (hd d hdst) hk.1 [] (by simp [lookup]) (b :: ks) (by simp only [List.all_cons, Bool.and_eq_true, decide_eq_true_eq]; exact hk.2) (b :: rs) (n + m) ⟨r.st, sz, r.cs ++ ys⟩ (K b).1 cap' ?_ hnx ⟨rfl, rfl, rfl⟩ (by simp only [w', putRow_size]; exact lt_of_heap q3.hp) ?_ ?_ ?_ (.inr ⟨b, by simp, hOb⟩) (fun g hg => .inr (hown g hg)) ?_ hroom (exec_append hop hargs hts (by rw [ex, ey]; exact hrun))
              · intro g _ hne; exact putRow_other hne _ _ _
              · intro g hne _; simp only [V1, if_neg hne]
              · intro g hg
                simp only [w', putRow_size]
                by_cases e : g = (K b).1
                · rw [e]; exact lt_of_heap q3.hp
                · simp only [V1, if_neg e] at hg; exact R.vr g hg
              · refine List.nodup_cons.2 ⟨fun hm => ?_, hnd2⟩
                rcases List.mem_append.1 hm with hm | hm
                · exact hn1.1 hm
                · obtain ⟨r', hr', e, _⟩ := hfq _ hm
                  rw [hOb] at e; cases e; exact hbk hr'
              · intro K' hK'
                have hne : ∀ g ∈ fb ++ fq, g ≠ (K b).1 := fun g hg e => by
                  rcases List.mem_append.1 hg with hg | hg
                  · exact hn1.1 (by rw [← e]; exact hg)
                  · obtain ⟨r', hr', e', _⟩ := hfq _ hg
                    rw [e, hOb] at e'; cases e'; exact hbk hr'
                have hsz0 : (sz == 0) = false := by simp [hsz]
                have hboth := hrb.app hrep
                refine ⟨by rw [hK']; exact putRow_same q3.hp _ _ _, ?_, ?_, ?_, ?_, fun e => absurd e hsz, fun _ => ⟨cap', by rw [hK'], ?_, ?_, ?_⟩⟩
                · unfold thawed; rw [splice_size _ _ _ hsz2]; exact q3.th
                · intro j v hj
                  by_cases hjl : j < n * sz
                  · rw [hspl j hjl]
                    rw [List.getElem?_append_left (by rw [hul]; exact hjl)] at hj
                    exact q3.pre j v hj
                  · rw [List.getElem?_append_right (by rw [hul]; omega), hul] at hj
                    have hjn := (List.getElem?_eq_some_iff.1 hj).1
                    rw [← Array.getElem?_toList]
                    simp only [splice]
                    rw [List.getElem?_append_left (by simp only [List.length_append, List.length_take, Array.length_toList]; omega), List.getElem?_append_right (by simp only [List.length_take, Array.length_toList]; omega)]
                    rw [List.length_take, Array.length_toList, Nat.min_eq_left (by omega)]; exact hj
                · show Rep _ _ _ (sz == 0) _ _ _
                  rw [hsz0]
                  refine (hboth.chK (hboth.noIds rfl) K').mono (K := K') hnx.cell hnx.le hnx.sz (fun g hg => ⟨putRow_other (hne g hg) _ _ _, ?_⟩) (fun _ _ => rfl)
                  simp only [V1, if_neg (hne g hg)]
                · rw [hK']; simp only [V1, if_true]
                · rw [splice_size _ _ _ hsz2]; exact hrow.1
                · show (us ++ news).length ≤ _
                  rw [splice_size _ _ _ hsz2, List.length_append, hul]; exact hsz2
                · show (us ++ news).length % sz = 0
                  rw [List.length_append, hul, hnl, ← Nat.add_mul]; exact Nat.mul_mod_left _ _
            · have hm : 0 < m := by omega
              obtain ⟨ad, rfl⟩ : ∃ ad, base = some ad := by
                cases base with
                | none => exact absurd (hb0 rfl) (by omega)
                | some ad => exact ⟨ad, rfl⟩
              have hrun := run_append_grow (P := P) w t o.type el i zv hu hi hzv ⟨(K b).1, 0, none⟩ n cap' us (by rw [hs']; exact hul) hcu ad m c news (by rw [hs']; exact hnl) (hcell ad rfl) (by omega) (by omega) (growslice_fits (by omega) (by rw [hb']; exact hbnd))
              have hge := grownCap_ge w (n + m) cap' el
              refine grown_row (P := P) R o hdst (hd d hdst) hk.1 (b :: ks) (by simp only [List.all_cons, Bool.and_eq_true, decide_eq_true_eq]; exact hk.2) (b :: rs) el r.st sz (n + m) (grownCap w (n + m) cap' el) hsz (us ++ news) (r.cs ++ ys) _ (fb ++ fq) (hrb.app hrep) hnd2 hown (by rw [List.length_append, hul, hnl, Nat.add_mul]) hge ?_ ?_ (exec_append hop hargs hts (by rw [ex, ey]; exact hrun))
              · rw [Array.size_append, Array.size_append, size_zeroCells, hzsz]; simp only [List.size_toArray, hnl, hul]; rw [← Nat.add_mul, ← Nat.add_mul]; congr 1; omega
              · intro j v hj
                have hlt := (List.getElem?_eq_some_iff.1 hj).1
                rw [Array.getElem?_append_left (by simpa using hlt)]
                rw [List.append_toArray]; simpa using hj
          · cases h
        · cases h
      · cases h
    · cases h
  · cases h
end Evl
