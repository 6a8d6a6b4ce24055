/- Chapter 26 (best): a row of what waits, in memory of the call's own. -/
import Derived.Test.YtndkgjoaljcijaaBsLess
import Derived.Test.YtndkgjoaljcijaaMemR
set_option linter.unusedSimpArgs false
set_option linter.unusedVariables false
set_option maxRecDepth 100000
namespace Go.Proofs.Ytndkgjoaljcijaa
open Go.RowKit

def wvals (l : List Wt) : List Value := l.flatMap wtCells
theorem wvals_length (l : List Wt) : (wvals l).length = l.length * 8 := by
  induction l with
  | nil => rfl
  | cons t l ih => simp only [wvals, List.flatMap_cons, List.length_append, List.length_cons] at *; rw [ih]; simp [wtCells]; omega
theorem wvals_append (a b : List Wt) : wvals (a ++ b) = wvals a ++ wvals b := by simp [wvals]
theorem wvals_get : ∀ (l : List Wt) (i j : Nat) (hi : i < l.length), j < 8 → (wvals l)[i * 8 + j]? = (wtCells l[i])[j]?
  | t :: l, 0, j, _, hj => by
    simp only [wvals, List.flatMap_cons, Nat.zero_mul, Nat.zero_add, List.getElem_cons_zero]
    rw [List.getElem?_append_left (by simp [wtCells]; omega)]
  | t :: l, i + 1, j, hi, hj => by
    simp only [wvals, List.flatMap_cons]
    rw [List.getElem?_append_right (by simp [wtCells]; omega)]
    have e : (i + 1) * 8 + j - (wtCells t).length = i * 8 + j := by simp [wtCells]; omega
    rw [e]
    exact wvals_get l i j (by simpa using hi) hj
theorem wvals_one (l : List Wt) : ∀ u ∈ wvals l, u.oneCell' = true := by
  intro u hu
  obtain ⟨g, _, hg⟩ := List.mem_flatMap.1 hu
  simp [wtCells] at hg
  rcases hg with rfl | rfl | rfl | rfl | rfl | rfl | rfl | rfl <;> rfl
def RowW (w : World) (base : Nat) (v : Value) (l : List Wt) : Prop := Row w base 63 8 v l.length (wvals l)
theorem info_wt : (Try.prog.info? 63).map (fun i => (i.zero, i.size, i.bytes)) = some (some (.agg #[.int .i64 0, .int .i64 0, .int .i64 0, .int .i64 0, .int .i64 0, .int .i64 0, .int .i64 0, .int .i64 0]), 8, 64) := by kernel_rfl
/-- One more behind all. -/
theorem wp_append_wt {w : World} {o : Oper} {a : Act} {K : Act → World → Prop} {Q : Exit → Act → World → Prop} (s x : Operand)
    (ho : o.op = .call { callee := .builtin .append, args := #[s, x], argTypes := #[52, 52] })
    (base : Nat) (v : Value) (l : List Wt) (hs : a.eval s = v) (hown : RowW w base v l) (b : Nat) (p : Wt) (hx : a.eval x = .slice (some ⟨b, 0, none⟩) 1 1) (hr : Blk w b 63 (wtCells p).toArray)
    (hlen : l.length ≤ 1000000000000) (hbase : base ≤ w.heap.size)
    (h : ∀ v' w', RowW w' base v' (l ++ [p]) → w.grownBy w' v.ownBlock → (v'.ownBlock = v.ownBlock ∨ v'.ownBlock = some w.heap.size) → K (a.put o.dst v') w') : o.wp Try.prog a w K Q := by
  obtain ⟨i0, hi, hz0, hz1, hz2⟩ := info_parts info_wt
  have hrd : Reads w w.heap.size 8 (some ⟨b, 0, none⟩) 1 (wvals [p]) := ⟨by rw [wvals_length]; rfl, fun _ => ⟨_, rfl, hr.lt, fun j u hu => by
    have e1 : ((⟨b, 0, none⟩ : Addr).add j) = ⟨b, j, none⟩ := by unfold Addr.add; split <;> simp_all
    rw [e1, hr.cell, List.getElem?_toArray]; simpa [wvals] using hu⟩⟩
  refine wp_append_row w s x 52 ho base 63 i0 _ 8 64 Try.underlying52 hi hz0 hz1 hz2 rfl (by omega) v l.length (wvals l) hs hown w.heap.size (some ⟨b, 0, none⟩) 1 1 (wvals [p]) hx hrd (wvals_one _) (by simp only [maxLen]; omega) (by omega) hbase ?_
  intro v' w' h1 h2 h3
  rw [← wvals_append] at h1
  exact h v' w' (by unfold RowW; rw [List.length_append]; exact h1) h2 h3
theorem step_append_wt {w : World} {ops : Array Oper} {o : Oper} {a : Act} {K : Act → World → Prop} {Q : Exit → Act → World → Prop} {E : Prop} (hgd : o.guard = none) (s x : Operand)
    (ho : o.op = .call { callee := .builtin .append, args := #[s, x], argTypes := #[52, 52] })
    (base : Nat) (v : Value) (l : List Wt) (hs : a.eval s = v) (hown : RowW w base v l) (b : Nat) (p : Wt) (hx : a.eval x = .slice (some ⟨b, 0, none⟩) 1 1) (hr : Blk w b 63 (wtCells p).toArray)
    (hlen : l.length ≤ 1000000000000) (hbase : base ≤ w.heap.size)
    (h : ∀ v' w', RowW w' base v' (l ++ [p]) → w.grownBy w' v.ownBlock → (v'.ownBlock = v.ownBlock ∨ v'.ownBlock = some w.heap.size) → K (a.put o.dst v') w') :
    if Region.wanted o (yielded ops a.tmps) = true then Oper.wp Try.prog o a w K Q else E := by
  have hw : Region.wanted o (yielded ops a.tmps) = true := by simp [Region.wanted, hgd]
  rw [if_pos hw]
  exact wp_append_wt s x ho base v l hs hown b p hx hr hlen hbase h
/-- What stands at a place. -/
theorem RowW.at_ {w : World} {base : Nat} {A : Option Addr} {n c : Nat} {l : List Wt} (h : RowW w base (.slice A n c) l) (i : Nat) (hi : i < l.length) : ∃ ad, A = some ad ∧ n = l.length ∧ ad.block < w.heap.size ∧ base ≤ ad.block ∧ ∀ j u, (wtCells l[i])[j]? = some u → w.cell? (ad.add (i * 8 + j)) = some u := by
  obtain ⟨A', c', e, hle⟩ := Row.slice h
  simp only [Value.slice.injEq] at e
  obtain ⟨rfl, rfl, rfl⟩ := e
  obtain ⟨ad, rfl⟩ : ∃ ad, A = some ad := by
    rcases h.2 with ⟨hv, hz⟩ | ⟨g, o, cap, cur, mk, hv, _⟩
    · simp only [Value.slice.injEq] at hv; omega
    · simp only [Value.slice.injEq] at hv; exact ⟨_, hv.1⟩
  have hl := Row.lt h ad.block rfl
  refine ⟨ad, rfl, rfl, hl.2, hl.1, fun j u hu => ?_⟩
  have hj : j < 8 := by have := (List.getElem?_eq_some_iff.1 hu).1; simpa [wtCells] using this
  exact Row.cells h rfl (i * 8 + j) u (by rw [wvals_get l i j hi hj]; exact hu)
/-- One written over. -/
theorem wvals_set (l : List Wt) (i : Nat) (x : Wt) (hi : i < l.length) (j : Nat) (hj : j < l.length * 8) : (wvals (l.set i x))[j]? = if i * 8 ≤ j ∧ j < i * 8 + 8 then (wtCells x)[j - i * 8]? else (wvals l)[j]? := by
  have e : j = j / 8 * 8 + j % 8 := by omega
  have hl : (l.set i x).length = l.length := List.length_set
  have h1 : (wvals (l.set i x))[j]? = (wtCells ((l.set i x)[j / 8]'(by rw [hl]; omega)))[j % 8]? := by
    conv => lhs; rw [e]
    exact wvals_get _ _ _ _ (by omega)
  rw [h1, List.getElem_set]
  by_cases hc : i = j / 8
  · rw [if_pos hc, if_pos (by omega), show j - i * 8 = j % 8 by omega]
  · rw [if_neg hc, if_neg (by omega)]
    have h2 : (wvals l)[j]? = (wtCells (l[j / 8]'(by omega)))[j % 8]? := by
      conv => lhs; rw [e]
      exact wvals_get _ _ _ _ (by omega)
    rw [h2]
theorem RowW.put {w : World} {base g o n c : Nat} {l : List Wt} (h : RowW w base (.slice (some ⟨g, o, none⟩) n c) l) (i : Nat) (hi : i < l.length) (x : Wt) : RowW (w.setCells g (o + i * 8) (wtCells x)) base (.slice (some ⟨g, o, none⟩) n c) (l.set i x) := by
  obtain ⟨h1, h2⟩ := h
  refine ⟨by rw [wvals_length], ?_⟩
  rcases h2 with ⟨hv, hz⟩ | ⟨g', o', cap, cur, m, hv, hb, hh, hn, hm, hr, hx, hk⟩
  · simp at hv
  · simp only [Value.slice.injEq, Option.some.injEq, Addr.mk.injEq, and_true] at hv
    obtain ⟨⟨rfl, rfl⟩, hnn, rfl⟩ := hv
    have hw8 : (wtCells x).length = 8 := rfl
    obtain ⟨cur', s1, s2, s3⟩ := setCells_heap g 63 m (wtCells x) (o + i * 8) w cur hh (by rw [hw8]; omega)
    right
    refine ⟨g, o, c, cur', m, by rw [List.length_set, hnn], hb, s1, by rw [List.length_set]; exact hn, hm, by omega, ?_, hk⟩
    have hcl : cur.toList.length = cur.size := Array.length_toList
    have hold : ∀ j, j < l.length * 8 → cur.toList[o + j]? = (wvals l)[j]? := fun j hj => by
      rw [← hx, List.getElem?_take_of_lt hj, List.getElem?_drop]
    have hset := wvals_set l i x hi
    have hsl : (wvals (l.set i x)).length = l.length * 8 := by rw [wvals_length, List.length_set]
    have hsl2 : (l.set i x).length = l.length := List.length_set
    generalize wvals (l.set i x) = W at *
    generalize wtCells x = vs at *
    generalize l.set i x = l' at *
    generalize cur'.toList = T' at *
    generalize cur.toList = T at *
    have et : (T.take (o + i * 8)).length = o + i * 8 := by rw [List.length_take]; omega
    have et2 : (T.take (o + i * 8) ++ vs).length = o + i * 8 + 8 := by rw [List.length_append, et, hw8]
    apply List.ext_getElem?
    intro j
    by_cases hj : j < l.length * 8
    · rw [List.getElem?_take_of_lt (by rw [hsl2]; exact hj), List.getElem?_drop, s3, hset j hj]
      by_cases hc : i * 8 ≤ j ∧ j < i * 8 + 8
      · rw [if_pos hc, List.getElem?_append_left (by rw [et2]; omega), List.getElem?_append_right (by rw [et]; omega), et]
        congr 1
        omega
      · rw [if_neg hc, ← hold j hj]
        by_cases hlt : j < i * 8
        · rw [List.getElem?_append_left (by rw [et2]; omega), List.getElem?_append_left (by rw [et]; omega), List.getElem?_take_of_lt (by omega)]
        · rw [List.getElem?_append_right (by rw [et2]; omega), et2, List.getElem?_drop, hw8]
          congr 1
          omega
    · rw [List.getElem?_eq_none (by rw [List.length_take, hsl2]; omega), List.getElem?_eq_none (by rw [hsl]; omega)]
/-- Two are exchanged. -/
theorem RowW.swap {w : World} {base g o n c : Nat} {l : List Wt} (h : RowW w base (.slice (some ⟨g, o, none⟩) n c) l) (i j : Nat) (hi : i < l.length) (hj : j < l.length) :
    RowW ((w.setCells g (o + i * 8) (wtCells (gw l j))).setCells g (o + j * 8) (wtCells (gw l i))) base (.slice (some ⟨g, o, none⟩) n c) (swapW l i j) :=
  (h.put i hi (gw l j)).put j (by rw [List.length_set]; exact hj) (gw l i)
theorem swapW_comm {l : List Wt} {i j : Nat} (hi : i < l.length) (hj : j < l.length) (h : i ≠ j) : swapW l j i = swapW l i j := by
  unfold swapW
  exact List.set_comm _ _ (fun e => h e.symm)
theorem grown_wt {w0 w : World} {g : Nat} (h : w0.grownBy w (some g)) (o : Nat) (x : Wt) : w0.grownBy (w.setCells g o (wtCells x)) (some g) :=
  only_setCell (only_setCell (only_setCell (only_setCell (only_setCell (only_setCell (only_setCell (only_setCell h (.inl rfl) _) (.inl rfl) _) (.inl rfl) _) (.inl rfl) _) (.inl rfl) _) (.inl rfl) _) (.inl rfl) _) (.inl rfl) _
theorem grown_below_wt {w0 w w' : World} {r : Option Nat} (h : w0.grownBy w r) (hb : Below w.heap.size w w') : w0.grownBy w' r :=
  ⟨hb.os.trans h.os, hb.tape.trans h.tape, hb.output.trans h.output, Nat.le_trans h.size hb.size, fun i hi hne => (hb.block i (Nat.lt_of_lt_of_le hi h.size)).trans (h.block i hi hne)⟩
theorem grown_refl_wt (w : World) (r : Option Nat) : w.grownBy w r := ⟨rfl, rfl, rfl, Nat.le_refl _, fun _ _ _ => rfl⟩
/-- Two places written over: the world behind. -/
def ex2 (w : World) (g a b : Nat) (X Y : Wt) : World := ((((((((((((((((w.setCell ⟨g, a, none⟩ (.int .i64 Y.s.at_)).setCell ⟨g, a + 1, none⟩ (.int .i64 Y.s.r.a)).setCell ⟨g, a + 2, none⟩ (.int .i64 Y.s.r.b)).setCell ⟨g, a + 3, none⟩ (.int .i64 Y.s.r.c)).setCell ⟨g, a + 4, none⟩ (.int .i64 Y.s.r.d)).setCell ⟨g, a + 5, none⟩ (.int .i64 Y.cost)).setCell ⟨g, a + 6, none⟩ (.int .i64 Y.all)).setCell ⟨g, a + 7, none⟩ (.int .i64 Y.came)).setCell ⟨g, b, none⟩ (.int .i64 X.s.at_)).setCell ⟨g, b + 1, none⟩ (.int .i64 X.s.r.a)).setCell ⟨g, b + 2, none⟩ (.int .i64 X.s.r.b)).setCell ⟨g, b + 3, none⟩ (.int .i64 X.s.r.c)).setCell ⟨g, b + 4, none⟩ (.int .i64 X.s.r.d)).setCell ⟨g, b + 5, none⟩ (.int .i64 X.cost)).setCell ⟨g, b + 6, none⟩ (.int .i64 X.all)).setCell ⟨g, b + 7, none⟩ (.int .i64 X.came)).drew
theorem ex2_eq (w : World) (g a b : Nat) (X Y : Wt) : ex2 w g a b X Y = ((w.setCells g a (wtCells Y)).setCells g b (wtCells X)).drew := rfl
theorem ex2_row {w : World} {base g o n c : Nat} {l : List Wt} (h : RowW w base (.slice (some ⟨g, o, none⟩) n c) l) (i j : Nat) (hi : i < l.length) (hj : j < l.length) {X Y : Wt} (hX : gw l i = X) (hY : gw l j = Y) :
    RowW (ex2 w g (o + i * 8) (o + j * 8) X Y) base (.slice (some ⟨g, o, none⟩) n c) (swapW l i j) := by
  subst hX
  subst hY
  rw [ex2_eq]
  exact Row.drew (RowW.swap h i j hi hj)
theorem ex2_grown {w0 w : World} {g : Nat} (h : w0.grownBy w (some g)) (a b : Nat) (X Y : Wt) : w0.grownBy (ex2 w g a b X Y) (some g) := by
  rw [ex2_eq]
  exact only_drew (grown_wt (grown_wt h _ _) _ _)
theorem ex2_cell {w : World} {g F k : Nat} (h : F ≠ g) (hF : F < w.heap.size) (a b : Nat) (X Y : Wt) : (ex2 w g a b X Y).cell? ⟨F, k, none⟩ = w.cell? ⟨F, k, none⟩ := by
  have hg := ex2_grown (grown_refl_wt w (some g)) a b X Y
  exact World.cell?_of_block (hg.block F hF (fun q => by injection q with q; exact h q))
/-! What a change of the heap leaves: of F all cells but one; all elder blocks but F and the row's. -/
structure Fr (w w' : World) (F : Nat) (ob : Option Nat) : Prop where
  cells : ∀ i, i ≠ 7 → w'.cell? ⟨F, i, none⟩ = w.cell? ⟨F, i, none⟩
  frozen : ∀ i, w'.frozen? ⟨F, i, none⟩ = w.frozen? ⟨F, i, none⟩
  os : w'.os = w.os
  tape : w'.tape = w.tape
  output : w'.output = w.output
  size : w.heap.size ≤ w'.heap.size
  block : ∀ k, k < w.heap.size → k ≠ F → some k ≠ ob → w'.heap[k]? = w.heap[k]?
theorem frozen_of {w w' : World} {F i : Nat} (h : w'.heap[F]? = w.heap[F]?) : w'.frozen? ⟨F, i, none⟩ = w.frozen? ⟨F, i, none⟩ := by
  unfold World.frozen?
  simp only [h]
theorem Fr.grown {w w' : World} {F : Nat} {ob : Option Nat} (h : w.grownBy w' ob) (hF : F < w.heap.size) (hne : ob ≠ some F) : Fr w w' F ob :=
  ⟨fun i _ => World.cell?_of_block (h.block F hF (fun q => hne q.symm)), fun i => frozen_of (h.block F hF (fun q => hne q.symm)), h.os, h.tape, h.output, h.size, fun k hk _ hkv => h.block k hk hkv⟩
theorem Fr.below {w w' : World} {F : Nat} (h : Below w.heap.size w w') (hF : F < w.heap.size) (ob : Option Nat) : Fr w w' F ob :=
  ⟨fun i _ => h.cell (p := ⟨F, i, none⟩) hF, fun i => h.frozen (p := ⟨F, i, none⟩) hF, h.os, h.tape, h.output, h.size, fun k hk _ _ => h.block k hk⟩
theorem Fr.trans {w w1 w2 : World} {F : Nat} {ob : Option Nat} (h : Fr w w1 F ob) (h2 : Fr w1 w2 F ob) : Fr w w2 F ob :=
  ⟨fun i hi => (h2.cells i hi).trans (h.cells i hi), fun i => (h2.frozen i).trans (h.frozen i), h2.os.trans h.os, h2.tape.trans h.tape, h2.output.trans h.output, Nat.le_trans h.size h2.size, fun k hk hF hv => (h2.block k (Nat.lt_of_lt_of_le hk h.size) hF hv).trans (h.block k hk hF hv)⟩
theorem Fr.store (w : World) (F : Nat) (ob : Option Nat) (u : Value) : Fr w (w.setCell ⟨F, 7, none⟩ u) F ob :=
  ⟨fun i hi => World.cell?_setCell_other w _ _ _ (by simp only [ne_eq, Addr.mk.injEq, and_true, true_and]; exact fun q => hi q.symm), fun i => World.frozen?_setCell _ _ _ _, rfl, rfl, rfl, by simp [World.setCell], fun k _ hk _ => Below.heap_setCell w ⟨F, 7, none⟩ _ k hk⟩
theorem Fr.drewN {w w' : World} {F : Nat} {ob : Option Nat} (h : Fr w w' F ob) (n : Nat) : Fr w (w'.drewN n) F ob := ⟨h.cells, h.frozen, h.os, h.tape, h.output, h.size, h.block⟩
/-- What is there of the heap. -/
structure Push_ (w w' : World) (F base : Nat) (v : Value) (L : List Wt) : Prop where
  row : ∃ v', w'.cell? ⟨F, 7, none⟩ = some v' ∧ RowW w' base v' L ∧ (v'.ownBlock = v.ownBlock ∨ ∃ k, v'.ownBlock = some k ∧ w.heap.size ≤ k)
  fr : Fr w w' F v.ownBlock
/-- The first ones of a row. -/
theorem wvals_take (l : List Wt) (k : Nat) : wvals (l.take k) = (wvals l).take (k * 8) := by
  induction l generalizing k with
  | nil => simp [wvals]
  | cons t l ih =>
    cases k with
    | zero => simp [wvals]
    | succ k =>
      have e : (wtCells t).length = 8 := rfl
      simp only [wvals, List.take_succ_cons, List.flatMap_cons] at *
      rw [ih, List.take_append, e, show (k + 1) * 8 - 8 = k * 8 by omega, List.take_of_length_le (l := wtCells t) (by rw [e]; omega)]
theorem RowW.take {w : World} {base g o n c : Nat} {l : List Wt} (h : RowW w base (.slice (some ⟨g, o, none⟩) n c) l) (k : Nat) (hk : k ≤ l.length) : RowW w base (.slice (some ⟨g, o, none⟩) k c) (l.take k) := by
  obtain ⟨h1, h2⟩ := h
  have hlk : (l.take k).length = k := by rw [List.length_take]; omega
  refine ⟨by rw [wvals_length], ?_⟩
  rcases h2 with ⟨hv, hz⟩ | ⟨g', o', cap, cur, m, hv, hb, hh, hn, hm, hr, hx, hk2⟩
  · simp at hv
  · simp only [Value.slice.injEq, Option.some.injEq, Addr.mk.injEq, and_true] at hv
    obtain ⟨⟨rfl, rfl⟩, hnn, rfl⟩ := hv
    right
    refine ⟨g, o, c, cur, m, by rw [hlk], hb, hh, by omega, hm, hr, ?_, hk2⟩
    rw [wvals_take, ← hx, List.take_take, hlk, Nat.min_eq_left (by omega)]
theorem RowW.form {w : World} {base : Nat} {v : Value} {l : List Wt} (h : RowW w base v l) (h0 : 0 < l.length) : ∃ g o c, v = .slice (some ⟨g, o, none⟩) l.length c ∧ base ≤ g ∧ g < w.heap.size ∧ l.length ≤ c := by
  rcases h.2 with ⟨hv, hz⟩ | ⟨g, o, cap, cur, mk, hv, hb, hh, hn, _⟩
  · omega
  · exact ⟨g, o, cap, hv, hb, heap_lt hh, hn⟩
theorem addr_add (g o n : Nat) : (⟨g, o, none⟩ : Addr).add n = ⟨g, o + n, none⟩ := by unfold Addr.add; split <;> simp_all
/-- The cells of one, as a walk spells them. -/
theorem RowW.eight {w : World} {base g o n c : Nat} {l : List Wt} (h : RowW w base (.slice (some ⟨g, o, none⟩) n c) l) (i : Nat) (hi : i < l.length) : w.cell? ⟨g, o + i * 8, none⟩ = some (.int .i64 (gw l i).s.at_) ∧ w.cell? ⟨g, o + i * 8 + 1, none⟩ = some (.int .i64 (gw l i).s.r.a) ∧ w.cell? ⟨g, o + i * 8 + 2, none⟩ = some (.int .i64 (gw l i).s.r.b) ∧ w.cell? ⟨g, o + i * 8 + 3, none⟩ = some (.int .i64 (gw l i).s.r.c) ∧ w.cell? ⟨g, o + i * 8 + 4, none⟩ = some (.int .i64 (gw l i).s.r.d) ∧ w.cell? ⟨g, o + i * 8 + 5, none⟩ = some (.int .i64 (gw l i).cost) ∧ w.cell? ⟨g, o + i * 8 + 6, none⟩ = some (.int .i64 (gw l i).all) ∧ w.cell? ⟨g, o + i * 8 + 7, none⟩ = some (.int .i64 (gw l i).came) := by
  obtain ⟨_, e0, hn, hgs, hgb, hci⟩ := RowW.at_ h i hi
  injection e0 with e0
  subst e0
  rw [← gw_at hi] at hci
  have hh := fun j u (hu : (wtCells (gw l i))[j]? = some u) => by
    have := hci j u hu
    rwa [addr_add, ← Nat.add_assoc] at this
  exact ⟨hh 0 _ rfl, hh 1 _ rfl, hh 2 _ rfl, hh 3 _ rfl, hh 4 _ rfl, hh 5 _ rfl, hh 6 _ rfl, hh 7 _ rfl⟩
theorem RowW.thawed {w : World} {base g o n c : Nat} {l : List Wt} (h : RowW w base (.slice (some ⟨g, o, none⟩) n c) l) (i : Nat) (hi : i < l.length) : w.frozen? ⟨g, o + i * 8, none⟩ = false ∧ w.frozen? ⟨g, o + i * 8 + 1, none⟩ = false ∧ w.frozen? ⟨g, o + i * 8 + 2, none⟩ = false ∧ w.frozen? ⟨g, o + i * 8 + 3, none⟩ = false ∧ w.frozen? ⟨g, o + i * 8 + 4, none⟩ = false ∧ w.frozen? ⟨g, o + i * 8 + 5, none⟩ = false ∧ w.frozen? ⟨g, o + i * 8 + 6, none⟩ = false ∧ w.frozen? ⟨g, o + i * 8 + 7, none⟩ = false := by
  obtain ⟨_, e0, hn, hgs, hgb, hci⟩ := RowW.at_ h i hi
  subst hn
  have hh := fun j (hj : j < 8) => by
    have := Row.frozen h rfl (i * 8 + j) (by omega)
    rwa [← Nat.add_assoc] at this
  exact ⟨hh 0 (by omega), hh 1 (by omega), hh 2 (by omega), hh 3 (by omega), hh 4 (by omega), hh 5 (by omega), hh 6 (by omega), hh 7 (by omega)⟩
/-- One place written over: the world behind. -/
def ex1 (w : World) (g a : Nat) (X : Wt) : World := ((((((((w.setCell ⟨g, a, none⟩ (.int .i64 X.s.at_)).setCell ⟨g, a + 1, none⟩ (.int .i64 X.s.r.a)).setCell ⟨g, a + 2, none⟩ (.int .i64 X.s.r.b)).setCell ⟨g, a + 3, none⟩ (.int .i64 X.s.r.c)).setCell ⟨g, a + 4, none⟩ (.int .i64 X.s.r.d)).setCell ⟨g, a + 5, none⟩ (.int .i64 X.cost)).setCell ⟨g, a + 6, none⟩ (.int .i64 X.all)).setCell ⟨g, a + 7, none⟩ (.int .i64 X.came)).drew
theorem ex1_eq (w : World) (g a : Nat) (X : Wt) : ex1 w g a X = (w.setCells g a (wtCells X)).drew := rfl
theorem ex1_row {w : World} {base g o n c : Nat} {l : List Wt} (h : RowW w base (.slice (some ⟨g, o, none⟩) n c) l) (h0 : 0 < l.length) (X : Wt) : RowW (ex1 w g o X) base (.slice (some ⟨g, o, none⟩) n c) (l.set 0 X) := by
  have := RowW.put h 0 h0 X
  rw [Nat.zero_mul, Nat.add_zero] at this
  rw [ex1_eq]
  exact Row.drew this
theorem ex1_grown {w0 w : World} {g : Nat} (h : w0.grownBy w (some g)) (a : Nat) (X : Wt) : w0.grownBy (ex1 w g a X) (some g) := by
  rw [ex1_eq]
  exact only_drew (grown_wt h _ _)
def st8 (w : World) (g : Nat) (X : Wt) : World := ((((((((w.setCell ⟨g, 0, none⟩ (.int .i64 X.s.at_)).setCell ⟨g, 1, none⟩ (.int .i64 X.s.r.a)).setCell ⟨g, 2, none⟩ (.int .i64 X.s.r.b)).setCell ⟨g, 3, none⟩ (.int .i64 X.s.r.c)).setCell ⟨g, 4, none⟩ (.int .i64 X.s.r.d)).setCell ⟨g, 5, none⟩ (.int .i64 X.cost)).setCell ⟨g, 6, none⟩ (.int .i64 X.all)).setCell ⟨g, 7, none⟩ (.int .i64 X.came))
theorem st8_eq (w : World) (g : Nat) (X : Wt) : st8 w g X = w.setCells g 0 (wtCells X) := rfl
theorem st8_grown (w : World) (g : Nat) (X : Wt) : w.grownBy (st8 w g X) (some g) := by
  rw [st8_eq]
  exact grown_wt (grown_refl_wt w _) 0 X
theorem st8_other (w : World) (g : Nat) (X : Wt) (j : Nat) (h : j ≠ g) : (st8 w g X).heap[j]? = w.heap[j]? := by
  rw [st8_eq]
  exact setCells_other g j h _ _ _
theorem st8_size (w : World) (g : Nat) (X : Wt) : (st8 w g X).heap.size = w.heap.size := by
  rw [st8_eq]
  exact setCells_size g _ _ _
end Go.Proofs.Ytndkgjoaljcijaa
