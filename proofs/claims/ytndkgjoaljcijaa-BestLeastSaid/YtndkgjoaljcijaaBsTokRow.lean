/- Rows of tokens of the call's own: read, lengthened, two exchanged. -/
import Derived.Test.YtndkgjoaljcijaaToks
import Derived.Test.YtndkgjoaljcijaaBsRow
set_option linter.unusedSimpArgs false
set_option linter.unusedVariables false
set_option maxRecDepth 100000
namespace Go.Proofs.Ytndkgjoaljcijaa
open Go.RowKit

def tok0 : Tok := ⟨0, 0, 0, 0, 0⟩
def gT (l : List Tok) (i : Nat) : Tok := l.getD i tok0
theorem gT_at {l : List Tok} {i : Nat} (h : i < l.length) : gT l i = l[i] := by rw [gT, List.getD_eq_getElem?_getD, List.getElem?_eq_getElem h]; rfl
def swapT (l : List Tok) (i j : Nat) : List Tok := (l.set i (gT l j)).set j (gT l i)
theorem swapT_length (l : List Tok) (i j : Nat) : (swapT l i j).length = l.length := by simp [swapT]
theorem swapT_get {l : List Tok} {i j : Nat} (hi : i < l.length) (hj : j < l.length) (k : Nat) : gT (swapT l i j) k = if k = j then gT l i else if k = i then gT l j else gT l k := by
  unfold swapT
  conv => lhs; unfold gT
  rw [List.getD_eq_getElem?_getD, List.getElem?_set]
  by_cases e : j = k
  · subst e
    rw [if_pos rfl, if_pos (by simpa using hj), if_pos rfl]; rfl
  · rw [if_neg e, if_neg (fun h => e h.symm), List.getElem?_set]
    by_cases e2 : i = k
    · subst e2
      rw [if_pos rfl, if_pos hi, if_pos rfl]; rfl
    · rw [if_neg e2, if_neg (fun h => e2 h.symm)]
      unfold gT
      rw [List.getD_eq_getElem?_getD]
theorem tvals_one (l : List Tok) : ∀ u ∈ tvals l, u.oneCell' = true := by
  intro u hu
  obtain ⟨g, _, hg⟩ := List.mem_flatMap.1 hu
  simp [tokCells] at hg
  rcases hg with rfl | rfl | rfl | rfl | rfl <;> rfl
theorem tvals_append (a b : List Tok) : tvals (a ++ b) = tvals a ++ tvals b := by simp [tvals]
def RowT (w : World) (base : Nat) (v : Value) (l : List Tok) : Prop := Row w base 65 5 v l.length (tvals l)
theorem info_tk : (Try.prog.info? 65).map (fun i => (i.zero, i.size, i.bytes)) = some (some (.agg #[.int .i64 0, .int .i64 0, .int .i64 0, .int .i64 0, .int .i64 0]), 5, 40) := by kernel_rfl
theorem RowT.reads {w : World} {base : Nat} {A : Option Addr} {n c : Nat} {l : List Tok} (h : RowT w base (.slice A n c) l) : n = l.length ∧ ReadsT w A l := by
  obtain ⟨A', c', e, _⟩ := Row.slice h
  simp only [Value.slice.injEq] at e
  obtain ⟨rfl, rfl, rfl⟩ := e
  exact ⟨rfl, Row.reads h rfl⟩
/-- One more behind all. -/
theorem wpList_append_tk {w : World} {ops : Array Oper} {rest : List Oper} {o : Oper} {a : Act} {Q : Exit → Act → World → Prop} (hgd : o.guard = none) (s x : Operand)
    (ho : o.op = .call { callee := .builtin .append, args := #[s, x], argTypes := #[34, 34] })
    (base : Nat) (v : Value) (l : List Tok) (hs : a.eval s = v) (hown : RowT w base v l) (b : Nat) (p : Tok) (hx : a.eval x = .slice (some ⟨b, 0, none⟩) 1 1) (hr : Blk w b 65 (tokCells p).toArray)
    (hlen : l.length ≤ 1000000000000) (hbase : base ≤ w.heap.size)
    (h : ∀ v' w', RowT w' base v' (l ++ [p]) → w.grownBy w' v.ownBlock → (v'.ownBlock = v.ownBlock ∨ v'.ownBlock = some w.heap.size) → wpList Try.prog ops Q rest (a.put o.dst v') w') : wpList Try.prog ops Q (o :: rest) a w := by
  obtain ⟨i0, hi, hz0, hz1, hz2⟩ := info_parts info_tk
  have hrd : Reads w w.heap.size 5 (some ⟨b, 0, none⟩) 1 (tvals [p]) := ⟨by rw [tvals_length]; rfl, fun _ => ⟨_, rfl, hr.lt, fun j u hu => by
    have e1 : ((⟨b, 0, none⟩ : Addr).add j) = ⟨b, j, none⟩ := by rw [addr_add, Nat.zero_add]
    rw [e1, hr.cell, List.getElem?_toArray]; simpa [tvals] using hu⟩⟩
  refine wpList_append_row w hgd s x 34 ho base 65 i0 _ 5 40 Try.underlying34 hi hz0 hz1 hz2 rfl (by omega) v l.length (tvals l) hs hown w.heap.size (some ⟨b, 0, none⟩) 1 1 (tvals [p]) hx hrd (tvals_one _) (by simp only [maxLen]; omega) (by omega) hbase ?_
  intro v' w' h1 h2 h3
  rw [← tvals_append] at h1
  exact h v' w' (by unfold RowT; rw [List.length_append]; exact h1) h2 h3
theorem tvals_set (l : List Tok) (i : Nat) (x : Tok) (hi : i < l.length) (j : Nat) (hj : j < l.length * 5) : (tvals (l.set i x))[j]? = if i * 5 ≤ j ∧ j < i * 5 + 5 then (tokCells x)[j - i * 5]? else (tvals l)[j]? := by
  have e : j = j / 5 * 5 + j % 5 := by omega
  have hl : (l.set i x).length = l.length := List.length_set
  have h1 : (tvals (l.set i x))[j]? = (tokCells ((l.set i x)[j / 5]'(by rw [hl]; omega)))[j % 5]? := by
    conv => lhs; rw [e]
    exact tvals_get _ _ _ _ (by omega)
  rw [h1, List.getElem_set]
  by_cases hc : i = j / 5
  · rw [if_pos hc, if_pos (by omega), show j - i * 5 = j % 5 by omega]
  · rw [if_neg hc, if_neg (by omega)]
    have h2 : (tvals l)[j]? = (tokCells (l[j / 5]'(by omega)))[j % 5]? := by
      conv => lhs; rw [e]
      exact tvals_get _ _ _ _ (by omega)
    rw [h2]
theorem RowT.put {w : World} {base g o n c : Nat} {l : List Tok} (h : RowT w base (.slice (some ⟨g, o, none⟩) n c) l) (i : Nat) (hi : i < l.length) (x : Tok) : RowT (w.setCells g (o + i * 5) (tokCells x)) base (.slice (some ⟨g, o, none⟩) n c) (l.set i x) := by
  obtain ⟨h1, h2⟩ := h
  refine ⟨by rw [tvals_length], ?_⟩
  rcases h2 with ⟨hv, hz⟩ | ⟨g', o', cap, cur, m, hv, hb, hh, hn, hm, hr, hx, hk⟩
  · simp at hv
  · simp only [Value.slice.injEq, Option.some.injEq, Addr.mk.injEq, and_true] at hv
    obtain ⟨⟨rfl, rfl⟩, hnn, rfl⟩ := hv
    have hw8 : (tokCells x).length = 5 := rfl
    obtain ⟨cur', s1, s2, s3⟩ := setCells_heap g 65 m (tokCells x) (o + i * 5) w cur hh (by rw [hw8]; omega)
    right
    refine ⟨g, o, c, cur', m, by rw [List.length_set, hnn], hb, s1, by rw [List.length_set]; exact hn, hm, by omega, ?_, hk⟩
    have hold : ∀ j, j < l.length * 5 → cur.toList[o + j]? = (tvals l)[j]? := fun j hj => by
      rw [← hx, List.getElem?_take_of_lt hj, List.getElem?_drop]
    have hcl : cur.toList.length = cur.size := Array.length_toList
    have hset := tvals_set l i x hi
    have hsl : (tvals (l.set i x)).length = l.length * 5 := by rw [tvals_length, List.length_set]
    have hsl2 : (l.set i x).length = l.length := List.length_set
    generalize tvals (l.set i x) = W at *
    generalize tokCells x = vs at *
    generalize l.set i x = l' at *
    generalize cur'.toList = T' at *
    generalize cur.toList = T at *
    have et : (T.take (o + i * 5)).length = o + i * 5 := by rw [List.length_take]; omega
    have et2 : (T.take (o + i * 5) ++ vs).length = o + i * 5 + 5 := by rw [List.length_append, et, hw8]
    apply List.ext_getElem?
    intro j
    by_cases hj : j < l.length * 5
    · rw [List.getElem?_take_of_lt (by rw [hsl2]; exact hj), List.getElem?_drop, s3, hset j hj]
      by_cases hc : i * 5 ≤ j ∧ j < i * 5 + 5
      · rw [if_pos hc, List.getElem?_append_left (by rw [et2]; omega), List.getElem?_append_right (by rw [et]; omega), et]
        congr 1
        omega
      · rw [if_neg hc, ← hold j hj]
        by_cases hlt : j < i * 5
        · rw [List.getElem?_append_left (by rw [et2]; omega), List.getElem?_append_left (by rw [et]; omega), List.getElem?_take_of_lt (by omega)]
        · rw [List.getElem?_append_right (by rw [et2]; omega), et2, List.getElem?_drop, hw8]
          congr 1
          omega
    · rw [List.getElem?_eq_none (by rw [List.length_take, hsl2]; omega), List.getElem?_eq_none (by rw [hsl]; omega)]
theorem grown_tk {w0 w : World} {g : Nat} (h : w0.grownBy w (some g)) (o : Nat) (x : Tok) : w0.grownBy (w.setCells g o (tokCells x)) (some g) :=
  only_setCell (only_setCell (only_setCell (only_setCell (only_setCell h (.inl rfl) _) (.inl rfl) _) (.inl rfl) _) (.inl rfl) _) (.inl rfl) _
/-- Two places written over: the world behind. -/
def ex2T (w : World) (g a b : Nat) (X Y : Tok) : World := ((((((((((w.setCell ⟨g, a, none⟩ (.int .i64 Y.kind)).setCell ⟨g, a + 1, none⟩ (.int .i64 Y.byte)).setCell ⟨g, a + 2, none⟩ (.int .i64 Y.len)).setCell ⟨g, a + 3, none⟩ (.int .i64 Y.dist)).setCell ⟨g, a + 4, none⟩ (.int .i64 Y.rep)).setCell ⟨g, b, none⟩ (.int .i64 X.kind)).setCell ⟨g, b + 1, none⟩ (.int .i64 X.byte)).setCell ⟨g, b + 2, none⟩ (.int .i64 X.len)).setCell ⟨g, b + 3, none⟩ (.int .i64 X.dist)).setCell ⟨g, b + 4, none⟩ (.int .i64 X.rep)).drew
theorem ex2T_eq (w : World) (g a b : Nat) (X Y : Tok) : ex2T w g a b X Y = ((w.setCells g a (tokCells Y)).setCells g b (tokCells X)).drew := rfl
theorem ex2T_row {w : World} {base g o n c : Nat} {l : List Tok} (h : RowT w base (.slice (some ⟨g, o, none⟩) n c) l) (i j : Nat) (hi : i < l.length) (hj : j < l.length) {X Y : Tok} (hX : gT l i = X) (hY : gT l j = Y) :
    RowT (ex2T w g (o + i * 5) (o + j * 5) X Y) base (.slice (some ⟨g, o, none⟩) n c) (swapT l i j) := by
  subst hX
  subst hY
  rw [ex2T_eq]
  exact Row.drew ((RowT.put h i hi (gT l j)).put j (by rw [List.length_set]; exact hj) (gT l i))
theorem ex2T_grown {w0 w : World} {g : Nat} (h : w0.grownBy w (some g)) (a b : Nat) (X Y : Tok) : w0.grownBy (ex2T w g a b X Y) (some g) := by
  rw [ex2T_eq]
  exact only_drew (grown_tk (grown_tk h _ _) _ _)
theorem RowT.form {w : World} {base : Nat} {v : Value} {l : List Tok} (h : RowT w base v l) (h0 : 0 < l.length) : ∃ g o c, v = .slice (some ⟨g, o, none⟩) l.length c ∧ base ≤ g ∧ g < w.heap.size ∧ l.length ≤ c := by
  rcases h.2 with ⟨hv, hz⟩ | ⟨g, o, cap, cur, mk, hv, hb, hh, hn, _⟩
  · omega
  · exact ⟨g, o, cap, hv, hb, heap_lt hh, hn⟩
theorem RowT.five {w : World} {base g o n c : Nat} {l : List Tok} (h : RowT w base (.slice (some ⟨g, o, none⟩) n c) l) (i : Nat) (hi : i < l.length) : w.cell? ⟨g, o + i * 5, none⟩ = some (.int .i64 (gT l i).kind) ∧ w.cell? ⟨g, o + i * 5 + 1, none⟩ = some (.int .i64 (gT l i).byte) ∧ w.cell? ⟨g, o + i * 5 + 2, none⟩ = some (.int .i64 (gT l i).len) ∧ w.cell? ⟨g, o + i * 5 + 3, none⟩ = some (.int .i64 (gT l i).dist) ∧ w.cell? ⟨g, o + i * 5 + 4, none⟩ = some (.int .i64 (gT l i).rep) := by
  obtain ⟨A', c', e, _⟩ := Row.slice h
  simp only [Value.slice.injEq] at e
  obtain ⟨-, rfl, -⟩ := e
  have hh := fun j u (hu : (tokCells (gT l i))[j]? = some u) => by
    have hj : j < 5 := by have := (List.getElem?_eq_some_iff.1 hu).1; simpa [tokCells] using this
    rw [gT_at hi] at hu
    have := Row.cells h rfl (i * 5 + j) u (by rw [tvals_get l i j hi hj]; exact hu)
    rwa [addr_add, ← Nat.add_assoc] at this
  exact ⟨hh 0 _ rfl, hh 1 _ rfl, hh 2 _ rfl, hh 3 _ rfl, hh 4 _ rfl⟩
theorem RowT.thawed {w : World} {base g o n c : Nat} {l : List Tok} (h : RowT w base (.slice (some ⟨g, o, none⟩) n c) l) (i : Nat) (hi : i < l.length) : w.frozen? ⟨g, o + i * 5, none⟩ = false ∧ w.frozen? ⟨g, o + i * 5 + 1, none⟩ = false ∧ w.frozen? ⟨g, o + i * 5 + 2, none⟩ = false ∧ w.frozen? ⟨g, o + i * 5 + 3, none⟩ = false ∧ w.frozen? ⟨g, o + i * 5 + 4, none⟩ = false := by
  obtain ⟨A', c', e, _⟩ := Row.slice h
  simp only [Value.slice.injEq] at e
  obtain ⟨-, rfl, -⟩ := e
  have hh := fun j (hj : j < 5) => by
    have := Row.frozen h rfl (i * 5 + j) (by omega)
    rwa [← Nat.add_assoc] at this
  exact ⟨hh 0 (by omega), hh 1 (by omega), hh 2 (by omega), hh 3 (by omega), hh 4 (by omega)⟩
end Go.Proofs.Ytndkgjoaljcijaa
