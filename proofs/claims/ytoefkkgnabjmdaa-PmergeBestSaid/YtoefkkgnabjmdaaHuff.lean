/- Chapter 07 (pmerge): plain's memory, and what takes the cheapest: by a walk. · Chapter 07 (pmerge): plain: by a walk. · Chapter 07 (pmerge): short: by a walk. -/
import Derived.Test.YtoefkkgnabjmdaaPairs
import Derived.Test.YtoefkkgnabjmdaaCount
set_option linter.unusedSimpArgs false
set_option linter.unusedVariables false
set_option maxRecDepth 100000
namespace Go.Proofs.Ytoefkkgnabjmdaa

/-! Huff -/
section
open Go.RowKit

abbrev BI (w : World) (g : Nat) (l : List Int) : Prop := Blk w g 3 (ivals l).toArray
theorem BI.at_ {w : World} {g : Nat} {l : List Int} (h : BI w g l) (i : Nat) (hi : i < l.length) : w.cell? ⟨g, i, none⟩ = some (.int .i64 (l.getD i 0)) := (Blk.cell h i).trans (ivals_cell l i hi)

/-- What plain keeps: how many symbols; costs; the next of the symbols, and of what was put together; parents. -/
structure HMem (w0 w : World) (bn bc bl bm gC gP n : Nat) (s : HS) : Prop where
  n_ : BI w bn [(n : Int)]
  c_ : Blk w bc 22 #[.slice (some ⟨gC, 0, none⟩) s.costs.length (2 * n - 1)]
  l_ : BI w bl [(s.leaf : Int)]
  m_ : BI w bm [(s.made : Int)]
  C_ : BI w gC (s.costs ++ zeros (2 * n - 1 - s.costs.length))
  P_ : BI w gP (s.par.map Int.ofNat)
  below : Below w0.heap.size w0 w
  out : w0.heap.size ≤ bn ∧ w0.heap.size ≤ bc ∧ w0.heap.size ≤ bl ∧ w0.heap.size ≤ bm ∧ w0.heap.size ≤ gC ∧ w0.heap.size ≤ gP
  ne : bn ≠ bc ∧ bn ≠ bl ∧ bn ≠ bm ∧ bn ≠ gC ∧ bn ≠ gP ∧ bc ≠ bl ∧ bc ≠ bm ∧ bc ≠ gC ∧ bc ≠ gP ∧ bl ≠ bm ∧ bl ≠ gC ∧ bl ≠ gP ∧ bm ≠ gC ∧ bm ≠ gP ∧ gC ≠ gP
theorem HMem.drewN {w0 w : World} {bn bc bl bm gC gP n : Nat} {s : HS} (h : HMem w0 w bn bc bl bm gC gP n s) (k : Nat) : HMem w0 (w.drewN k) bn bc bl bm gC gP n s :=
  ⟨h.n_, h.c_, h.l_, h.m_, h.C_, h.P_, bl_drewN h.below k, h.out, h.ne⟩
theorem HMem.drew {w0 w : World} {bn bc bl bm gC gP n : Nat} {s : HS} (h : HMem w0 w bn bc bl bm gC gP n s) : HMem w0 w.drew bn bc bl bm gC gP n s :=
  ⟨h.n_, h.c_, h.l_, h.m_, h.C_, h.P_, h.below.drew, h.out, h.ne⟩
theorem HMem.alloc {w0 w : World} {bn bc bl bm gC gP n : Nat} {s : HS} (h : HMem w0 w bn bc bl bm gC gP n s) (o : Obj) : HMem w0 (w.alloc o) bn bc bl bm gC gP n s :=
  ⟨h.n_.alloc o, h.c_.alloc o, h.l_.alloc o, h.m_.alloc o, h.C_.alloc o, h.P_.alloc o, bl_alloc h.below o, h.out, h.ne⟩
theorem HMem.setLeaf {w0 w : World} {bn bc bl bm gC gP n : Nat} {s : HS} (h : HMem w0 w bn bc bl bm gC gP n s) (x : Nat) : HMem w0 (w.setCell ⟨bl, 0, none⟩ (.int .i64 x)) bn bc bl bm gC gP n { s with leaf := x } := by
  obtain ⟨n1, n2, n3, n4, n5, n6, n7, n8, n9, n10, n11, n12, n13, n14, n15⟩ := h.ne
  exact ⟨h.n_.far n2 _, h.c_.far n6 _, h.l_.setInt 0 x, h.m_.far n10.symm _, h.C_.far n11.symm _, h.P_.far n12.symm _, h.below.setCell (p := ⟨bl, 0, none⟩) h.out.2.2.1 _, h.out, h.ne⟩
theorem HMem.setMade {w0 w : World} {bn bc bl bm gC gP n : Nat} {s : HS} (h : HMem w0 w bn bc bl bm gC gP n s) (x : Nat) : HMem w0 (w.setCell ⟨bm, 0, none⟩ (.int .i64 x)) bn bc bl bm gC gP n { s with made := x } := by
  obtain ⟨n1, n2, n3, n4, n5, n6, n7, n8, n9, n10, n11, n12, n13, n14, n15⟩ := h.ne
  exact ⟨h.n_.far n3 _, h.c_.far n7 _, h.l_.far n10 _, h.m_.setInt 0 x, h.C_.far n13.symm _, h.P_.far n14.symm _, h.below.setCell (p := ⟨bm, 0, none⟩) h.out.2.2.2.1 _, h.out, h.ne⟩
theorem map_set_ofNat (l : List Nat) (i v : Nat) : (l.set i v).map Int.ofNat = (l.map Int.ofNat).set i (v : Int) := by rw [List.map_set]; rfl
theorem HMem.setPar {w0 w : World} {bn bc bl bm gC gP n : Nat} {s : HS} (h : HMem w0 w bn bc bl bm gC gP n s) (i x : Nat) : HMem w0 (w.setCell ⟨gP, i, none⟩ (.int .i64 x)) bn bc bl bm gC gP n { s with par := s.par.set i x } := by
  obtain ⟨n1, n2, n3, n4, n5, n6, n7, n8, n9, n10, n11, n12, n13, n14, n15⟩ := h.ne
  refine ⟨h.n_.far n5 _, h.c_.far n9 _, h.l_.far n12 _, h.m_.far n14 _, h.C_.far n15 _, ?_, h.below.setCell (p := ⟨gP, i, none⟩) h.out.2.2.2.2.2 _, h.out, h.ne⟩
  have := h.P_.setInt i (x : Int)
  rw [← map_set_ofNat] at this
  exact this
/-- A cost is put behind the others. -/
theorem HMem.push {w0 w : World} {bn bc bl bm gC gP n : Nat} {s : HS} (h : HMem w0 w bn bc bl bm gC gP n s) (hl : s.costs.length < 2 * n - 1) (x : Int) :
    HMem w0 ((w.setCell ⟨gC, s.costs.length, none⟩ (.int .i64 x)).setCell ⟨bc, 0, none⟩ (.slice (some ⟨gC, 0, none⟩) (s.costs.length + 1) (2 * n - 1))) bn bc bl bm gC gP n { s with costs := s.costs ++ [x] } := by
  obtain ⟨n1, n2, n3, n4, n5, n6, n7, n8, n9, n10, n11, n12, n13, n14, n15⟩ := h.ne
  refine ⟨(h.n_.far n4 _).far n1 _, ?_, (h.l_.far n11 _).far n6.symm _, (h.m_.far n13 _).far n7.symm _, ?_, (h.P_.far n15.symm _).far n9.symm _,
    (h.below.setCell (p := ⟨gC, s.costs.length, none⟩) h.out.2.2.2.2.1 _).setCell (p := ⟨bc, 0, none⟩) h.out.2.1 _, h.out, h.ne⟩
  · have := (h.c_.far (p := ⟨gC, s.costs.length, none⟩) n8 (.int .i64 x)).set_ 0 (.slice (some ⟨gC, 0, none⟩) (s.costs.length + 1) (2 * n - 1))
    simpa using this
  · have := (h.C_.setInt s.costs.length x).far (p := ⟨bc, 0, none⟩) n8.symm (.slice (some ⟨gC, 0, none⟩) (s.costs.length + 1) (2 * n - 1))
    have e : (s.costs ++ zeros (2 * n - 1 - s.costs.length)).set s.costs.length x = s.costs ++ [x] ++ zeros (2 * n - 1 - (s.costs ++ [x]).length) := by
      rw [List.set_append_right _ _ (Nat.le_refl _), Nat.sub_self, List.append_assoc]
      congr 1
      obtain ⟨m, hm⟩ : ∃ m, 2 * n - 1 - s.costs.length = m + 1 := ⟨2 * n - 1 - s.costs.length - 1, by omega⟩
      rw [hm, show 2 * n - 1 - (s.costs ++ [x]).length = m by simp; omega]
      rfl
    rw [e] at this
    exact this
theorem HMem.cost {w0 w : World} {bn bc bl bm gC gP n : Nat} {s : HS} (h : HMem w0 w bn bc bl bm gC gP n s) (i : Nat) (hi : i < s.costs.length) : w.cell? ⟨gC, i, none⟩ = some (.int .i64 (s.costs.getD i 0)) := by
  rw [h.C_.at_ i (by simp; omega)]
  simp only [List.getD_eq_getElem?_getD]
  rw [List.getElem?_append_left hi]

set_option maxHeartbeats 2000000 in
theorem p_least (w0 w : World) (bn bc bl bm gC gP n : Nat) (s : HS) (h : HMem w0 w bn bc bl bm gC gP n s) (hn1 : 1 ≤ n) (hn : n ≤ 100000) (hl1 : n ≤ s.costs.length) (hl2 : s.costs.length ≤ 2 * n - 1) (h1 : s.leaf ≤ n) (h2 : s.made ≤ 2 * n) :
    Calls Try.prog 100 #[.pointer (some ⟨bl, 0, none⟩), .pointer (some ⟨bn, 0, none⟩), .pointer (some ⟨bm, 0, none⟩), .pointer (some ⟨bc, 0, none⟩)] w fun e w' =>
      e = .returned (.int .i64 (leastH n s.costs s.leaf s.made).1) ∧ HMem w0 w' bn bc bl bm gC gP n { s with leaf := (leastH n s.costs s.leaf s.made).2.1, made := (leastH n s.costs s.leaf s.made).2.2 } := by
  have HL : Hid (leastH n s.costs s.leaf s.made = if s.leaf < n ∧ (s.costs.length ≤ s.made ∨ s.costs.getD s.leaf 0 ≤ s.costs.getD s.made 0) then (s.leaf, s.leaf + 1, s.made) else (s.made, s.leaf, s.made + 1)) := Lib.hid rfl
  have c1 := h.n_.at_ 0 (by simp)
  have c2 := h.c_.cell 0
  have c3 := h.l_.at_ 0 (by simp)
  have c4 := h.m_.at_ 0 (by simp)
  have f3 := h.l_.frozen 0
  have f4 := h.m_.frozen 0
  simp only [List.getD_cons_zero] at c1 c3 c4
  have c2' : w.cell? ⟨bc, 0, none⟩ = some (.slice (some ⟨gC, 0, none⟩) s.costs.length (2 * n - 1)) := c2
  have HH := Lib.hid h
  have hne : bl ≠ bm := h.ne.2.2.2.2.2.2.2.2.2.1
  by_cases hA : s.leaf < n
  · by_cases hB : s.costs.length ≤ s.made
    · have HL2 : Hid (leastH n s.costs s.leaf s.made = (s.leaf, s.leaf + 1, s.made)) := Lib.hid (HL.out.trans (if_pos ⟨hA, .inl hB⟩))
      have hm0 : s.made ≤ 2 * n := h2
      clear h c2 HL
      generalize hle : s.leaf = leaf at *
      generalize hma : s.made = made at *
      generalize hlen : s.costs.length = len at *
      have HLE := Lib.hid hle
      have HMA := Lib.hid hma
      have HLN := Lib.hid hlen
      clear hle hma hlen
      go_enter Try.func100, Try.ntmps100
      go_wp2_with fail
      go_quiet (fail)
      all_goals
        go_wp2
        go_ret
        rw [HL2.out]
        refine ⟨by simp, ?_⟩
        have := (HH.out.drewN nq).setLeaf (leaf + 1)
        simpa [HMA.out, HLE.out] using this

    · have k1 := h.cost s.leaf (by omega)
      have k2 := h.cost s.made (by omega)
      have i1 : (0 : Int) ≤ (s.leaf : Int) := by omega
      have i2 : (s.leaf : Int) < (s.costs.length : Int) := by omega
      have i3 : (0 : Int) ≤ (s.made : Int) := by omega
      have i4 : (s.made : Int) < (s.costs.length : Int) := by omega
      have hB' : decide ((s.costs.length : Int) ≤ (s.made : Int)) = false := by simp; omega
      by_cases hC : s.costs.getD s.leaf 0 ≤ s.costs.getD s.made 0
      · have HL2 : Hid (leastH n s.costs s.leaf s.made = (s.leaf, s.leaf + 1, s.made)) := Lib.hid (HL.out.trans (if_pos ⟨hA, .inr hC⟩))
        have hm0 : s.made ≤ 2 * n := h2
        generalize s.costs.getD s.leaf 0 = x at *
        generalize s.costs.getD s.made 0 = y at *
        clear h c2 HL
        generalize hle : s.leaf = leaf at *
        generalize hma : s.made = made at *
        generalize hlen : s.costs.length = len at *
        have HLE := Lib.hid hle
        have HMA := Lib.hid hma
        have HLN := Lib.hid hlen
        clear hle hma hlen
        go_enter Try.func100, Try.ntmps100
        go_wp2_with fail
        go_quiet (fail)
        all_goals
          go_wp2
          go_ret
          rw [HL2.out]
          refine ⟨by simp, ?_⟩
          have := (HH.out.drewN nq).setLeaf (leaf + 1)
          simpa [HMA.out, HLE.out] using this

      · have HL2 : Hid (leastH n s.costs s.leaf s.made = (s.made, s.leaf, s.made + 1)) := Lib.hid (HL.out.trans (if_neg (fun h => h.2.elim hB hC)))
        have hm0 : s.made ≤ 2 * n := h2
        generalize s.costs.getD s.leaf 0 = x at *
        generalize s.costs.getD s.made 0 = y at *
        have hC' : decide (x ≤ y) = false := by simp; omega
        clear h c2 HL
        generalize hle : s.leaf = leaf at *
        generalize hma : s.made = made at *
        generalize hlen : s.costs.length = len at *
        have HLE := Lib.hid hle
        have HMA := Lib.hid hma
        have HLN := Lib.hid hlen
        clear hle hma hlen
        go_enter Try.func100, Try.ntmps100
        go_wp2_with fail
        go_quiet (fail)
        all_goals
          go_wp2
          go_ret
          rw [HL2.out]
          refine ⟨by simp, ?_⟩
          have := (HH.out.drewN nq).setMade (made + 1)
          simpa [HMA.out, HLE.out] using this

  · have hA' : decide ((s.leaf : Int) < (n : Int)) = false := by simp; omega
    have HL2 : Hid (leastH n s.costs s.leaf s.made = (s.made, s.leaf, s.made + 1)) := Lib.hid (HL.out.trans (if_neg (fun h => hA h.1)))
    have hm0 : s.made ≤ 2 * n := h2
    clear h c2 HL
    generalize hle : s.leaf = leaf at *
    generalize hma : s.made = made at *
    generalize hlen : s.costs.length = len at *
    have HLE := Lib.hid hle
    have HMA := Lib.hid hma
    have HLN := Lib.hid hlen
    clear hle hma hlen
    go_enter Try.func100, Try.ntmps100
    go_wp2_with fail
    go_quiet (fail)
    all_goals
      go_wp2
      go_ret
      rw [HL2.out]
      refine ⟨by simp, ?_⟩
      have := (HH.out.drewN nq).setMade (made + 1)
      simpa [HMA.out, HLE.out] using this
end

/-! Huff2 -/
section
open Go.RowKit

theorem Blk.new1 (w : World) (o : Obj) (t : TypeId) (cs : Array Value) : Blk ((w.alloc o).alloc (.cells cs t)) (w.heap.size + 1) t cs := by
  have := Blk.new (w.alloc o) t cs
  rwa [World.size_alloc] at this
theorem Blk.new2 (w : World) (o o' : Obj) (t : TypeId) (cs : Array Value) : Blk (((w.alloc o).alloc o').alloc (.cells cs t)) (w.heap.size + 1 + 1) t cs := by
  have := Blk.new ((w.alloc o).alloc o') t cs
  rwa [World.size_alloc, World.size_alloc] at this
/-- append of one int onto a block with room. -/
theorem run_append_int_room {w : World} {g n c : Nat} {cs : Array Value} (hk : Blk w g 3 cs) (hn : n < c) (hc : c ≤ cs.size) (hc2 : c ≤ 1000000000) {b : Nat} {x : Int} (hb : Blk w b 3 (ivals [x]).toArray) (ty : TypeId) :
    (Builtin.append_ #[22, 22] ty #[.slice (some ⟨g, 0, none⟩) n c, .slice (some ⟨b, 0, none⟩) 1 1]).run Try.prog w = .ok (.slice (some ⟨g, 0, none⟩) (n + 1) c) (w.setCell ⟨g, n, none⟩ (.int .i64 x)) := by
  obtain ⟨i0, hi, hz0, hz1, hz2⟩ := info_parts info_int
  have h := run_append_room_cells (P := Try.prog) w 22 ty 3 i0 Try.underlying22 hi g 0 n c ⟨b, 0, none⟩ 1 1 [.int .i64 x] (by rw [hz1]; rfl)
    (fun j u hu => by
      cases j with
      | zero => simp only [List.getElem?_cons_zero, Option.some.injEq] at hu; subst hu; exact hb.cell 0
      | succ j => simp at hu)
    (fun u hu => by rw [List.mem_singleton] at hu; subst hu; rfl) (by omega)
    (fun j hj => by
      simp only [List.length_singleton] at hj
      rw [hz1, Nat.mul_one, Nat.zero_add, hk.cell, Array.getElem?_eq_getElem (by omega)]; rfl)
    (fun j hj => hk.frozen _)
  rw [h, hz1]
  simp [World.setCells]

theorem wp_append_int_room {w : World} {o : Oper} {a : Act} {K : Act → World → Prop} {Q : Exit → Act → World → Prop} (s x : Operand)
    (ho : o.op = .call { callee := .builtin .append, args := #[s, x], argTypes := #[22, 22] })
    (g n c : Nat) (hs : a.eval s = .slice (some ⟨g, 0, none⟩) n c) (b : Nat) (z : Int) (hx : a.eval x = .slice (some ⟨b, 0, none⟩) 1 1) (cs : Array Value) (hk : Blk w g 3 cs) (hn : n < c) (hc : c ≤ cs.size) (hc2 : c ≤ 1000000000) (hb : Blk w b 3 (ivals [z]).toArray)
    (h : K (a.put o.dst (.slice (some ⟨g, 0, none⟩) (n + 1) c)) (w.setCell ⟨g, n, none⟩ (.int .i64 z))) : o.wp Try.prog a w K Q := by
  unfold Oper.wp execOp
  simp only [ho, resolve, invoke, builtin, Sem.run_bind, Sem.run_pure, Result.andThen_ok, List.map_toArray, List.map_cons, List.map_nil, hs, hx, run_append_int_room hk hn hc hc2 hb]
  exact h
theorem wpList_append_int_room {w : World} {ops : Array Oper} {rest : List Oper} {o : Oper} {a : Act} {Q : Exit → Act → World → Prop} (hgd : o.guard = none) (s x : Operand)
    (ho : o.op = .call { callee := .builtin .append, args := #[s, x], argTypes := #[22, 22] })
    (g n c : Nat) (hs : a.eval s = .slice (some ⟨g, 0, none⟩) n c) (b : Nat) (z : Int) (hx : a.eval x = .slice (some ⟨b, 0, none⟩) 1 1) (cs : Array Value) (hk : Blk w g 3 cs) (hn : n < c) (hc : c ≤ cs.size) (hc2 : c ≤ 1000000000) (hb : Blk w b 3 (ivals [z]).toArray)
    (h : wpList Try.prog ops Q rest (a.put o.dst (.slice (some ⟨g, 0, none⟩) (n + 1) c)) (w.setCell ⟨g, n, none⟩ (.int .i64 z))) : wpList Try.prog ops Q (o :: rest) a w :=
  wpList_plain hgd fun _ hK => wp_append_int_room s x ho g n c hs b z hx cs hk hn hc hc2 hb (hK _ _ h)
theorem step_append_int_room {w : World} {ops : Array Oper} {o : Oper} {a : Act} {K : Act → World → Prop} {Q : Exit → Act → World → Prop} {E : Prop} (hgd : o.guard = none) (s x : Operand)
    (ho : o.op = .call { callee := .builtin .append, args := #[s, x], argTypes := #[22, 22] })
    (g n c : Nat) (hs : a.eval s = .slice (some ⟨g, 0, none⟩) n c) (b : Nat) (z : Int) (hx : a.eval x = .slice (some ⟨b, 0, none⟩) 1 1) (cs : Array Value) (hk : Blk w g 3 cs) (hn : n < c) (hc : c ≤ cs.size) (hc2 : c ≤ 1000000000) (hb : Blk w b 3 (ivals [z]).toArray)
    (h : K (a.put o.dst (.slice (some ⟨g, 0, none⟩) (n + 1) c)) (w.setCell ⟨g, n, none⟩ (.int .i64 z))) : if Region.wanted o (yielded ops a.tmps) = true then Oper.wp Try.prog o a w K Q else E := by
  have hw : Region.wanted o (yielded ops a.tmps) = true := by simp [Region.wanted, hgd]
  rw [if_pos hw]
  exact wp_append_int_room s x ho g n c hs b z hx cs hk hn hc hc2 hb h

theorem measure_lt {N a b x y : Nat} (h1 : a = x) (h2 : b = y) (h : N - x < N - y) : N - a < N - b := by rw [h1, h2]; exact h
/-- What plain keeps while the costs are laid down. -/
structure HM1 (w0 w : World) (bn bc gC n : Nat) (cs : List Int) : Prop where
  n_ : BI w bn [(n : Int)]
  c_ : Blk w bc 22 #[.slice (some ⟨gC, 0, none⟩) cs.length (2 * n - 1)]
  C_ : BI w gC (cs ++ zeros (2 * n - 1 - cs.length))
  below : Below w0.heap.size w0 w
  out : w0.heap.size ≤ bn ∧ w0.heap.size ≤ bc ∧ w0.heap.size ≤ gC
  ne : bn ≠ bc ∧ bn ≠ gC ∧ bc ≠ gC
theorem HM1.alloc {w0 w : World} {bn bc gC n : Nat} {cs : List Int} (h : HM1 w0 w bn bc gC n cs) (o : Obj) : HM1 w0 (w.alloc o) bn bc gC n cs :=
  ⟨h.n_.alloc o, h.c_.alloc o, h.C_.alloc o, bl_alloc h.below o, h.out, h.ne⟩
theorem push_zeros {n : Nat} {cs : List Int} (hl : cs.length < 2 * n - 1) (x : Int) : (cs ++ zeros (2 * n - 1 - cs.length)).set cs.length x = cs ++ [x] ++ zeros (2 * n - 1 - (cs ++ [x]).length) := by
  rw [List.set_append_right _ _ (Nat.le_refl _), Nat.sub_self, List.append_assoc]
  congr 1
  obtain ⟨m, hm⟩ : ∃ m, 2 * n - 1 - cs.length = m + 1 := ⟨2 * n - 1 - cs.length - 1, by omega⟩
  rw [hm, show 2 * n - 1 - (cs ++ [x]).length = m by simp; omega]
  rfl
theorem HM1.push {w0 w : World} {bn bc gC n : Nat} {cs : List Int} (h : HM1 w0 w bn bc gC n cs) (hl : cs.length < 2 * n - 1) (x : Int) :
    HM1 w0 ((w.setCell ⟨gC, cs.length, none⟩ (.int .i64 x)).setCell ⟨bc, 0, none⟩ (.slice (some ⟨gC, 0, none⟩) (cs.length + 1) (2 * n - 1))) bn bc gC n (cs ++ [x]) := by
  obtain ⟨n1, n2, n3⟩ := h.ne
  refine ⟨(h.n_.far n2 _).far n1 _, ?_, ?_, (h.below.setCell (p := ⟨gC, cs.length, none⟩) h.out.2.2 _).setCell (p := ⟨bc, 0, none⟩) h.out.2.1 _, h.out, h.ne⟩
  · have := (h.c_.far (p := ⟨gC, cs.length, none⟩) n3 (.int .i64 x)).set_ 0 (.slice (some ⟨gC, 0, none⟩) (cs.length + 1) (2 * n - 1))
    simpa using this
  · have := (h.C_.setInt cs.length x).far (p := ⟨bc, 0, none⟩) n3.symm (.slice (some ⟨gC, 0, none⟩) (cs.length + 1) (2 * n - 1))
    rw [push_zeros hl] at this
    exact this
theorem HM1.start (w : World) (n N : Nat) (hN : N = 2 * n - 1) :
    HM1 w (((w.alloc (.cells #[.int .i64 n] 3)).alloc (.cells (ivals (zeros N)).toArray 3)).alloc (.cells #[.slice (some ⟨w.heap.size + 1, 0, none⟩) 0 N] 22)) w.heap.size (w.heap.size + 2) (w.heap.size + 1) n [] := by
  subst hN
  have k1 := ((Blk.new w 3 #[.int .i64 n]).alloc (.cells (ivals (zeros (2 * n - 1))).toArray 3)).alloc (.cells #[.slice (some ⟨w.heap.size + 1, 0, none⟩) 0 (2 * n - 1)] 22)
  have k2 := (Blk.new (w.alloc (.cells #[.int .i64 n] 3)) 3 (ivals (zeros (2 * n - 1))).toArray).alloc (.cells #[.slice (some ⟨w.heap.size + 1, 0, none⟩) 0 (2 * n - 1)] 22)
  have k3 := Blk.new ((w.alloc (.cells #[.int .i64 n] 3)).alloc (.cells (ivals (zeros (2 * n - 1))).toArray 3)) 22 #[.slice (some ⟨w.heap.size + 1, 0, none⟩) 0 (2 * n - 1)]
  rw [World.size_alloc] at k2
  rw [World.size_alloc, World.size_alloc] at k3
  exact ⟨k1, k3, k2, bl_alloc (bl_alloc (bl_alloc (Below.refl _ _) _) _) _, ⟨by omega, by omega, by omega⟩, ⟨by omega, by omega, by omega⟩⟩

/-- The three blocks more. -/
theorem HM1.mem {w0 w : World} {bn bc gC n : Nat} {cs : List Int} (h : HM1 w0 w bn bc gC n cs) (hcs : cs.length = n) (B bl bm gP : Nat) (hB : w0.heap.size ≤ B ∧ bn < B ∧ bc < B ∧ gC < B)
    (k1 : BI w bl [0]) (k2 : BI w bm [(n : Int)]) (k3 : BI w gP (zeros (2 * n - 1))) (e1 : B ≤ bl) (e2 : B ≤ bm) (e3 : B ≤ gP) (e4 : bl ≠ bm) (e5 : bl ≠ gP) (e6 : bm ≠ gP) : HMem w0 w bn bc bl bm gC gP n (startH cs) := by
  obtain ⟨n1, n2, n3⟩ := h.ne
  obtain ⟨o1, o2, o3⟩ := h.out
  have ep : (startH cs).par.map Int.ofNat = zeros (2 * n - 1) := by simp [startH, hcs, zeros]
  refine ⟨h.n_, h.c_, k1, ?_, h.C_, by rw [ep]; exact k3, h.below, ⟨o1, o2, by omega, by omega, o3, by omega⟩, ?_⟩
  · show BI w bm [((startH cs).made : Int)]
    rw [show (startH cs).made = n from hcs]; exact k2
  · refine ⟨n1, ?_, ?_, n2, ?_, ?_, ?_, n3, ?_, e4, ?_, e5, ?_, e6, ?_⟩ <;> omega
def lenAt (w : World) (b : Nat) : Nat := match w.cell? ⟨b, 0, none⟩ with | some (.slice _ m _) => m | _ => 0
theorem HMem.lenAt {w0 w : World} {bn bc bl bm gC gP n : Nat} {s : HS} (h : HMem w0 w bn bc bl bm gC gP n s) : Go.Proofs.Ytoefkkgnabjmdaa.lenAt w bc = s.costs.length := by
  unfold Go.Proofs.Ytoefkkgnabjmdaa.lenAt
  rw [h.c_.cell 0]
  rfl

set_option maxHeartbeats 8000000 in
theorem p_plain (base : Nat) (g o c : Nat) (l : List Pe) (n : Nat) (hn1 : 2 ≤ n) (hn : n ≤ 2000) (w : World) (h : PRow w base (.slice (some ⟨g, o, none⟩) n c) l) (hcost : ∀ p ∈ l, 0 ≤ p.cost ∧ p.cost ≤ 4294967295) :
    Calls Try.prog 74 #[.slice (some ⟨g, o, none⟩) n c] w fun e w' => ∃ b, e = .returned (.slice (some ⟨b, 0, none⟩) n (2 * n - 1)) ∧ BI w' b ((depthsH (l.map Pe.cost)).map Int.ofNat) ∧ w.heap.size ≤ b ∧ Below w.heap.size w w' := by
  have hlen := h.len_
  obtain ⟨N, hN⟩ : ∃ N, N = 2 * n - 1 := ⟨_, rfl⟩
  have q1 : IntKind.i64.wrap (2 * (n : Int)) = 2 * n := Go.IntWalk.i64_in _ (by omega)
  have q2 : IntKind.i64.wrap (2 * (n : Int) - 1) = N := by rw [show 2 * (n : Int) - 1 = N by omega]; exact Go.IntWalk.i64_in _ (by omega)
  have q3 : 2 * (n : Int) - 1 = N := by omega
  have HN := Lib.hid hN
  have HLEN := Lib.hid hlen
  obtain ⟨i0, hi, hz0, hz1, hz2⟩ := info_parts info_int
  have hmk : ∀ W : World, (Instr.makeSlice 22 (.int .i64 0) (.int .i64 N)).run Try.prog W = .ok (.slice (some ⟨W.heap.size, 0, none⟩) 0 N) (W.alloc (.cells (ivals (zeros N)).toArray 3)) := by
    intro W
    have h := run_make (P := Try.prog) W 22 3 i0 _ Try.underlying22 hi hz0 .i64 .i64 0 N (by omega) (by omega) (by rw [hz2]; omega) (by omega)
    rw [h]
    have e : madeCells (Value.cells (.int .i64 0)) ((N : Int).toNat * i0.size) = (ivals (zeros N)).toArray := by
      apply Array.ext
      · simp [size_madeCells, ivals, hz1, zeros]
      · intro i h1 h2
        simp [madeCells, ivals, ival, Value.cells, Nat.mod_one, zeros]
    rw [e]
    simp
  clear hN hi hz0 hz1 hz2 hlen
  go_enter Try.func74, Try.ntmps74
  go_wp2_with fail
  have hlen := HLEN.out
  obtain ⟨cs, hcs⟩ : ∃ cs, cs = l.map Pe.cost := ⟨_, rfl⟩
  have hcl : cs.length = l.length := by rw [hcs]; simp
  have hcn : ∀ k, k < n → ∃ A m c', w.cell? ⟨g, o + k * 2, none⟩ = some (.int .i64 (cs.getD k 0)) ∧ w.cell? ⟨g, o + k * 2 + 1, none⟩ = some (.slice A m c') := by
    intro k hk
    obtain ⟨a1, a2, _, _⟩ := h.at_ k (by omega)
    obtain ⟨A, c', e, _⟩ := RowI.slice (h.syms l[k] (List.getElem_mem (by omega)))
    refine ⟨A, _, c', ?_, by rw [a2, e]⟩
    subst hcs
    rw [a1, List.getD_eq_getElem?_getD, List.getElem?_map, List.getElem?_eq_getElem (by omega)]
    rfl
  have hcb : ∀ k, k < n → 0 ≤ cs.getD k 0 ∧ cs.getD k 0 ≤ 4294967295 := by
    intro k hk
    have : cs.getD k 0 = l[k].cost := by
      subst hcs
      rw [List.getD_eq_getElem?_getD, List.getElem?_map, List.getElem?_eq_getElem (by omega)]; rfl
    rw [this]
    exact hcost _ (List.getElem_mem (by omega))
  have hgl := h.g_lt.2
  have HCN := Lib.hid hcn
  have HCB := Lib.hid hcb
  have HCS := Lib.hid (And.intro hcs (hcl.trans hlen.symm))
  clear hcn hcb hcs hcl h hcost hlen
  -- the costs
  go_loopw [6, 23] (fun v6 v23 wr => ∃ k : Nat, k ≤ n ∧ v23 = .int .i64 k ∧ HM1 w wr w.heap.size (w.heap.size + 1 + 1) (w.heap.size + 1) n (cs.take k)) (fun _ v23 _ => n - (intOf v23).toNat)
  case atStart => exact ⟨0, Nat.zero_le _, rfl, HM1.start w n N HN.out⟩
  case round =>
    obtain ⟨k, hk, rfl, hm⟩ := hrel
    have HM := Lib.hid hm
    have hkl : (cs.take k).length = k := by rw [List.length_take]; have := HCS.out.2; omega
    by_cases hkn : k < n
    · obtain ⟨A, m, c', a1, a2⟩ := HCN.out k hkn
      obtain ⟨u1, u2⟩ := HCB.out k hkn
      have b1 := (hm.below.cell (p := ⟨g, o + k * 2, none⟩) hgl).trans a1
      have b2 := (hm.below.cell (p := ⟨g, o + k * 2 + 1, none⟩) hgl).trans a2
      have c1 := hm.c_.cell 0
      have c2 : wr.cell? ⟨w.heap.size + 1 + 1, 0, none⟩ = some (.slice (some ⟨w.heap.size + 1, 0, none⟩) k N) := by rw [c1, hkl, HN.out]; rfl
      have cf := hm.c_.frozen 0
      have hzw := hm.below.size
      generalize hx : cs.getD k 0 = x at *
      have hA1 := (hm.alloc (.cells #[.int .i64 x, .slice A m c'] 71)).alloc (.cells (ivals [x]).toArray 3)
      have HPUSH := Lib.hid (hA1.push (by rw [hkl]; have := HN.out; omega) x)
      have HC1 := Lib.hid hm.C_
      have HSZ : Hid (N ≤ (ivals (cs.take k ++ zeros (2 * n - 1 - (cs.take k).length))).toArray.size) := Lib.hid (by
        rw [List.size_toArray, ivals_length, List.length_append, hkl, zeros_length]; have := HN.out; omega)
      have HX := Lib.hid hx
      have HKL := Lib.hid hkl
      have hc3 := hA1.c_.cell 0
      have hlt1 : w.heap.size + 1 < wr.heap.size := hm.C_.lt
      have hlt2 : w.heap.size + 1 + 1 < wr.heap.size := hm.c_.lt
      clear hx hA1 hm hkl a1 a2 c1 hc3 u1 u2
      go_wp2_with (at_builtin; go_must (refine wpList_append_int_room rfl (.tmp 27) (.tmp 30) rfl (w.heap.size + 1) k N rfl (wr.heap.size + 1) x rfl _ ((HC1.out.alloc _).alloc _) (by have := HN.out; omega) HSZ.out (by have := HN.out; omega) (Blk.new1 wr _ _ _) ?_))
      have hpu := HPUSH.out
      go_roundw
      case rel =>
        refine ⟨k + 1, by omega, by go_num, ?_⟩
        have := HPUSH.out
        have e : cs.take (k + 1) = cs.take k ++ [x] := by
          rw [List.take_succ_eq_append_getElem (by have := HCS.out.2; omega), ← HX.out, List.getD_eq_getElem?_getD, List.getElem?_eq_getElem (by have := HCS.out.2; omega)]; rfl
        rw [HKL.out, ← HN.out] at this
        rw [e]
        exact this
      case measure => simp [intOf]; omega
    · obtain rfl : n = k := by omega
      have hm2 : HM1 w wr w.heap.size (w.heap.size + 1 + 1) (w.heap.size + 1) n cs := by
        rw [List.take_of_length_le (by have := HCS.out.2; omega)] at hm; exact hm
      have HM := Lib.hid hm2
      clear hm
      have hmk2 : ∀ W : World, (Instr.makeSlice 22 (.int .i64 N) (.int .i64 N)).run Try.prog W = .ok (.slice (some ⟨W.heap.size, 0, none⟩) N N) (W.alloc (.cells (ivals (zeros N)).toArray 3)) := fun W => run_zeros W N (by have := HN.out; omega)
      have c1 := hm2.n_.at_ 0 (by simp)
      simp only [List.getD_cons_zero] at c1
      have hlt0 := hm2.n_.lt
      have hlt1 : w.heap.size < wr.heap.size + 1 := by omega
      have hlt2 : w.heap.size < wr.heap.size + 1 + 1 := by omega
      clear hm2
      go_upto_region 9 with (fail)
      go_cut [8, 9] (fun v8 v9 wc => ∃ bl bm, v8 = .pointer (some ⟨bl, 0, none⟩) ∧ v9 = .pointer (some ⟨bm, 0, none⟩) ∧ HMem w wc w.heap.size (w.heap.size + 1 + 1) bl bm (w.heap.size + 1) wr.heap.size n (startH cs))
      case first =>
        go_region
        all_goals go_wp2
        all_goals
          go_meet
        all_goals
          have HA := ((HM.out.alloc (.cells (ivals (zeros N)).toArray 3)))
          have hp1 := Blk.new wr 3 (ivals (zeros N)).toArray
          have h3 := HM.out.c_.lt
          have h4 := HM.out.C_.lt
          have h5 := HM.out.below.size
          refine ⟨_, _, rfl, rfl, HM1.mem (B := wr.heap.size) ?_ HCS.out.2 _ _ _ ⟨by omega, by omega, by omega, by omega⟩ ?_ ?_ ?_ (by omega) (by omega) (by omega) (by omega) (by omega) (by omega)⟩
          · exact ⟨((HA.n_.alloc _).alloc _), ((HA.c_.alloc _).alloc _), ((HA.C_.alloc _).alloc _), (bl_alloc (bl_alloc HA.below _) _).drew, HA.out, HA.ne⟩
          · first | exact (Blk.new1 wr _ 3 (ivals [0]).toArray).alloc _ | exact (Blk.new2 wr _ _ 3 (ivals [0]).toArray)
          · first | exact (Blk.new1 wr _ 3 (ivals [(n : Int)]).toArray).alloc _ | exact (Blk.new2 wr _ _ 3 (ivals [(n : Int)]).toArray)
          · rw [← HN.out]; exact (hp1.alloc _).alloc _
      obtain ⟨bl, bm, rfl, rfl, hh⟩ := hcut
      have hcn := HCS.out.2
      have HCL := Lib.hid hcn
      have HH := Lib.hid hh
      have hgP : w.heap.size ≤ wr.heap.size := HM.out.below.size
      generalize wr.heap.size = gP at *
      clear hh hcn HM c1 hlt0 hlt1 hlt2
      go_wp2_with fail
      go_loopw [11, 12] (fun _ _ wq => ∃ t : Nat, t < n ∧ HMem w wq w.heap.size (w.heap.size + 1 + 1) bl bm (w.heap.size + 1) gP n (runH cs t)) (fun _ _ wq => 2 * n - lenAt wq (w.heap.size + 1 + 1))
      case atStart => exact ⟨0, by omega, HH.out⟩
      case round =>
        obtain ⟨t, ht, hm⟩ := hrel
        have hg := goodH cs (by have := HCL.out; omega) t (by have := HCL.out; omega)
        rw [HCL.out] at hg
        have HM := Lib.hid hm
        have HG := Lib.hid hg
        generalize hs : runH cs t = s at *
        have hl := hg.len
        have c1 := hm.n_.at_ 0 (by simp)
        have c2 := hm.c_.cell 0
        simp only [List.getD_cons_zero] at c1
        obtain ⟨m, hmm⟩ : ∃ m, m = s.costs.length := ⟨_, rfl⟩
        have c3 : wr.cell? ⟨w.heap.size + 1 + 1, 0, none⟩ = some (.slice (some ⟨w.heap.size + 1, 0, none⟩) m N) := by rw [c2, ← hmm, HN.out]; rfl
        have HMM := Lib.hid hmm
        have hmt : m = n + t := by omega
        have HMT := Lib.hid hmt
        by_cases htn : t + 1 < n
        · have i1 : (m : Int) < (N : Int) := by omega
          clear c2 hmm hl hm hg hmt
          have L1 := p_least w wr w.heap.size (w.heap.size + 1 + 1) bl bm (w.heap.size + 1) gP n s HM.out (by omega) (by omega) (by rw [← HMM.out]; have := HMT.out; omega) (by rw [← HMM.out]; have := HMT.out; omega) HG.out.leaf (by have := HG.out.sum; have := HG.out.made; have := HG.out.top; omega)
          have A := leastH_ok n s.costs s.leaf s.made HG.out.leaf HG.out.made (by have := HG.out.sum; have := HMM.out; have := HMT.out; omega)
          generalize hp : leastH n s.costs s.leaf s.made = p at *
          obtain ⟨a1, a2, a3, a4, a5, a7, a8, a9, a10, a11⟩ := A
          have B := leastH_ok n s.costs p.2.1 p.2.2 a1 a2 (by have := HG.out.sum; have := HMM.out; have := HMT.out; omega)
          have L2 := fun W (h : HMem w W w.heap.size (w.heap.size + 1 + 1) bl bm (w.heap.size + 1) gP n { s with leaf := p.2.1, made := p.2.2 }) => p_least w W w.heap.size (w.heap.size + 1 + 1) bl bm (w.heap.size + 1) gP n { s with leaf := p.2.1, made := p.2.2 } h (by omega) (by omega) (by rw [← HMM.out]; have := HMT.out; omega) (by rw [← HMM.out]; have := HMT.out; omega) a1 (by simp only; have := HG.out.sum; have := HG.out.made; have := HG.out.top; omega)
          simp only at L2
          generalize hq : leastH n s.costs p.2.1 p.2.2 = q at *
          obtain ⟨b1, b2, b3, b4, b5, b7, b8, b9, b10, b11⟩ := B
          have hpq : p.1 ≠ q.1 := fun e => b7 ((a8 q.1).2 (.inr e.symm))
          have hal : p.1 < m := by have := HMM.out; have := HMT.out; omega
          have hbl : q.1 < m := by have := HMM.out; have := HMT.out; omega
          have HST : Hid (runH cs (t + 1) = ⟨s.costs ++ [s.costs.getD p.1 0 + s.costs.getD q.1 0], q.2.1, q.2.2, (s.par.set p.1 m).set q.1 m⟩) := Lib.hid (by
            show stepH cs.length (runH cs t) = _
            rw [hs, HCL.out]
            unfold stepH
            simp only [hp, hq]
            rw [HMM.out])
          have HSB : Hid (-4611686018427387904 ≤ s.costs.getD p.1 0 + s.costs.getD q.1 0 ∧ s.costs.getD p.1 0 + s.costs.getD q.1 0 ≤ 4611686018427387904) := Lib.hid (by
            have hc := costH cs (by have := HCL.out; omega) (fun i => by
              by_cases hi : i < n
              · exact (HCB.out i hi).1
              · rw [List.getD_eq_getElem?_getD, List.getElem?_eq_none (by have := HCL.out; omega)]; exact Int.le_refl _) t (by have := HCL.out; omega)
            rw [hs, HCL.out] at hc
            have hle := costH_le HG.out hc htn
            dsimp only at hle
            rw [hp, hq] at hle
            have := sumTo_le (fun i => (cs.getD i 0).toNat) 4294967295 n (fun i hi => by have := HCB.out i hi; omega)
            have h2 : n * 4294967295 ≤ 2000 * 4294967295 := Nat.mul_le_mul_right _ hn
            omega)
          have HL1 := Lib.hid L1
          have HL2 := Lib.hid L2
          have HS := Lib.hid hs
          clear a1 a2 a3 a4 a5 a7 a8 a9 a10 a11 b1 b2 b3 b4 b5 b7 b8 b9 b10 b11 hp hq hs L1 L2
          obtain ⟨x, px, py⟩ := p
          obtain ⟨y, qx, qy⟩ := q
          simp only at hpq hal hbl HST HL1 HL2 HSB
          go_wp2_with fail
          refine HL1.out.mono ?_
          rintro e w1 ⟨rfl, hm1⟩
          go_wp2_with fail
          refine (HL2.out _ hm1).mono ?_
          rintro e w2 ⟨rfl, hm2⟩
          clear hm1 HL1 HL2 c1 c3 i1
          have HM2 := Lib.hid hm2
          have hpl : s.par.length = N := by rw [HG.out.plen, HN.out]
          have hmN : m < N := by have := HMT.out; have := HN.out; omega
          have c3 := hm2.c_.cell 0
          have c4 : w2.cell? ⟨w.heap.size + 1 + 1, 0, none⟩ = some (.slice (some ⟨w.heap.size + 1, 0, none⟩) m N) := by rw [c3, HMM.out, HN.out]; rfl
          have p1 := hm2.P_.at_ x (by simp only [List.length_map]; omega)
          have p2 := hm2.P_.at_ y (by simp only [List.length_map]; omega)
          have p3 := hm2.P_.frozen x
          have p4 := hm2.P_.frozen y
          simp only at p1 p2
          generalize (s.par.map Int.ofNat).getD x 0 = z1 at *
          generalize (s.par.map Int.ofNat).getD y 0 = z2 at *
          have hne1 : ¬ w.heap.size + 1 + 1 = gP := hm2.ne.2.2.2.2.2.2.2.2.1
          have hne2 : ¬ gP = w.heap.size + 1 + 1 := fun e => hne1 e.symm
          have hyx : ¬ y = x := fun e => hpq e.symm
          have hxy : ¬ x = y := hpq
          have i1 : (x : Int) < (N : Int) := by omega
          have i2 : (y : Int) < (N : Int) := by omega
          have hgl := hm2.P_.lt
          have HPL := Lib.hid hpl
          clear hm2 c3 hpl
          go_upto_region 14 with (fail)
          go_cut [] (fun w3 => HMem w w3 w.heap.size (w.heap.size + 1 + 1) bl bm (w.heap.size + 1) gP n ⟨s.costs, qx, qy, (s.par.set x m).set y m⟩)
          case first =>
            go_region
            all_goals
              go_wp2
              go_meet
            all_goals
              case rel =>
                first
                | exact (((HM2.out.setPar x m).setPar y m).drew)
                | (have h5 := (((HM2.out.setPar y m).setPar x m).drew)
                   simp only at h5
                   rw [List.set_comm _ _ hyx] at h5
                   exact h5)
          clear p1 p2 p3 p4 c4 hgl
          have hm3 := hcut
          clear hcut
          have HM3 := Lib.hid hm3
          have c3 := hm3.c_.cell 0
          have c4 : wc.cell? ⟨w.heap.size + 1 + 1, 0, none⟩ = some (.slice (some ⟨w.heap.size + 1, 0, none⟩) m N) := by rw [c3, HMM.out, HN.out]; rfl
          have k1 := hm3.cost x (by rw [← HMM.out]; exact hal)
          have k2 := hm3.cost y (by rw [← HMM.out]; exact hbl)
          have hcf := hm3.c_.frozen 0
          simp only at k1 k2
          have k3 := hm3.C_.at_ m (by rw [List.length_append, zeros_length, ← HMM.out]; have := HN.out; omega)
          have k4 := hm3.C_.frozen m
          have hlt1 := hm3.C_.lt
          have hlt2 := hm3.c_.lt
          have hpush := ((hm3.push (by simp only; rw [← HMM.out, ← HN.out]; exact hmN) (s.costs.getD x 0 + s.costs.getD y 0)).alloc (.cells (ivals [s.costs.getD x 0 + s.costs.getD y 0]).toArray 3)).drew
          simp only at hpush
          rw [← HMM.out, ← HN.out] at hpush
          have HPU := Lib.hid hpush
          have qs : IntKind.i64.wrap (s.costs.getD x 0 + s.costs.getD y 0) = s.costs.getD x 0 + s.costs.getD y 0 := Go.IntWalk.i64_in _ (by have := HSB.out; omega)
          have i3 : (x : Int) < (m : Int) := by omega
          have i4 : (y : Int) < (m : Int) := by omega
          have hne3 : ¬ w.heap.size + 1 + 1 = w.heap.size + 1 := by omega
          have hne4 : ¬ w.heap.size + 1 = w.heap.size + 1 + 1 := by omega
          have hmN1 : m + 1 ≤ N := hmN
          generalize (_ : List Int).getD m 0 = z0 at k3
          have HS2 := Lib.hid (And.intro HM3.out HSB.out)
          generalize s.costs.getD x 0 = X at *
          generalize s.costs.getD y 0 = Y at *
          clear hm3 c3 hpush HM3 HM2 HSB
          go_upto_region 15 with (fail)
          go_region
          all_goals
            go_wp2
          all_goals
            go_roundw
            case rel => exact ⟨t + 1, htn, by rw [HST.out]; exact HPU.out⟩
            case measure =>
              refine measure_lt HPU.out.lenAt HM.out.lenAt ?_
              have := HMM.out
              have := HMT.out
              simp only [List.length_append, List.length_singleton]
              omega
        · have htn' : t = n - 1 := by omega
          have i1 : ¬ (m : Int) < (N : Int) := by have := HN.out; omega
          have q5 : IntKind.i64.wrap (2 * (n : Int) - 3) = ((2 * n - 3 : Nat) : Int) := by rw [show 2 * (n : Int) - 3 = ((2 * n - 3 : Nat) : Int) by omega]; exact Go.IntWalk.i64_in _ (by omega)
          have HDEP : Hid (depthsH cs = downH s.par (2 * n - 2) (List.replicate (2 * n - 1) 0)) := Lib.hid (by
            unfold depthsH
            rw [HCL.out, ← htn', hs])
          have hlt0 := hm.n_.lt
          have hpr := hm.P_
          have HPR := Lib.hid hpr
          have HPAR : Hid (∀ i, i < 2 * n - 2 → i < s.par.getD i 0 ∧ s.par.getD i 0 < 2 * n - 1) := Lib.hid (fun i hi => by
            have h1 := hg.sum; have h2 := hg.leaf; have h3 := hg.made; have h4 := hg.top
            have := hg.par i (by unfold Picked; omega)
            omega)
          have hgpl := hpr.lt
          have HPL := Lib.hid hg.plen
          have hmk2 : ∀ W : World, (Instr.makeSlice 22 (.int .i64 N) (.int .i64 N)).run Try.prog W = .ok (.slice (some ⟨W.heap.size, 0, none⟩) N N) (W.alloc (.cells (ivals (zeros N)).toArray 3)) := fun W => run_zeros W N (by have := HN.out; omega)
          clear c2 hmm hl hm hg hmt hs htn' hpr
          go_wp2_with fail
          obtain ⟨wo, rfl⟩ : ∃ wo : World, wo = wr := ⟨_, rfl⟩
          have hB0 := bl_alloc (Below.refl wo.heap.size wo) (.cells (ivals (zeros N)).toArray 3)
          have hD0 := Blk.new wo 3 (ivals (zeros N)).toArray
          have HBD := Lib.hid (And.intro hB0 hD0)
          have HC1 := Lib.hid c1
          clear hB0 hD0 c1 c3 i1 hmk2 q5
          go_loopw [14] (fun v14 wr => ∃ (j : Nat) (d : List Nat), j ≤ 2 * n - 2 ∧ v14 = .int .i64 ((j : Int) - 1) ∧ BI wr wo.heap.size (d.map Int.ofNat) ∧ d.length = 2 * n - 1 ∧ downH s.par j d = depthsH cs ∧ (∀ k, d.getD k 0 ≤ 2 * n - 2 - j) ∧ Below wo.heap.size wo wr) (fun v14 _ => (intOf v14 + 1).toNat)
          case atStart =>
            refine ⟨2 * n - 2, List.replicate (2 * n - 1) 0, Nat.le_refl _, congrArg (Value.int .i64) (by omega), ?_, by simp, HDEP.out.symm, fun k => ?_, HBD.out.1⟩
            · have := HBD.out.2
              rw [HN.out] at this
              have e : (List.replicate (2 * n - 1) 0).map Int.ofNat = zeros (2 * n - 1) := by simp [zeros]
              rw [e]; rw [HN.out]; exact this
            · rw [List.getD_eq_getElem?_getD, List.getElem?_replicate]; split <;> simp
          case round =>
            obtain ⟨j, d, hj, rfl, hd, hdl, hdn, hdb, hbr⟩ := hrel
            have HDB := Lib.hid hdb
            have HDN := Lib.hid hdn
            clear hdb hdn
            have hzr := hbr.size
            rcases Nat.eq_zero_or_pos j with hj0 | hj0
            · subst hj0
              have c1 := (hbr.cell (p := ⟨w.heap.size, 0, none⟩) hlt0).trans HC1.out
              have hle : n ≤ N := by have := HN.out; omega
              have HBR := Lib.hid hbr
              have HD := Lib.hid hd
              clear hbr hd hdl
              go_wp2_with fail
              go_ret
              refine ⟨wo.heap.size, by rw [← HN.out]; rfl, ?_, HM.out.below.size, bl_then HM.out.below HM.out.below.size HBR.out⟩
              rw [← HCS.out.1, ← HDN.out]
              exact HD.out
            · obtain ⟨i, rfl⟩ : ∃ i, j = i + 1 := ⟨j - 1, by omega⟩
              obtain ⟨hp1, hp2⟩ := HPAR.out i (by omega)
              have e1 : ((i + 1 : Nat) : Int) - 1 = i := by omega
              have hpl := HPL.out
              have k1 := (hbr.cell (p := ⟨gP, i, none⟩) hgpl).trans (BI.at_ HPR.out i (by simp only [List.length_map]; omega))
              have e2 : (s.par.map Int.ofNat).getD i 0 = ((s.par.getD i 0 : Nat) : Int) := by
                simp only [List.getD_eq_getElem?_getD, List.getElem?_map]
                rw [List.getElem?_eq_getElem (by omega)]; rfl
              rw [e2] at k1
              have k2 := hd.at_ (s.par.getD i 0) (by simp only [List.length_map]; omega)
              have e3 : (d.map Int.ofNat).getD (s.par.getD i 0) 0 = ((d.getD (s.par.getD i 0) 0 : Nat) : Int) := by
                simp only [List.getD_eq_getElem?_getD, List.getElem?_map]
                rw [List.getElem?_eq_getElem (by simp only [List.getD_eq_getElem?_getD] at hp2; omega)]; rfl
              rw [e3] at k2
              have k3 := hd.at_ i (by simp only [List.length_map]; omega)
              have k4 := Blk.frozen hd i
              have hvb := HDB.out (s.par.getD i 0)
              have hset := hd.setInt i ((d.getD (s.par.getD i 0) 0 + 1 : Nat) : Int)
              rw [← map_set_ofNat] at hset
              have HSET := Lib.hid hset
              have HBS := Lib.hid (hbr.setCell (p := ⟨wo.heap.size, i, none⟩) (Nat.le_refl _) (.int .i64 ((d.getD (s.par.getD i 0) 0 + 1 : Nat) : Int)))
              have HDN2 : Hid (downH s.par i (d.set i (d.getD (s.par.getD i 0) 0 + 1)) = depthsH cs) := Lib.hid HDN.out
              have hzz := hd.lt
              rw [e1]
              clear hset e1 e2 e3 hpl HDN
              generalize d.getD (s.par.getD i 0) 0 = V at *
              generalize s.par.getD i 0 = P at *
              generalize (d.map Int.ofNat).getD i 0 = z0 at k3
              have hV : V ≤ 10000 := by omega
              have i1 : (0 : Int) ≤ (i : Int) := by omega
              have i2 : (i : Int) < (N : Int) := by have := HN.out; omega
              have i3 : (0 : Int) ≤ (P : Int) := by omega
              have i4 : (P : Int) < (N : Int) := by have := HN.out; omega
              have HBR := Lib.hid hbr
              have HD := Lib.hid hd
              have HVB := Lib.hid hvb
              clear hbr hd hvb
              go_wp2
              go_roundw
              case rel =>
                refine ⟨i, d.set i (V + 1), by omega, congrArg (Value.int .i64) (by omega), HSET.out, by simp; exact hdl, HDN2.out, fun k => ?_, HBS.out⟩
                simp only [List.getD_eq_getElem?_getD, List.getElem?_set]
                by_cases hik : i = k
                · rw [if_pos hik, if_pos (by omega)]
                  simp only [Option.getD_some]
                  have := HVB.out
                  omega
                · rw [if_neg hik]
                  have := HDB.out k
                  simp only [List.getD_eq_getElem?_getD] at this
                  omega
              case measure => simp [intOf]; try omega
end

/-! Short -/
section
open Go.RowKit

/-- The lengths of the first so many coins are laid down by their symbols. -/
def layTo (ks : List Coin) (D : List Nat) (z : List Int) : Nat → List Int
  | 0 => z
  | i + 1 => (layTo ks D z i).set ((ks.getD i (0, [])).2.getD 0 0).toNat (D.getD i 0 : Int)
theorem layTo_length (ks : List Coin) (D : List Nat) (z : List Int) : ∀ k, (layTo ks D z k).length = z.length
  | 0 => rfl
  | k + 1 => by unfold layTo; rw [List.length_set, layTo_length ks D z k]
/-- Are the first so many within a limit? -/
def within (D : List Nat) (limit : Int) (n : Nat) : Prop := ∀ i, i < n → (D.getD i 0 : Int) ≤ limit

/-- What short gives. -/
def ShortDone (w : World) (ks : List Coin) (many : Nat) (limit : Int) (e : Ending) (w' : World) : Prop :=
  Below w.heap.size w w' ∧
  ((¬ within (depthsH (ks.map (·.1))) limit ks.length ∧ e = .returned (.tuple #[.slice none 0 0, .bool false])) ∨
   (within (depthsH (ks.map (·.1))) limit ks.length ∧ ∃ b, e = .returned (.tuple #[.slice (some ⟨b, 0, none⟩) many many, .bool true]) ∧ BI w' b (layTo ks (depthsH (ks.map (·.1))) (zeros many) ks.length) ∧ w.heap.size ≤ b))

set_option maxHeartbeats 8000000 in
theorem p_short (base : Nat) (g o c : Nat) (l : List Pe) (n : Nat) (hn1 : 2 ≤ n) (hn : n ≤ 2000) (many : Nat) (hm : many ≤ 2000) (limit : Int) (w : World) (h : PRow w base (.slice (some ⟨g, o, none⟩) n c) l) (hcost : ∀ p ∈ l, 0 ≤ p.cost ∧ p.cost ≤ 4294967295)
    (hsy : ∀ p ∈ l, ∃ s : Nat, p.syms = [(s : Int)] ∧ s < many) :
    Calls Try.prog 41 #[.slice (some ⟨g, o, none⟩) n c, .int .i64 many, .int .i64 limit] w (ShortDone w (l.map Pe.key) many limit) := by
  have hlen := h.len_
  have hq := p_plain base g o c l n hn1 hn w h hcost
  have HLEN := Lib.hid hlen
  have hdl := depthsH_length (l.map Pe.cost)
  have ekey : (l.map Pe.key).map (·.1) = l.map Pe.cost := by rw [List.map_map]; rfl
  unfold ShortDone
  rw [ekey]
  have HKL : Hid ((l.map Pe.key).length = n) := Lib.hid (by rw [List.length_map, hlen])
  rw [HKL.out]
  have HBD : Hid (∀ i, i < n → (depthsH (l.map Pe.cost)).getD i 0 ≤ 2 * n) := Lib.hid (fun i hi => by
    have := (depthsH_ok (l.map Pe.cost) (by simp; omega)).1 i (by simp; omega)
    simp only [List.length_map] at this
    omega)
  generalize hD : depthsH (l.map Pe.cost) = D at *
  rw [List.length_map, ← hlen] at hdl
  have HDL := Lib.hid hdl
  have hmk : ∀ W : World, (Instr.makeSlice 22 (.int .i64 many) (.int .i64 many)).run Try.prog W = .ok (.slice (some ⟨W.heap.size, 0, none⟩) many many) (W.alloc (.cells (ivals (zeros many)).toArray 3)) := fun W => run_zeros W many (by omega)
  have HH := Lib.hid h
  have HSY := Lib.hid hsy
  clear hlen hD hdl ekey h hsy hcost
  go_enter Try.func41, Try.ntmps41
  go_wp2_with fail
  refine hq.mono ?_
  rintro e w1 ⟨bD, rfl, hbD, hbw, hb1⟩
  have hz1 := hb1.size
  clear hq
  have HB1 := Lib.hid (bl_alloc hb1 (.cells (ivals (zeros many)).toArray 3))
  have HD1 := Lib.hid (hbD.alloc (.cells (ivals (zeros many)).toArray 3))
  have HO1 := Lib.hid (Blk.new w1 3 (ivals (zeros many)).toArray)
  have hbDl := hbD.lt
  clear hb1 hbD
  go_wp2_with fail
  clear hmk
  go_loopw [10, 11, 18] (fun _ _ v18 wr => ∃ k : Nat, k ≤ n ∧ v18 = .int .i64 k ∧ within D limit k ∧ BI wr w1.heap.size (layTo (l.map Pe.key) D (zeros many) k) ∧ BI wr bD (D.map Int.ofNat) ∧ Below w.heap.size w wr) (fun _ _ v18 _ => n - (intOf v18).toNat)
  case atStart => exact ⟨0, Nat.zero_le _, rfl, fun i hi => by omega, HO1.out, HD1.out, HB1.out⟩
  case round =>
    obtain ⟨k, hk, rfl, hwi, ho, hd, hbr⟩ := hrel
    by_cases hkn : k < n
    · have hlen := HLEN.out
      obtain ⟨a1, a2, _, _⟩ := HH.out.at_ k (by omega)
      have hSr : RowI wr base l[k].v l[k].syms := Row.same (HH.out.syms l[k] (List.getElem_mem (by omega))) (w' := wr) (fun j hj => hbr.block j ((HH.out.syms l[k] (List.getElem_mem (by omega))).lt j hj).2)
      obtain ⟨s, hs, hsm⟩ := HSY.out l[k] (List.getElem_mem (by omega))
      obtain ⟨A, c', e, hcc, hrs⟩ := RowI.slice hSr
      rw [e] at a2
      rw [hs] at hrs a2
      simp only [List.length_singleton] at a2
      obtain ⟨ad, rfl, had, hac⟩ := hrs.at_ 0 (by simp)
      have ead : ad.add 0 = ad := by unfold Addr.add; simp
      rw [ead] at hac
      simp only [List.getElem_cons_zero] at hac
      have hgl := HH.out.g_lt.2
      have b1 := (hbr.cell (p := ⟨g, o + k * 2, none⟩) hgl).trans a1
      have b2 := (hbr.cell (p := ⟨g, o + k * 2 + 1, none⟩) hgl).trans a2
      have d1 := hd.at_ k (by simp only [List.length_map]; have := HDL.out; omega)
      have e3 : (D.map Int.ofNat).getD k 0 = ((D.getD k 0 : Nat) : Int) := by
        simp only [List.getD_eq_getElem?_getD, List.getElem?_map]
        rw [List.getElem?_eq_getElem (by have := HDL.out; omega)]; rfl
      rw [e3] at d1
      have o1 := ho.at_ s (by rw [layTo_length, zeros_length]; exact hsm)
      have o2 := Blk.frozen ho s
      have hset := ho.setInt s ((D.getD k 0 : Nat) : Int)
      have HLY : Hid ((layTo (l.map Pe.key) D (zeros many) k).set s ((D.getD k 0 : Nat) : Int) = layTo (l.map Pe.key) D (zeros many) (k + 1)) := Lib.hid (by
        conv => rhs; unfold layTo
        have e4 : ((l.map Pe.key).getD k (0, [])).2.getD 0 0 = (s : Int) := by
          simp only [List.getD_eq_getElem?_getD, List.getElem?_map]
          rw [List.getElem?_eq_getElem (show k < l.length by omega)]
          show (Pe.key l[k]).2[0]?.getD 0 = _
          rw [show (Pe.key l[k]).2 = l[k].syms from rfl, hs]; rfl
        rw [e4]; rfl)
      have hzr := hbr.size
      have hol := ho.lt
      have hdlt := hd.lt
      have hvb := HBD.out k hkn
      have HW := Lib.hid hwi
      have HO := Lib.hid ho
      have HD := Lib.hid hd
      have HBR := Lib.hid hbr
      have HSET := Lib.hid hset
      have hne : ¬ w1.heap.size = bD := by omega
      generalize hX : l[k].cost = X at *
      generalize hV : D.getD k 0 = V at *
      generalize (layTo (l.map Pe.key) D (zeros many) k).getD s 0 = z0 at o1
      have HV := Lib.hid hV
      have hadw : ad.block < wr.heap.size := had
      have hgw : g < wr.heap.size := Nat.lt_of_lt_of_le hgl hbr.size
      have i2 : (k : Int) < (n : Int) := by omega
      have i3 : (s : Int) < (many : Int) := by omega
      by_cases hlim : (V : Int) ≤ limit
      · have HLIM := Lib.hid hlim
        clear hwi ho hd hbr hset e3 hX hV a1 a2 hcc hlen hs e hSr hrs had ead
        have hdc : decide (limit < (V : Int)) = false := by simp; omega
        go_wp2_with fail
        go_region
        all_goals
          go_wp2
          go_roundw
          case rel =>
            refine ⟨k + 1, by omega, by go_num, fun i hi => ?_, ?_, ?_, ?_⟩
            · by_cases hik : i = k
              · rw [hik, HV.out]; exact HLIM.out
              · exact HW.out i (by omega)
            · rw [← HLY.out]; exact (HSET.out.alloc _).drew
            · exact ((HD.out.far (p := ⟨w1.heap.size, s, none⟩) (fun e => hne e.symm) _).alloc _).drew
            · exact (bl_alloc (HBR.out.setCell (p := ⟨w1.heap.size, s, none⟩) hz1 _) _).drew
          case measure => simp [intOf]; omega
      · have hcl : limit < (V : Int) := by omega
        have HLIM := Lib.hid hlim
        have hdc : decide (limit < (V : Int)) = true := by simp; omega
        clear hwi ho hd hbr hset e3 hX hV a1 a2 hcc hlen hs e hSr hrs had ead
        go_wp2
        go_ret2
        exact ⟨bl_alloc HBR.out _, .inl ⟨fun h => absurd (h k hkn) (by rw [HV.out]; have := HLIM.out; omega), rfl⟩⟩
    · obtain rfl : k = n := by omega
      have HO := Lib.hid ho
      have HW := Lib.hid hwi
      clear ho hd hwi
      go_wp2
      go_ret2
      exact ⟨hbr, .inr ⟨HW.out, w1.heap.size, rfl, HO.out, hz1⟩⟩
end

end Go.Proofs.Ytoefkkgnabjmdaa
