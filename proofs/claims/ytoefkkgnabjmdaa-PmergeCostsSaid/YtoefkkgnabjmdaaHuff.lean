/- Chapter 07 (pmerge): plain's memory, and what takes the cheapest: by a walk. -/
import Derived.Test.YtoefkkgnabjmdaaMerged
import Derived.Test.YtoefkkgnabjmdaaCount
set_option linter.unusedSimpArgs false
set_option linter.unusedVariables false
set_option maxRecDepth 100000
namespace Go.Proofs.Ytoefkkgnabjmdaa
open Go.RowKit

abbrev BI (w : World) (g : Nat) (l : List Int) : Prop := Blk w g 3 (ivals l).toArray
theorem BI.at_ {w : World} {g : Nat} {l : List Int} (h : BI w g l) (i : Nat) (hi : i < l.length) : w.cell? ⟨g, i, none⟩ = some (.int .i64 (l.getD i 0)) := (Blk.cell h i).trans (ivals_cell l i hi)

/-- What plain keeps: how many symbols; costs; the next of the symbols, and of what was put together; parents. -/
structure HMem (w0 w : World) (bn bc bl bm gC gP n : Nat) (s : HS) : Prop where
  n_ : BI w bn [(n : Int)]
  c_ : Blk w bc 22 #[.slice (some ⟨gC, 0, none⟩) s.costs.length (2 * n - 1)]
  l_ : BI w bl [(s.leaf : Int)]
  m_ : BI w bm [(s.made : Int)]
  C_ : BI w gC (s.costs ++ zeros (2 * n - 1 - s.costs.length))
  P_ : BI w gP (s.par.map Int.ofNat)
  below : Below w0.heap.size w0 w
  out : w0.heap.size ≤ bn ∧ w0.heap.size ≤ bc ∧ w0.heap.size ≤ bl ∧ w0.heap.size ≤ bm ∧ w0.heap.size ≤ gC ∧ w0.heap.size ≤ gP
  ne : bn ≠ bc ∧ bn ≠ bl ∧ bn ≠ bm ∧ bn ≠ gC ∧ bn ≠ gP ∧ bc ≠ bl ∧ bc ≠ bm ∧ bc ≠ gC ∧ bc ≠ gP ∧ bl ≠ bm ∧ bl ≠ gC ∧ bl ≠ gP ∧ bm ≠ gC ∧ bm ≠ gP ∧ gC ≠ gP
theorem HMem.drewN {w0 w : World} {bn bc bl bm gC gP n : Nat} {s : HS} (h : HMem w0 w bn bc bl bm gC gP n s) (k : Nat) : HMem w0 (w.drewN k) bn bc bl bm gC gP n s :=
  ⟨h.n_, h.c_, h.l_, h.m_, h.C_, h.P_, bl_drewN h.below k, h.out, h.ne⟩
theorem HMem.drew {w0 w : World} {bn bc bl bm gC gP n : Nat} {s : HS} (h : HMem w0 w bn bc bl bm gC gP n s) : HMem w0 w.drew bn bc bl bm gC gP n s :=
  ⟨h.n_, h.c_, h.l_, h.m_, h.C_, h.P_, h.below.drew, h.out, h.ne⟩
theorem HMem.alloc {w0 w : World} {bn bc bl bm gC gP n : Nat} {s : HS} (h : HMem w0 w bn bc bl bm gC gP n s) (o : Obj) : HMem w0 (w.alloc o) bn bc bl bm gC gP n s :=
  ⟨h.n_.alloc o, h.c_.alloc o, h.l_.alloc o, h.m_.alloc o, h.C_.alloc o, h.P_.alloc o, bl_alloc h.below o, h.out, h.ne⟩
theorem HMem.setLeaf {w0 w : World} {bn bc bl bm gC gP n : Nat} {s : HS} (h : HMem w0 w bn bc bl bm gC gP n s) (x : Nat) : HMem w0 (w.setCell ⟨bl, 0, none⟩ (.int .i64 x)) bn bc bl bm gC gP n { s with leaf := x } := by
  obtain ⟨n1, n2, n3, n4, n5, n6, n7, n8, n9, n10, n11, n12, n13, n14, n15⟩ := h.ne
  exact ⟨h.n_.far n2 _, h.c_.far n6 _, h.l_.setInt 0 x, h.m_.far n10.symm _, h.C_.far n11.symm _, h.P_.far n12.symm _, h.below.setCell (p := ⟨bl, 0, none⟩) h.out.2.2.1 _, h.out, h.ne⟩
theorem HMem.setMade {w0 w : World} {bn bc bl bm gC gP n : Nat} {s : HS} (h : HMem w0 w bn bc bl bm gC gP n s) (x : Nat) : HMem w0 (w.setCell ⟨bm, 0, none⟩ (.int .i64 x)) bn bc bl bm gC gP n { s with made := x } := by
  obtain ⟨n1, n2, n3, n4, n5, n6, n7, n8, n9, n10, n11, n12, n13, n14, n15⟩ := h.ne
  exact ⟨h.n_.far n3 _, h.c_.far n7 _, h.l_.far n10 _, h.m_.setInt 0 x, h.C_.far n13.symm _, h.P_.far n14.symm _, h.below.setCell (p := ⟨bm, 0, none⟩) h.out.2.2.2.1 _, h.out, h.ne⟩
theorem map_set_ofNat (l : List Nat) (i v : Nat) : (l.set i v).map Int.ofNat = (l.map Int.ofNat).set i (v : Int) := by rw [List.map_set]; rfl
theorem HMem.setPar {w0 w : World} {bn bc bl bm gC gP n : Nat} {s : HS} (h : HMem w0 w bn bc bl bm gC gP n s) (i x : Nat) : HMem w0 (w.setCell ⟨gP, i, none⟩ (.int .i64 x)) bn bc bl bm gC gP n { s with par := s.par.set i x } := by
  obtain ⟨n1, n2, n3, n4, n5, n6, n7, n8, n9, n10, n11, n12, n13, n14, n15⟩ := h.ne
  refine ⟨h.n_.far n5 _, h.c_.far n9 _, h.l_.far n12 _, h.m_.far n14 _, h.C_.far n15 _, ?_, h.below.setCell (p := ⟨gP, i, none⟩) h.out.2.2.2.2.2 _, h.out, h.ne⟩
  have := h.P_.setInt i (x : Int)
  rw [← map_set_ofNat] at this
  exact this
/-- A cost is put behind the others. -/
theorem HMem.push {w0 w : World} {bn bc bl bm gC gP n : Nat} {s : HS} (h : HMem w0 w bn bc bl bm gC gP n s) (hl : s.costs.length < 2 * n - 1) (x : Int) :
    HMem w0 ((w.setCell ⟨gC, s.costs.length, none⟩ (.int .i64 x)).setCell ⟨bc, 0, none⟩ (.slice (some ⟨gC, 0, none⟩) (s.costs.length + 1) (2 * n - 1))) bn bc bl bm gC gP n { s with costs := s.costs ++ [x] } := by
  obtain ⟨n1, n2, n3, n4, n5, n6, n7, n8, n9, n10, n11, n12, n13, n14, n15⟩ := h.ne
  refine ⟨(h.n_.far n4 _).far n1 _, ?_, (h.l_.far n11 _).far n6.symm _, (h.m_.far n13 _).far n7.symm _, ?_, (h.P_.far n15.symm _).far n9.symm _,
    (h.below.setCell (p := ⟨gC, s.costs.length, none⟩) h.out.2.2.2.2.1 _).setCell (p := ⟨bc, 0, none⟩) h.out.2.1 _, h.out, h.ne⟩
  · have := (h.c_.far (p := ⟨gC, s.costs.length, none⟩) n8 (.int .i64 x)).set_ 0 (.slice (some ⟨gC, 0, none⟩) (s.costs.length + 1) (2 * n - 1))
    simpa using this
  · have := (h.C_.setInt s.costs.length x).far (p := ⟨bc, 0, none⟩) n8.symm (.slice (some ⟨gC, 0, none⟩) (s.costs.length + 1) (2 * n - 1))
    have e : (s.costs ++ zeros (2 * n - 1 - s.costs.length)).set s.costs.length x = s.costs ++ [x] ++ zeros (2 * n - 1 - (s.costs ++ [x]).length) := by
      rw [List.set_append_right _ _ (Nat.le_refl _), Nat.sub_self, List.append_assoc]
      congr 1
      obtain ⟨m, hm⟩ : ∃ m, 2 * n - 1 - s.costs.length = m + 1 := ⟨2 * n - 1 - s.costs.length - 1, by omega⟩
      rw [hm, show 2 * n - 1 - (s.costs ++ [x]).length = m by simp; omega]
      rfl
    rw [e] at this
    exact this
theorem HMem.cost {w0 w : World} {bn bc bl bm gC gP n : Nat} {s : HS} (h : HMem w0 w bn bc bl bm gC gP n s) (i : Nat) (hi : i < s.costs.length) : w.cell? ⟨gC, i, none⟩ = some (.int .i64 (s.costs.getD i 0)) := by
  rw [h.C_.at_ i (by simp; omega)]
  simp only [List.getD_eq_getElem?_getD]
  rw [List.getElem?_append_left hi]

set_option maxHeartbeats 2000000 in
theorem p_least (w0 w : World) (bn bc bl bm gC gP n : Nat) (s : HS) (h : HMem w0 w bn bc bl bm gC gP n s) (hn1 : 1 ≤ n) (hn : n ≤ 100000) (hl1 : n ≤ s.costs.length) (hl2 : s.costs.length ≤ 2 * n - 1) (h1 : s.leaf ≤ n) (h2 : s.made ≤ 2 * n) :
    Calls Try.prog 100 #[.pointer (some ⟨bl, 0, none⟩), .pointer (some ⟨bn, 0, none⟩), .pointer (some ⟨bm, 0, none⟩), .pointer (some ⟨bc, 0, none⟩)] w fun e w' =>
      e = .returned (.int .i64 (leastH n s.costs s.leaf s.made).1) ∧ HMem w0 w' bn bc bl bm gC gP n { s with leaf := (leastH n s.costs s.leaf s.made).2.1, made := (leastH n s.costs s.leaf s.made).2.2 } := by
  have HL : Hid (leastH n s.costs s.leaf s.made = if s.leaf < n ∧ (s.costs.length ≤ s.made ∨ s.costs.getD s.leaf 0 ≤ s.costs.getD s.made 0) then (s.leaf, s.leaf + 1, s.made) else (s.made, s.leaf, s.made + 1)) := Lib.hid rfl
  have c1 := h.n_.at_ 0 (by simp)
  have c2 := h.c_.cell 0
  have c3 := h.l_.at_ 0 (by simp)
  have c4 := h.m_.at_ 0 (by simp)
  have f3 := h.l_.frozen 0
  have f4 := h.m_.frozen 0
  simp only [List.getD_cons_zero] at c1 c3 c4
  have c2' : w.cell? ⟨bc, 0, none⟩ = some (.slice (some ⟨gC, 0, none⟩) s.costs.length (2 * n - 1)) := c2
  have HH := Lib.hid h
  have hne : bl ≠ bm := h.ne.2.2.2.2.2.2.2.2.2.1
  by_cases hA : s.leaf < n
  · by_cases hB : s.costs.length ≤ s.made
    · have HL2 : Hid (leastH n s.costs s.leaf s.made = (s.leaf, s.leaf + 1, s.made)) := Lib.hid (HL.out.trans (if_pos ⟨hA, .inl hB⟩))
      have hm0 : s.made ≤ 2 * n := h2
      clear h c2 HL
      generalize hle : s.leaf = leaf at *
      generalize hma : s.made = made at *
      generalize hlen : s.costs.length = len at *
      have HLE := Lib.hid hle
      have HMA := Lib.hid hma
      have HLN := Lib.hid hlen
      clear hle hma hlen
      go_enter Try.func100, Try.ntmps100
      go_wp2_with fail
      go_quiet (fail)
      all_goals
        go_wp2
        go_ret
        rw [HL2.out]
        refine ⟨by simp, ?_⟩
        have := (HH.out.drewN nq).setLeaf (leaf + 1)
        simpa [HMA.out, HLE.out] using this

    · have k1 := h.cost s.leaf (by omega)
      have k2 := h.cost s.made (by omega)
      have i1 : (0 : Int) ≤ (s.leaf : Int) := by omega
      have i2 : (s.leaf : Int) < (s.costs.length : Int) := by omega
      have i3 : (0 : Int) ≤ (s.made : Int) := by omega
      have i4 : (s.made : Int) < (s.costs.length : Int) := by omega
      have hB' : decide ((s.costs.length : Int) ≤ (s.made : Int)) = false := by simp; omega
      by_cases hC : s.costs.getD s.leaf 0 ≤ s.costs.getD s.made 0
      · have HL2 : Hid (leastH n s.costs s.leaf s.made = (s.leaf, s.leaf + 1, s.made)) := Lib.hid (HL.out.trans (if_pos ⟨hA, .inr hC⟩))
        have hm0 : s.made ≤ 2 * n := h2
        generalize s.costs.getD s.leaf 0 = x at *
        generalize s.costs.getD s.made 0 = y at *
        clear h c2 HL
        generalize hle : s.leaf = leaf at *
        generalize hma : s.made = made at *
        generalize hlen : s.costs.length = len at *
        have HLE := Lib.hid hle
        have HMA := Lib.hid hma
        have HLN := Lib.hid hlen
        clear hle hma hlen
        go_enter Try.func100, Try.ntmps100
        go_wp2_with fail
        go_quiet (fail)
        all_goals
          go_wp2
          go_ret
          rw [HL2.out]
          refine ⟨by simp, ?_⟩
          have := (HH.out.drewN nq).setLeaf (leaf + 1)
          simpa [HMA.out, HLE.out] using this

      · have HL2 : Hid (leastH n s.costs s.leaf s.made = (s.made, s.leaf, s.made + 1)) := Lib.hid (HL.out.trans (if_neg (fun h => h.2.elim hB hC)))
        have hm0 : s.made ≤ 2 * n := h2
        generalize s.costs.getD s.leaf 0 = x at *
        generalize s.costs.getD s.made 0 = y at *
        have hC' : decide (x ≤ y) = false := by simp; omega
        clear h c2 HL
        generalize hle : s.leaf = leaf at *
        generalize hma : s.made = made at *
        generalize hlen : s.costs.length = len at *
        have HLE := Lib.hid hle
        have HMA := Lib.hid hma
        have HLN := Lib.hid hlen
        clear hle hma hlen
        go_enter Try.func100, Try.ntmps100
        go_wp2_with fail
        go_quiet (fail)
        all_goals
          go_wp2
          go_ret
          rw [HL2.out]
          refine ⟨by simp, ?_⟩
          have := (HH.out.drewN nq).setMade (made + 1)
          simpa [HMA.out, HLE.out] using this

  · have hA' : decide ((s.leaf : Int) < (n : Int)) = false := by simp; omega
    have HL2 : Hid (leastH n s.costs s.leaf s.made = (s.made, s.leaf, s.made + 1)) := Lib.hid (HL.out.trans (if_neg (fun h => hA h.1)))
    have hm0 : s.made ≤ 2 * n := h2
    clear h c2 HL
    generalize hle : s.leaf = leaf at *
    generalize hma : s.made = made at *
    generalize hlen : s.costs.length = len at *
    have HLE := Lib.hid hle
    have HMA := Lib.hid hma
    have HLN := Lib.hid hlen
    clear hle hma hlen
    go_enter Try.func100, Try.ntmps100
    go_wp2_with fail
    go_quiet (fail)
    all_goals
      go_wp2
      go_ret
      rw [HL2.out]
      refine ⟨by simp, ?_⟩
      have := (HH.out.drewN nq).setMade (made + 1)
      simpa [HMA.out, HLE.out] using this

end Go.Proofs.Ytoefkkgnabjmdaa
