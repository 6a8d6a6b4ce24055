/- Opening of slices of ints and of tokens as they come in. -/
import Derived.Test.YtndkgjoaljcijaaInts
import Derived.Test.YtndkgjoaljcijaaToks
import Derived.Test.YtndkgjoaljcijaaRow
import Derived.Deep.Slices
import Derived.Deep.Fields
set_option linter.unusedSimpArgs false
set_option linter.unusedVariables false
set_option maxRecDepth 100000
namespace Go.Proofs.Ytndkgjoaljcijaa
open Go.RowKit Go.ChangeShapes Go.WideShapes Go.Deep

section
variable {H : Type} {enc : TypeId × Value → H} {P : Program} {w : World} {held : Bool}
/-- A slice of tokens that reads. -/
theorem open_toksC {fs : Array Field} {t e : TypeId} {fuel : Nat} {v : Value} {x : DataW H × List MemPlace} (ht : P.underlying t = some (.slice e)) (he : P.underlying e = some (.struct fs)) (hn : P.cellsOf e = 5) (h5 : fs.size = 5)
    (hf : ∀ (i : Nat) (f : Field), fs[i]? = some f → f.offset = i ∧ P.cellsOf f.type = 1 ∧ P.underlying f.type = some (.int .i64))
    (h : DataW.trod enc P w 0 (fun _ => true) held fuel t [v] = some x) : ∃ A c l, v = .slice A (List.length l) c ∧ ReadsT w A l ∧ List.length l ≤ c := by
  rcases open_slice ht h with ⟨h0, _⟩ | ⟨a, len, cap, m, n, D, Pl, hcs, hb, hl, hm, hmm, hx, hi⟩
  · simp only [List.cons.injEq, and_true] at h0
    exact ⟨none, 0, [], h0, ⟨rfl, fun h => absurd h (by simp)⟩, Nat.le_refl _⟩
  · simp only [List.cons.injEq, and_true] at hcs
    subst hcs
    have key : ∀ i, ∃ tk : Tok, i < len → ∀ j u, (tokCells tk)[j]? = some u → w.cell? (a.add (i * 5 + j)) = some u := by
      intro i
      by_cases hil : i < len
      · obtain ⟨cs', hc, ht'⟩ := hi i (by rw [hmm]; simp; omega)
        rw [hn] at hc
        obtain ⟨zs, hz, hzl, hw⟩ := trod_fields (k := .i64) he (by rw [hn, h5]) hf ht'
        rw [h5] at hzl
        match zs, hzl with
        | [z0, z1, z2, z3, z4], _ =>
          refine ⟨⟨z0, z1, z2, z3, z4⟩, fun _ j u hu => ?_⟩
          obtain ⟨_, hcl, hat⟩ := World.cells?_some hc
          have hj : j < 5 := by have := (List.getElem?_eq_some_iff.1 hu).1; simpa [tokCells] using this
          have := hat j hj
          rw [Go.Deep.add_add] at this
          rw [this, hz]
          exact hu
      · exact ⟨⟨0, 0, 0, 0, 0⟩, fun h => absurd h hil⟩
    have hl' : ((List.range len).map fun i => Classical.choose (key i)).length = len := by simp
    have hcell : ∀ j u, (tvals ((List.range len).map fun i => Classical.choose (key i)))[j]? = some u → w.cell? (a.add j) = some u := by
      intro j u hu
      have hj : j < len * 5 := by have := (List.getElem?_eq_some_iff.1 hu).1; rw [tvals_length, hl'] at this; exact this
      have e1 : j = j / 5 * 5 + j % 5 := by omega
      rw [e1] at hu ⊢
      rw [tvals_get _ (j / 5) (j % 5) (by rw [hl']; omega) (by omega)] at hu
      simp only [List.getElem_map, List.getElem_range] at hu
      exact Classical.choose_spec (key (j / 5)) (by omega) _ _ hu
    refine ⟨some a, cap, (List.range len).map fun i => Classical.choose (key i), by rw [hl'], ⟨tvals_length _, fun hn0 => ⟨a, rfl, ?_, hcell⟩⟩, by rw [hl']; exact hl⟩
    rw [hl'] at hn0
    have h0 : 0 < (tvals ((List.range len).map fun i => Classical.choose (key i))).length := by rw [tvals_length, hl']; omega
    have := hcell 0 _ (List.getElem?_eq_getElem h0)
    have := World.block_lt_of_cell? w _ this
    rwa [block_of_add] at this
end

section
variable {H : Type} {enc : TypeId × Value → H} {w : World} {held : Bool}
/-- A slice of ints that reads. -/
theorem trod_ints {fuel : Nat} {v : Value} {x : DataW H × List MemPlace} (h : DataW.trod enc Try.prog w 0 (fun _ => true) held fuel 28 [v] = some x) : ∃ A c l, v = .slice A (List.length l) c ∧ ReadsI w A l ∧ List.length l ≤ c := by
  have hC : Try.prog.cellsOf 3 = 1 := by kernel_rfl
  rcases open_slice Try.underlying28 h with ⟨h0, _⟩ | ⟨a, len, cap, m, n, D, Pl, hcs, hb, hl, hm, hmm, hx, hi⟩
  · simp only [List.cons.injEq, and_true] at h0
    exact ⟨none, 0, [], h0, ReadsI.nil _ _, Nat.le_refl _⟩
  · simp only [List.cons.injEq, and_true] at hcs
    rw [hcs]
    have key : ∀ i, ∃ z : Int, i < len → w.cell? (a.add i) = some (.int .i64 z) := by
      intro i
      by_cases hil : i < len
      · obtain ⟨cs', hc, ht'⟩ := hi i (by rw [hmm]; simp; omega)
        rw [hC, Nat.mul_one] at hc
        obtain ⟨_, hcl, hat⟩ := World.cells?_some hc
        match cs', hcl with
        | [u], _ =>
        obtain ⟨z, e1, _, _⟩ := DataW.trod_int Try.underlying3 ht'
        simp only [List.cons.injEq, and_true] at e1
        subst e1
        have := hat 0 (by omega)
        rw [Go.Deep.add_add, Nat.add_zero] at this
        exact ⟨z, fun _ => this⟩
      · exact ⟨0, fun h => absurd h hil⟩
    have hl' : ((List.range len).map fun i => Classical.choose (key i)).length = len := by simp
    refine ⟨some a, cap, (List.range len).map fun i => Classical.choose (key i), by rw [hl'], ⟨by rw [ivals_length, Nat.mul_one], fun hn0 => ⟨a, rfl, ?_, fun j u hu => ?_⟩⟩, by rw [hl']; exact hl⟩
    · rw [hl'] at hn0
      have := World.block_lt_of_cell? w _ (Classical.choose_spec (key 0) hn0)
      rwa [block_of_add] at this
    · have hj : j < len := by have := (List.getElem?_eq_some_iff.1 hu).1; rw [ivals_length, hl'] at this; exact this
      rw [ivals_get _ j (by rw [hl']; exact hj)] at hu
      simp only [List.getElem_map, List.getElem_range, Option.some.injEq] at hu
      rw [← hu]
      exact Classical.choose_spec (key j) hj

/-- An argument that is a slice of ints. -/
theorem open_ints {base : Nat} {v : Value} {d : DataW H} {p : List MemPlace} (hv : Value.okWide Try.prog w .any base 28 v)
    (h : DataW.Trod enc Try.prog w 0 (fun _ => true) true 28 v d p) : ∃ A c l, v = .slice A (List.length l) c ∧ ReadsI w A l := by
  obtain ⟨ad, ln, cp, rfl⟩ := okWide_slice Try.underlying28 hv
  obtain ⟨fu, hf⟩ := h
  obtain ⟨A, c, l, e, hr, _⟩ := trod_ints hf
  exact ⟨A, c, l, e, hr⟩
set_option maxRecDepth 100000 in
/-- An argument that is a slice of tokens. -/
theorem open_toks {base : Nat} {v : Value} {d : DataW H} {p : List MemPlace} (hv : Value.okWide Try.prog w .any base 34 v)
    (h : DataW.Trod enc Try.prog w 0 (fun _ => true) true 34 v d p) : ∃ A c l, v = .slice A (List.length l) c ∧ ReadsT w A l := by
  obtain ⟨ad, ln, cp, rfl⟩ := okWide_slice Try.underlying34 hv
  obtain ⟨fu, hf⟩ := h
  obtain ⟨A, c, l, e, hr, _⟩ := open_toksC Try.underlying34 Try.underlying65 (by kernel_rfl) rfl (by intro i f hi; match i, hi with | 0, hi | 1, hi | 2, hi | 3, hi | 4, hi => (cases hi; exact ⟨rfl, by kernel_rfl, by kernel_rfl⟩) | (i + 5), hi => (simp at hi)) hf
  exact ⟨A, c, l, e, hr⟩
end

end Go.Proofs.Ytndkgjoaljcijaa
