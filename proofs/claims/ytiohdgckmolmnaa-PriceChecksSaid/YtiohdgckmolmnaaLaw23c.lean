/- Chapter 23's laws over arguments as they come in: opening of prices. -/
import Derived.Test.YtiohdgckmolmnaaLaw23b
import Derived.Test.YtiohdgckmolmnaaRow
import Derived.Deep.Slices
import Derived.Deep.Fields
set_option linter.unusedSimpArgs false
set_option linter.unusedVariables false
namespace Go.Proofs.Ytiohdgckmolmnaa
open Go.RowKit Go.ChangeShapes Go.WideShapes Go.Deep

section
variable {H : Type} {enc : TypeId × Value → H} {w : World} {held : Bool}
/-- A slice of ints that reads. -/
theorem trod_ints {fuel : Nat} {v : Value} {x : DataW H × List MemPlace} (h : DataW.trod enc Try.prog w 0 (fun _ => true) held fuel 84 [v] = some x) : ∃ A c l, v = .slice A (List.length l) c ∧ ReadsI w A l ∧ List.length l ≤ c := by
  have hC : Try.prog.cellsOf 3 = 1 := by kernel_rfl
  rcases open_slice Try.underlying84 h with ⟨h0, _⟩ | ⟨a, len, cap, m, n, D, Pl, hcs, hb, hl, hm, hmm, hx, hi⟩
  · simp only [List.cons.injEq, and_true] at h0
    exact ⟨none, 0, [], h0, ReadsI.nil _ _, Nat.le_refl _⟩
  · simp only [List.cons.injEq, and_true] at hcs
    rw [hcs]
    have key : ∀ i, ∃ z : Int, i < len → w.cell? (a.add i) = some (.int .i64 z) := by
      intro i
      by_cases hil : i < len
      · obtain ⟨cs', hc, ht'⟩ := hi i (by rw [hmm]; simp; omega)
        rw [hC, Nat.mul_one] at hc
        obtain ⟨_, hcl, hat⟩ := World.cells?_some hc
        match cs', hcl with
        | [u], _ =>
        obtain ⟨z, e1, _, _⟩ := DataW.trod_int Try.underlying3 ht'
        simp only [List.cons.injEq, and_true] at e1
        subst e1
        have := hat 0 (by omega)
        rw [Go.Deep.add_add, Nat.add_zero] at this
        exact ⟨z, fun _ => this⟩
      · exact ⟨0, fun h => absurd h hil⟩
    have hl' : ((List.range len).map fun i => Classical.choose (key i)).length = len := by simp
    refine ⟨some a, cap, (List.range len).map fun i => Classical.choose (key i), by rw [hl'], ⟨by rw [ivals_length, Nat.mul_one], fun hn0 => ⟨a, rfl, ?_, fun j u hu => ?_⟩⟩, by rw [hl']; exact hl⟩
    · rw [hl'] at hn0
      have := World.block_lt_of_cell? w _ (Classical.choose_spec (key 0) hn0)
      rwa [block_of_add] at this
    · have hj : j < len := by have := (List.getElem?_eq_some_iff.1 hu).1; rw [ivals_length, hl'] at this; exact this
      rw [ivals_get _ j (by rw [hl']; exact hj)] at hu
      simp only [List.getElem_map, List.getElem_range, Option.some.injEq] at hu
      rw [← hu]
      exact Classical.choose_spec (key j) hj

set_option maxRecDepth 100000 in
theorem open_prices {base : Nat} {v : Value} {d : DataW H} {p : List MemPlace} (hv : Value.okWide Try.prog w .any base 86 v)
    (h : DataW.Trod enc Try.prog w 0 (fun _ => true) true 86 v d p) : ∃ M D m d c1 c2, v = priceV M D m d c1 c2 ∧ ReadsI w M m ∧ ReadsI w D d := by
  obtain ⟨cs, rfl, hs⟩ := okWide_agg (.inl ⟨_, Try.underlying86⟩) hv
  obtain ⟨fu, hf⟩ := h
  obtain ⟨cl⟩ := cs
  have e : Try.prog.cellsOf 86 = 2 := by kernel_rfl
  have c1 : Try.prog.cellsOf 84 = 1 := by kernel_rfl
  rw [e] at hs
  have hs' : cl.length = 2 := by simpa using hs
  match cl, hs' with
  | [v0, v1], _ =>
  obtain ⟨xs, n, _, hx, _, hlen, hg⟩ := DataW.trod_struct Try.underlying86 hf
  have g0 : DataW.trod enc Try.prog w 0 (fun _ => true) true n 84 (([v0, v1].drop 0).take (Try.prog.cellsOf 84)) = xs[0]? := hg 0 _ rfl
  have g1 : DataW.trod enc Try.prog w 0 (fun _ => true) true n 84 (([v0, v1].drop 1).take (Try.prog.cellsOf 84)) = xs[1]? := hg 1 _ rfl
  rw [c1] at g0 g1
  replace g0 : DataW.trod enc Try.prog w 0 (fun _ => true) true n 84 [v0] = xs[0]? := g0
  replace g1 : DataW.trod enc Try.prog w 0 (fun _ => true) true n 84 [v1] = xs[1]? := g1
  rw [List.getElem?_eq_getElem (by rw [hlen]; decide)] at g0 g1
  obtain ⟨M, k1, m, rfl, hm, _⟩ := trod_ints g0
  obtain ⟨D, k2, d, rfl, hd, _⟩ := trod_ints g1
  exact ⟨M, D, m, d, k1, k2, rfl, hm, hd⟩
end

end Go.Proofs.Ytiohdgckmolmnaa
