/- Chapter 26's law BestNoLess: its prices as they come in. -/
import Derived.Test.YtndkgjoaljcijaaBsOpen
import Derived.Test.YtndkgjoaljcijaaBsLawN
set_option linter.unusedSimpArgs false
set_option linter.unusedVariables false
set_option maxRecDepth 100000
namespace Go.Proofs.Ytndkgjoaljcijaa
open Go.RowKit Go.ChangeShapes Go.WideShapes Go.Deep

section
variable {H : Type} {enc : TypeId × Value → H} {w : World} {held : Bool}
theorem trod_intsL {fu : Nat} {v : Value} {x : DataW H × List MemPlace} (hf : DataW.trod enc Try.prog w 0 (fun _ => true) held fu 28 [v] = some x) : ∃ A c l, v = .slice A (List.length l) c ∧ ReadsI w A l ∧ List.length l ≤ 9223372036854775807 := by
  obtain ⟨A, c, l, e, hr, _⟩ := trod_ints hf
  refine ⟨A, c, l, e, hr, ?_⟩
  subst e
  rcases open_slice Try.underlying28 hf with ⟨h0, _⟩ | ⟨a, len, cap, m, n, D, Pl, hcs, hb, hl, hm, hmm, hx, hi⟩
  · simp at h0
    omega
  · simp at hcs
    obtain ⟨_, h1, h2⟩ := hcs
    unfold maxLen at hm
    omega
theorem open_lawPrices {base : Nat} {v : Value} {d : DataW H} {p : List MemPlace} (hv : Value.okWide Try.prog w .any base 45 v)
    (h : DataW.Trod enc Try.prog w 0 (fun _ => true) true 45 v d p) : ∃ A B m d' c1 c2, v = lawPricesV A B m d' c1 c2 ∧ ReadsI w A m ∧ ReadsI w B d' ∧ List.length m ≤ 9223372036854775807 ∧ List.length d' ≤ 9223372036854775807 := by
  obtain ⟨cs, rfl, hs⟩ := okWide_agg (.inl ⟨_, Try.underlying45⟩) hv
  obtain ⟨fu, hf⟩ := h
  obtain ⟨cl⟩ := cs
  have e : Try.prog.cellsOf 45 = 2 := by kernel_rfl
  have c1 : Try.prog.cellsOf 28 = 1 := by kernel_rfl
  rw [e] at hs
  have hs' : cl.length = 2 := by simpa using hs
  match cl, hs' with
  | [v0, v1], _ =>
  obtain ⟨xs, n, _, hx, _, hlen, hg⟩ := DataW.trod_struct Try.underlying45 hf
  have g0 : DataW.trod enc Try.prog w 0 (fun _ => true) true n 28 (([v0, v1].drop 0).take (Try.prog.cellsOf 28)) = xs[0]? := hg 0 _ rfl
  have g1 : DataW.trod enc Try.prog w 0 (fun _ => true) true n 28 (([v0, v1].drop 1).take (Try.prog.cellsOf 28)) = xs[1]? := hg 1 _ rfl
  rw [c1] at g0 g1
  replace g0 : DataW.trod enc Try.prog w 0 (fun _ => true) true n 28 [v0] = xs[0]? := g0
  replace g1 : DataW.trod enc Try.prog w 0 (fun _ => true) true n 28 [v1] = xs[1]? := g1
  rw [List.getElem?_eq_getElem (by rw [hlen]; decide)] at g0 g1
  obtain ⟨A, c1, m, rfl, r1, l1⟩ := trod_intsL g0
  obtain ⟨B, c2, d', rfl, r2, l2⟩ := trod_intsL g1
  exact ⟨A, B, m, d', c1, c2, rfl, r1, r2, l1, l2⟩
end
end Go.Proofs.Ytndkgjoaljcijaa
