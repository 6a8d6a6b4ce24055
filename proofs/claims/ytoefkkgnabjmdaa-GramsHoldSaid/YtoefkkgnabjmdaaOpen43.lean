/- An argument that is a slice of strings. -/
import Derived.Test.YtoefkkgnabjmdaaRow
import Derived.Test.YtoefkkgnabjmdaaPGramsCountx0
import Derived.SliceStrings
set_option linter.unusedSimpArgs false
set_option linter.unusedVariables false
namespace Go.Proofs.Ytoefkkgnabjmdaa
open Go.RowKit Go.ChangeShapes Go.WideShapes Go.Proofs.YtoefkkgnabjmdaaW.PrintWords
set_option maxRecDepth 100000
section
variable {H : Type} {enc : TypeId × Value → H} {w : World}
theorem open_strs {base : Nat} {v : Value} {d : DataW H} {p : List MemPlace} (hv : Value.okWide Try.prog w .any base 53 v)
    (h : DataW.Trod enc Try.prog w 0 (fun _ => true) true 53 v d p) : ∃ A c l, v = .slice A (List.length l) c ∧ List.length l ≤ c ∧ Kd.C Kd.string w A (List.length l) l := by
  obtain ⟨ad, ln, cp, rfl⟩ := okWide_slice Try.underlying53 hv
  obtain ⟨fu, hf⟩ := h
  rcases open_strings Try.underlying53 Try.underlying9 (by kernel_rfl) hf with ⟨h0, _⟩ | ⟨a, len, cap, ss, hcs, _, hl, hm, hz, hx, hcell, hsz⟩
  · change [Value.slice ad ln cp] = [Value.slice none 0 0] at h0
    injection h0 with h0
    exact ⟨none, 0, [], h0, Nat.le_refl _, Kd.C_nil _ _⟩
  · change [Value.slice ad ln cp] = [Value.slice (some a) len cap] at hcs
    injection hcs with hcs
    simp only [if_true] at hz
    have hlt : (ss.take len).length = len := by rw [List.length_take]; omega
    refine ⟨some a, cap, ss.take len, by rw [hlt]; exact hcs, by rw [hlt]; exact hl, rfl, by rw [hlt]; simp only [maxLen] at hm; omega, fun _ => ⟨a, rfl, fun j p hp => ⟨[.string p], rfl, rfl, fun i u hu => ?_⟩⟩⟩
    have hi : i = 0 := by have := (List.getElem?_eq_some_iff.1 hu).1; simpa using this
    subst hi
    simp only [List.getElem?_cons_zero, Option.some.injEq] at hu
    subst hu
    have hj : j < len := by have := (List.getElem?_eq_some_iff.1 hp).1; omega
    rw [List.getElem?_take_of_lt hj] at hp
    have := hcell j (by omega)
    rw [List.getD_eq_getElem?_getD, hp] at this
    show w.cell? (a.add (j * 1 + 0)) = _
    rw [Nat.mul_one, Nat.add_zero]
    exact this
end
end Go.Proofs.Ytoefkkgnabjmdaa
