/- Chapter 23 (price): the calls bad, IndexFunc, ContainsFunc, Check, and the reference's: what they give, by walks. -/
import Derived.Test.YtoefkkgnabjmdaaInts
import Derived.Test.YtoefkkgnabjmdaaPlain23
import Derived.Test.YtoefkkgnabjmdaaSlots
set_option linter.unusedSimpArgs false
set_option linter.unusedVariables false
namespace Go.Proofs.Ytoefkkgnabjmdaa
open Go.RowKit

theorem findIdx_le {l : List Int} {k : Nat} (h : ∀ i (hi : i < l.length), i < k → priceBad l[i] = false) (hk : k ≤ l.length) : (l.take k).any priceBad = false := by
  rw [List.any_eq_false]
  intro x hx
  obtain ⟨i, hi, rfl⟩ := List.getElem_of_mem hx
  rw [List.length_take] at hi
  rw [List.getElem_take]
  simp [h i (by omega) (by omega)]

/-- Prices as a value. -/
def priceV (M D : Option Addr) (m d : List Int) (c1 c2 : Nat) : Value := .agg #[.slice M m.length c1, .slice D d.length c2]
theorem chk_form {m d : List Int} (h : m.length ≠ 401 ∨ d.length ≠ 52) : chkE m d = 4 := if_pos h
theorem chk_range {m d : List Int} (h : ¬ (m.length ≠ 401 ∨ d.length ≠ 52)) (h2 : (m.any priceBad || d.any priceBad) = true) : chkE m d = 2 := by
  unfold chkE
  rw [if_neg h, if_neg]
  rintro ⟨k1, k2⟩
  rw [← any_bad] at k1 k2
  rw [k1, k2] at h2
  cases h2
theorem chk_ok {m d : List Int} (h : ¬ (m.length ≠ 401 ∨ d.length ≠ 52)) (h2 : m.any priceBad = false) (h3 : d.any priceBad = false) : chkE m d = 0 := by
  unfold chkE
  rw [if_neg h, if_pos ⟨(any_bad m).1 h2, (any_bad d).1 h3⟩]

end Go.Proofs.Ytoefkkgnabjmdaa
