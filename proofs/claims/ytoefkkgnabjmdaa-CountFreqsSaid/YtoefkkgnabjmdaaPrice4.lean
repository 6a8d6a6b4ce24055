/- Chapter 23 (price): Token, All: what they give, by walks. -/
import Derived.Test.YtoefkkgnabjmdaaPrice3
set_option linter.unusedSimpArgs false
set_option linter.unusedVariables false
namespace Go.Proofs.Ytoefkkgnabjmdaa
open Go.RowKit

noncomputable def tokenE (m d : List Int) (t : Tok) : Int := if chkE m d = 0 then tokCheck t else chkE m d
noncomputable def tokenC (m d : List Int) (t : Tok) : Int := if chkE m d = 0 then one23 m d t else 0
noncomputable def allE (m d : List Int) (l : List Tok) : Int := if chkE m d = 0 then tokErr l else chkE m d
noncomputable def allC (m d : List Int) (l : List Tok) : Int := if chkE m d = 0 then (if tokErr l = 0 then costs m d l else 0) else 0

theorem tokErr_append (a b : List Tok) : tokErr (a ++ b) = if tokErr a = 0 then tokErr b else tokErr a := by
  induction a with
  | nil => simp [tokErr]
  | cons t a ih =>
    rw [List.cons_append]
    have e : ∀ x, tokErr (t :: x) = if tokCheck t = 0 then tokErr x else tokCheck t := fun x => rfl
    rw [e, e]
    by_cases h : tokCheck t = 0
    · rw [if_pos h, if_pos h]; exact ih
    · rw [if_neg h, if_neg h, if_neg h]
theorem cost_bd {m d : List Int} (l1 : m.length = 401) (l2 : d.length = 52) (k1 : pricesOk m) (k2 : pricesOk d) {t : Tok} (h : tokOk t) : 0 ≤ cost m d t ∧ cost m d t ≤ 1099511627776 := by
  have hs := tokSym_bd h
  have hg : ∀ (l : List Int) (i : Nat), pricesOk l → 0 ≤ l.getD i 0 ∧ l.getD i 0 ≤ 1048576 := by
    intro l i hl
    rw [List.getD_eq_getElem?_getD]
    by_cases hi : i < l.length
    · rw [List.getElem?_eq_getElem hi]
      have := hl l[i] (List.getElem_mem hi)
      simp only [Option.getD_some]
      omega
    · rw [List.getElem?_eq_none (by omega)]
      simp
  have h1 := hg m (tokSym t).toNat k1
  have h2 := hg d (distS t.dist).toNat k2
  have h3 := lenX_bd t.len
  have h4 := distX_bd t.dist
  unfold cost
  split <;> split <;> omega
theorem tokErr_ok : ∀ {l : List Tok}, tokErr l = 0 → ∀ t ∈ l, tokOk t
  | [], _, _, ht => by cases ht
  | a :: l, h, t, ht => by
    unfold tokErr at h
    by_cases hc : tokCheck a = 0
    · rw [if_pos hc] at h
      rcases List.mem_cons.1 ht with rfl | ht
      · unfold tokCheck at hc
        split at hc
        · assumption
        · omega
      · exact tokErr_ok h t ht
    · rw [if_neg hc] at h
      exact absurd h hc

end Go.Proofs.Ytoefkkgnabjmdaa
