/- Chapter 07 (pmerge): Lengths, whatever it is asked. -/
import Derived.Test.YtoefkkgnabjmdaaLens2
import Derived.Test.YtoefkkgnabjmdaaStable
set_option linter.unusedSimpArgs false
set_option linter.unusedVariables false
set_option maxRecDepth 100000
namespace Go.Proofs.Ytoefkkgnabjmdaa
open Go.RowKit

/-- The lengths that Lengths gives. -/
def lensP (f : List Int) (limit : Int) : List Int :=
  if usedN f = 1 then oneLens f ((coinKeys 0 f).headD (0, [])) else lensOf (sortK (coinKeys 0 f)) f.length limit
def LenPost (w : World) (f : List Int) (limit : Int) (e : Ending) (w' : World) : Prop :=
  Below w.heap.size w w' ∧ ((chkPm f limit ≠ 0 ∧ e = .returned (.tuple #[.slice none 0 0, .int .i64 (chkPm f limit)])) ∨
    (chkPm f limit = 0 ∧ ∃ b, e = .returned (.tuple #[.slice (some ⟨b, 0, none⟩) f.length f.length, .int .i64 0]) ∧ BI w' b (lensP f limit) ∧ w.heap.size ≤ b))
/-- What no error means. -/
theorem chkPm_ok {f : List Int} {limit : Int} (h : chkPm f limit = 0) : 1 ≤ limit ∧ limit ≤ 16 ∧ f.length ≤ 1024 ∧ (∀ x ∈ f, 0 ≤ x ∧ x ≤ 4294967295) ∧ 1 ≤ usedN f ∧ usedN f ≤ 2 ^ limit.toNat := by
  unfold chkPm at h
  by_cases h1 : limit < 1 ∨ 16 < limit
  · rw [if_pos h1] at h; omega
  · rw [if_neg h1] at h
    by_cases h2 : 1024 < f.length
    · rw [if_pos h2] at h; omega
    · rw [if_neg h2] at h
      by_cases h3 : f.any fBad = true
      · rw [if_pos h3] at h; omega
      · rw [if_neg h3] at h
        by_cases h4 : usedN f = 0
        · rw [if_pos h4] at h; omega
        · rw [if_neg h4] at h
          by_cases h5 : 2 ^ limit.toNat < usedN f
          · rw [if_pos h5] at h; omega
          · refine ⟨by omega, by omega, by omega, fun x hx => ?_, by omega, by omega⟩
            have h3' : f.any fBad = false := by simpa using h3
            have := List.any_eq_false.1 h3' x hx
            simp only [fBad, decide_eq_true_eq] at this
            omega
theorem lensP_length {f : List Int} {limit : Int} : (lensP f limit).length = f.length := by
  unfold lensP
  split
  · unfold oneLens; rw [List.length_set, zeros_length]
  · unfold lensOf
    split
    · rw [layTo_length, zeros_length]
    · rw [bumpAll_length, zeros_length]
theorem p_Lengths (A : Option Addr) (c : Nat) (f : List Int) (limit : Int) (w : World) (h : ReadsI w A f) (hl : f.length ≤ 1000000000) :
    Calls Try.prog 13 #[.slice A f.length c, .int .i64 limit] w (LenPost w f limit) := by
  by_cases hc : chkPm f limit = 0
  · obtain ⟨h1, h2, h3, h4, h5, h6⟩ := chkPm_ok hc
    by_cases hu : usedN f = 1
    · obtain ⟨x, hx⟩ : ∃ x, coinKeys 0 f = [x] := List.length_eq_one_iff.1 (by rw [coinKeys_length, hu])
      refine (p_Lengths_one A c f limit w h h3 hc x hx).mono ?_
      rintro e w' ⟨b, rfl, hb, hwb, hbl⟩
      exact ⟨hbl, .inr ⟨hc, b, rfl, by unfold lensP; rw [if_pos hu, hx]; exact hb, hwb⟩⟩
    · refine (p_Lengths_many A c f limit w h h3 hc (by omega) (sortK (coinKeys 0 f)) (fun l hl => by rw [stable_keys l (by rw [hl]; exact coinKeys_inc 0 f), hl]) (sortK_perm _) ⟨h1, h2⟩ (fun x hx => (h4 x hx).2) h6).mono ?_
      rintro e w' ⟨b, rfl, hb, hwb, hbl⟩
      exact ⟨hbl, .inr ⟨hc, b, rfl, by unfold lensP; rw [if_neg hu]; exact hb, hwb⟩⟩
  · refine (p_Lengths_err A c f limit w h hl hc).mono ?_
    rintro e w' ⟨rfl, rfl⟩
    exact ⟨Below.refl _ _, .inl ⟨hc, rfl⟩⟩

end Go.Proofs.Ytoefkkgnabjmdaa
