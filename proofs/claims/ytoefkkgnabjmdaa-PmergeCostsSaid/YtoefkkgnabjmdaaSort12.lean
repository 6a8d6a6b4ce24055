/- The library's stable sort of packs: as coins wants it. -/
import Derived.Test.YtoefkkgnabjmdaaSort11
import Derived.Test.YtoefkkgnabjmdaaSort1
set_option linter.unusedSimpArgs false
set_option linter.unusedVariables false
set_option maxRecDepth 100000
namespace Go.Proofs.Ytoefkkgnabjmdaa
open Go.RowKit

theorem rows20_length (n : Nat) : ∀ (f a : Nat) (l : List Pe), (rows20 n f a l).length = l.length
  | 0, _, _ => rfl
  | f + 1, a, l => by
    unfold rows20
    split
    · rw [rows20_length n f, insertion_length]
    · exact insertion_length _ _ _
theorem mergeRow_length (n k : Nat) : ∀ (f a : Nat) (l : List Pe), (mergeRow n k f a l).length = l.length
  | 0, _, _ => rfl
  | f + 1, a, l => by
    unfold mergeRow
    split
    · rw [mergeRow_length n k f, symMerge_length]
    · split
      · exact symMerge_length _ _ _ _
      · rfl
theorem mergeAll_length (n : Nat) : ∀ (f k : Nat) (l : List Pe), (mergeAll n f k l).length = l.length
  | 0, _, _ => rfl
  | f + 1, k, l => by
    unfold mergeAll
    split
    · rw [mergeAll_length n f, mergeRow_length]
    · rfl
theorem stableL_length (l : List Pe) : (stableL l).length = l.length := by unfold stableL; rw [mergeAll_length, rows20_length]

theorem sorts_stable (N : Nat) (hN : N ≤ 1000000) : Sorts stableL N := by
  intro w base A c l hl hrow hb
  obtain ⟨_, h1⟩ := id hrow.row
  rcases h1 with ⟨h1, h0⟩ | ⟨g, o, cap, cur, m, hv, _⟩
  · obtain rfl : l = [] := List.length_eq_zero_iff.1 h0
    have e : stableL [] = [] := List.length_eq_zero_iff.1 (stableL_length [])
    have hq := sorts1 w base A c [] (by simp) hrow hb
    rw [e]
    exact hq
  · simp only [Value.slice.injEq] at hv
    obtain ⟨rfl, _, rfl⟩ := hv
    have hq := p_stable base g o c l.length l (by omega) w hrow
    go_enter Try.func71, Try.ntmps71
    go_wp2_with fail
    refine hq.mono ?_
    rintro e w' ⟨rfl, hr2, hg2⟩
    clear hq
    go_wp2
    go_end0
    exact ⟨rfl, hr2, hg2⟩

end Go.Proofs.Ytoefkkgnabjmdaa
