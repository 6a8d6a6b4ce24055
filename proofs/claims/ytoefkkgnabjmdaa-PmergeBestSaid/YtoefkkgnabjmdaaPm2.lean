/- Chapter 07 (pmerge): the comparison of packs, and the reference's Used and Ints: by walks. -/
import Derived.Test.YtoefkkgnabjmdaaSort2
set_option linter.unusedSimpArgs false
set_option linter.unusedVariables false
set_option maxRecDepth 100000
namespace Go.Proofs.Ytoefkkgnabjmdaa
open Go.RowKit

theorem p_less (x y : Int) (v u : Value) (w : World) : Calls Try.prog 42 #[.agg #[.int .i64 x, v], .agg #[.int .i64 y, u]] w fun e w' => e = .returned (.bool (decide (x < y))) ∧ Below w.heap.size w w' := by
  go_enter Try.func42, Try.ntmps42
  go_wp2
  all_goals
    go_ret
    refine ⟨?_, bl_alloc (bl_alloc (Below.refl _ _) _) _⟩
    first | rfl | simp_all
theorem enters_less : Enters 42 := fun _ _ => by kernel_rfl

theorem r_Used (A : Option Addr) (c : Nat) (l : List Int) (w : World) (h : ReadsI w A l) (hl : l.length ≤ 1000000000) :
    Calls Try.prog 45 #[.slice A l.length c] w fun e w' => e = .returned (.int .i64 (usedN l)) ∧ w = w' := by
  go_enter Try.func45, Try.ntmps45
  go_wp2
  go_loop [3, 4] (fun x v => ∃ k : Nat, k ≤ l.length ∧ v = .int .i64 k ∧ x = .int .i64 (usedN (l.take k))) (fun _ v => l.length - (intOf v).toNat)
  case atStart => exact ⟨0, Nat.zero_le _, rfl, rfl⟩
  case round =>
    obtain ⟨k, hk, rfl, rfl⟩ := hrel
    by_cases hkl : k < l.length
    · obtain ⟨ad, rfl, had, hc⟩ := h.at_ k hkl
      have HT := Lib.hid (show usedN (l.take (k + 1)) = usedN (l.take k) + (if 0 < l[k] then 1 else 0) by
        rw [List.take_succ_eq_append_getElem hkl]; unfold usedN; rw [List.countP_append]; simp [List.countP_cons])
      have hu : usedN (l.take k) ≤ 1000000000 := Nat.le_trans (usedN_le _) (by rw [List.length_take]; omega)
      generalize l[k] = z at *
      generalize usedN (l.take k) = S at *
      by_cases hz : 0 < z
      · have HZ := Lib.hid hz
        go_wp2
        go_round
        case rel => exact ⟨k + 1, by omega, by go_num, by rw [HT.out, if_pos HZ.out]; go_num⟩
        case measure => simp [intOf]; omega
      · have HZ := Lib.hid hz
        go_wp2
        go_round
        case rel => exact ⟨k + 1, by omega, by go_num, by rw [HT.out, if_neg HZ.out]; rfl⟩
        case measure => simp [intOf]; omega
    · obtain rfl : k = l.length := by omega
      rw [List.take_length] at *
      go_wp2
      go_ret
      exact ⟨rfl, rfl⟩

end Go.Proofs.Ytoefkkgnabjmdaa
