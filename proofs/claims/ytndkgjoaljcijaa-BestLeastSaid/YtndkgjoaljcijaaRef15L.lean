/- Chapter 15 (slots), the reference's side, Len: what its functions give, by walks. -/
import Derived.Test.YtndkgjoaljcijaaLib
import Derived.Test.YtndkgjoaljcijaaPlain15
set_option linter.unusedSimpArgs false
set_option linter.unusedVariables false
set_option maxRecDepth 100000
namespace Go.Proofs.Ytndkgjoaljcijaa
open Go.RowKit

theorem r_extraLen (s : Nat) (hs : s < 1000) (w : World) :
    Calls Try.prog 52 #[.int .i64 s] w fun e w' => e = .returned (.int .i64 (lenBits s)) ∧ w = w' := by
  by_cases h1 : s < 8
  · go_enter Try.func52, Try.ntmps52
    go_wp2
    go_ret
    exact ⟨ret_int (by unfold lenBits; rw [if_pos (by omega)]; rfl), rfl⟩
  · by_cases h2 : s = 28
    · subst h2
      go_enter Try.func52, Try.ntmps52
      go_wp2
      go_ret
      exact ⟨ret_int (by rfl), rfl⟩
    · have h2b : ((s : Int) == 28) = false := by rw [beq_eq_false_iff_ne]; omega
      go_enter Try.func52, Try.ntmps52
      go_wp2
      go_ret
      exact ⟨ret_int (by unfold lenBits; rw [if_neg (by omega)]; omega), rfl⟩

theorem r_baseLen (s : Nat) (hs : s ≤ 29) (w : World) :
    Calls Try.prog 51 #[.int .i64 s] w fun e w' => e = .returned (.int .i64 (lenBase s)) ∧ w = w' := by
  go_enter Try.func51, Try.ntmps51
  go_wp2
  go_loop [3, 4] (fun x i => ∃ k : Nat, k ≤ s ∧ i = .int .i64 k ∧ x = .int .i64 (lenBase k)) (fun _ i => s - (intOf i).toNat)
  case atStart => exact ⟨0, Nat.zero_le _, rfl, rfl⟩
  case round =>
    obtain ⟨k, hk, rfl, rfl⟩ := hrel
    by_cases hks : k < s
    · have hbk : lenBits k ≤ 24 := by have := lenBits_le k (by omega); omega
      have hb0 : lenBase k ≤ 259 := lenBase_hi k (by omega)
      have hb1 : lenBase (k + 1) ≤ 259 := lenBase_hi (k + 1) (by omega)
      have hw : wrap64 ((2 : Int) ^ lenBits k) = (lenBase (k + 1) : Int) - lenBase k := by
        have : (2 : Int) ^ lenBits k = ((2 ^ lenBits k : Nat) : Int) := by simp
        have h24 : 2 ^ lenBits k ≤ 2 ^ 24 := Nat.pow_le_pow_right (by decide) hbk
        rw [this]
        generalize hg : 2 ^ lenBits k = p at *
        simp only [lenBase, slotBase, hg]; unfold wrap64; omega
      go_wp2_with fail
      refine (r_extraLen k (by omega) _).mono ?_
      rintro e w' ⟨rfl, rfl⟩
      go_wp2_with fail
      go_round
      case rel => exact ⟨k + 1, by omega, by go_num, by congr 1; omega⟩
      case measure => simp [intOf]; omega
    · obtain rfl : k = s := by omega
      go_wp2
      go_ret
      exact ⟨rfl, rfl⟩

theorem r_Len (n : Int) (w : World) :
    Calls Try.prog 39 #[.int .i64 n] w fun e w' => e = .returned (.tuple #[.int .i64 (lenS n), .int .i64 (lenX n), .int .i64 (lenM n), .int .i64 (lenE n)]) ∧ w = w' := by
  by_cases h : lenOk n
  · have HS := Lib.hid (show lenS n = (lenSlot n : Int) from if_pos h)
    have HX := Lib.hid (show lenX n = (lenBits (lenSlot n) : Int) from if_pos h)
    have HM := Lib.hid (show lenM n = n - (lenBase (lenSlot n) : Int) from if_pos h)
    have HE := Lib.hid (show lenE n = 0 from if_pos h)
    obtain ⟨h1, h2, h3⟩ := lenSlot_spec n h
    obtain ⟨ha, hb⟩ := h
    go_enter Try.func39, Try.ntmps39
    go_wp2_with fail
    go_loop [6] (fun i => ∃ k : Nat, lenSlot n ≤ k ∧ k ≤ 28 ∧ i = .int .i64 k) (fun i => (intOf i).toNat)
    case atStart => exact ⟨28, h3, Nat.le_refl _, rfl⟩
    case round =>
      obtain ⟨k, hk1, hk2, rfl⟩ := hrel
      have hb0 : lenBase k ≤ 259 := lenBase_hi k (by omega)
      by_cases hks : lenSlot n = k
      · obtain rfl := hks
        go_wp2_with fail
        refine (r_baseLen (lenSlot n) (by omega) _).mono ?_
        rintro e w' ⟨rfl, rfl⟩
        go_wp2_with fail
        refine (r_extraLen (lenSlot n) (by omega) _).mono ?_
        rintro e w' ⟨rfl, rfl⟩
        go_wp2_with fail
        refine (r_baseLen (lenSlot n) (by omega) _).mono ?_
        rintro e w' ⟨rfl, rfl⟩
        go_wp2
        refine bodyPost_ret (results_tmp4 rfl _ _ _) rfl ?_
        rw [HS.out, HX.out, HM.out, HE.out]
        exact ⟨rfl, rfl⟩
      · have hgt : n < (lenBase k : Int) := by
          have := slotBase_mono (bits := lenBits) (b := 2) (show lenSlot n + 1 ≤ k by omega)
          unfold lenBase at h2 ⊢; omega
        go_wp2_with fail
        refine (r_baseLen k (by omega) _).mono ?_
        rintro e w' ⟨rfl, rfl⟩
        go_wp2_with fail
        go_round
        case rel => exact ⟨k - 1, by omega, by omega, by congr 1; omega⟩
        case measure => simp [intOf]; omega
  · have HS := Lib.hid (show lenS n = 0 from if_neg h)
    have HX := Lib.hid (show lenX n = 0 from if_neg h)
    have HM := Lib.hid (show lenM n = 0 from if_neg h)
    have HE := Lib.hid (show lenE n = 2 from if_neg h)
    have h' : n < 2 ∨ 258 < n := by unfold lenOk at h; omega
    clear h
    rcases h' with h' | h'
    · go_enter Try.func39, Try.ntmps39
      go_wp2
      refine bodyPost_ret (results_tmp4 rfl _ _ _) rfl ?_
      rw [HS.out, HX.out, HM.out, HE.out]
      exact ⟨rfl, rfl⟩
    · have h'' : ¬ n < 2 := by omega
      go_enter Try.func39, Try.ntmps39
      go_wp2
      refine bodyPost_ret (results_tmp4 rfl _ _ _) rfl ?_
      rw [HS.out, HX.out, HM.out, HE.out]
      exact ⟨rfl, rfl⟩

end Go.Proofs.Ytndkgjoaljcijaa
