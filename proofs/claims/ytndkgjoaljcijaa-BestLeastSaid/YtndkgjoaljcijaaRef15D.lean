/- Chapter 15 (slots), the reference's side, Dist: what its functions give, by walks. -/
import Derived.Test.YtndkgjoaljcijaaLib
import Derived.Test.YtndkgjoaljcijaaPlain15
set_option linter.unusedSimpArgs false
set_option linter.unusedVariables false
set_option maxRecDepth 100000
namespace Go.Proofs.Ytndkgjoaljcijaa
open Go.RowKit

theorem r_extraDist (s : Nat) (hs : s < 1000) (w : World) :
    Calls Try.prog 54 #[.int .i64 s] w fun e w' => e = .returned (.int .i64 (distBits s)) ∧ w = w' := by
  by_cases h1 : s < 4
  · go_enter Try.func54, Try.ntmps54
    go_wp2
    go_ret
    exact ⟨ret_int (by unfold distBits; rw [if_pos (by omega)]; rfl), rfl⟩
  · go_enter Try.func54, Try.ntmps54
    go_wp2
    go_ret
    exact ⟨ret_int (by unfold distBits; rw [if_neg (by omega)]; omega), rfl⟩

theorem r_baseDist (s : Nat) (hs : s ≤ 52) (w : World) :
    Calls Try.prog 53 #[.int .i64 s] w fun e w' => e = .returned (.int .i64 (distBase s)) ∧ w = w' := by
  go_enter Try.func53, Try.ntmps53
  go_wp2
  go_loop [3, 4] (fun x i => ∃ k : Nat, k ≤ s ∧ i = .int .i64 k ∧ x = .int .i64 (distBase k)) (fun _ i => s - (intOf i).toNat)
  case atStart => exact ⟨0, Nat.zero_le _, rfl, rfl⟩
  case round =>
    obtain ⟨k, hk, rfl, rfl⟩ := hrel
    by_cases hks : k < s
    · have hbk : distBits k ≤ 24 := by have := distBits_le k (by omega); omega
      have hb0 : distBase k ≤ 67108865 := distBase_hi k (by omega)
      have hb1 : distBase (k + 1) ≤ 67108865 := distBase_hi (k + 1) (by omega)
      have hw : wrap64 ((2 : Int) ^ distBits k) = (distBase (k + 1) : Int) - distBase k := by
        have : (2 : Int) ^ distBits k = ((2 ^ distBits k : Nat) : Int) := by simp
        have h24 : 2 ^ distBits k ≤ 2 ^ 24 := Nat.pow_le_pow_right (by decide) hbk
        rw [this]
        generalize hg : 2 ^ distBits k = p at *
        simp only [distBase, slotBase, hg]; unfold wrap64; omega
      go_wp2_with fail
      refine (r_extraDist k (by omega) _).mono ?_
      rintro e w' ⟨rfl, rfl⟩
      go_wp2_with fail
      go_round
      case rel => exact ⟨k + 1, by omega, by go_num, by congr 1; omega⟩
      case measure => simp [intOf]; omega
    · obtain rfl : k = s := by omega
      go_wp2
      go_ret
      exact ⟨rfl, rfl⟩

theorem r_Dist (n : Int) (w : World) :
    Calls Try.prog 40 #[.int .i64 n] w fun e w' => e = .returned (.tuple #[.int .i64 (distS n), .int .i64 (distX n), .int .i64 (distM n), .int .i64 (distE n)]) ∧ w = w' := by
  by_cases h : distOk n
  · have HS := Lib.hid (show distS n = (distSlot n : Int) from if_pos h)
    have HX := Lib.hid (show distX n = (distBits (distSlot n) : Int) from if_pos h)
    have HM := Lib.hid (show distM n = n - (distBase (distSlot n) : Int) from if_pos h)
    have HE := Lib.hid (show distE n = 0 from if_pos h)
    obtain ⟨h1, h2, h3⟩ := distSlot_spec n h
    obtain ⟨ha, hb⟩ := h
    go_enter Try.func40, Try.ntmps40
    go_wp2_with fail
    go_loop [6] (fun i => ∃ k : Nat, distSlot n ≤ k ∧ k ≤ 51 ∧ i = .int .i64 k) (fun i => (intOf i).toNat)
    case atStart => exact ⟨51, h3, Nat.le_refl _, rfl⟩
    case round =>
      obtain ⟨k, hk1, hk2, rfl⟩ := hrel
      have hb0 : distBase k ≤ 67108865 := distBase_hi k (by omega)
      by_cases hks : distSlot n = k
      · obtain rfl := hks
        go_wp2_with fail
        refine (r_baseDist (distSlot n) (by omega) _).mono ?_
        rintro e w' ⟨rfl, rfl⟩
        go_wp2_with fail
        refine (r_extraDist (distSlot n) (by omega) _).mono ?_
        rintro e w' ⟨rfl, rfl⟩
        go_wp2_with fail
        refine (r_baseDist (distSlot n) (by omega) _).mono ?_
        rintro e w' ⟨rfl, rfl⟩
        go_wp2
        refine bodyPost_ret (results_tmp4 rfl _ _ _) rfl ?_
        rw [HS.out, HX.out, HM.out, HE.out]
        exact ⟨rfl, rfl⟩
      · have hgt : n < (distBase k : Int) := by
          have := slotBase_mono (bits := distBits) (b := 1) (show distSlot n + 1 ≤ k by omega)
          unfold distBase at h2 ⊢; omega
        go_wp2_with fail
        refine (r_baseDist k (by omega) _).mono ?_
        rintro e w' ⟨rfl, rfl⟩
        go_wp2_with fail
        go_round
        case rel => exact ⟨k - 1, by omega, by omega, by congr 1; omega⟩
        case measure => simp [intOf]; omega
  · have HS := Lib.hid (show distS n = 0 from if_neg h)
    have HX := Lib.hid (show distX n = 0 from if_neg h)
    have HM := Lib.hid (show distM n = 0 from if_neg h)
    have HE := Lib.hid (show distE n = 2 from if_neg h)
    have h' : n < 1 ∨ 67108864 < n := by unfold distOk at h; omega
    clear h
    rcases h' with h' | h'
    · go_enter Try.func40, Try.ntmps40
      go_wp2
      refine bodyPost_ret (results_tmp4 rfl _ _ _) rfl ?_
      rw [HS.out, HX.out, HM.out, HE.out]
      exact ⟨rfl, rfl⟩
    · have h'' : ¬ n < 1 := by omega
      go_enter Try.func40, Try.ntmps40
      go_wp2
      refine bodyPost_ret (results_tmp4 rfl _ _ _) rfl ?_
      rw [HS.out, HX.out, HM.out, HE.out]
      exact ⟨rfl, rfl⟩

end Go.Proofs.Ytndkgjoaljcijaa
