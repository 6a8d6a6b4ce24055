/- Chapter 07 (pmerge): the reference's Check: by a walk. -/
import Derived.Test.YtoefkkgnabjmdaaPm2
set_option linter.unusedSimpArgs false
set_option linter.unusedVariables false
set_option maxRecDepth 100000
namespace Go.Proofs.Ytoefkkgnabjmdaa
open Go.RowKit

set_option maxHeartbeats 1000000 in
theorem r_PmCheck (A : Option Addr) (c : Nat) (l : List Int) (limit : Int) (w : World) (h : ReadsI w A l) (hl : l.length ≤ 1000000000) :
    Calls Try.prog 14 #[.slice A l.length c, .int .i64 limit] w fun e w' => e = .returned (.int .i64 (chkPm l limit)) ∧ w = w' := by
  by_cases h1 : limit < 1
  · have HC : Hid (chkPm l limit = 1) := Lib.hid (if_pos (.inl h1))
    go_enter Try.func14, Try.ntmps14
    go_wp2
    go_ret
    exact ⟨by rw [HC.out]; rfl, rfl⟩
  · by_cases h2 : 16 < limit
    · have HC : Hid (chkPm l limit = 1) := Lib.hid (if_pos (.inr h2))
      go_enter Try.func14, Try.ntmps14
      go_wp2
      go_ret
      exact ⟨by rw [HC.out]; rfl, rfl⟩
    · have e1 : chkPm l limit = _ := if_neg (show ¬ (limit < 1 ∨ 16 < limit) by omega)
      by_cases h3 : 1024 < l.length
      · have HC : Hid (chkPm l limit = 5) := Lib.hid (e1.trans (if_pos h3))
        clear e1
        go_enter Try.func14, Try.ntmps14
        go_wp2
        go_ret
        exact ⟨by rw [HC.out]; rfl, rfl⟩
      · have E2 := Lib.hid (e1.trans (if_neg h3))
        clear e1
        go_enter Try.func14, Try.ntmps14
        go_wp2_with fail
        go_loop [5] (fun v => ∃ k : Nat, k ≤ l.length ∧ v = .int .i64 k ∧ (l.take k).any fBad = false) (fun v => l.length - (intOf v).toNat)
        case atStart => exact ⟨0, Nat.zero_le _, rfl, by simp⟩
        case round =>
          obtain ⟨k, hk, rfl, hno⟩ := hrel
          have HN := Lib.hid hno
          clear hno
          by_cases hkl : k < l.length
          · obtain ⟨ad, rfl, had, hc⟩ := h.at_ k hkl
            have HT := Lib.hid (show l.take (k + 1) = l.take k ++ [l[k]] from List.take_succ_eq_append_getElem hkl)
            have HM := Lib.hid (show l[k] ∈ l from List.getElem_mem hkl)
            generalize l[k] = z at *
            by_cases hz : z < 0
            · have HC : Hid (chkPm l limit = 2) := Lib.hid (E2.out.trans (if_pos (List.any_eq_true.2 ⟨z, HM.out, by unfold fBad; simp; omega⟩)))
              go_wp2
              go_ret
              exact ⟨by rw [HC.out]; rfl, rfl⟩
            · by_cases hz2 : 4294967295 < z
              · have HC : Hid (chkPm l limit = 2) := Lib.hid (E2.out.trans (if_pos (List.any_eq_true.2 ⟨z, HM.out, by unfold fBad; simp; omega⟩)))
                go_wp2
                go_ret
                exact ⟨by rw [HC.out]; rfl, rfl⟩
              · have HB : Hid (fBad z = false) := Lib.hid (by unfold fBad; simp; omega)
                go_wp2
                go_round
                case rel => exact ⟨k + 1, by omega, by go_num, by rw [HT.out, List.any_append, HN.out]; simp [HB.out]⟩
                case measure => simp [intOf]; omega
          · obtain rfl : k = l.length := by omega
            have hn := HN.out
            rw [List.take_length] at hn
            have E3 := Lib.hid (E2.out.trans (if_neg (by rw [hn]; simp)))
            clear hn E2 HN
            go_wp2_with fail
            refine (r_Used A c l w h hl).mono ?_
            rintro e w' ⟨rfl, rfl⟩
            have hu := usedN_le l
            generalize usedN l = u at *
            by_cases h5 : u = 0
            · have HC : Hid (chkPm l limit = 7) := Lib.hid (E3.out.trans (if_pos h5))
              subst h5
              go_wp2
              go_ret
              exact ⟨by rw [HC.out]; rfl, rfl⟩
            · have E4 := Lib.hid (E3.out.trans (if_neg h5))
              have hb : ((u : Int) == 0) = false := by rw [beq_eq_false_iff_ne]; omega
              obtain ⟨m, rfl⟩ := Int.eq_ofNat_of_zero_le (show 0 ≤ limit by omega)
              have hp : (2 : Nat) ^ m ≤ 2 ^ 16 := Nat.pow_le_pow_right (by decide) (by omega)
              have hp0 : 0 < (2 : Nat) ^ m := Nat.pow_pos (by decide)
              have hw : wrap64 ((2 : Int) ^ m) = ((2 ^ m : Nat) : Int) := by
                have : (2 : Int) ^ m = ((2 ^ m : Nat) : Int) := by simp
                rw [this]
                unfold wrap64; omega
              have E5 : Hid (chkPm l (m : Int) = if 2 ^ m < u then 6 else 0) := Lib.hid E4.out
              clear E4 E3 h5
              generalize 2 ^ m = P at *
              by_cases h6 : P < u
              · have HC : Hid (chkPm l (m : Int) = 6) := Lib.hid (E5.out.trans (if_pos h6))
                go_wp2
                go_ret
                exact ⟨by rw [HC.out]; rfl, rfl⟩
              · have HC : Hid (chkPm l (m : Int) = 0) := Lib.hid (E5.out.trans (if_neg h6))
                go_wp2
                go_ret
                exact ⟨by rw [HC.out]; rfl, rfl⟩

end Go.Proofs.Ytoefkkgnabjmdaa
