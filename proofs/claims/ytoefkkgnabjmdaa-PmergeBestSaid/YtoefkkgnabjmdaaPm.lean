/- Chapter 07 (pmerge): what it asks of its input: by walks. -/
import Derived.Test.YtoefkkgnabjmdaaIdxF
set_option linter.unusedSimpArgs false
set_option linter.unusedVariables false
set_option maxRecDepth 100000
namespace Go.Proofs.Ytoefkkgnabjmdaa
open Go.RowKit

def fBad (z : Int) : Bool := decide (z < 0 ∨ 4294967295 < z)
def usedN (l : List Int) : Nat := l.countP (fun z => decide (0 < z))
def chkPm (f : List Int) (limit : Int) : Int :=
  if limit < 1 ∨ 16 < limit then 1 else if 1024 < f.length then 5 else if f.any fBad = true then 2 else if usedN f = 0 then 7 else if 2 ^ limit.toNat < usedN f then 6 else 0
theorem usedN_le (l : List Int) : usedN l ≤ l.length := List.countP_le_length

theorem p_fBad (z : Int) (w : World) : Calls Try.prog 69 #[.int .i64 z] w fun e w' => e = .returned (.bool (fBad z)) ∧ w = w' := by
  by_cases h : z < 0
  · have HB : Hid (fBad z = true) := Lib.hid (by unfold fBad; simp [h])
    go_enter Try.func69, Try.ntmps69
    go_wp2
    go_ret
    exact ⟨by rw [HB.out]; rfl, rfl⟩
  · have HB := Lib.hid (show fBad z = decide (4294967295 < z) by unfold fBad; simp; omega)
    go_enter Try.func69, Try.ntmps69
    go_wp2
    go_ret
    exact ⟨by rw [HB.out]; first | rfl | simp, rfl⟩
theorem enters_fBad : Enters 69 := fun _ _ => by kernel_rfl

theorem p_Used (A : Option Addr) (c : Nat) (l : List Int) (w : World) (h : ReadsI w A l) (hl : l.length ≤ 1000000000) :
    Calls Try.prog 70 #[.slice A l.length c] w fun e w' => e = .returned (.int .i64 (usedN l)) ∧ w = w' := by
  go_enter Try.func70, Try.ntmps70
  go_wp2
  go_loop [3, 8] (fun x v => ∃ k : Nat, k ≤ l.length ∧ v = .int .i64 k ∧ x = .int .i64 (usedN (l.take k))) (fun _ v => l.length - (intOf v).toNat)
  case atStart => exact ⟨0, Nat.zero_le _, rfl, rfl⟩
  case round =>
    obtain ⟨k, hk, rfl, rfl⟩ := hrel
    by_cases hkl : k < l.length
    · obtain ⟨ad, rfl, had, hc⟩ := h.at_ k hkl
      have HT := Lib.hid (show usedN (l.take (k + 1)) = usedN (l.take k) + (if 0 < l[k] then 1 else 0) by
        rw [List.take_succ_eq_append_getElem hkl]; unfold usedN; rw [List.countP_append]; simp [List.countP_cons])
      have hu : usedN (l.take k) ≤ 1000000000 := Nat.le_trans (usedN_le _) (by rw [List.length_take]; omega)
      generalize l[k] = z at *
      generalize usedN (l.take k) = S at *
      by_cases hz : 0 < z
      · have HZ := Lib.hid hz
        go_wp2
        go_round
        case rel => exact ⟨k + 1, by omega, by go_num, by rw [HT.out, if_pos HZ.out]; go_num⟩
        case measure => simp [intOf]; omega
      · have HZ := Lib.hid hz
        go_wp2
        go_round
        case rel => exact ⟨k + 1, by omega, by go_num, by rw [HT.out, if_neg HZ.out]; rfl⟩
        case measure => simp [intOf]; omega
    · obtain rfl : k = l.length := by omega
      rw [List.take_length] at *
      go_wp2
      go_ret
      exact ⟨rfl, rfl⟩

theorem p_PmCheck (A : Option Addr) (c : Nat) (l : List Int) (limit : Int) (w : World) (h : ReadsI w A l) (hl : l.length ≤ 1000000000) :
    Calls Try.prog 39 #[.slice A l.length c, .int .i64 limit] w fun e w' => e = .returned (.int .i64 (chkPm l limit)) ∧ w = w' := by
  by_cases h1 : limit < 1
  · have HC : Hid (chkPm l limit = 1) := Lib.hid (if_pos (.inl h1))
    go_enter Try.func39, Try.ntmps39
    go_wp2
    go_ret
    exact ⟨by rw [HC.out]; rfl, rfl⟩
  · by_cases h2 : 16 < limit
    · have HC : Hid (chkPm l limit = 1) := Lib.hid (if_pos (.inr h2))
      go_enter Try.func39, Try.ntmps39
      go_wp2
      go_ret
      exact ⟨by rw [HC.out]; rfl, rfl⟩
    · have e1 : chkPm l limit = _ := if_neg (show ¬ (limit < 1 ∨ 16 < limit) by omega)
      by_cases h3 : 1024 < l.length
      · have HC : Hid (chkPm l limit = 5) := Lib.hid (e1.trans (if_pos h3))
        clear e1
        go_enter Try.func39, Try.ntmps39
        go_wp2
        go_ret
        exact ⟨by rw [HC.out]; rfl, rfl⟩
      · have E2 := Lib.hid (e1.trans (if_neg h3))
        have hent := enters_fBad #[] w
        clear e1
        go_enter Try.func39, Try.ntmps39
        go_wp2_with fail
        refine (any_has _ fBad enters_fBad p_fBad A c l w h hl).mono ?_
        rintro e w' ⟨rfl, rfl⟩
        by_cases h4 : l.any fBad = true
        · have HC : Hid (chkPm l limit = 2) := Lib.hid (E2.out.trans (if_pos h4))
          rw [h4]
          clear h4
          go_wp2
          go_ret
          exact ⟨by rw [HC.out]; rfl, rfl⟩
        · have E3 := Lib.hid (E2.out.trans (if_neg h4))
          have h4' : l.any fBad = false := by simpa using h4
          rw [h4']
          clear h4 h4' E2
          go_wp2_with fail
          refine (p_Used A c l w h hl).mono ?_
          rintro e w' ⟨rfl, rfl⟩
          have hu := usedN_le l
          have HU := Lib.hid (show usedN l = usedN l from rfl)
          generalize usedN l = u at *
          by_cases h5 : u = 0
          · have HC : Hid (chkPm l limit = 7) := Lib.hid (E3.out.trans (if_pos h5))
            subst h5
            go_wp2
            go_ret
            exact ⟨by rw [HC.out]; rfl, rfl⟩
          · have E4 := Lib.hid (E3.out.trans (if_neg h5))
            have hb : ((u : Int) == 0) = false := by rw [beq_eq_false_iff_ne]; omega
            obtain ⟨m, rfl⟩ := Int.eq_ofNat_of_zero_le (show 0 ≤ limit by omega)
            have hp : (2 : Nat) ^ m ≤ 2 ^ 16 := Nat.pow_le_pow_right (by decide) (by omega)
            have hp0 : 0 < (2 : Nat) ^ m := Nat.pow_pos (by decide)
            have hw : wrap64 ((2 : Int) ^ m) = ((2 ^ m : Nat) : Int) := by
              have : (2 : Int) ^ m = ((2 ^ m : Nat) : Int) := by simp
              rw [this]
              unfold wrap64; omega
            have E5 : Hid (chkPm l (m : Int) = if 2 ^ m < u then 6 else 0) := Lib.hid E4.out
            clear E4 E3 h5
            generalize 2 ^ m = P at *
            by_cases h6 : P < u
            · have HC : Hid (chkPm l (m : Int) = 6) := Lib.hid (E5.out.trans (if_pos h6))
              go_wp2
              go_ret
              exact ⟨by rw [HC.out]; rfl, rfl⟩
            · have HC : Hid (chkPm l (m : Int) = 0) := Lib.hid (E5.out.trans (if_neg h6))
              go_wp2
              go_ret
              exact ⟨by rw [HC.out]; rfl, rfl⟩

end Go.Proofs.Ytoefkkgnabjmdaa
