/- The reference of chapter 06 (kraft): Sum and Check: by walks. -/
import Derived.Test.YtoefkkgnabjmdaaPm2
set_option linter.unusedSimpArgs false
set_option linter.unusedVariables false
set_option maxRecDepth 100000
namespace Go.Proofs.Ytoefkkgnabjmdaa
open Go.RowKit

def krT (limit x : Int) : Nat := if 1 ≤ x ∧ x ≤ limit then 2 ^ (limit - x).toNat else 0
def krS (limit : Int) : List Int → Nat
  | [] => 0
  | x :: r => krT limit x + krS limit r
theorem krS_append (limit : Int) : ∀ a b, krS limit (a ++ b) = krS limit a + krS limit b
  | [], b => by simp [krS]
  | x :: a, b => by simp only [List.cons_append, krS, krS_append limit a b]; omega
theorem krT_le (limit x : Int) (h : limit ≤ 16) : krT limit x ≤ 32768 := by
  unfold krT
  split
  · have : 2 ^ (limit - x).toNat ≤ 2 ^ 15 := Nat.pow_le_pow_right (by decide) (by omega)
    omega
  · omega
theorem krS_le (limit : Int) (h : limit ≤ 16) : ∀ l, krS limit l ≤ 32768 * l.length
  | [] => by simp [krS]
  | x :: l => by have := krS_le limit h l; have := krT_le limit x h; simp only [krS, List.length_cons]; omega
set_option maxHeartbeats 2000000 in
theorem r_Sum06 (A : Option Addr) (c : Nat) (l : List Int) (limit : Int) (w : World) (h : ReadsI w A l) (hl : l.length ≤ 1000000) (h1 : 1 ≤ limit) (h2 : limit ≤ 16) :
    Calls Try.prog 76 #[.slice A l.length c, .int .i64 limit] w fun e w' => e = .returned (.int .i64 (krS limit l)) ∧ w = w' := by
  have hb1 : decide (limit < 1) = false := by simp; omega
  go_enter Try.func76, Try.ntmps76
  go_wp2
  go_loop [5, 6] (fun x v => ∃ k : Nat, k ≤ l.length ∧ v = .int .i64 k ∧ x = .int .i64 (krS limit (l.take k) : Nat)) (fun _ v => l.length - (intOf v).toNat)
  case atStart => exact ⟨0, Nat.zero_le _, rfl, rfl⟩
  case round =>
    obtain ⟨k, hk, rfl, rfl⟩ := hrel
    by_cases hkl : k < l.length
    · obtain ⟨ad, rfl, had, hc⟩ := h.at_ k hkl
      have HT := Lib.hid (show krS limit (l.take (k + 1)) = krS limit (l.take k) + krT limit l[k] by
        rw [List.take_succ_eq_append_getElem hkl, krS_append]; rfl)
      have hu : krS limit (l.take k) ≤ 32768 * 1000000 := Nat.le_trans (krS_le limit h2 _) (Nat.mul_le_mul_left _ (by rw [List.length_take]; omega))
      generalize l[k] = z at *
      generalize krS limit (l.take k) = S at *
      by_cases hz : 1 ≤ z
      · by_cases hz2 : z ≤ limit
        · have HZ : Hid (krT limit z = 2 ^ (limit - z).toNat) := Lib.hid (if_pos ⟨hz, hz2⟩)
          obtain ⟨m, hm⟩ : ∃ m : Nat, limit - z = m := ⟨(limit - z).toNat, by omega⟩
          have hp : (2 : Nat) ^ m ≤ 2 ^ 15 := Nat.pow_le_pow_right (by decide) (by omega)
          have hp0 : 0 < (2 : Nat) ^ m := Nat.pow_pos (by decide)
          have hw : wrap64 ((2 : Int) ^ m) = ((2 ^ m : Nat) : Int) := by
            have : (2 : Int) ^ m = ((2 ^ m : Nat) : Int) := by simp
            rw [this]
            unfold wrap64; omega
          have hw2 : IntKind.i64.wrap (limit - z) = m := by rw [hm]; exact Go.IntWalk.i64_in _ (by omega)
          have HM := Lib.hid hm
          go_wp2
          go_round
          case rel =>
            refine ⟨k + 1, by omega, by go_num, ?_⟩
            rw [HT.out, HZ.out, HM.out]
            refine congrArg (Value.int .i64) ?_
            have e : (2 : Int) ^ m = ((2 ^ m : Nat) : Int) := by simp
            rw [e, Int.toNat_natCast]
            clear hw hw2 e h
            generalize 2 ^ m = P at *
            unfold wrap64
            omega
          case measure => simp [intOf]; omega
        · have HZ : Hid (krT limit z = 0) := Lib.hid (if_neg (fun h => hz2 h.2))
          have hz3 : decide (z ≤ limit) = false := by simp; omega
          go_wp2
          go_round
          case rel => exact ⟨k + 1, by omega, by go_num, by rw [HT.out, HZ.out, Nat.add_zero]⟩
          case measure => simp [intOf]; omega
      · have HZ : Hid (krT limit z = 0) := Lib.hid (if_neg (fun h => hz h.1))
        have hz3 : decide (1 ≤ z) = false := by simp; omega
        go_wp2
        go_round
        case rel => exact ⟨k + 1, by omega, by go_num, by rw [HT.out, HZ.out, Nat.add_zero]⟩
        case measure => simp [intOf]; omega
    · obtain rfl : k = l.length := by omega
      rw [List.take_length] at *
      go_wp2
      go_ret
      exact ⟨rfl, rfl⟩

def lBad (limit z : Int) : Bool := decide (z < 0 ∨ limit < z)
/-- Why lengths may not be. -/
def chk06 (l : List Int) (limit : Int) : Int :=
  if limit < 1 ∨ 16 < limit then 1 else if 1024 < l.length then 5 else if l.any (lBad limit) = true then 2 else if usedN l = 0 then 7
  else if usedN l = 1 ∧ krS limit l ≠ 2 ^ limit.toNat / 2 then 6 else if 1 < usedN l ∧ krS limit l ≠ 2 ^ limit.toNat then 6 else 0

set_option maxHeartbeats 4000000 in
theorem r_Check06 (A : Option Addr) (c : Nat) (l : List Int) (limit : Int) (w : World) (h : ReadsI w A l) (hl : l.length ≤ 1000000) :
    Calls Try.prog 46 #[.slice A l.length c, .int .i64 limit] w fun e w' => e = .returned (.int .i64 (chk06 l limit)) ∧ w = w' := by
  by_cases h1 : limit < 1
  · have HC : Hid (chk06 l limit = 1) := Lib.hid (if_pos (.inl h1))
    go_enter Try.func46, Try.ntmps46
    go_wp2
    go_ret
    exact ⟨by rw [HC.out]; rfl, rfl⟩
  · have d1 : decide (limit < 1) = false := by simp; omega
    by_cases h2 : 16 < limit
    · have HC : Hid (chk06 l limit = 1) := Lib.hid (if_pos (.inr h2))
      go_enter Try.func46, Try.ntmps46
      go_wp2
      go_ret
      exact ⟨by rw [HC.out]; rfl, rfl⟩
    · have d2 : decide (16 < limit) = false := by simp; omega
      have e1 : chk06 l limit = _ := if_neg (show ¬ (limit < 1 ∨ 16 < limit) by omega)
      by_cases h3 : 1024 < l.length
      · have HC : Hid (chk06 l limit = 5) := Lib.hid (e1.trans (if_pos h3))
        clear e1
        go_enter Try.func46, Try.ntmps46
        go_wp2
        go_ret
        exact ⟨by rw [HC.out]; rfl, rfl⟩
      · have E2 := Lib.hid (e1.trans (if_neg h3))
        clear e1
        go_enter Try.func46, Try.ntmps46
        go_wp2
        go_loop [5] (fun v => ∃ k : Nat, k ≤ l.length ∧ v = .int .i64 k ∧ (l.take k).any (lBad limit) = false) (fun v => l.length - (intOf v).toNat)
        case atStart => exact ⟨0, Nat.zero_le _, rfl, rfl⟩
        case round =>
          obtain ⟨k, hk, rfl, hb⟩ := hrel
          have HB := Lib.hid hb
          clear hb
          by_cases hkl : k < l.length
          · obtain ⟨ad, rfl, had, hc⟩ := h.at_ k hkl
            have HT := Lib.hid (show (l.take (k + 1)).any (lBad limit) = ((l.take k).any (lBad limit) || lBad limit l[k]) by
              rw [List.take_succ_eq_append_getElem hkl, List.any_append]; simp)
            have HE : Hid (lBad limit l[k] = true → l.any (lBad limit) = true) := Lib.hid (fun hb => List.any_eq_true.2 ⟨_, List.getElem_mem hkl, hb⟩)
            generalize l[k] = z at *
            by_cases hz : z < 0
            · have HC : Hid (chk06 l limit = 2) := Lib.hid (E2.out.trans (if_pos (HE.out (by simp [lBad]; omega))))
              go_wp2
              go_ret
              exact ⟨by rw [HC.out]; rfl, rfl⟩
            · have d3 : decide (z < 0) = false := by simp; omega
              by_cases hz2 : limit < z
              · have HC : Hid (chk06 l limit = 2) := Lib.hid (E2.out.trans (if_pos (HE.out (by simp [lBad]; omega))))
                have d4 : decide (limit < z) = true := by simp; omega
                go_wp2
                go_ret
                exact ⟨by rw [HC.out]; rfl, rfl⟩
              · have d4 : decide (limit < z) = false := by simp; omega
                have HZ : Hid (lBad limit z = false) := Lib.hid (by simp [lBad]; omega)
                go_wp2
                go_round
                case rel => exact ⟨k + 1, by omega, by go_num, by rw [HT.out, HB.out, HZ.out]; rfl⟩
                case measure => simp [intOf]; omega
          · obtain rfl : k = l.length := by omega
            have hb := HB.out
            rw [List.take_length] at hb
            have E3 := Lib.hid (E2.out.trans (if_neg (by rw [hb]; simp)))
            obtain ⟨m, rfl⟩ := Int.eq_ofNat_of_zero_le (show 0 ≤ limit by omega)
            have hp : (2 : Nat) ^ m ≤ 2 ^ 16 := Nat.pow_le_pow_right (by decide) (by omega)
            have hp0 : 0 < (2 : Nat) ^ m := Nat.pow_pos (by decide)
            have hw : wrap64 ((2 : Int) ^ m) = ((2 ^ m : Nat) : Int) := by
              have : (2 : Int) ^ m = ((2 ^ m : Nat) : Int) := by simp
              rw [this]
              unfold wrap64; omega
            have E4 : Hid (chk06 l (m : Int) = if usedN l = 0 then 7 else if usedN l = 1 ∧ krS (m : Int) l ≠ 2 ^ m / 2 then 6 else if 1 < usedN l ∧ krS (m : Int) l ≠ 2 ^ m then 6 else 0) := Lib.hid E3.out
            have hus := usedN_le l
            have hks := krS_le (m : Int) (by omega) l
            have hS := fun w h => r_Sum06 A c l (m : Int) w h hl (by omega) (by omega)
            have HS := Lib.hid hS
            clear hb E3 E2 HB hS
            go_upto_region 10 with (fail)
            go_cut [6] (fun v6 wc => v6 = .int .i64 ((2 ^ m : Nat) : Int) ∧ wc = w)
            case first =>
              go_wp2
              go_meet
              case rel => exact ⟨congrArg (Value.int .i64) (by simp), rfl⟩
            obtain ⟨rfl, rfl⟩ := hcut
            clear hw
            generalize hP : 2 ^ m = P at *
            have HPP := Lib.hid hP
            clear hP
            go_wp2_with fail
            refine (r_Used A c l _ h (by omega)).mono ?_
            rintro e w' ⟨rfl, rfl⟩
            generalize hU : usedN l = u at *
            have HU := Lib.hid hU
            clear hU
            by_cases h5 : u = 0
            · have HC : Hid (chk06 l (m : Int) = 7) := Lib.hid (E4.out.trans (if_pos h5))
              subst h5
              go_wp2
              go_ret
              exact ⟨by rw [HC.out]; rfl, rfl⟩
            · have hb0 : ((u : Int) == 0) = false := by rw [beq_eq_false_iff_ne]; omega
              have E5 := Lib.hid (E4.out.trans (if_neg h5))
              clear E4
              by_cases h6 : u = 1
              · subst h6
                by_cases h7 : krS (m : Int) l = P / 2
                · have HC : Hid (chk06 l (m : Int) = 0) := Lib.hid (E5.out.trans (by rw [if_neg (fun h => h.2 h7), if_neg (fun h => by omega)]))
                  have hne : ((krS (m : Int) l : Int) != ((P / 2 : Nat) : Int)) = false := by simp [h7]
                  have HK := Lib.hid h7
                  clear h7
                  go_wp2_with fail
                  refine (HS.out _ h).mono ?_
                  rintro e w' ⟨rfl, rfl⟩
                  rw [HK.out]
                  go_wp2
                  all_goals go_ret
                  all_goals exact ⟨by rw [HC.out]; rfl, rfl⟩
                · have HC : Hid (chk06 l (m : Int) = 6) := Lib.hid (E5.out.trans (by rw [if_pos ⟨rfl, h7⟩]))
                  generalize krS (m : Int) l = S at *
                  have hne : ((S : Int) != ((P : Int) / 2)) = true := by simp; omega
                  go_wp2_with fail
                  refine (HS.out _ h).mono ?_
                  rintro e w' ⟨rfl, rfl⟩
                  clear h7
                  go_wp2
                  all_goals go_ret
                  all_goals exact ⟨by rw [HC.out]; rfl, rfl⟩
              · have hb1 : ((u : Int) == 1) = false := by rw [beq_eq_false_iff_ne]; omega
                have hgt : (1 : Int) < (u : Int) := by omega
                by_cases h7 : krS (m : Int) l = P
                · have HC : Hid (chk06 l (m : Int) = 0) := Lib.hid (E5.out.trans (by rw [if_neg (fun h => h6 h.1), if_neg (fun h => h.2 h7)]))
                  have HK := Lib.hid h7
                  clear h7
                  go_wp2_with fail
                  refine (HS.out _ h).mono ?_
                  rintro e w' ⟨rfl, rfl⟩
                  rw [HK.out]
                  go_wp2
                  all_goals go_ret
                  all_goals exact ⟨by rw [HC.out]; rfl, rfl⟩
                · have HC : Hid (chk06 l (m : Int) = 6) := Lib.hid (E5.out.trans (by rw [if_neg (fun h => h6 h.1), if_pos ⟨by omega, h7⟩]))
                  generalize krS (m : Int) l = S at *
                  have hne : ((S : Int) != (P : Int)) = true := by simp; omega
                  go_wp2_with fail
                  refine (HS.out _ h).mono ?_
                  rintro e w' ⟨rfl, rfl⟩
                  clear h7
                  go_wp2
                  all_goals go_ret
                  all_goals exact ⟨by rw [HC.out]; rfl, rfl⟩

end Go.Proofs.Ytoefkkgnabjmdaa
