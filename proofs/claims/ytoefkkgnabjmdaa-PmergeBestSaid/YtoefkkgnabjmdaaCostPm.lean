/- Chapter 07 (pmerge): Cost, the program's: by a walk. · Chapter 07 (pmerge): Cost, the reference's: by a walk. -/
import Derived.Test.YtoefkkgnabjmdaaInts
import Derived.RegionTactic
import Derived.ChangeAlike
import Derived.BigRegion
set_option linter.unusedSimpArgs false
set_option linter.unusedVariables false
set_option maxRecDepth 100000
namespace Go.Proofs.Ytoefkkgnabjmdaa

/-! CostPm -/
section
open Go.RowKit

def costT (f x : Int) : Int := if (0 ≤ f ∧ f ≤ 4294967295) ∧ (0 ≤ x ∧ x ≤ 16) then f * x else 0
def costTo (f l : List Int) : Nat → Int
  | 0 => 0
  | k + 1 => costTo f l k + costT (f.getD k 0) (l.getD k 0)
theorem costT_bd (f x : Int) : 0 ≤ costT f x ∧ costT f x ≤ 68719476720 := by
  unfold costT
  split
  · rename_i h
    obtain ⟨⟨h1, h2⟩, h3, h4⟩ := h
    refine ⟨Int.mul_nonneg h1 h3, ?_⟩
    have := Int.mul_le_mul h2 h4 h3 (by omega : (0 : Int) ≤ 4294967295)
    omega
  · omega
theorem costTo_bd (f l : List Int) : ∀ k, 0 ≤ costTo f l k ∧ costTo f l k ≤ 68719476720 * k
  | 0 => by simp [costTo]
  | k + 1 => by
    have h1 := costTo_bd f l k
    have h2 := costT_bd (f.getD k 0) (l.getD k 0)
    simp only [costTo]
    push_cast
    omega

set_option maxHeartbeats 2000000 in
theorem p_CostPm (A B : Option Addr) (c1 c2 : Nat) (f l : List Int) (w : World) (hf : ReadsI w A f) (hl : ReadsI w B l) (n1 : f.length ≤ 100000) (n2 : l.length ≤ 100000) :
    Calls Try.prog 17 #[.slice A f.length c1, .slice B l.length c2] w fun e w' => e = .returned (.int .i64 (costTo f l (min f.length l.length))) ∧ Below w.heap.size w w' := by
  go_enter Try.func17, Try.ntmps17
  go_upto_region 2 with (fail)
  go_cut [13, 14] (fun v13 v14 wc => wc = w ∧ v14 = .int .i64 0 ∧ v13 = .int .i64 (min f.length l.length : Nat))
  case first =>
    go_wp2
    all_goals
      go_meet
      case rel => exact ⟨rfl, rfl, congrArg (Value.int .i64) (by omega)⟩
  obtain ⟨rfl, rfl, rfl⟩ := hcut
  obtain ⟨m, hm⟩ : ∃ m, m = min f.length l.length := ⟨_, rfl⟩
  rw [← hm]
  have hm1 : m ≤ f.length := by omega
  have hm2 : m ≤ l.length := by omega
  have HM := Lib.hid hm
  clear hm
  go_wp2_with fail
  go_loopw [5, 14] (fun v5 v14 wr => ∃ k : Nat, k ≤ m ∧ v14 = .int .i64 k ∧ v5 = .int .i64 (costTo f l k) ∧ Below wc.heap.size wc wr) (fun _ v14 _ => m - (intOf v14).toNat)
  case atStart => exact ⟨0, Nat.zero_le _, rfl, rfl, Below.refl _ _⟩
  case round =>
    obtain ⟨k, hk, rfl, rfl, hbr⟩ := hrel
    by_cases hkm : k < m
    · obtain ⟨ad, rfl, had, g1⟩ := (hf.below hbr).at_ k (by omega)
      obtain ⟨bd, rfl, hbd, g2⟩ := (hl.below hbr).at_ k (by omega)
      have HS : Hid (costTo f l (k + 1) = costTo f l k + costT f[k] l[k]) := Lib.hid (by
        simp only [costTo]
        rw [List.getD_eq_getElem?_getD, List.getElem?_eq_getElem (show k < f.length by omega), List.getD_eq_getElem?_getD, List.getElem?_eq_getElem (show k < l.length by omega)]
        rfl)
      have hb := costTo_bd f l k
      have hb1 : 0 ≤ costTo f l k ∧ costTo f l k ≤ 6871947672000000 := by omega
      obtain ⟨b1, b2⟩ := hb1
      have hi1 : (k : Int) < f.length := by omega
      have hi2 : (k : Int) < l.length := by omega
      clear hb
      generalize f[k] = y at *
      generalize l[k] = z at *
      generalize costTo f l k = S at *
      go_upto_region 5 with (fail)
      go_cut [7, 8] (fun v7 v8 wd => v7 = .int .i64 y ∧ v8 = .int .i64 z ∧ Below wc.heap.size wc wd)
      case first =>
        go_quiet (fail)
        go_wp2
        go_meet
        case rel => exact ⟨rfl, rfl, by repeat (first | exact hbr | exact bl_drewN hbr _ | exact hbr.drew)⟩
      obtain ⟨rfl, rfl, hb3⟩ := hcut
      have HB3 := Lib.hid hb3
      clear g1 g2 hbr hb3 had hbd
      go_upto_region 6 with (fail)
      go_cut [38] (fun v38 wd => v38 = .bool (decide ((0 ≤ y ∧ y ≤ 4294967295) ∧ (0 ≤ z ∧ z ≤ 16))) ∧ wd = wc)
      case first =>
        by_cases t1 : 0 ≤ y
        · by_cases t2 : y ≤ 4294967295
          · by_cases t3 : 0 ≤ z
            · by_cases t4 : z ≤ 16
              · have HT : Hid (decide ((0 ≤ y ∧ y ≤ 4294967295) ∧ (0 ≤ z ∧ z ≤ 16)) = true) := Lib.hid (by rw [decide_eq_true_eq]; omega)
                go_wp2
                go_meet
                case rel => exact ⟨by rw [HT.out], rfl⟩
              · have HT : Hid (decide ((0 ≤ y ∧ y ≤ 4294967295) ∧ (0 ≤ z ∧ z ≤ 16)) = false) := Lib.hid (by rw [decide_eq_false_iff_not]; omega)
                go_wp2
                go_meet
                case rel => exact ⟨by rw [HT.out], rfl⟩
            · have HT : Hid (decide ((0 ≤ y ∧ y ≤ 4294967295) ∧ (0 ≤ z ∧ z ≤ 16)) = false) := Lib.hid (by rw [decide_eq_false_iff_not]; omega)
              go_wp2
              go_meet
              case rel => exact ⟨by rw [HT.out], rfl⟩
          · have HT : Hid (decide ((0 ≤ y ∧ y ≤ 4294967295) ∧ (0 ≤ z ∧ z ≤ 16)) = false) := Lib.hid (by rw [decide_eq_false_iff_not]; omega)
            go_wp2
            go_meet
            case rel => exact ⟨by rw [HT.out], rfl⟩
        · have HT : Hid (decide ((0 ≤ y ∧ y ≤ 4294967295) ∧ (0 ≤ z ∧ z ≤ 16)) = false) := Lib.hid (by rw [decide_eq_false_iff_not]; omega)
          go_wp2
          go_meet
          case rel => exact ⟨by rw [HT.out], rfl⟩
      obtain ⟨rfl, rfl⟩ := hcut
      by_cases ht : (0 ≤ y ∧ y ≤ 4294967295) ∧ (0 ≤ z ∧ z ≤ 16)
      · have hd : decide ((0 ≤ y ∧ y ≤ 4294967295) ∧ (0 ≤ z ∧ z ≤ 16)) = true := by rw [decide_eq_true_eq]; exact ht
        have hc : costT y z = y * z := if_pos ht
        have hbb := costT_bd y z
        rw [hc] at hbb HS
        obtain ⟨b3, b4⟩ := hbb
        rw [hd]
        clear hd hc ht
        have qz : IntKind.i64.wrap (y * z) = y * z := Go.IntWalk.i64_in _ (by omega)
        have qs : IntKind.i64.wrap (S + y * z) = S + y * z := Go.IntWalk.i64_in _ (by omega)
        go_wp2
        go_roundw
        case rel => exact ⟨k + 1, by omega, by go_num, by rw [HS.out], HB3.out⟩
        case measure => simp [intOf]; omega
      · have hd : decide ((0 ≤ y ∧ y ≤ 4294967295) ∧ (0 ≤ z ∧ z ≤ 16)) = false := by rw [decide_eq_false_iff_not]; exact ht
        have hc : costT y z = 0 := if_neg ht
        rw [hc, Int.add_zero] at HS
        rw [hd]
        clear hd hc ht
        go_wp2
        go_roundw
        case rel => exact ⟨k + 1, by omega, by go_num, by rw [HS.out], HB3.out⟩
        case measure => simp [intOf]; omega
    · obtain rfl : k = m := by omega
      go_wp2
      go_ret
      exact ⟨by rw [← HM.out]; rfl, hbr⟩
end

/-! CostPm2 -/
section
open Go.RowKit

set_option maxHeartbeats 2000000 in
theorem r_CostPm (A B : Option Addr) (c1 c2 : Nat) (f l : List Int) (w : World) (hf : ReadsI w A f) (hl : ReadsI w B l) (n1 : f.length ≤ 100000) (n2 : l.length ≤ 100000) :
    Calls Try.prog 18 #[.slice A f.length c1, .slice B l.length c2] w fun e w' => e = .returned (.int .i64 (costTo f l (min f.length l.length))) ∧ Below w.heap.size w w' := by
  go_enter Try.func18, Try.ntmps18
  go_wp2_with fail
  go_loopw [5, 6] (fun v5 v6 wr => ∃ k : Nat, k ≤ f.length ∧ k ≤ l.length ∧ v6 = .int .i64 k ∧ v5 = .int .i64 (costTo f l k) ∧ Below w.heap.size w wr) (fun _ v6 _ => f.length - (intOf v6).toNat)
  case atStart => exact ⟨0, Nat.zero_le _, Nat.zero_le _, rfl, rfl, Below.refl _ _⟩
  case round =>
    obtain ⟨k, hk, hk2, rfl, rfl, hbr⟩ := hrel
    by_cases hkf : k < f.length
    · by_cases hkl : k < l.length
      · obtain ⟨ad, rfl, had, g1⟩ := (hf.below hbr).at_ k hkf
        obtain ⟨bd, rfl, hbd, g2⟩ := (hl.below hbr).at_ k hkl
        have HS : Hid (costTo f l (k + 1) = costTo f l k + costT f[k] l[k]) := Lib.hid (by
          simp only [costTo]
          rw [List.getD_eq_getElem?_getD, List.getElem?_eq_getElem hkf, List.getD_eq_getElem?_getD, List.getElem?_eq_getElem hkl]
          rfl)
        have hb := costTo_bd f l k
        have hb1 : 0 ≤ costTo f l k ∧ costTo f l k ≤ 6871947672000000 := by omega
        obtain ⟨b1, b2⟩ := hb1
        have hi1 : (k : Int) < f.length := by omega
        have hi2 : (k : Int) < l.length := by omega
        have HBR := Lib.hid hbr
        clear hb hbr
        generalize f[k] = y at *
        generalize l[k] = z at *
        generalize costTo f l k = S at *
        go_upto_region 5 with (fail)
        go_cut [44] (fun v44 wd => v44 = .bool (decide ((0 ≤ y ∧ y ≤ 4294967295) ∧ (0 ≤ z ∧ z ≤ 16))) ∧ wd = wr)
        case first =>
          by_cases t1 : 0 ≤ y
          · by_cases t2 : y ≤ 4294967295
            · by_cases t3 : 0 ≤ z
              · by_cases t4 : z ≤ 16
                · have HT : Hid (decide ((0 ≤ y ∧ y ≤ 4294967295) ∧ (0 ≤ z ∧ z ≤ 16)) = true) := Lib.hid (by rw [decide_eq_true_eq]; omega)
                  go_wp2
                  go_meet
                  case rel => exact ⟨by rw [HT.out], rfl⟩
                · have HT : Hid (decide ((0 ≤ y ∧ y ≤ 4294967295) ∧ (0 ≤ z ∧ z ≤ 16)) = false) := Lib.hid (by rw [decide_eq_false_iff_not]; omega)
                  go_wp2
                  go_meet
                  case rel => exact ⟨by rw [HT.out], rfl⟩
              · have HT : Hid (decide ((0 ≤ y ∧ y ≤ 4294967295) ∧ (0 ≤ z ∧ z ≤ 16)) = false) := Lib.hid (by rw [decide_eq_false_iff_not]; omega)
                go_wp2
                go_meet
                case rel => exact ⟨by rw [HT.out], rfl⟩
            · have HT : Hid (decide ((0 ≤ y ∧ y ≤ 4294967295) ∧ (0 ≤ z ∧ z ≤ 16)) = false) := Lib.hid (by rw [decide_eq_false_iff_not]; omega)
              go_wp2
              go_meet
              case rel => exact ⟨by rw [HT.out], rfl⟩
          · have HT : Hid (decide ((0 ≤ y ∧ y ≤ 4294967295) ∧ (0 ≤ z ∧ z ≤ 16)) = false) := Lib.hid (by rw [decide_eq_false_iff_not]; omega)
            go_wp2
            go_meet
            case rel => exact ⟨by rw [HT.out], rfl⟩

        obtain ⟨rfl, rfl⟩ := hcut
        by_cases ht : (0 ≤ y ∧ y ≤ 4294967295) ∧ (0 ≤ z ∧ z ≤ 16)
        · have hd : decide ((0 ≤ y ∧ y ≤ 4294967295) ∧ (0 ≤ z ∧ z ≤ 16)) = true := by rw [decide_eq_true_eq]; exact ht
          have hc : costT y z = y * z := if_pos ht
          have hbb := costT_bd y z
          rw [hc] at hbb HS
          obtain ⟨b3, b4⟩ := hbb
          rw [hd]
          clear hd hc ht
          have qz : IntKind.i64.wrap (y * z) = y * z := Go.IntWalk.i64_in _ (by omega)
          have qs : IntKind.i64.wrap (S + y * z) = S + y * z := Go.IntWalk.i64_in _ (by omega)
          go_upto_region 6 with (fail)
          go_quiet (fail)
          go_wp2
          go_roundw
          case rel => exact ⟨k + 1, by omega, by omega, by go_num, by rw [HS.out], bl_drewN HBR.out _⟩
          case measure => simp [intOf]; omega
        · have hd : decide ((0 ≤ y ∧ y ≤ 4294967295) ∧ (0 ≤ z ∧ z ≤ 16)) = false := by rw [decide_eq_false_iff_not]; exact ht
          have hc : costT y z = 0 := if_neg ht
          rw [hc, Int.add_zero] at HS
          rw [hd]
          clear hd hc ht
          go_wp2
          go_roundw
          case rel => exact ⟨k + 1, by omega, by omega, by go_num, by rw [HS.out], HBR.out⟩
          case measure => simp [intOf]; omega
      · have hm : Hid (k = min f.length l.length) := Lib.hid (by omega)
        go_wp2
        go_ret
        exact ⟨by rw [← hm.out]; rfl, hbr⟩
    · have hm : Hid (k = min f.length l.length) := Lib.hid (by omega)
      go_wp2
      go_ret
      exact ⟨by rw [← hm.out]; rfl, hbr⟩
end

end Go.Proofs.Ytoefkkgnabjmdaa
