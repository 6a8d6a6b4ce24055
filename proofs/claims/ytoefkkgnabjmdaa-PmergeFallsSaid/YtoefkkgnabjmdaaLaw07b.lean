/- Chapter 07 (pmerge): the law PmergeFalls: by a walk. -/
import Derived.Test.YtoefkkgnabjmdaaFalls07
set_option linter.unusedSimpArgs false
set_option linter.unusedVariables false
set_option maxRecDepth 100000
namespace Go.Proofs.Ytoefkkgnabjmdaa
open Go.RowKit

set_option maxHeartbeats 8000000 in
theorem law_PmergeFalls_main (A : Option Addr) (f : List Int) (c : Nat) (z : Int) (hz0 : 0 ≤ z) (hz1 : z ≤ 255) (w : World) (hf : ReadsI w A f) (l0 : f.length ≤ 300) :
    Calls Try.prog 6 #[.slice A f.length c, .int .u8 z] w fun e w' => e = .returned (.bool true) ∧ Below w.heap.size w w' := by
  obtain ⟨n, hn⟩ : ∃ n : Nat, (n : Int) = z % 15 + 1 := ⟨(z % 15 + 1).toNat, by omega⟩
  have hn1 : 1 ≤ n ∧ n ≤ 15 := by omega
  have HNN := Lib.hid hn
  have hl0 : f.length ≤ 300 := l0
  clear hn
  go_enter Try.func6, Try.ntmps6
  go_upto_region 1 with (fail)
  go_cut [5] (fun v5 wc => v5 = .int .i64 (n : Int) ∧ wc = w)
  case first =>
    go_wp2
    go_meet
    case rel => exact ⟨congrArg (Value.int .i64) (by have := HNN.out; omega), rfl⟩
  obtain ⟨rfl, rfl⟩ := hcut
  clear hz0 hz1
  go_wp2_with fail
  refine (r_PmCheck A c f (n : Int) _ hf (by omega)).mono ?_
  rintro e w' ⟨rfl, rfl⟩
  by_cases h0 : chkPm f (n : Int) = 0
  · have HL := Lib.hid (And.intro h0 (chkPm_more h0 (by omega)))
    rw [h0]
    clear h0
    go_wp2_with fail
    refine (p_Lengths A c f (n : Int) _ hf (by omega)).mono ?_
    intro e w1 hp
    obtain ⟨hb1, ⟨h1, _⟩ | ⟨_, b1, rfl, hbi, _⟩⟩ := hp
    · exact absurd HL.out.1 h1
    · have hf1 := hf.below hb1
      have HB1 := Lib.hid hb1
      have HI1 := Lib.hid hbi
      clear hb1 hbi hf
      go_wp2_with fail
      refine (p_Lengths A c f ((n : Int) + 1) _ hf1 (by omega)).mono ?_
      intro e w2 hp
      obtain ⟨hb2, ⟨h1, _⟩ | ⟨_, b2, rfl, hbi2, _⟩⟩ := hp
      · exact absurd HL.out.2 h1
      · have hf2 := hf1.below hb2
        have hl2 := (reads_ints HI1.out).below hb2
        have hm2 := reads_ints hbi2
        have HB2 := Lib.hid (bl_then HB1.out HB1.out.size hb2)
        have hll : (lensP f (n : Int)).length = f.length := lensP_length
        have hlm : (lensP f ((n : Int) + 1)).length = f.length := lensP_length
        have HFALL := Lib.hid (fun i k hi hk h1 h2 => lens_falls HL.out.1 i k hi hk h1 h2)
        have HMORE := Lib.hid (lens_more HL.out.1 (by omega))
        have qm := fun W h1 h2 => p_CostPm A (some ⟨b2, 0, none⟩) c f.length f (lensP f ((n : Int) + 1)) W h1 h2 (by omega) (by omega)
        have ql := fun W h1 h2 => p_CostPm A (some ⟨b1, 0, none⟩) c f.length f (lensP f (n : Int)) W h1 h2 (by omega) (by omega)
        rw [hlm, show min f.length f.length = f.length by omega] at qm
        rw [hll, show min f.length f.length = f.length by omega] at ql
        have HQ := Lib.hid (And.intro qm ql)
        generalize lensP f (n : Int) = l at *
        generalize lensP f ((n : Int) + 1) = m at *
        have HLL := Lib.hid hll
        have HR := Lib.hid (And.intro hf2 (And.intro hl2 hm2))
        clear hf1 hf2 hl2 hm2 hbi2 hb2 hll hlm qm ql
        go_wp2_with fail
        go_loopw [10, 11] (fun v10 _ wr => ∃ i : Nat, i ≤ f.length ∧ v10 = .int .i64 i ∧ Below w2.heap.size w2 wr) (fun v10 _ _ => f.length - (intOf v10).toNat)
        case atStart => exact ⟨0, Nat.zero_le _, rfl, Below.refl _ _⟩
        case round =>
          obtain ⟨i, hi, rfl, hbr⟩ := hrel
          by_cases hif : i < f.length
          · have HBR := Lib.hid hbr
            obtain ⟨wo, rfl⟩ : ∃ wo : World, wo = wr := ⟨_, rfl⟩
            clear hbr
            go_wp2_with fail
            go_loopw [11] (fun v11 wr => ∃ k : Nat, k ≤ f.length ∧ v11 = .int .i64 k ∧ Below w2.heap.size w2 wr) (fun v11 _ => f.length - (intOf v11).toNat)
            case atStart => exact ⟨0, Nat.zero_le _, rfl, HBR.out⟩
            case round =>
              obtain ⟨k, hk, rfl, hbr⟩ := hrel
              by_cases hkf : k < f.length
              · have hll := HLL.out
                obtain ⟨ad, rfl, had, a1⟩ := (HR.out.1.below hbr).at_ i hif
                obtain ⟨ad2, e2, _, a2⟩ := (HR.out.1.below hbr).at_ k hkf
                obtain rfl : ad2 = ad := by simpa using e2.symm
                obtain ⟨bd, e3, hbd, a3⟩ := (HR.out.2.1.below hbr).at_ i (by omega)
                obtain ⟨bd2, e4, _, a4⟩ := (HR.out.2.1.below hbr).at_ k (by omega)
                simp only [Option.some.injEq] at e3 e4
                subst e3
                subst e4
                have hfall := HFALL.out i k hif hkf
                simp only [List.getD_eq_getElem?_getD] at hfall
                rw [List.getElem?_eq_getElem hif, List.getElem?_eq_getElem hkf, List.getElem?_eq_getElem (show i < l.length by omega), List.getElem?_eq_getElem (show k < l.length by omega)] at hfall
                simp only [Option.getD_some] at hfall
                have HBR2 := Lib.hid hbr
                have eb : ∀ j, (⟨b1, 0, none⟩ : Addr).add j = ⟨b1, j, none⟩ := fun j => by unfold Addr.add; split <;> simp_all
                rw [eb] at a3 a4
                generalize f[i] = x at *
                generalize f[k] = y at *
                generalize l[i]'_ = u at *
                generalize l[k]'_ = v at *
                have i1 : (i : Int) < (f.length : Int) := by omega
                have i2 : (k : Int) < (f.length : Int) := by omega
                clear hbr hll e2 eb hbd
                by_cases c1 : y < x
                · have d1 : decide (y < x) = true := by simpa using c1
                  by_cases c2 : 0 < y
                  · have d2 : decide (0 < y) = true := by simpa using c2
                    have c3 := hfall c1 c2
                    have d3 : decide (v < u) = false := by simp; omega
                    clear hfall c1 c2 c3
                    go_wp2_with fail
                    go_quiet (fail)
                    all_goals
                      go_wp2
                      go_roundw
                      case rel => exact ⟨k + 1, by omega, by go_num, bl_drewN HBR2.out _⟩
                      case measure => simp [intOf]; omega
                  · have d2 : decide (0 < y) = false := by simp; omega
                    clear hfall c1 c2
                    go_wp2_with fail
                    go_quiet (fail)
                    all_goals
                      go_wp2
                      go_roundw
                      case rel => exact ⟨k + 1, by omega, by go_num, bl_drewN HBR2.out _⟩
                      case measure => simp [intOf]; omega
                · have d1 : decide (y < x) = false := by simp; omega
                  clear hfall c1
                  go_wp2_with fail
                  go_quiet (fail)
                  all_goals
                    go_wp2
                    go_roundw
                    case rel => exact ⟨k + 1, by omega, by go_num, bl_drewN HBR2.out _⟩
                    case measure => simp [intOf]; omega
              · obtain rfl : k = f.length := by omega
                have HBR2 := Lib.hid hbr
                clear hbr
                go_wp2
                go_roundw
                case rel => exact ⟨i + 1, by omega, by go_num, HBR2.out⟩
                case measure => simp [intOf]; omega
          · have h1 := HR.out.1.below hbr
            have h2 := HR.out.2.2.below hbr
            have h3 := HR.out.2.1.below hbr
            have q := HQ.out.1 wr h1 h2
            have HBR := Lib.hid (bl_then HB2.out HB2.out.size hbr)
            have H13 := Lib.hid (And.intro h1 h3)
            clear hbr h2 h1 h3
            go_wp2_with fail
            refine q.mono ?_
            rintro e w3 ⟨rfl, hb3⟩
            have q2 := HQ.out.2 w3 (H13.out.1.below hb3) (H13.out.2.below hb3)
            have HB3 := Lib.hid (bl_then HBR.out HBR.out.size hb3)
            clear hb3 q
            go_wp2_with fail
            refine q2.mono ?_
            rintro e w4 ⟨rfl, hb4⟩
            have hmore := HMORE.out
            have HB4 := Lib.hid (bl_then HB3.out HB3.out.size hb4)
            generalize costTo f m f.length = X at *
            generalize costTo f l f.length = Y at *
            clear hb4 q2
            go_wp2_with fail
            refine (awake07 _).mono ?_
            rintro e w5 ⟨rfl, hb5⟩
            have HB := Lib.hid (bl_then HB4.out HB4.out.size hb5)
            clear hb5
            go_wp2
            go_ret
            exact ⟨rfl, HB.out⟩
  · have hne : (chkPm f (n : Int) != 0) = true := by simpa using h0
    generalize chkPm f (n : Int) = X at *
    clear h0
    go_wp2_with fail
    refine (awake07 _).mono ?_
    rintro e w5 ⟨rfl, hb5⟩
    go_wp2
    go_ret
    exact ⟨rfl, hb5⟩

theorem law_PmergeFalls (A : Option Addr) (f : List Int) (c : Nat) (z : Int) (hz0 : 0 ≤ z) (hz1 : z ≤ 255) (w : World) (hf : ReadsI w A f) :
    Calls Try.prog 6 #[.slice A f.length c, .int .u8 z] w fun e w' => e = .returned (.bool true) ∧ Below w.heap.size w w' := by
  by_cases l0 : f.length ≤ 300
  · exact law_PmergeFalls_main A f c z hz0 hz1 w hf l0
  · go_enter Try.func6, Try.ntmps6
    go_wp2_with fail
    refine (awake07 _).mono ?_
    rintro e w5 ⟨rfl, hb5⟩
    go_wp2
    go_ret
    exact ⟨rfl, hb5⟩

end Go.Proofs.Ytoefkkgnabjmdaa
