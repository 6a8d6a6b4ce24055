/- The library's stable sort of packs: rotation, by a walk. -/
import Derived.Test.YtoefkkgnabjmdaaSort4
set_option linter.unusedSimpArgs false
set_option linter.unusedVariables false
set_option maxRecDepth 100000
namespace Go.Proofs.Ytoefkkgnabjmdaa
open Go.RowKit

theorem rot_done (m i j : Nat) (l : List Pe) (h : i = j) : rot m i j l = swr (m - i) m i l := by unfold rot; rw [dif_pos (.inl h)]
theorem rot_gt (m i j : Nat) (l : List Pe) (h0 : 0 < j) (h : j < i) : rot m i j l = rot m (i - j) j (swr (m - i) m j l) := by rw [rot]; rw [dif_neg (by omega), if_pos h]
theorem rot_lt (m i j : Nat) (l : List Pe) (h0 : 0 < i) (h : i < j) : rot m i j l = rot m i (j - i) (swr (m - i) (m + j - i) i l) := by rw [rot]; rw [dif_neg (by omega), if_neg (by omega)]

set_option maxHeartbeats 4000000 in
theorem p_rotate (base g o c n a m b : Nat) (l : List Pe) (hn : n ≤ 1000000000) (ham : a < m) (hmb : m < b) (hb : b ≤ n) (w : World) (h : PRow w base (.slice (some ⟨g, o, none⟩) n c) l) :
    Calls Try.prog 141 #[(.slice (some ⟨g, o, none⟩) n c), .int .i64 a, .int .i64 m, .int .i64 b, (.func (.func 72) #[] #[])] w (Works w base g (.slice (some ⟨g, o, none⟩) n c) (rot m (m - a) (b - m) l)) := by
  go_enter Try.func141, Try.ntmps141
  go_wp2_with fail
  go_loopw [10, 11] (fun v10 v11 wr => ∃ (i j : Nat) (l1 : List Pe), 0 < i ∧ 0 < j ∧ i ≤ m - a ∧ j ≤ b - m ∧ v10 = .int .i64 i ∧ v11 = .int .i64 j ∧ PRow wr base (.slice (some ⟨g, o, none⟩) n c) l1 ∧ w.grownBy wr (some g) ∧ rot m i j l1 = rot m (m - a) (b - m) l) (fun v10 v11 _ => (intOf v10).toNat + (intOf v11).toNat)
  case atStart => exact ⟨m - a, b - m, l, by omega, by omega, Nat.le_refl _, Nat.le_refl _, by go_num, by go_num, h, grown_refl _ _, rfl⟩
  case round =>
    clear h
    obtain ⟨i, j, l1, hi, hj, hi2, hj2, rfl, rfl, hrow, hgr, hs⟩ := hrel
    have HS := Lib.hid hs
    clear hs
    by_cases hij : i = j
    · have HD := Lib.hid (rot_done m i j l1 hij)
      have hd : ((i : Int) != j) = false := by rw [bne_eq_false_iff_eq]; omega
      have hm : ((m - i : Nat) : Int) = (m : Int) - i := by omega
      have hq := p_swapRange base g o c n (m - i) m i l1 hn (by omega) (by omega) wr hrow
      rw [hm] at hq
      clear hij hm
      go_wp2_with fail
      refine hq.mono ?_
      rintro e w2 ⟨rfl, hr2, hg2⟩
      have HG := Lib.hid (grown_then hgr hg2)
      rw [← HD.out, HS.out] at hr2
      clear hgr hg2 hq
      go_wp2
      go_end0
      exact ⟨rfl, hr2, HG.out⟩
    · have hd : ((i : Int) != j) = true := by rw [bne_iff_ne]; omega
      by_cases hlt : j < i
      · have HD := Lib.hid (rot_gt m i j l1 hj hlt)
        have hm : ((m - i : Nat) : Int) = (m : Int) - i := by omega
        have hq := p_swapRange base g o c n (m - i) m j l1 hn (by omega) (by omega) wr hrow
        rw [hm] at hq
        clear hij hm
        go_wp2_with fail
        refine hq.mono ?_
        rintro e w2 ⟨rfl, hr2, hg2⟩
        have HG := Lib.hid (grown_then hgr hg2)
        have HR2 := Lib.hid hr2
        clear hgr hg2 hq hr2
        go_wp2
        go_roundw
        case rel => exact ⟨i - j, j, _, by omega, hj, by omega, hj2, by go_num, rfl, HR2.out, HG.out, by rw [← HD.out, HS.out]⟩
        case measure => simp [intOf]; omega
      · have HD := Lib.hid (rot_lt m i j l1 hi (by omega))
        have hm : ((m - i : Nat) : Int) = (m : Int) - i := by omega
        have hm2 : ((m + j - i : Nat) : Int) = (m : Int) + j - i := by omega
        have hq := p_swapRange base g o c n (m - i) (m + j - i) i l1 hn (by omega) (by omega) wr hrow
        rw [hm, hm2] at hq
        clear hm hm2
        go_wp2_with fail
        refine hq.mono ?_
        rintro e w2 ⟨rfl, hr2, hg2⟩
        have HG := Lib.hid (grown_then hgr hg2)
        have HR2 := Lib.hid hr2
        clear hgr hg2 hq hr2
        go_wp2
        go_roundw
        case rel => exact ⟨i, j - i, _, hi, by omega, hi2, by omega, rfl, by go_num, HR2.out, HG.out, by rw [← HD.out, HS.out]⟩
        case measure => simp [intOf]; omega

end Go.Proofs.Ytoefkkgnabjmdaa
