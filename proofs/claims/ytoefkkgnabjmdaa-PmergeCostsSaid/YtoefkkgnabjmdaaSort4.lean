/- The library's stable sort of packs: the exchange of two rows, by a walk. -/
import Derived.Test.YtoefkkgnabjmdaaSort3
set_option linter.unusedSimpArgs false
set_option linter.unusedVariables false
set_option maxRecDepth 100000
namespace Go.Proofs.Ytoefkkgnabjmdaa
open Go.RowKit

set_option maxHeartbeats 4000000 in
theorem p_swapRange (base g o c n a b m : Nat) (l : List Pe) (hn : n ≤ 1000000000) (hab : a < b) (hb : b + m ≤ n) (w : World) (h : PRow w base (.slice (some ⟨g, o, none⟩) n c) l) :
    Calls Try.prog 148 #[(.slice (some ⟨g, o, none⟩) n c), .int .i64 a, .int .i64 b, .int .i64 m, (.func (.func 72) #[] #[])] w (Works w base g (.slice (some ⟨g, o, none⟩) n c) (swr a b m l)) := by
  go_enter Try.func148, Try.ntmps148
  go_wp2_with fail
  go_loopw [10] (fun v10 wr => ∃ (k : Nat) (l1 : List Pe), k ≤ m ∧ v10 = .int .i64 k ∧ PRow wr base (.slice (some ⟨g, o, none⟩) n c) l1 ∧ w.grownBy wr (some g) ∧ l1 = swr a b k l) (fun v10 _ => m - (intOf v10).toNat)
  case atStart => exact ⟨0, l, Nat.zero_le _, rfl, h, grown_refl _ _, rfl⟩
  case round =>
    clear h
    obtain ⟨k, l1, hk, rfl, hrow, hgr, hs⟩ := hrel
    have HS := Lib.hid hs
    clear hs
    by_cases hkm : k < m
    · obtain ⟨x, hx⟩ : ∃ x, x = a + k := ⟨_, rfl⟩
      obtain ⟨y, hy⟩ : ∃ y, y = b + k := ⟨_, rfl⟩
      have HN : Hid (swp l1 x y = swr a b (k + 1) l) := Lib.hid (by rw [hx, hy, HS.out]; rfl)
      have qx : IntKind.i64.wrap ((a : Int) + k) = x := by rw [show (a : Int) + k = x by omega]; exact Go.IntWalk.i64_in _ (by omega)
      have qy : IntKind.i64.wrap ((b : Int) + k) = y := by rw [show (b : Int) + k = y by omega]; exact Go.IntWalk.i64_in _ (by omega)
      have hlS := (hrow).len_
      obtain ⟨c1, c2, f1, f2⟩ := (hrow).at_ x (by omega)
      obtain ⟨c3, c4, f3, f4⟩ := (hrow).at_ y (by omega)
      have hsw := (hrow).drew.swap x y (by omega) (by omega)
      have hsw2 := (hrow).drew.swap y x (by omega) (by omega)
      have hg4 := put4_grown (only_drew hgr) o x y (gt l1 y) (gt l1 x)
      have hg5 := put4_grown (only_drew hgr) o y x (gt l1 x) (gt l1 y)
      rw [swp_comm l1 y x] at hsw2
      rw [← gt_eq (by omega)] at c1 c2 c3 c4
      obtain ⟨A1, m1, k1, hvP⟩ : ∃ A m k, (gt l1 x).v = .slice A m k := by
        obtain ⟨A, c, h, _⟩ := ((hrow).syms (gt l1 x) (gt_mem (by omega))).slice
        exact ⟨A, _, c, h⟩
      obtain ⟨A2, m2, k2, hvQ⟩ : ∃ A m k, (gt l1 y).v = .slice A m k := by
        obtain ⟨A, c, h, _⟩ := ((hrow).syms (gt l1 y) (gt_mem (by omega))).slice
        exact ⟨A, _, c, h⟩
      unfold put4 at hsw hsw2 hg4 hg5
      rw [hvP, hvQ] at hsw hsw2 hg4 hg5
      rw [hvP] at c2
      rw [hvQ] at c4
      have HSW := Lib.hid hsw
      have HSW2 := Lib.hid hsw2
      have HG4 := Lib.hid hg4
      have HG5 := Lib.hid hg5
      have n1 : ¬ o + x * 2 = o + y * 2 := by omega
      have n2 : ¬ o + y * 2 = o + x * 2 := by omega
      have n3 : ¬ o + x * 2 = o + y * 2 + 1 := by omega
      have n4 : ¬ o + y * 2 = o + x * 2 + 1 := by omega
      have n5 : ¬ o + x * 2 + 1 = o + y * 2 := by omega
      have n6 : ¬ o + y * 2 + 1 = o + x * 2 := by omega
      have n7 : ¬ o + x * 2 + 1 = o + y * 2 + 1 := by omega
      have n8 : ¬ o + y * 2 + 1 = o + x * 2 + 1 := by omega
      have hglS := (hrow).g_lt.2
      have qx1 : (0 : Int) ≤ (x : Int) := by omega
      have qx2 : (x : Int) < n := by omega
      have qy1 : (0 : Int) ≤ (y : Int) := by omega
      have qy2 : (y : Int) < n := by omega
      clear hsw hsw2 hg4 hg5 hvP hvQ hlS
      generalize (gt l1 x).cost = PC at *
      generalize (gt l1 y).cost = QC at *
      clear hx hy hrow hgr
      go_upto_region 3 with (fail)
      go_region
      all_goals
        go_wp2
        go_roundw
        case rel =>
          refine ⟨k + 1, swp l1 x y, by omega, by go_num, ?_, ?_, HN.out⟩
          · first | exact HSW.out | exact HSW2.out
          · first | exact HG4.out | exact HG5.out
        case measure => simp [intOf]; omega
    · obtain rfl : k = m := by omega
      go_wp2
      go_end0
      exact ⟨rfl, by rw [← HS.out]; exact hrow, hgr⟩

end Go.Proofs.Ytoefkkgnabjmdaa
