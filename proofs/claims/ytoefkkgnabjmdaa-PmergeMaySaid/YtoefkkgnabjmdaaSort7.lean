/- The library's stable sort of packs: merging a row with one, by a walk. -/
import Derived.Test.YtoefkkgnabjmdaaSort6
set_option linter.unusedSimpArgs false
set_option linter.unusedVariables false
set_option maxRecDepth 100000
namespace Go.Proofs.Ytoefkkgnabjmdaa
open Go.RowKit

theorem bs2_step (l : List Pe) (c : Int) (i j : Nat) (h : i < j) : bs2 l c i j = if ¬ c < (gt l ((i + j) / 2)).cost then bs2 l c ((i + j) / 2 + 1) j else bs2 l c i ((i + j) / 2) := by rw [bs2]; rw [dif_pos h]
theorem bs2_end (l : List Pe) (c : Int) (i j : Nat) (h : ¬ i < j) : bs2 l c i j = i := by rw [bs2]; rw [dif_neg h]
set_option maxHeartbeats 4000000 in
theorem p_sym2 (base g o c n a m b : Nat) (l : List Pe) (hn : n ≤ 1000000000) (ham : a + 1 < m) (hmb : b = m + 1) (hb : b ≤ n) (w : World) (h : PRow w base (.slice (some ⟨g, o, none⟩) n c) l) :
    Calls Try.prog 120 #[(.slice (some ⟨g, o, none⟩) n c), .int .i64 a, .int .i64 m, .int .i64 b, (.func (.func 72) #[] #[])] w (Works w base g (.slice (some ⟨g, o, none⟩) n c) (mvDn m (m - bs2 l (gt l m).cost a m) l)) := by
  have hm1 : ((m : Int) - a == 1) = false := by rw [beq_eq_false_iff_ne]; omega
  have hm2 : (b : Int) - m = 1 := by omega
  have HAM := Lib.hid hmb
  clear hmb
  go_enter Try.func120, Try.ntmps120
  go_wp2_with fail
  go_loopw [14, 15] (fun v10 v11 wr => ∃ i j : Nat, a ≤ i ∧ i ≤ j ∧ j ≤ m ∧ v10 = .int .i64 i ∧ v11 = .int .i64 j ∧ PRow wr base (.slice (some ⟨g, o, none⟩) n c) l ∧ w.grownBy wr (some g) ∧ bs2 l (gt l m).cost i j = bs2 l (gt l m).cost a m) (fun v10 v11 _ => (intOf v11).toNat - (intOf v10).toNat)
  case atStart => exact ⟨a, m, Nat.le_refl _, by omega, Nat.le_refl _, rfl, rfl, h, grown_refl _ _, rfl⟩
  case round =>
    clear h
    obtain ⟨i, j, hi, hij, hj, rfl, rfl, hrow, hgr, hs⟩ := hrel
    have HS := Lib.hid hs
    clear hs
    by_cases hlt : i < j
    · have HST := Lib.hid (bs2_step l (gt l m).cost i j hlt)
      obtain ⟨x, hx⟩ : ∃ x, x = (i + j) / 2 := ⟨_, rfl⟩
      rw [← hx] at HST
      have HX := Lib.hid hx
      have hx1 : i ≤ x := by omega
      have hx2 : x < j := by omega
      have HRW := Lib.hid hrow
      have HGR := Lib.hid hgr
      have hal : m < l.length := by have := hrow.len_; have := HAM.out; omega
      have hlC := (hrow).len_
      obtain ⟨c1, c2, f1, f2⟩ := (hrow).at_ m (by omega)
      obtain ⟨c3, c4, f3, f4⟩ := (hrow).at_ x (by omega)
      rw [← gt_eq (by omega)] at c1 c2 c3 c4
      have hglC := (hrow).g_lt.2
      generalize hP : gt l m = P at *
      generalize hQ : gt l x = Q at *
      have HP := Lib.hid hP
      have HQ := Lib.hid hQ
      have hent : ∀ w, Sem.run Try.prog (callFunc 72 #[.agg #[.int .i64 P.cost, P.v], .agg #[.int .i64 Q.cost, Q.v]]) w = .ok (.enter 72 #[.agg #[.int .i64 P.cost, P.v], .agg #[.int .i64 Q.cost, Q.v]]) w := fun w => enters_cmp _ w
      have qx1 : (0 : Int) ≤ (m : Int) := by omega
      have qx2 : (m : Int) < n := by omega
      have qy1 : (0 : Int) ≤ (x : Int) := by omega
      have qy2 : (x : Int) < n := by omega
      have HK : Hid (∀ w', Below wr.heap.size wr w' → w'.cell? ⟨g, o + m * 2, none⟩ = some (.int .i64 P.cost) ∧ w'.cell? ⟨g, o + m * 2 + 1, none⟩ = some P.v ∧ w'.cell? ⟨g, o + x * 2, none⟩ = some (.int .i64 Q.cost) ∧ w'.cell? ⟨g, o + x * 2 + 1, none⟩ = some Q.v ∧ Below wr.heap.size wr w') :=
        Lib.hid fun w' h => ⟨(h.cell hglC).trans c1, (h.cell hglC).trans c2, (h.cell hglC).trans c3, (h.cell hglC).trans c4, h⟩
      clear hP hQ hlC
      clear hrow hgr hal hx
      go_upto_region 16 with (fail)
      go_cut [16] (fun v12 wc => v12 = .int .i64 x ∧ wc = wr)
      case first =>
        go_wp2
        go_meet
        case rel => exact ⟨congrArg (Value.int .i64) (by have := HX.out; omega), rfl⟩
      obtain ⟨rfl, rfl⟩ := hcut
      go_upto_region 17 with (fail)
      go_cut [103] (fun vC wd => vC = .bool (!decide (cmpI P.cost Q.cost < 0)) ∧ Below wc.heap.size wc wd)
      case first =>
        go_region_held3 (fun w' => w'.cell? ⟨g, o + m * 2, none⟩ = some (.int .i64 P.cost) ∧ w'.cell? ⟨g, o + m * 2 + 1, none⟩ = some P.v ∧ w'.cell? ⟨g, o + x * 2, none⟩ = some (.int .i64 Q.cost) ∧ w'.cell? ⟨g, o + x * 2 + 1, none⟩ = some Q.v ∧ Below wc.heap.size wc w')
          (first | exact HK.out _ (by with_reducible assumption) | exact HK.out _ (Below.refl _ _).drew)
          (first | (go_at_call 72; refine (kcall (w2 := wc) ?_ (p_cmp P.cost Q.cost P.v Q.v _)).mono ?_; (first | with_reducible assumption | exact (Below.refl _ _).drew); rintro e w' ⟨rfl, hb⟩))
        all_goals
          go_wp2
          go_meet
          case rel => exact ⟨rfl, by with_reducible assumption⟩
      clear HK hent c1 c2 c3 c4 f1 f2 f3 f4 hglC
      obtain ⟨rfl, hbc⟩ := hcut
      rw [cmpI_lt]
      have hr3 := HRW.out.below hbc
      have hg3 := grown_below HGR.out hbc
      by_cases hPQ : P.cost < Q.cost
      · have HN : Hid (bs2 l P.cost i x = bs2 l P.cost a m) := Lib.hid (by rw [← HS.out, HST.out, if_neg (fun h => h hPQ)])
        have hd : decide (P.cost < Q.cost) = true := by simpa using hPQ
        rw [hd, Bool.not_true]
        clear hd hPQ hbc
        go_wp2
        go_roundw
        case rel => exact ⟨i, x, hi, hx1, by omega, rfl, rfl, hr3, hg3, HN.out⟩
        case measure => simp [intOf]; omega
      · have HN : Hid (bs2 l P.cost (x + 1) j = bs2 l P.cost a m) := Lib.hid (by rw [← HS.out, HST.out, if_pos hPQ])
        have hd : decide (P.cost < Q.cost) = false := by simpa using hPQ
        rw [hd, Bool.not_false]
        clear hd hPQ hbc
        go_wp2
        go_roundw
        case rel => exact ⟨x + 1, j, by omega, by omega, hj, by go_num, rfl, hr3, hg3, HN.out⟩
        case measure => simp [intOf]; omega
    · have HB : Hid (bs2 l (gt l m).cost a m = i) := Lib.hid (by rw [← HS.out, bs2_end _ _ _ _ hlt])
      clear HS
      have HRW := Lib.hid hrow
      have HGR := Lib.hid hgr
      have him : i ≤ m := by omega
      clear hrow hgr
      go_wp2_with fail
      go_loopw [17] (fun v13 wr => ∃ (k : Nat) (l1 : List Pe), k ≤ m - i ∧ v13 = .int .i64 (m - k : Nat) ∧ PRow wr base (.slice (some ⟨g, o, none⟩) n c) l1 ∧ w.grownBy wr (some g) ∧ l1 = mvDn m k l) (fun v13 _ => (intOf v13).toNat)
      case atStart => exact ⟨0, l, Nat.zero_le _, rfl, HRW.out, HGR.out, rfl⟩
      case round =>
        clear HRW HGR
        obtain ⟨k, l1, hk, rfl, hrow, hgr, hs⟩ := hrel
        have HS := Lib.hid hs
        clear hs
        by_cases hkm : k < m - i
        · obtain ⟨x, hx⟩ : ∃ x, x = m - k := ⟨_, rfl⟩
          obtain ⟨y, hy⟩ : ∃ y, y = m - k - 1 := ⟨_, rfl⟩
          have HN : Hid (swp l1 x y = mvDn m (k + 1) l) := Lib.hid (by rw [hx, hy, HS.out]; rfl)
          have qy : IntKind.i64.wrap ((x : Int) - 1) = y := by rw [show (x : Int) - 1 = y by omega]; exact Go.IntWalk.i64_in _ (by omega)
          have qi : (i : Int) < (x : Int) := by omega
          have HYX : Hid (y = m - (k + 1)) := Lib.hid hy
          have hbm := HAM.out
          rw [← hx]
          have hlS := (hrow).len_
          obtain ⟨c1, c2, f1, f2⟩ := (hrow).at_ x (by omega)
          obtain ⟨c3, c4, f3, f4⟩ := (hrow).at_ y (by omega)
          have hsw := (hrow).drew.swap x y (by omega) (by omega)
          have hsw2 := (hrow).drew.swap y x (by omega) (by omega)
          have hg4 := put4_grown (only_drew hgr) o x y (gt l1 y) (gt l1 x)
          have hg5 := put4_grown (only_drew hgr) o y x (gt l1 x) (gt l1 y)
          rw [swp_comm l1 y x] at hsw2
          rw [← gt_eq (by omega)] at c1 c2 c3 c4
          obtain ⟨A1, m1, k1, hvP⟩ : ∃ A m k, (gt l1 x).v = .slice A m k := by
            obtain ⟨A, c, h, _⟩ := ((hrow).syms (gt l1 x) (gt_mem (by omega))).slice
            exact ⟨A, _, c, h⟩
          obtain ⟨A2, m2, k2, hvQ⟩ : ∃ A m k, (gt l1 y).v = .slice A m k := by
            obtain ⟨A, c, h, _⟩ := ((hrow).syms (gt l1 y) (gt_mem (by omega))).slice
            exact ⟨A, _, c, h⟩
          unfold put4 at hsw hsw2 hg4 hg5
          rw [hvP, hvQ] at hsw hsw2 hg4 hg5
          rw [hvP] at c2
          rw [hvQ] at c4
          have HSW := Lib.hid hsw
          have HSW2 := Lib.hid hsw2
          have HG4 := Lib.hid hg4
          have HG5 := Lib.hid hg5
          have n1 : ¬ o + x * 2 = o + y * 2 := by omega
          have n2 : ¬ o + y * 2 = o + x * 2 := by omega
          have n3 : ¬ o + x * 2 = o + y * 2 + 1 := by omega
          have n4 : ¬ o + y * 2 = o + x * 2 + 1 := by omega
          have n5 : ¬ o + x * 2 + 1 = o + y * 2 := by omega
          have n6 : ¬ o + y * 2 + 1 = o + x * 2 := by omega
          have n7 : ¬ o + x * 2 + 1 = o + y * 2 + 1 := by omega
          have n8 : ¬ o + y * 2 + 1 = o + x * 2 + 1 := by omega
          have hglS := (hrow).g_lt.2
          have qx1 : (0 : Int) ≤ (x : Int) := by omega
          have qx2 : (x : Int) < n := by omega
          have qy1 : (0 : Int) ≤ (y : Int) := by omega
          have qy2 : (y : Int) < n := by omega
          clear hsw hsw2 hg4 hg5 hvP hvQ hlS
          generalize (gt l1 x).cost = PC at *
          generalize (gt l1 y).cost = QC at *
          have HXA := Lib.hid hx
          clear hx hy hrow hgr hbm
          go_upto_region 23 with (fail)
          go_region
          all_goals
            go_wp2
            go_roundw
            case rel =>
              refine ⟨k + 1, swp l1 x y, by omega, by rw [← HYX.out], ?_, ?_, HN.out⟩
              · first | exact HSW.out | exact HSW2.out
              · first | exact HG4.out | exact HG5.out
            case measure => have := HXA.out; have := HYX.out; simp [intOf]; omega
        · obtain rfl : k = m - i := by omega
          have HF : Hid (l1 = mvDn m (m - bs2 l (gt l m).cost a m) l) := Lib.hid (by rw [HS.out, HB.out])
          have qe : m - (m - i) = i := by omega
          rw [qe]
          clear qe HS
          go_wp2
          refine bodyPost_ret (results_none rfl _ _ _) rfl ?_
          exact ⟨rfl, by rw [← HF.out]; exact hrow, hgr⟩

end Go.Proofs.Ytoefkkgnabjmdaa
