/- The library's stable sort of packs: insertion, by a walk. -/
import Derived.Test.YtoefkkgnabjmdaaPlainSort
set_option linter.unusedSimpArgs false
set_option linter.unusedVariables false
set_option maxRecDepth 100000
namespace Go.Proofs.Ytoefkkgnabjmdaa
open Go.RowKit

set_option maxHeartbeats 4000000 in
theorem p_insertion (base g o c n a b : Nat) (l : List Pe) (hn : n ≤ 1000000000) (hab : a ≤ b) (hb : b ≤ n) (w : World) (h : PRow w base (.slice (some ⟨g, o, none⟩) n c) l) :
    Calls Try.prog 119 #[.slice (some ⟨g, o, none⟩) n c, .int .i64 a, .int .i64 b, .func (.func 72) #[] #[]] w (Works w base g (.slice (some ⟨g, o, none⟩) n c) (insertion l a b)) := by
  have hnl := h.len_
  have HL := Lib.hid hnl
  have HI : Hid (insertion l a b = insr a (b - (a + 1)) (a + 1) l) := Lib.hid rfl
  have hcap := h.row
  clear hnl
  go_enter Try.func119, Try.ntmps119
  go_wp2_with fail
  go_loopw [8] (fun v8 wr => ∃ (i : Nat) (l1 : List Pe), a + 1 ≤ i ∧ (i ≤ b ∨ i = a + 1) ∧ v8 = .int .i64 i ∧ PRow wr base (.slice (some ⟨g, o, none⟩) n c) l1 ∧ w.grownBy wr (some g) ∧ insr a (b - i) i l1 = insertion l a b) (fun v8 _ => b - (intOf v8).toNat)
  case atStart => exact ⟨a + 1, l, Nat.le_refl _, .inr rfl, by go_num, h, grown_refl _ _, HI.out.symm⟩
  case round =>
    clear h hcap
    obtain ⟨i, l1, hi1, hi2, rfl, hrow, hgr, hins⟩ := hrel
    have HS := Lib.hid hins
    clear hins
    by_cases hib : i < b
    · have HS2 : Hid (insr a (b - (i + 1)) (i + 1) (sink a i l1) = insertion l a b) := Lib.hid (by
        rw [← HS.out, show b - i = (b - (i + 1)) + 1 by omega]; rfl)
      clear HS
      go_wp2_with fail
      go_loopw [9] (fun v9 wr => ∃ (j : Nat) (l2 : List Pe), a ≤ j ∧ j ≤ i ∧ v9 = .int .i64 j ∧ PRow wr base (.slice (some ⟨g, o, none⟩) n c) l2 ∧ w.grownBy wr (some g) ∧ sink a j l2 = sink a i l1) (fun v9 _ => (intOf v9).toNat)
      case atStart => exact ⟨i, l1, by omega, Nat.le_refl _, rfl, hrow, hgr, rfl⟩
      case round =>
        clear hrow hgr
        obtain ⟨j, l2, hj1, hj2, rfl, hrow, hgr, hsk⟩ := hrel
        have HSK := Lib.hid hsk
        clear hsk
        have hl2 := hrow.len_
        by_cases haj : a < j
        · obtain ⟨k, hk⟩ : ∃ k, j = k + 1 := ⟨j - 1, by omega⟩
          obtain ⟨c1, c2, f1, f2⟩ := hrow.at_ j (by omega)
          obtain ⟨c3, c4, f3, f4⟩ := hrow.at_ k (by omega)
          have hglt := hrow.g_lt
          have HUS : Hid (sink a j l2 = if (gt l2 j).cost < (gt l2 k).cost then sink a k (swp l2 j k) else l2) := Lib.hid (by
            subst hk
            show (if a < k + 1 ∧ _ then _ else _) = _
            simp only [show a < k + 1 from haj, true_and])
          have hsw := hrow.swap j k (by omega) (by omega)
          have e1 := gt_eq (l := l2) (i := j) (by omega)
          have e2 := gt_eq (l := l2) (i := k) (by omega)
          rw [← e1] at c1 c2
          rw [← e2] at c3 c4
          clear e1 e2
          generalize hP : gt l2 j = P at *
          generalize hQ : gt l2 k = Q at *
          have HP := Lib.hid hP
          have HQ := Lib.hid hQ
          clear hP hQ
          have hent : ∀ w, Sem.run Try.prog (callFunc 72 #[.agg #[.int .i64 P.cost, P.v], .agg #[.int .i64 Q.cost, Q.v]]) w = .ok (.enter 72 #[.agg #[.int .i64 P.cost, P.v], .agg #[.int .i64 Q.cost, Q.v]]) w := fun w => enters_cmp _ w
          have hgl := hglt.2
          have hgd : decide ((a : Int) < (j : Int)) = true := by rw [decide_eq_true_eq]; omega
          have q1 : (0 : Int) ≤ (j : Int) := by omega
          have q2 : (j : Int) < n := by omega
          have q3 : (0 : Int) ≤ k := by omega
          have q4 : (k : Int) < n := by omega
          have q5 : IntKind.i64.wrap ((j : Int) - 1) = k := by rw [show (j : Int) - 1 = k by omega]; exact Go.IntWalk.i64_in _ (by omega)
          have HK : Hid (∀ w', Below wr.heap.size wr w' → w'.cell? ⟨g, o + j * 2, none⟩ = some (.int .i64 P.cost) ∧ w'.cell? ⟨g, o + j * 2 + 1, none⟩ = some P.v ∧ w'.cell? ⟨g, o + k * 2, none⟩ = some (.int .i64 Q.cost) ∧ w'.cell? ⟨g, o + k * 2 + 1, none⟩ = some Q.v ∧ Below wr.heap.size wr w') :=
            Lib.hid fun w' h => ⟨(h.cell hgl).trans c1, (h.cell hgl).trans c2, (h.cell hgl).trans c3, (h.cell hgl).trans c4, h⟩
          have HKK := Lib.hid hk
          have HRW := Lib.hid hrow
          have HGR := Lib.hid hgr
          clear hk hl2 hrow hgr hsw hglt
          go_upto_region 4 with (fail)
          go_cut [34] (fun v34 wc => v34 = .bool (decide (cmpI P.cost Q.cost < 0)) ∧ Below wr.heap.size wr wc)
          case first =>
            go_region_held3 (fun w' => w'.cell? ⟨g, o + j * 2, none⟩ = some (.int .i64 P.cost) ∧ w'.cell? ⟨g, o + j * 2 + 1, none⟩ = some P.v ∧ w'.cell? ⟨g, o + k * 2, none⟩ = some (.int .i64 Q.cost) ∧ w'.cell? ⟨g, o + k * 2 + 1, none⟩ = some Q.v ∧ Below wr.heap.size wr w')
              (first | exact HK.out _ (by with_reducible assumption) | exact HK.out _ (Below.refl _ _).drew)
              (first | (go_at_call 72; refine (kcall (w2 := wr) ?_ (p_cmp P.cost Q.cost P.v Q.v _)).mono ?_; (first | with_reducible assumption | exact (Below.refl _ _).drew); rintro e w' ⟨rfl, hb⟩))
            all_goals
              go_wp2
              go_meet
              case rel => exact ⟨rfl, by with_reducible assumption⟩
          clear HK hent hgd c1 c2 c3 c4 f1 f2 f3 f4 hgl
          obtain ⟨rfl, hbc⟩ := hcut
          have HBC := Lib.hid hbc
          have hr3 := HRW.out.below hbc
          have hg3 := grown_below HGR.out hbc
          clear hbc HRW HGR
          rw [cmpI_lt]
          have hl3 := hr3.len_
          by_cases hPQ : P.cost < Q.cost
          · have HU2 := Lib.hid (HUS.out.trans (if_pos hPQ))
            have hd : decide (P.cost < Q.cost) = true := by simpa using hPQ
            have hk := HKK.out
            obtain ⟨c1, c2, f1, f2⟩ := hr3.at_ j (by omega)
            obtain ⟨c3, c4, f3, f4⟩ := hr3.at_ k (by omega)
            have hsw := hr3.drew.swap j k (by omega) (by omega)
            have hsw2 := hr3.drew.swap k j (by omega) (by omega)
            rw [swp_comm l2 k j, HP.out, HQ.out] at hsw2
            rw [HP.out, HQ.out] at hsw
            rw [← gt_eq (by omega), HP.out] at c1 c2
            rw [← gt_eq (by omega), HQ.out] at c3 c4
            have hg4 := put4_grown (only_drew hg3) o j k Q P
            have hg5 := put4_grown (only_drew hg3) o k j P Q
            obtain ⟨A1, m1, k1, hvP⟩ : ∃ A m k, P.v = .slice A m k := by
              have := hr3.syms (gt l2 j) (gt_mem (by omega))
              rw [HP.out] at this
              obtain ⟨A, c, h, _⟩ := this.slice
              exact ⟨A, _, c, h⟩
            obtain ⟨A2, m2, k2, hvQ⟩ : ∃ A m k, Q.v = .slice A m k := by
              have := hr3.syms (gt l2 k) (gt_mem (by omega))
              rw [HQ.out] at this
              obtain ⟨A, c, h, _⟩ := this.slice
              exact ⟨A, _, c, h⟩
            unfold put4 at hsw hsw2 hg4 hg5
            rw [hvP, hvQ] at hsw hsw2 hg4 hg5
            rw [hvP] at c2
            rw [hvQ] at c4
            have HSW := Lib.hid hsw
            have HSW2 := Lib.hid hsw2
            have HG4 := Lib.hid hg4
            have HG5 := Lib.hid hg5
            have n1 : ¬ o + j * 2 = o + k * 2 := by omega
            have n2 : ¬ o + k * 2 = o + j * 2 := by omega
            have n3 : ¬ o + j * 2 = o + k * 2 + 1 := by omega
            have n4 : ¬ o + k * 2 = o + j * 2 + 1 := by omega
            have n5 : ¬ o + j * 2 + 1 = o + k * 2 := by omega
            have n6 : ¬ o + k * 2 + 1 = o + j * 2 := by omega
            have n7 : ¬ o + j * 2 + 1 = o + k * 2 + 1 := by omega
            have n8 : ¬ o + k * 2 + 1 = o + j * 2 + 1 := by omega
            have hgl := hr3.g_lt.2
            rw [hd]
            clear hsw hsw2 hg4 hg5 hk hl3 hr3 hg3 hd hvP hvQ
            go_upto_region 6 with (fail)
            go_region
            all_goals
              go_wp2
              go_roundw
              case rel =>
                refine ⟨k, swp l2 j k, by have := HKK.out; omega, by have := HKK.out; omega, by go_num, ?_, ?_, ?_⟩
                · first | exact HSW.out | exact HSW2.out
                · first | exact HG4.out | exact HG5.out
                · rw [← HU2.out, HSK.out]
              case measure => have := HKK.out; simp [intOf]; omega
          · have HU2 := Lib.hid (HUS.out.trans (if_neg hPQ))
            have hd : decide (P.cost < Q.cost) = false := by simpa using hPQ
            rw [hd]
            clear hd hl3
            go_wp2
            go_roundw
            case rel => exact ⟨i + 1, l2, by omega, .inl (by omega), by go_num, hr3, hg3, by rw [← HS2.out, ← HSK.out, HU2.out]⟩
            case measure => simp [intOf]; omega
        · have HU2 : Hid (sink a j l2 = l2) := Lib.hid (by
            cases j with
            | zero => rfl
            | succ j => unfold sink; rw [if_neg (fun h => by omega)])
          have hd : decide ((a : Int) < (j : Int)) = false := by rw [decide_eq_false_iff_not]; omega
          have HRW := Lib.hid hrow
          have HGR := Lib.hid hgr
          clear hl2 hrow hgr
          go_upto_region 4 with (fail)
          go_quiet (fail)
          go_wp2
          go_roundw
          case rel => exact ⟨i + 1, l2, by omega, .inl (by omega), by go_num, HRW.out.drewN _, only_drewN HGR.out _, by rw [← HS2.out, ← HSK.out, HU2.out]⟩
          case measure => simp [intOf]; omega
    · have h0 : b - i = 0 := by omega
      rw [h0] at HS
      have HF : Hid (l1 = insertion l a b) := Lib.hid HS.out
      go_wp2
      go_end0
      exact ⟨rfl, by rw [← HF.out]; exact hrow, hgr⟩

end Go.Proofs.Ytoefkkgnabjmdaa
