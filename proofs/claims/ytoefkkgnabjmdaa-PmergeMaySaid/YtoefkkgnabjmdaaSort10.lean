/- The library's stable sort of packs: merging two rows, by a walk. -/
import Derived.Test.YtoefkkgnabjmdaaSort9
import Derived.Deep.CutBlock
set_option linter.unusedSimpArgs false
set_option linter.unusedVariables false
set_option maxRecDepth 100000
namespace Go.Proofs.Ytoefkkgnabjmdaa
open Go.RowKit

set_option maxHeartbeats 8000000 in
theorem p_sym3 (f base g o c n a m b : Nat) (l : List Pe) (hn : n ≤ 1000000000) (ham : a + 1 < m) (hmb : m + 1 < b) (hb : b ≤ n) (hf : b - a ≤ f + 1)
    (IH : ∀ (a m b : Nat) (l : List Pe) (w : World), b - a ≤ f → a < m → m < b → b ≤ n → PRow w base (.slice (some ⟨g, o, none⟩) n c) l → Calls Try.prog 120 #[(.slice (some ⟨g, o, none⟩) n c), .int .i64 a, .int .i64 m, .int .i64 b, (.func (.func 72) #[] #[])] w (Works w base g (.slice (some ⟨g, o, none⟩) n c) (symM f l a m b)))
    (w : World) (h : PRow w base (.slice (some ⟨g, o, none⟩) n c) l) :
    Calls Try.prog 120 #[(.slice (some ⟨g, o, none⟩) n c), .int .i64 a, .int .i64 m, .int .i64 b, (.func (.func 72) #[] #[])] w (Works w base g (.slice (some ⟨g, o, none⟩) n c) (symM (f + 1) l a m b)) := by
  have hm1 : ((m : Int) - a == 1) = false := by rw [beq_eq_false_iff_ne]; omega
  have hm2 : ((b : Int) - m == 1) = false := by rw [beq_eq_false_iff_ne]; omega
  obtain ⟨mid, hmid⟩ : ∃ x, x = (a + b) / 2 := ⟨_, rfl⟩
  obtain ⟨FR, hFR⟩ : ∃ x, x = symFrom a m b := ⟨_, rfl⟩
  obtain ⟨TO, hTO⟩ : ∃ x, x = symTo a m b := ⟨_, rfl⟩
  have HFT : Hid ((mid < m ∧ FR = mid + m - b ∧ TO = mid) ∨ (m ≤ mid ∧ FR = a ∧ TO = m)) := Lib.hid (by
    unfold symFrom at hFR
    unfold symTo at hTO
    rw [← hmid] at hFR hTO
    by_cases hmm : mid < m
    · rw [if_pos hmm] at hFR hTO
      exact .inl ⟨hmm, hFR, hTO⟩
    · rw [if_neg hmm] at hFR hTO
      exact .inr ⟨by omega, hFR, hTO⟩)
  have hb1 : a ≤ FR := by have := HFT.out; omega
  have hb2 : FR ≤ TO := by have := HFT.out; omega
  have hb3 : TO ≤ m := by have := HFT.out; omega
  have hb4 : mid + m ≤ FR + b := by have := HFT.out; omega
  have hb5 : TO ≤ mid := by have := HFT.out; omega
  have HB6 : Hid (mid < m → b ≤ mid + m) := Lib.hid (fun h => by omega)
  have hmida : a < mid := by omega
  have hmidb : mid < b := by omega
  have HSS : Hid (symStart l a m b = bs3 l (mid + m - 1) FR TO) := Lib.hid (by unfold symStart; rw [← hmid, ← hFR, ← hTO])
  have HMID := Lib.hid hmid
  have HIH := Lib.hid IH
  clear hmid hFR hTO IH
  go_enter Try.func120, Try.ntmps120
  go_upto_region 24 with (fail)
  go_cut [18] (fun v18 wc => v18 = .int .i64 mid ∧ wc = w)
  case first =>
    go_wp2
    go_meet
    case rel => exact ⟨congrArg (Value.int .i64) (by have := HMID.out; omega), rfl⟩
  obtain ⟨rfl, rfl⟩ := hcut
  go_upto_if 140 with (fail)
  go_cut [20, 21] (fun v20 v21 wd => v20 = .int .i64 FR ∧ v21 = .int .i64 TO ∧ wd = wc)
  case first =>
    by_cases hmm : mid < m
    · have hd : decide ((mid : Int) < m) = true := by rw [decide_eq_true_eq]; omega
      go_wp2
      go_meet
      case rel => exact ⟨congrArg (Value.int .i64) (by have := HFT.out; have := HB6.out hmm; omega), congrArg (Value.int .i64) (by have := HFT.out; omega), rfl⟩
    · have hd : decide ((mid : Int) < m) = false := by rw [decide_eq_false_iff_not]; omega
      go_wp2
      go_meet
      case rel => exact ⟨congrArg (Value.int .i64) (by have := HFT.out; omega), congrArg (Value.int .i64) (by have := HFT.out; omega), rfl⟩
  obtain ⟨rfl, rfl, rfl⟩ := hcut
  obtain ⟨p, hp⟩ : ∃ p, p = mid + m - 1 := ⟨_, rfl⟩
  have HPP := Lib.hid hp
  have hp1 : mid + m = p + 1 := by omega
  have HP1 := Lib.hid hp1
  clear hp hp1
  go_upto_region 32 with (fail)
  go_cut [22] (fun v22 wd => v22 = .int .i64 p ∧ wd = wc)
  case first =>
    go_wp2
    go_meet
    case rel => exact ⟨congrArg (Value.int .i64) (by have := HP1.out; omega), rfl⟩
  obtain ⟨rfl, rfl⟩ := hcut
  obtain ⟨w0, hw0⟩ : ∃ w0, w0 = wc := ⟨_, rfl⟩
  subst hw0
  go_upto_block 8 with (fail)
  go_cut [20, 21] (fun v20 v21 wd => ∃ i : Nat, v20 = .int .i64 i ∧ FR ≤ i ∧ i ≤ TO ∧ bs3 l p FR TO = i ∧ PRow wd base (.slice (some ⟨g, o, none⟩) n c) l ∧ w0.grownBy wd (some g))
  case first =>
    go_wp2_with fail
    go_loopw [20, 21] (fun v20 v21 wr => ∃ i j : Nat, FR ≤ i ∧ i ≤ j ∧ j ≤ TO ∧ v20 = .int .i64 i ∧ v21 = .int .i64 j ∧ PRow wr base (.slice (some ⟨g, o, none⟩) n c) l ∧ w0.grownBy wr (some g) ∧ bs3 l p i j = bs3 l p FR TO) (fun v20 v21 _ => (intOf v21).toNat - (intOf v20).toNat)
    case atStart => exact ⟨FR, TO, Nat.le_refl _, hb2, Nat.le_refl _, rfl, rfl, h, grown_refl _ _, rfl⟩
    case round =>
      clear h
      obtain ⟨i, j, hi, hij, hj, rfl, rfl, hrow, hgr, hs⟩ := hrel
      have HS := Lib.hid hs
      have HRW := Lib.hid hrow
      have HGR := Lib.hid hgr
      clear hs
      by_cases hlt : i < j
      · have HST := Lib.hid (bs3_step l p i j hlt)
        obtain ⟨x, hx⟩ : ∃ x, x = (i + j) / 2 := ⟨_, rfl⟩
        rw [← hx] at HST
        obtain ⟨y, hy⟩ : ∃ y, y = p - x := ⟨_, rfl⟩
        rw [← hy] at HST
        have HX := Lib.hid hx
        have hx1 : i ≤ x := by omega
        have hx2 : x < j := by omega
        have hpm := HP1.out
        have qy : IntKind.i64.wrap ((p : Int) - x) = y := by rw [show (p : Int) - x = y by omega]; exact Go.IntWalk.i64_in _ (by omega)
        have hyn : y < n := by omega
        have hlC := (hrow).len_
        obtain ⟨c1, c2, f1, f2⟩ := (hrow).at_ y (by omega)
        obtain ⟨c3, c4, f3, f4⟩ := (hrow).at_ x (by omega)
        rw [← gt_eq (by omega)] at c1 c2 c3 c4
        have hglC := (hrow).g_lt.2
        generalize hP : gt l y = P at *
        generalize hQ : gt l x = Q at *
        have HP := Lib.hid hP
        have HQ := Lib.hid hQ
        have hent : ∀ w, Sem.run Try.prog (callFunc 72 #[.agg #[.int .i64 P.cost, P.v], .agg #[.int .i64 Q.cost, Q.v]]) w = .ok (.enter 72 #[.agg #[.int .i64 P.cost, P.v], .agg #[.int .i64 Q.cost, Q.v]]) w := fun w => enters_cmp _ w
        have qx1 : (0 : Int) ≤ (y : Int) := by omega
        have qx2 : (y : Int) < n := by omega
        have qy1 : (0 : Int) ≤ (x : Int) := by omega
        have qy2 : (x : Int) < n := by omega
        have HK : Hid (∀ w', Below wr.heap.size wr w' → w'.cell? ⟨g, o + y * 2, none⟩ = some (.int .i64 P.cost) ∧ w'.cell? ⟨g, o + y * 2 + 1, none⟩ = some P.v ∧ w'.cell? ⟨g, o + x * 2, none⟩ = some (.int .i64 Q.cost) ∧ w'.cell? ⟨g, o + x * 2 + 1, none⟩ = some Q.v ∧ Below wr.heap.size wr w') :=
          Lib.hid fun w' h => ⟨(h.cell hglC).trans c1, (h.cell hglC).trans c2, (h.cell hglC).trans c3, (h.cell hglC).trans c4, h⟩
        clear hP hQ hlC
        clear hrow hgr hx hy hpm
        go_upto_region 34 with (fail)
        go_cut [23] (fun v12 wc => v12 = .int .i64 x ∧ wc = wr)
        case first =>
          go_wp2
          go_meet
          case rel => exact ⟨congrArg (Value.int .i64) (by have := HX.out; omega), rfl⟩
        obtain ⟨rfl, rfl⟩ := hcut
        go_upto_region 35 with (fail)
        go_cut [171] (fun vC wd => vC = .bool (!decide (cmpI P.cost Q.cost < 0)) ∧ Below wc.heap.size wc wd)
        case first =>
          go_region_held3 (fun w' => w'.cell? ⟨g, o + y * 2, none⟩ = some (.int .i64 P.cost) ∧ w'.cell? ⟨g, o + y * 2 + 1, none⟩ = some P.v ∧ w'.cell? ⟨g, o + x * 2, none⟩ = some (.int .i64 Q.cost) ∧ w'.cell? ⟨g, o + x * 2 + 1, none⟩ = some Q.v ∧ Below wc.heap.size wc w')
            (first | exact HK.out _ (by with_reducible assumption) | exact HK.out _ (Below.refl _ _).drew)
            (first | (go_at_call 72; refine (kcall (w2 := wc) ?_ (p_cmp P.cost Q.cost P.v Q.v _)).mono ?_; (first | with_reducible assumption | exact (Below.refl _ _).drew); rintro e w' ⟨rfl, hb⟩))
          all_goals
            go_wp2
            go_meet
            case rel => exact ⟨rfl, by with_reducible assumption⟩
        clear HK hent c1 c2 c3 c4 f1 f2 f3 f4 hglC
        obtain ⟨rfl, hbc⟩ := hcut
        rw [cmpI_lt]
        have hr3 := HRW.out.below hbc
        have hg3 := grown_below HGR.out hbc
        by_cases hPQ : P.cost < Q.cost
        · have HN : Hid (bs3 l p i x = bs3 l p FR TO) := Lib.hid (by rw [← HS.out, HST.out, if_neg (fun h => h hPQ)])
          have hd : decide (P.cost < Q.cost) = true := by simpa using hPQ
          rw [hd, Bool.not_true]
          clear hd hPQ hbc
          go_wp2
          go_roundw
          case rel => exact ⟨i, x, hi, hx1, by omega, rfl, rfl, hr3, hg3, HN.out⟩
          case measure => simp [intOf]; omega
        · have HN : Hid (bs3 l p (x + 1) j = bs3 l p FR TO) := Lib.hid (by rw [← HS.out, HST.out, if_pos hPQ])
          have hd : decide (P.cost < Q.cost) = false := by simpa using hPQ
          rw [hd, Bool.not_false]
          clear hd hPQ hbc
          go_wp2
          go_roundw
          case rel => exact ⟨x + 1, j, by omega, by omega, hj, by go_num, rfl, hr3, hg3, HN.out⟩
          case measure => simp [intOf]; omega

      · have HBE : Hid (bs3 l p FR TO = i) := Lib.hid (by rw [← HS.out, bs3_end _ _ _ _ hlt])
        clear HS hrow hgr
        go_wp2
        go_meet
        case rel => exact ⟨i, rfl, hi, by omega, HBE.out, HRW.out, HGR.out⟩
  obtain ⟨i, rfl, hi1, hi2, hbs, hr4, hg4⟩ := hcut
  have hs1 : symStart l a m b = i := by rw [HSS.out, ← HPP.out, hbs]
  have hmain := symM_main f l a m b mid i (mid + m - i) (by omega) (by omega) HMID.out hs1 rfl
  refine ‹∀ (a : Act) (w : World), Code.wp Try.prog _ _ a w → _› _ _ ?_
  exact sTail f base g o c n a m b mid i (mid + m - i) l _ hn hb rfl (by omega) (by omega) (by omega) (by omega) (by omega) (by omega) HIH.out hmain.symm w0 wc hr4 hg4 _ _ _ _ _ _ _ _ _ _ _ _ _ _ _ _ _ _ _ _ _ _ _ _ _ _ _ _ _ _ _ _ _ _ _ _ _ _ _ _ _ _ _ _ _ _ _ _ _ _ _ _ _ _ _ _ _ _ _ _ _ _ _ _ _ _ _ _ _ _ _ _ _ _ _ _ _ _ _ _ _ _ _ _ _ _ _ _ _ _ _ _ _ _ _ _ _ _ _ _ _ _ _ _ _ _ _ _ _ _ _ _ _ _ _ _ _ _ _ _ _ _ _ _ _ _ _ _ _ _ _ _ _ _ _ _ _ _ _ _ _ _ _ _ _ _ _ _ _ _ _ _ _ _ _ _ _ _ _ _ _ _ _ _ _ _ _ _ _ _ _ _ _ _ _ _ _ _ _ _ _ _ _ _ _ _ _ _ _ _ _ _ _ _ _ _ _ _ _ _ _ _ _ _ _ _ _ _ _ _ _ _

end Go.Proofs.Ytoefkkgnabjmdaa
