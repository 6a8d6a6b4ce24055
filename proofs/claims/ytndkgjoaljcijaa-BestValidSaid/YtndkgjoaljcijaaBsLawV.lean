/- Chapter 26's law BestValid: by a walk. -/
import Derived.Test.YtndkgjoaljcijaaBsAwake
set_option linter.unusedSimpArgs false
set_option linter.unusedVariables false
set_option maxRecDepth 100000
namespace Go.Proofs.Ytndkgjoaljcijaa
open Go.RowKit

set_option maxHeartbeats 4000000 in
theorem law_BestValid (h b : List UInt8) (r : Rp) (s0 s1 s2 win : Int) (A B : Option Addr) (c1 c2 : Nat) (m d : List Int) (w : World) (lh : h.length ≤ 9223372036854775807) (lb : b.length ≤ 9223372036854775807) (hm : ReadsI w A m) (hd : ReadsI w B d) (l1 : m.length ≤ 9223372036854775807) (l2 : d.length ≤ 9223372036854775807) :
    Calls Try.prog 3 #[taskV h b r s0 s1 s2 win, .slice A m.length c1, .slice B d.length c2] w fun e w' => e = .returned (.bool true) ∧ Below w.heap.size w w' := by
  have hb0 := bl_alloc (Below.refl w.heap.size w) (.cells (taskC h b r s0 s1 s2 win) 27)
  have z0 := Blk.new w 27 (taskC h b r s0 s1 s2 win)
  have hm0 := hm.below hb0
  have hd0 := hd.below hb0
  have hfew := p_Few h b r s0 s1 s2 win 12 (by omega) (w.alloc (.cells (taskC h b r s0 s1 s2 win) 27)) lh lb
  unfold taskC at hb0 z0 hm0 hd0 hfew
  unfold taskV at *
  clear hm hd
  go_enter Try.func3, Try.ntmps3
  go_wp2_with fail
  refine hfew.mono ?_
  rintro e w1 ⟨rfl, hb1⟩
  have y0 := z0.below hb1 z0.lt
  have hm1 := hm0.below hb1
  have hd1 := hd0.below hb1
  have hbw := bl_then hb0 hb0.size hb1
  clear z0 hm0 hd0 hb0 hb1 hfew
  by_cases hfw : 12 < h.length ∨ 12 < b.length
  · rw [if_pos hfw]
    clear hfw
    go_wp2_with fail
    refine (awake26 _).mono ?_
    rintro e w2 ⟨rfl, hb2⟩
    have HB := Lib.hid (bl_then hbw hbw.size hb2)
    clear hbw hb2 hm1 hd1 y0
    go_wp2
    go_ret
    exact ⟨rfl, HB.out⟩
  · rw [if_neg hfw]
    have hsome := p_Some A B c1 c2 m d _ hm1 hd1 l1 l2
    go_wp2_with fail
    refine hsome.mono ?_
    rintro e w2 ⟨b1, b2, xs, ys, hx, hy, rfl, hr1, hr2, hl1, hl2, hb2⟩
    clear hx hy hsome
    have y2 := y0.below hb2 y0.lt
    have hbw2 := bl_then hbw hbw.size hb2
    have zp := Blk.new w2 32 #[.slice (some ⟨b1, 0, none⟩) 401 401, .slice (some ⟨b2, 0, none⟩) 52 52]
    have z0 := y2.alloc (.cells #[.slice (some ⟨b1, 0, none⟩) 401 401, .slice (some ⟨b2, 0, none⟩) 52 52] 32)
    have hbz := bl_alloc hbw2 (.cells #[.slice (some ⟨b1, 0, none⟩) 401 401, .slice (some ⟨b2, 0, none⟩) 52 52] 32)
    have hmz := hr1.alloc (.cells #[.slice (some ⟨b1, 0, none⟩) 401 401, .slice (some ⟨b2, 0, none⟩) 52 52] 32)
    have hdz := hr2.alloc (.cells #[.slice (some ⟨b1, 0, none⟩) 401 401, .slice (some ⟨b2, 0, none⟩) 52 52] 32)
    have a2 := Blk.cell y2
    have t2 := y2.lt
    have lh12 : h.length ≤ 12 := by omega
    have lb12 : b.length ≤ 12 := by omega
    have hchk := fun w' hm hd => r_PCheck (some ⟨b1, 0, none⟩) (some ⟨b2, 0, none⟩) xs ys 401 52 w' hm hd (by omega) (by omega)
    unfold priceV at hchk
    have HL := Lib.hid (And.intro hl1 hl2)
    rw [hl1, hl2] at hchk
    clear y0 hbw hb2 hm1 hd1 hr1 hr2 hbw2 hfw y2
    by_cases hbc : bchk win xs ys = 0
    · have hE := chk_env (h := h) (b := b) hbc
      obtain ⟨l, c, hg⟩ := parse_gives h b r xs ys win lh12 lb12 hE
      have w1e : ¬ win < 1 := by have := hE.win1; simp only at this; omega
      have w2e : ¬ 67108864 < win := by have := hE.win2; simp only at this; omega
      have hk0 : chkE xs ys = 0 := by
        unfold bchk at hbc
        rw [if_neg (by omega)] at hbc
        exact hbc
      rw [hk0] at hchk
      have hcall := fun w' hm hd => hg.call (some ⟨b1, 0, none⟩) (some ⟨b2, 0, none⟩) 401 52 w' hm hd
      have hall := fun T c3 w' hm hd hT => r_All23 (some ⟨b1, 0, none⟩) (some ⟨b2, 0, none⟩) T xs ys 401 52 c3 l w' hm hd hT hl1 hl2 hE.mok hE.dok hg.toks (by have := hg.len; omega)
      have hsame := fun T1 T2 k1 k2 w' hT1 hT2 => r_Same_eq T1 T2 k1 k2 l w' hT1 hT2 (by have := hg.len; omega)
      have hval := fun T k w' hT => r_Valid h r T k l win b w' hT (by have := hg.len; omega) (by have := hg.len; omega) (by omega)
      have ev : validT win h r l b = true := by unfold validT; rw [hg.err, hg.bytes]; simp
      rw [ev] at hval
      rw [hg.cost] at hall
      unfold priceV rpV at hcall
      unfold priceV at hall
      unfold rpV at hval
      rw [hl1, hl2] at hcall hall
      have hcc : (c == c) = true := by simp
      clear hl1 hl2 hbc hk0 hE ev hg
      go_wp2_with fail
      generalize w2.alloc (.cells #[.slice (some ⟨b1, 0, none⟩) 401 401, .slice (some ⟨b2, 0, none⟩) 52 52] 32) = w3 at *
      generalize w2.heap.size = P at *
      refine (hcall _ hmz hdz).mono ?_
      rintro e w4 ⟨v1, rfl, hr4, hb4⟩
      have x0 := z0.below hb4 z0.lt
      have xp := zp.below hb4 zp.lt
      have hm4 := hmz.below hb4
      have hd4 := hdz.below hb4
      have hbx := bl_then hbz hbz.size hb4
      clear z0 zp hmz hdz hbz hb4 a2 t2
      have a2 := Blk.cell x0
      have ap := Blk.cell xp
      have t2 := x0.lt
      have tp := xp.lt
      go_wp2_with fail
      refine (hchk _ hm4 hd4).mono ?_
      rintro e w5 ⟨rfl, hb5⟩
      have z0 := x0.below hb5 x0.lt
      have zp := xp.below hb5 xp.lt
      have hm5 := hm4.below hb5
      have hd5 := hd4.below hb5
      have hr5 := Row.below hr4 hb5
      have hbz := bl_then hbx hbx.size hb5
      clear x0 xp hm4 hd4 hr4 hbx hb5 hchk a2 ap t2 tp
      have a2 := Blk.cell z0
      have ap := Blk.cell zp
      have t2 := z0.lt
      have tp := zp.lt
      go_wp2_with fail
      refine (hcall _ hm5 hd5).mono ?_
      rintro e w6 ⟨v2, rfl, hr6, hb6⟩
      have x0 := z0.below hb6 z0.lt
      have xp := zp.below hb6 zp.lt
      have hm6 := hm5.below hb6
      have hd6 := hd5.below hb6
      have hr7 := Row.below hr5 hb6
      have hbx := bl_then hbz hbz.size hb6
      obtain ⟨T1, k1, rfl, hk1⟩ := Row.slice hr7
      obtain ⟨T2, k2, rfl, hk2⟩ := Row.slice hr6
      have hT1 := (RowT.reads hr7).2
      have hT2 := (RowT.reads hr6).2
      clear z0 zp hm5 hd5 hr5 hbz hb6 hcall a2 ap t2 tp hr6 hr7
      have a2 := Blk.cell x0
      have ap := Blk.cell xp
      have t2 := x0.lt
      have tp := xp.lt
      go_wp2_with fail
      refine (hall T1 k1 _ hm6 hd6 hT1).mono ?_
      rintro e w7 ⟨rfl, hb7⟩
      have z0 := x0.below hb7 x0.lt
      have hU1 := hT1.below hb7
      have hU2 := hT2.below hb7
      have hbz := bl_then hbx hbx.size hb7
      clear x0 xp hm6 hd6 hT1 hT2 hbx hb7 hall a2 ap t2 tp
      have a2 := Blk.cell z0
      have t2 := z0.lt
      go_wp2_with fail
      refine (hsame T1 T2 k1 k2 _ hU1 hU2).mono ?_
      rintro e w8 ⟨rfl, hb8⟩
      have x0 := z0.below hb8 z0.lt
      have hT1 := hU1.below hb8
      have hbx := bl_then hbz hbz.size hb8
      clear z0 hU1 hU2 hbz hb8 hsame a2 t2
      have a2 := Blk.cell x0
      have t2 := x0.lt
      go_wp2_with fail
      refine (hval T1 k1 _ hT1).mono ?_
      rintro e w9 ⟨rfl, hb9⟩
      have hbz := bl_then hbx hbx.size hb9
      clear x0 hT1 hbx hb9 hval a2 t2
      go_wp2_with fail
      refine (awake26 _).mono ?_
      rintro e wa ⟨rfl, hba⟩
      have HB := Lib.hid (bl_then hbz hbz.size hba)
      clear hbz hba
      go_wp2
      go_ret
      exact ⟨rfl, HB.out⟩
    · have hp := fun w' hm hd => p_Parse_err h b r (some ⟨b1, 0, none⟩) (some ⟨b2, 0, none⟩) xs ys 401 52 win w' hm hd (by have := HL.out; omega) (by have := HL.out; omega) (by omega) (by omega) hbc
      unfold priceV rpV at hp
      rw [hl1, hl2] at hp
      have hwin : Hid ((win < 1 ∧ bchk win xs ys = 1) ∨ (¬ win < 1 ∧ 67108864 < win ∧ bchk win xs ys = 1) ∨ (¬ win < 1 ∧ ¬ 67108864 < win ∧ bchk win xs ys = chkE xs ys ∧ chkE xs ys ≠ 0)) := Lib.hid (by
        unfold bchk
        by_cases q1 : win < 1
        · exact .inl ⟨q1, if_pos (.inl q1)⟩
        · by_cases q2 : 67108864 < win
          · exact .inr (.inl ⟨q1, q2, if_pos (.inr q2)⟩)
          · refine .inr (.inr ⟨q1, q2, if_neg (by omega), fun q => hbc ?_⟩)
            unfold bchk
            rw [if_neg (by omega)]
            exact q)
      generalize chkE xs ys = K at *
      generalize bchk win xs ys = Bk at *
      clear hl1 hl2 hbc
      go_wp2_with fail
      generalize w2.alloc (.cells #[.slice (some ⟨b1, 0, none⟩) 401 401, .slice (some ⟨b2, 0, none⟩) 52 52] 32) = w3 at *
      generalize w2.heap.size = P at *
      refine (hp _ hmz hdz).mono ?_
      rintro e w4 ⟨rfl, hb4⟩
      have x0 := z0.below hb4 z0.lt
      have xp := zp.below hb4 zp.lt
      have hm4 := hmz.below hb4
      have hd4 := hdz.below hb4
      have hbx := bl_then hbz hbz.size hb4
      clear z0 zp hmz hdz hbz hb4 hp a2 t2
      have a2 := Blk.cell x0
      have ap := Blk.cell xp
      have t2 := x0.lt
      have tp := xp.lt
      go_wp2_with fail
      refine (hchk _ hm4 hd4).mono ?_
      rintro e w5 ⟨rfl, hb5⟩
      have z0 := x0.below hb5 x0.lt
      have hbz := bl_then hbx hbx.size hb5
      clear x0 xp hm4 hd4 hbx hb5 hchk a2 ap t2 tp
      have a2 := Blk.cell z0
      have t2 := z0.lt
      rcases hwin.out with ⟨q1, q2⟩ | ⟨q1, q2, q3⟩ | ⟨q1, q2, q3, q4⟩
      · subst q2
        go_wp2_with fail
        refine (awake26 _).mono ?_
        rintro e w6 ⟨rfl, hb6⟩
        have HB := Lib.hid (bl_then hbz hbz.size hb6)
        clear hbz hb6 z0 a2
        go_wp2
        go_ret
        exact ⟨rfl, HB.out⟩
      · subst q3
        go_wp2_with fail
        refine (awake26 _).mono ?_
        rintro e w6 ⟨rfl, hb6⟩
        have HB := Lib.hid (bl_then hbz hbz.size hb6)
        clear hbz hb6 z0 a2
        go_wp2
        go_ret
        exact ⟨rfl, HB.out⟩
      · subst q3
        have q5 : (Bk != 0) = true := by simpa using q4
        clear q4 hwin
        go_wp2_with fail
        refine (awake26 _).mono ?_
        rintro e w6 ⟨rfl, hb6⟩
        have HB := Lib.hid (bl_then hbz hbz.size hb6)
        clear hbz hb6 z0 a2
        go_wp2
        go_ret
        exact ⟨rfl, HB.out⟩
end Go.Proofs.Ytndkgjoaljcijaa
