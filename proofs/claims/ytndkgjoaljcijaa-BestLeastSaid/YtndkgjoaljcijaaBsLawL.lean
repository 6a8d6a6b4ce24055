/- Chapter 26's law BestLeast: by a walk. -/
import Derived.Test.YtndkgjoaljcijaaBsAwake
import Derived.Test.YtndkgjoaljcijaaBsLeast
import Derived.BigQuiet
import Derived.BigRegion
set_option linter.unusedSimpArgs false
set_option linter.unusedVariables false
set_option maxRecDepth 100000
namespace Go.Proofs.Ytndkgjoaljcijaa
open Go.RowKit

set_option maxHeartbeats 4000000 in
theorem law_BestLeast (h b : List UInt8) (r : Rp) (s0 s1 s2 win : Int) (A B : Option Addr) (c1 c2 : Nat) (m d : List Int) (w : World) (lh : h.length ≤ 9223372036854775807) (lb : b.length ≤ 9223372036854775807) (hm : ReadsI w A m) (hd : ReadsI w B d) (l1 : m.length ≤ 9223372036854775807) (l2 : d.length ≤ 9223372036854775807) :
    Calls Try.prog 4 #[taskV h b r s0 s1 s2 win, .slice A m.length c1, .slice B d.length c2] w fun e w' => e = .returned (.bool true) ∧ Below w.heap.size w w' := by
  have hb0 := bl_alloc (Below.refl w.heap.size w) (.cells (taskC h b r s0 s1 s2 win) 27)
  have z0 := (Blk.new w 27 (taskC h b r s0 s1 s2 win))
  have hm0 := hm.below hb0
  have hd0 := hd.below hb0
  have hsome := p_Some A B c1 c2 m d _ hm0 hd0 l1 l2
  unfold taskC at hb0 z0 hm0 hd0 hsome
  unfold taskV
  clear hm hd
  go_enter Try.func4, Try.ntmps4
  go_wp2_with fail
  refine hsome.mono ?_
  rintro e w1 ⟨b1, b2, xs, ys, hx, hy, rfl, hr1, hr2, hl1, hl2, hb1⟩
  clear hx hy hsome hm0 hd0
  have y0 := z0.below hb1 z0.lt
  have hbw := bl_then hb0 hb0.size hb1
  have zp := Blk.new w1 32 #[.slice (some ⟨b1, 0, none⟩) 401 401, .slice (some ⟨b2, 0, none⟩) 52 52]
  have z1 := y0.alloc (.cells #[.slice (some ⟨b1, 0, none⟩) 401 401, .slice (some ⟨b2, 0, none⟩) 52 52] 32)
  have hbz := bl_alloc hbw (.cells #[.slice (some ⟨b1, 0, none⟩) 401 401, .slice (some ⟨b2, 0, none⟩) 52 52] 32)
  have hmz := hr1.alloc (.cells #[.slice (some ⟨b1, 0, none⟩) 401 401, .slice (some ⟨b2, 0, none⟩) 52 52] 32)
  have hdz := hr2.alloc (.cells #[.slice (some ⟨b1, 0, none⟩) 401 401, .slice (some ⟨b2, 0, none⟩) 52 52] 32)
  have hchk := fun w' hm hd => r_PCheck (some ⟨b1, 0, none⟩) (some ⟨b2, 0, none⟩) xs ys 401 52 w' hm hd (by omega) (by omega)
  unfold priceV at hchk
  have HL := Lib.hid (And.intro hl1 hl2)
  rw [hl1, hl2] at hchk
  have a2 := Blk.cell z1
  have ap := Blk.cell zp
  have t2 := z1.lt
  have tp := zp.lt
  clear z0 hb0 hb1 y0 hbw hr1 hr2 hl1 hl2
  have HLB := Lib.hid (And.intro lh lb)
  clear lh lb
  have hsh : (str h).size = h.length := str_size h
  have hsb : (str b).size = b.length := str_size b
  by_cases g0 : 4 < h.length
  · have g1b : decide ((4 : Int) < ((str h).size : Int)) = true := decide_eq_true (by omega)
    have g1n : decide (4 < (str h).size) = true := decide_eq_true (by omega)
    clear g0 z1 zp hmz hdz hsh hsb
    go_wp2_with fail
    refine (awake26 _).mono ?_
    rintro e wz ⟨rfl, hbq⟩
    have HB := Lib.hid (bl_then hbz hbz.size hbq)
    clear hbz hbq
    go_wp2
    go_ret
    exact ⟨rfl, HB.out⟩
  have g0b : decide ((4 : Int) < ((str h).size : Int)) = false := decide_eq_false (by omega)
  have g0n : decide (4 < (str h).size) = false := decide_eq_false (by omega)
  by_cases g1 : 6 < b.length
  · have g1b : decide ((6 : Int) < ((str b).size : Int)) = true := decide_eq_true (by omega)
    have g1n : decide (6 < (str b).size) = true := decide_eq_true (by omega)
    clear g0 g1 z1 zp hmz hdz hsh hsb
    go_wp2_with fail
    refine (awake26 _).mono ?_
    rintro e wz ⟨rfl, hbq⟩
    have HB := Lib.hid (bl_then hbz hbz.size hbq)
    clear hbz hbq
    go_wp2
    go_ret
    exact ⟨rfl, HB.out⟩
  have g1b : decide ((6 : Int) < ((str b).size : Int)) = false := decide_eq_false (by omega)
  have g1n : decide (6 < (str b).size) = false := decide_eq_false (by omega)
  have hadd := hadd_of h b (by omega)
  have hasz : (str h).size + (str b).size ≤ 9223372036854775807 := by rw [str_size, str_size]; omega
  have HN := Lib.hid (show h.length ≤ 4 ∧ b.length ≤ 6 by omega)
  have HSH := Lib.hid hsh
  clear g0 g1 hsh hsb
  by_cases g2 : win < 1
  · have g2b : decide (win < 1) = true := decide_eq_true g2
    clear z1 zp hmz hdz
    go_wp2_with fail
    refine (awake26 _).mono ?_
    rintro e wz ⟨rfl, hbq⟩
    have HB := Lib.hid (bl_then hbz hbz.size hbq)
    clear hbz hbq
    go_wp2
    go_ret
    exact ⟨rfl, HB.out⟩
  have g2b : decide (win < 1) = false := decide_eq_false g2
  by_cases g3 : 67108864 < win
  · have g3b : decide (67108864 < win) = true := decide_eq_true g3
    clear z1 zp hmz hdz
    go_wp2_with fail
    refine (awake26 _).mono ?_
    rintro e wz ⟨rfl, hbq⟩
    have HB := Lib.hid (bl_then hbz hbz.size hbq)
    clear hbz hbq
    go_wp2
    go_ret
    exact ⟨rfl, HB.out⟩
  have g3b : decide (67108864 < win) = false := decide_eq_false g3
  go_wp2_with fail
  refine (hchk _ hmz hdz).mono ?_
  rintro e w4 ⟨rfl, hb4⟩
  have x1 := z1.below hb4 z1.lt
  have xp := zp.below hb4 zp.lt
  have hm4 := hmz.below hb4
  have hd4 := hdz.below hb4
  have hbx := bl_then hbz hbz.size hb4
  clear hchk hb4 z1 zp hmz hdz hbz a2 ap t2 tp
  generalize w1.heap.size = P at *
  have a2 := Blk.cell x1
  have ap := Blk.cell xp
  have t2 := x1.lt
  have tp := xp.lt
  by_cases hk : chkE xs ys = 0
  · have hE := chk_env (h := h) (b := b) (m := xs) (d := ys) (window := win) (by unfold bchk; rw [if_neg (by omega)]; exact hk)
    rw [hk]
    clear hk
    obtain ⟨l', c, hg⟩ := parse_gives h b r xs ys win (by have := HN.out; omega) (by have := HN.out; omega) hE
    have hcall := fun w' hm hd => hg.call (some ⟨b1, 0, none⟩) (some ⟨b2, 0, none⟩) 401 52 w' hm hd
    have HLEAST := Lib.hid (fun v (hv : IsLeast ⟨h ++ b, h.length, xs, ys, win⟩ ⟨h.length, r⟩ v) => show c = v from by
      obtain ⟨l2, e2, w2, he2⟩ := hv.way
      have h1 := way_apply hE w2
      have htk : (h ++ b).take h.length = h := by simp
      simp only [htk] at h1
      have hc2 := way_cost hE w2
      have h2 := hg.least l2 (by rw [h1]) (by rw [h1, he2]; exact List.take_of_length_le (Nat.le_refl _))
      obtain ⟨e3, w3, he3⟩ := apply_way hE l' ⟨h.length, r⟩ (by simp) (by simpa using hg.err) (by simpa using hg.bytes)
      have h3 := hv.le _ _ _ w3 he3
      simp only at hc2 h2 h3
      rw [hc2.1] at h2
      rw [hg.cost] at h3
      omega)
    have hleast := r_Least hE (by simp only [List.length_append]; have := HN.out; omega) ((h ++ b).length) ⟨h.length, r⟩ (by simp) (by simp)
    unfold LeastAt at hleast
    have hlc := fun w' hm hd => hleast (some ⟨b1, 0, none⟩) (some ⟨b2, 0, none⟩) 401 52 w' hm hd
    have hl1 := HL.out.1
    have hl2 := HL.out.2
    unfold priceV rpV at hcall hlc
    simp only at hcall hlc
    rw [hl1, hl2] at hcall hlc
    rw [← HSH.out] at hlc
    clear hl1 hl2 hE hg hleast
    go_wp2_with fail
    refine (hcall _ hm4 hd4).mono ?_
    rintro e w5 ⟨v1, rfl, hr5, hb5⟩
    have z1 := x1.below hb5 x1.lt
    have zp := xp.below hb5 xp.lt
    have hm5 := hm4.below hb5
    have hd5 := hd4.below hb5
    have hbz := bl_then hbx hbx.size hb5
    clear hcall hb5 x1 xp hm4 hd4 hbx a2 ap t2 tp hr5
    have a2 := Blk.cell z1
    have ap := Blk.cell zp
    have t2 := z1.lt
    have tp := zp.lt
    go_wp2_with fail
    refine (hlc _ hm5 hd5).mono ?_
    rintro e w6 ⟨⟨v, rfl, hv⟩, hb6⟩
    obtain rfl := HLEAST.out v hv
    have hbx := bl_then hbz hbz.size hb6
    have hcc : (c == c) = true := by simp
    clear hlc hb6 z1 zp hm5 hd5 hbz a2 ap t2 tp hv HLEAST
    go_wp2_with fail
    refine (awake26 _).mono ?_
    rintro e wz ⟨rfl, hbq⟩
    have HB := Lib.hid (bl_then hbx hbx.size hbq)
    clear hbx hbq
    go_wp2
    go_ret
    exact ⟨rfl, HB.out⟩
  · have hk' : (chkE xs ys != 0) = true := by simpa using hk
    clear hk xp hm4 hd4
    go_wp2_with fail
    refine (awake26 _).mono ?_
    rintro e wz ⟨rfl, hbq⟩
    have HB := Lib.hid (bl_then hbx hbx.size hbq)
    clear hbx hbq
    go_wp2
    go_ret
    exact ⟨rfl, HB.out⟩
end Go.Proofs.Ytndkgjoaljcijaa
