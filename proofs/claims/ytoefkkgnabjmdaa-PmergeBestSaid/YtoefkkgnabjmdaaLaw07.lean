/- Chapter 07 (pmerge): the reference's May where it says yes, and the examples: by walks. -/
import Derived.Test.YtoefkkgnabjmdaaMay07
import Derived.Test.YtoefkkgnabjmdaaCostPm
import Derived.Test.YtoefkkgnabjmdaaPm3
import Derived.Test.YtoefkkgnabjmdaaInts06
set_option linter.unusedSimpArgs false
set_option linter.unusedVariables false
set_option maxRecDepth 100000
namespace Go.Proofs.Ytoefkkgnabjmdaa
open Go.RowKit

set_option maxHeartbeats 4000000 in
theorem r_May_yes (A B : Option Addr) (c1 c2 : Nat) (f l : List Int) (limit : Int) (w : World) (hf : ReadsI w A f) (hl : ReadsI w B l) (n1 : f.length ≤ 1000000) (hlen : l.length = f.length) (hc : chk06 l limit = 0) (hp : ∀ i, i < f.length → (0 < l.getD i 0 ↔ 0 < f.getD i 0)) :
    Calls Try.prog 15 #[.slice A f.length c1, .slice B l.length c2, .int .i64 limit] w fun e w' => e = .returned (.bool true) ∧ Below w.heap.size w w' := by
  have HL := Lib.hid hlen
  have HC := Lib.hid hc
  have hne : ((f.length : Int) != (l.length : Int)) = false := by simp; omega
  clear hlen hc
  go_enter Try.func15, Try.ntmps15
  go_wp2_with fail
  refine (r_Check06 B c2 l limit _ hl (by have := HL.out; omega)).mono ?_
  rintro e w' ⟨rfl, rfl⟩
  rw [HC.out]
  go_wp2_with fail
  go_loopw [7] (fun v7 wr => ∃ k : Nat, k ≤ l.length ∧ v7 = .int .i64 k ∧ Below w.heap.size w wr) (fun v7 _ => l.length - (intOf v7).toNat)
  case atStart => exact ⟨0, Nat.zero_le _, rfl, Below.refl _ _⟩
  case round =>
    obtain ⟨k, hk, rfl, hbr⟩ := hrel
    by_cases hkl : k < l.length
    · obtain ⟨ad, rfl, had, h1⟩ := (hf.below hbr).at_ k (by have := HL.out; omega)
      obtain ⟨bd, rfl, hbd, h2⟩ := (hl.below hbr).at_ k hkl
      have hpk := hp k (by have := HL.out; omega)
      rw [List.getD_eq_getElem?_getD, List.getElem?_eq_getElem hkl, List.getD_eq_getElem?_getD, List.getElem?_eq_getElem (by have := HL.out; omega)] at hpk
      simp only [Option.getD_some] at hpk
      have i1 : (k : Int) < (f.length : Int) := by have := HL.out; omega
      have i2 : (k : Int) < (l.length : Int) := by omega
      generalize l[k] = y at *
      generalize f[k]'_ = z at *
      have HBR := Lib.hid hbr
      clear hbr
      by_cases hy : 0 < y
      · have hz := hpk.1 hy
        have e1 : (decide (0 < y) != decide (0 < z)) = false := by simp [hy, hz]
        clear hpk
        go_wp2_with fail
        go_quiet (fail)
        all_goals
          go_wp2
          go_roundw
          case rel => exact ⟨k + 1, by omega, by go_num, bl_drewN HBR.out _⟩
          case measure => simp [intOf]; omega
      · have hz : ¬ 0 < z := fun h => hy (hpk.2 h)
        have e1 : decide (0 < y) = false := by simp; omega
        have e2 : decide (0 < z) = false := by simp; omega
        clear hpk
        go_wp2_with fail
        go_quiet (fail)
        all_goals
          go_wp2
          go_roundw
          case rel => exact ⟨k + 1, by omega, by go_num, bl_drewN HBR.out _⟩
          case measure => simp [intOf]; omega
    · go_wp2
      go_ret
      exact ⟨rfl, hbr⟩


theorem len_a : chkPm [1, 1, 2, 4] 3 = 0 ∧ lensP [1, 1, 2, 4] 3 = [3, 3, 2, 1] := by decide
theorem len_b : chkPm [1, 1, 2, 4] 2 = 0 ∧ lensP [1, 1, 2, 4] 2 = [2, 2, 2, 2] := by decide
theorem len_c : chkPm [1, 1, 2, 4] 1 = 6 := by decide
theorem len_d : chkPm [0, 7] 1 = 0 ∧ lensP [0, 7] 1 = [0, 1] := by decide
theorem len_e : chkPm [0] 1 = 7 := by decide
theorem lenPost_ok {w : World} {f L : List Int} {limit : Int} {e : Ending} {w' : World} (h : LenPost w f limit e w') (h1 : chkPm f limit = 0) (h2 : lensP f limit = L) :
    ∃ b, e = .returned (.tuple #[.slice (some ⟨b, 0, none⟩) f.length f.length, .int .i64 0]) ∧ ReadsI w' (some ⟨b, 0, none⟩) L ∧ Below w.heap.size w w' := by
  obtain ⟨hb, ⟨h0, _⟩ | ⟨_, b, rfl, hbi, _⟩⟩ := h
  · exact absurd h1 h0
  · exact ⟨b, rfl, by rw [← h2]; exact reads_ints hbi, hb⟩
theorem lenPost_no {w : World} {f : List Int} {limit x : Int} {e : Ending} {w' : World} (h : LenPost w f limit e w') (h1 : chkPm f limit = x) (h2 : x ≠ 0) :
    e = .returned (.tuple #[.slice none 0 0, .int .i64 x]) ∧ Below w.heap.size w w' := by
  obtain ⟨hb, ⟨_, rfl⟩ | ⟨h0, _⟩⟩ := h
  · exact ⟨by rw [h1], hb⟩
  · exact absurd (h1.symm.trans h0) h2

set_option maxHeartbeats 4000000 in
theorem awake07 (w : World) : Calls Try.prog 12 #[] w fun e w' => e = .returned (.bool true) ∧ Below w.heap.size w w' := by
  have hB0 := bl_alloc (Below.refl w.heap.size w) (.cells (ivals [1, 1, 2, 4]).toArray 3)
  have r0 := reads_ints (Blk.new w 3 (ivals [1, 1, 2, 4]).toArray)
  go_enter Try.func12, Try.ntmps12
  go_wp2_with fail
  refine (p_Lengths (some ⟨w.heap.size, 0, none⟩) 4 [1, 1, 2, 4] 3 _ r0 (by simp)).mono ?_
  intro e w1 hp
  obtain ⟨b1, rfl, ra, hb1⟩ := lenPost_ok hp len_a.1 len_a.2
  have r1 := r0.below hb1
  have hB1 := bl_then hB0 hB0.size hb1
  clear hp r0 hB0 hb1
  go_wp2_with fail
  refine (p_Lengths (some ⟨w.heap.size, 0, none⟩) 4 [1, 1, 2, 4] 2 _ r1 (by simp)).mono ?_
  intro e w2 hp
  obtain ⟨b2, rfl, rb, hb2⟩ := lenPost_ok hp len_b.1 len_b.2
  have r2 := r1.below hb2
  have ra2 := ra.below hb2
  have hB2 := bl_then hB1 hB1.size hb2
  clear hp r1 hB1 hb2 ra
  go_wp2_with fail
  refine (p_Lengths (some ⟨w.heap.size, 0, none⟩) 4 [1, 1, 2, 4] 1 _ r2 (by simp)).mono ?_
  intro e w3 hp
  obtain ⟨rfl, hb3⟩ := lenPost_no hp len_c (by decide)
  have r3 := r2.below hb3
  have ra3 := ra2.below hb3
  have rb3 := rb.below hb3
  have hB3 := bl_then hB2 hB2.size hb3
  clear hp r2 hB2 hb3 ra2 rb
  go_wp2_with fail
  have hA4 := bl_alloc (Below.refl w3.heap.size w3) (.cells (ivals [0, 7]).toArray 3)
  have q4 := reads_ints (Blk.new w3 3 (ivals [0, 7]).toArray)
  refine (p_Lengths (some ⟨w3.heap.size, 0, none⟩) 2 [0, 7] 1 _ q4 (by simp)).mono ?_
  intro e w4 hp
  obtain ⟨b4, rfl, rc, hb4⟩ := lenPost_ok hp len_d.1 len_d.2
  have hBx := bl_then hA4 hA4.size hb4
  have r4 := r3.below hBx
  have ra4 := ra3.below hBx
  have rb4 := rb3.below hBx
  have hB4 := bl_then hB3 hB3.size hBx
  clear hp r3 hB3 hb4 ra3 rb3 hA4 q4 hBx
  go_wp2_with fail
  have hA5 := bl_alloc (Below.refl w4.heap.size w4) (.cells (ivals [0]).toArray 3)
  have q5 := reads_ints (Blk.new w4 3 (ivals [0]).toArray)
  refine (p_Lengths (some ⟨w4.heap.size, 0, none⟩) 1 [0] 1 _ q5 (by simp)).mono ?_
  intro e w5 hp
  obtain ⟨rfl, hb5⟩ := lenPost_no hp len_e (by decide)
  have hBx := bl_then hA5 hA5.size hb5
  have r5 := r4.below hBx
  have ra5 := ra4.below hBx
  have rb5 := rb4.below hBx
  have rc5 := rc.below hBx
  have hB5 := bl_then hB4 hB4.size hBx
  clear hp r4 hB4 hb5 ra4 rb4 rc hA5 q5 hBx
  go_wp2_with fail
  refine (p_CostPm (some ⟨w.heap.size, 0, none⟩) (some ⟨b1, 0, none⟩) 4 4 [1, 1, 2, 4] [3, 3, 2, 1] w5 r5 ra5 (by simp) (by simp)).mono ?_
  rintro e w6 ⟨rfl, hb6⟩
  rw [show costTo [1, 1, 2, 4] [3, 3, 2, 1] (min ([1, 1, 2, 4] : List Int).length ([3, 3, 2, 1] : List Int).length) = 14 by decide]
  have rb6 := rb5.below hb6
  have rc6 := rc5.below hb6
  have hB6 := bl_then hB5 hB5.size hb6
  clear r5 hB5 hb6 ra5 rb5 rc5
  go_wp2_with fail
  have hA7 := bl_alloc (Below.refl w6.heap.size w6) (.cells (ivals [2, 2, 2, 2]).toArray 3)
  have q7 := reads_ints (Blk.new w6 3 (ivals [2, 2, 2, 2]).toArray)
  have rb7 := rb6.below hA7
  refine (r_Ints06 (some ⟨b2, 0, none⟩) (some ⟨w6.heap.size, 0, none⟩) [2, 2, 2, 2] [2, 2, 2, 2] 4 4 _ rb7 q7 (by simp) (by simp)).mono ?_
  rintro e w7 ⟨rfl, hb7⟩
  rw [decide_eq_true rfl]
  have rc7 := rc6.below (bl_then hA7 hA7.size hb7)
  have hB7 := bl_then hB6 hB6.size (bl_then hA7 hA7.size hb7)
  clear rb6 rc6 hB6 hA7 q7 rb7 hb7
  go_wp2_with fail
  have hA8 := bl_alloc (Below.refl w7.heap.size w7) (.cells (ivals [0, 1]).toArray 3)
  have q8 := reads_ints (Blk.new w7 3 (ivals [0, 1]).toArray)
  have rc8 := rc7.below hA8
  refine (r_Ints06 (some ⟨b4, 0, none⟩) (some ⟨w7.heap.size, 0, none⟩) [0, 1] [0, 1] 2 2 _ rc8 q8 (by simp) (by simp)).mono ?_
  rintro e w8 ⟨rfl, hb8⟩
  rw [decide_eq_true rfl]
  have hB8 := bl_then hB7 hB7.size (bl_then hA8 hA8.size hb8)
  clear rc7 hB7 hA8 q8 rc8 hb8
  go_wp2_with fail
  have hA9 := bl_alloc (bl_alloc (Below.refl w8.heap.size w8) (.cells (ivals [3, -1]).toArray 3)) (.cells (ivals [2, 5]).toArray 3)
  have q9 := (reads_ints (Blk.new w8 3 (ivals [3, -1]).toArray)).alloc (.cells (ivals [2, 5]).toArray 3)
  have q10 := reads_ints (Blk.new (w8.alloc (.cells (ivals [3, -1]).toArray 3)) 3 (ivals [2, 5]).toArray)
  rw [World.size_alloc] at q10
  refine (p_CostPm (some ⟨w8.heap.size, 0, none⟩) (some ⟨w8.heap.size + 1, 0, none⟩) 2 2 [3, -1] [2, 5] _ q9 q10 (by simp) (by simp)).mono ?_
  rintro e w9 ⟨rfl, hb9⟩
  rw [show costTo [3, -1] [2, 5] (min ([3, -1] : List Int).length ([2, 5] : List Int).length) = 6 by decide]
  have HB := Lib.hid (bl_then hB8 hB8.size (bl_then hA9 hA9.size hb9))
  clear hB8 hA9 q9 q10 hb9
  go_wp2
  go_ret
  exact ⟨rfl, HB.out⟩

set_option maxHeartbeats 2000000 in
theorem law_PmergeCosts (A B : Option Addr) (f l : List Int) (c1 c2 : Nat) (w : World) (hf : ReadsI w A f) (hl : ReadsI w B l) :
    Calls Try.prog 4 #[.slice A f.length c1, .slice B l.length c2] w fun e w' => e = .returned (.bool true) ∧ Below w.heap.size w w' := by
  by_cases l0 : f.length ≤ 1100
  · by_cases l1 : l.length ≤ 1100
    · go_enter Try.func4, Try.ntmps4
      go_wp2_with fail
      refine (p_CostPm A B c1 c2 f l w hf hl (by omega) (by omega)).mono ?_
      rintro e w1 ⟨rfl, hb1⟩
      have hf1 := hf.below hb1
      have hl1 := hl.below hb1
      clear hf hl
      go_wp2_with fail
      refine (r_CostPm A B c1 c2 f l w1 hf1 hl1 (by omega) (by omega)).mono ?_
      rintro e w2 ⟨rfl, hb2⟩
      have hB2 := bl_then hb1 hb1.size hb2
      generalize costTo f l (min f.length l.length) = X at *
      clear hb1 hb2 hf1 hl1
      go_wp2_with fail
      refine (awake07 _).mono ?_
      rintro e w3 ⟨rfl, hb3⟩
      have HB := Lib.hid (bl_then hB2 hB2.size hb3)
      clear hB2 hb3
      go_wp2
      go_ret
      exact ⟨rfl, HB.out⟩
    · go_enter Try.func4, Try.ntmps4
      go_wp2_with fail
      refine (awake07 _).mono ?_
      rintro e w1 ⟨rfl, hb⟩
      go_wp2
      go_ret
      exact ⟨rfl, hb⟩
  · go_enter Try.func4, Try.ntmps4
    go_wp2_with fail
    refine (awake07 _).mono ?_
    rintro e w1 ⟨rfl, hb⟩
    go_wp2
    go_ret
    exact ⟨rfl, hb⟩

set_option maxHeartbeats 4000000 in
theorem law_PmergeMay (A : Option Addr) (f : List Int) (limit : Int) (c : Nat) (w : World) (hf : ReadsI w A f) :
    Calls Try.prog 3 #[.slice A f.length c, .int .i64 limit] w fun e w' => e = .returned (.bool true) ∧ Below w.heap.size w w' := by
  by_cases l0 : f.length ≤ 1100
  · go_enter Try.func3, Try.ntmps3
    go_wp2_with fail
    refine (p_Lengths A c f limit w hf (by omega)).mono ?_
    intro e w1 hp
    obtain ⟨hb1, hp⟩ := hp
    have hf1 := hf.below hb1
    rcases hp with ⟨h0, rfl⟩ | ⟨h0, b1, rfl, hbi, _⟩
    · have HB1 := Lib.hid hb1
      clear hb1 hf
      go_wp2_with fail
      refine (r_PmCheck A c f limit w1 hf1 (by omega)).mono ?_
      rintro e w2 ⟨rfl, rfl⟩
      have hne : (chkPm f limit != 0) = true := by simpa using h0
      generalize chkPm f limit = X at *
      clear h0 hf1
      go_wp2_with fail
      refine (awake07 _).mono ?_
      rintro e w3 ⟨rfl, hb3⟩
      have HB := Lib.hid (bl_then HB1.out HB1.out.size hb3)
      clear hb3
      go_wp2
      go_ret
      exact ⟨rfl, HB.out⟩
    · have HB1 := Lib.hid hb1
      have HI := Lib.hid hbi
      have H0 := Lib.hid h0
      clear hb1 hf hbi h0
      go_wp2_with fail
      refine (r_PmCheck A c f limit w1 hf1 (by omega)).mono ?_
      rintro e w2 ⟨rfl, rfl⟩
      rw [H0.out]
      go_wp2_with fail
      refine (p_Lengths A c f limit w1 hf1 (by omega)).mono ?_
      intro e w2 hp2
      obtain ⟨hb2, hp2⟩ := hp2
      rcases hp2 with ⟨h1, _⟩ | ⟨_, b2, rfl, hbi2, _⟩
      · exact absurd H0.out h1
      · have hf2 := hf1.below hb2
        have r1 := (reads_ints HI.out).below hb2
        have r2 := reads_ints hbi2
        have HB2 := Lib.hid (bl_then HB1.out HB1.out.size hb2)
        have hm := lensP_may H0.out
        have hlen : (lensP f limit).length = f.length := lensP_length
        have q := r_May_yes A (some ⟨b1, 0, none⟩) c f.length f (lensP f limit) limit w2 hf2 r1 (by omega) hlen hm.1 hm.2
        rw [hlen] at q
        have Q := Lib.hid q
        have HLEN := Lib.hid hlen
        have R1 := Lib.hid r1
        have R2 := Lib.hid r2
        clear hf1 hf2 hbi2 hm hlen q hb2 r1 r2
        go_wp2_with fail
        refine Q.out.mono ?_
        rintro e w3 ⟨rfl, hb3⟩
        have q2 := r_Ints06 (some ⟨b1, 0, none⟩) (some ⟨b2, 0, none⟩) (lensP f limit) (lensP f limit) f.length f.length w3 (R1.out.below hb3) (R2.out.below hb3) (by rw [HLEN.out]; omega) (by rw [HLEN.out]; omega)
        rw [HLEN.out, decide_eq_true rfl] at q2
        have Q2 := Lib.hid q2
        have HB3 := Lib.hid (bl_then HB2.out HB2.out.size hb3)
        clear q2 hb3
        go_wp2_with fail
        refine Q2.out.mono ?_
        rintro e w4 ⟨rfl, hb4⟩
        have HB4 := Lib.hid (bl_then HB3.out HB3.out.size hb4)
        clear hb4
        go_wp2_with fail
        refine (awake07 _).mono ?_
        rintro e w5 ⟨rfl, hb5⟩
        have HB5 := Lib.hid (bl_then HB4.out HB4.out.size hb5)
        clear hb5
        go_wp2
        go_ret
        exact ⟨rfl, HB5.out⟩
  · go_enter Try.func3, Try.ntmps3
    go_wp2_with fail
    refine (awake07 _).mono ?_
    rintro e w1 ⟨rfl, hb⟩
    go_wp2
    go_ret
    exact ⟨rfl, hb⟩

end Go.Proofs.Ytoefkkgnabjmdaa
