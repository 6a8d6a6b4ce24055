/- Chapter 24 (count): lengths and Tables, and the law on them: by walks. -/
import Derived.Test.YtoefkkgnabjmdaaLaw07
import Derived.Test.YtoefkkgnabjmdaaLaw24
set_option linter.unusedSimpArgs false
set_option linter.unusedVariables false
set_option maxRecDepth 100000
namespace Go.Proofs.Ytoefkkgnabjmdaa
open Go.RowKit

/-- The lengths of codes; where nothing occurs there are none. -/
def lensC (f : List Int) : List Int := if chkPm f 15 = 0 then lensP f 15 else zeros f.length
theorem lensC_length (f : List Int) : (lensC f).length = f.length := by
  unfold lensC
  split
  · exact lensP_length
  · exact zeros_length _
theorem p_lengths (A : Option Addr) (c : Nat) (f : List Int) (w : World) (h : ReadsI w A f) (hl : f.length ≤ 1024) :
    Calls Try.prog 61 #[.slice A f.length c] w (FilledDone w f.length (lensC f)) := by
  by_cases hc : chkPm f 15 = 0
  · have e : lensC f = lensP f 15 := if_pos hc
    rw [e]
    have hpp := p_Lengths A c f 15 w h (by omega)
    go_enter Try.func61, Try.ntmps61
    go_wp2_with fail
    refine hpp.mono ?_
    clear hpp
    intro e w' hp
    obtain ⟨hb, ⟨h0, _⟩ | ⟨_, b, rfl, hbi, hwb⟩⟩ := hp
    · exact absurd hc h0
    · have HD : Hid (FilledDone w f.length (lensP f 15) (.returned (.slice (some ⟨b, 0, none⟩) f.length f.length)) w') := Lib.hid ⟨b, rfl, hwb, hbi, hb⟩
      clear hbi hwb hb hc
      go_wp2
      go_ret
      exact HD.out
  · have e : lensC f = zeros f.length := if_neg hc
    rw [e]
    exact p_cl_none A c f w h hl hc

/-- What Tables gives. -/
def TabPost (w : World) (l : List Tok) (e : Ending) (w' : World) : Prop :=
  Below w.heap.size w w' ∧ ((tokErr l ≠ 0 ∧ e = .returned (.tuple #[.slice none 0 0, .slice none 0 0, .int .i64 (tokErr l)])) ∨
    (tokErr l = 0 ∧ ∃ b1 b2, e = .returned (.tuple #[.slice (some ⟨b1, 0, none⟩) 401 401, .slice (some ⟨b2, 0, none⟩) 52 52, .int .i64 0]) ∧ ReadsI w' (some ⟨b1, 0, none⟩) (lensC (cnM l)) ∧ ReadsI w' (some ⟨b2, 0, none⟩) (lensC (cnD l))))
set_option maxHeartbeats 2000000 in
theorem p_Tables (T : Option Addr) (c : Nat) (l : List Tok) (w : World) (hT : ReadsT w T l) (hl : l.length ≤ 1000) : Calls Try.prog 29 #[.slice T l.length c] w (TabPost w l) := by
  have hq := p_Freqs T c l w hT hl
  go_enter Try.func29, Try.ntmps29
  go_wp2_with fail
  refine hq.mono ?_
  clear hq
  rintro e w1 hh
  rcases hh with ⟨h0, b1, b2, rfl, k1, k2, _, hb1⟩ | ⟨h0, rfl, hb1⟩
  · have hc1 := p_lengths (some ⟨b1, 0, none⟩) 401 (cnM l) w1 (reads_ints k1) (by rw [cnM_length]; omega)
    rw [cnM_length] at hc1
    have hc2 := fun w h => p_lengths (some ⟨b2, 0, none⟩) 52 (cnD l) w h (by rw [cnD_length]; omega)
    rw [cnD_length] at hc2
    have H0 := Lib.hid h0
    clear h0
    go_wp2_with fail
    refine hc1.mono ?_
    rintro e w2 ⟨b3, rfl, hz3, k3, hb2⟩
    have k4 := k2.below hb2 k2.lt
    have HB2 := Lib.hid (bl_then hb1 hb1.size hb2)
    clear k1 k2 hb1 hb2 hz3 hc1
    go_wp2_with fail
    refine (hc2 _ (reads_ints k4)).mono ?_
    rintro e w3 ⟨b4, rfl, hz4, k5, hb3⟩
    have HB3 := Lib.hid (bl_then HB2.out HB2.out.size hb3)
    have k6 := Lib.hid (reads_ints (k3.below hb3 k3.lt))
    have k7 := Lib.hid (reads_ints k5)
    clear k3 k4 k5 hb3 hz4 hc2
    go_wp2
    go_ret3
    exact ⟨HB3.out, .inr ⟨H0.out, b3, b4, rfl, k6.out, k7.out⟩⟩
  · have H0 := Lib.hid h0
    have hne : (tokErr l != 0) = true := by simpa using h0
    clear h0
    generalize hE : tokErr l = E at *
    have HE := Lib.hid hE
    clear hE
    go_wp2
    go_ret3
    refine ⟨hb1, .inl ⟨?_, ?_⟩⟩
    · rw [HE.out]; exact H0.out
    · rw [HE.out]; rfl

theorem r_Any (A : Option Addr) (c : Nat) (l : List Int) (w : World) (h : ReadsI w A l) (hl : l.length ≤ 1000000000) :
    Calls Try.prog 30 #[.slice A l.length c] w fun e w' => e = .returned (.bool (decide (0 < usedN l))) ∧ w = w' := by
  go_enter Try.func30, Try.ntmps30
  go_wp2
  go_loop [3] (fun v => ∃ k : Nat, k ≤ l.length ∧ v = .int .i64 k ∧ usedN (l.take k) = 0) (fun v => l.length - (intOf v).toNat)
  case atStart => exact ⟨0, Nat.zero_le _, rfl, rfl⟩
  case round =>
    obtain ⟨k, hk, rfl, hu⟩ := hrel
    have HU := Lib.hid hu
    clear hu
    by_cases hkl : k < l.length
    · obtain ⟨ad, rfl, had, hc⟩ := h.at_ k hkl
      have HT := Lib.hid (show usedN (l.take (k + 1)) = usedN (l.take k) + (if 0 < l[k] then 1 else 0) by
        rw [List.take_succ_eq_append_getElem hkl]; unfold usedN; rw [List.countP_append]; simp [List.countP_cons])
      have HE : Hid (0 < l[k] → 0 < usedN l) := Lib.hid (fun h0 => by
        unfold usedN; rw [List.countP_pos_iff]; exact ⟨l[k], List.getElem_mem hkl, by simpa using h0⟩)
      generalize l[k] = z at *
      by_cases hz : 0 < z
      · have HC : Hid (decide (0 < usedN l) = true) := Lib.hid (by simpa using HE.out hz)
        go_wp2
        go_ret
        exact ⟨by rw [HC.out]; rfl, rfl⟩
      · have HZ := Lib.hid hz
        have d1 : decide (0 < z) = false := by simpa using hz
        go_wp2
        go_round
        case rel => exact ⟨k + 1, by omega, by go_num, by rw [HT.out, if_neg HZ.out, HU.out]⟩
        case measure => simp [intOf]; omega
    · obtain rfl : k = l.length := by omega
      have hu := HU.out
      rw [List.take_length] at hu
      have HC : Hid (decide (0 < usedN l) = false) := Lib.hid (by simp [hu])
      clear hu
      go_wp2
      go_ret
      exact ⟨by rw [HC.out]; rfl, rfl⟩

/-! What the tables are, of any counts. -/
theorem chk15 {f : List Int} (h1 : f.length ≤ 1024) (h2 : ∀ x ∈ f, 0 ≤ x ∧ x ≤ 4294967295) : chkPm f 15 = if usedN f = 0 then 7 else 0 := by
  have hu := usedN_le f
  unfold chkPm
  rw [if_neg (by omega), if_neg (by omega), if_neg ?_]
  · split
    · rfl
    · rw [if_neg]
      have : (15 : Int).toNat = 15 := rfl
      rw [this]
      omega
  · intro ha
    obtain ⟨x, hx, hb⟩ := List.any_eq_true.1 ha
    have := h2 x hx
    simp only [fBad, decide_eq_true_eq] at hb
    omega
theorem usedN_zeros (n : Nat) : usedN (zeros n) = 0 := by
  unfold usedN
  rw [List.countP_eq_zero]
  intro x hx
  simp only [zeros, List.mem_replicate] at hx
  simp [hx.2]
/-- So many symbols have codes as occur. -/
theorem tab_none {f : List Int} (h1 : f.length ≤ 1024) (h2 : ∀ x ∈ f, 0 ≤ x ∧ x ≤ 4294967295) (h : usedN f = 0) : usedN (lensC f) = 0 := by
  unfold lensC
  rw [chk15 h1 h2, if_pos h, if_neg (by omega), usedN_zeros]
theorem tab_some {f : List Int} (h1 : f.length ≤ 1024) (h2 : ∀ x ∈ f, 0 ≤ x ∧ x ≤ 4294967295) (h : usedN f ≠ 0) : chk06 (lensC f) 15 = 0 ∧ ∀ i, i < f.length → (0 < (lensC f).getD i 0 ↔ 0 < f.getD i 0) := by
  have hc : chkPm f 15 = 0 := by rw [chk15 h1 h2, if_neg h]
  have e : lensC f = lensP f 15 := if_pos hc
  rw [e]
  exact lensP_may hc
theorem cnM_ok {l : List Tok} (hl : l.length ≤ 300) : (cnM l).length ≤ 1024 ∧ ∀ x ∈ cnM l, 0 ≤ x ∧ x ≤ 4294967295 := ⟨by rw [cnM_length]; omega, fun x hx => by have := cnM_bd l x hx; omega⟩
theorem cnD_ok {l : List Tok} (hl : l.length ≤ 300) : (cnD l).length ≤ 1024 ∧ ∀ x ∈ cnD l, 0 ≤ x ∧ x ≤ 4294967295 := ⟨by rw [cnD_length]; omega, fun x hx => by have := cnD_bd l x hx; omega⟩

set_option maxHeartbeats 4000000 in
theorem law_CountTables (T : Option Addr) (l : List Tok) (c : Nat) (w : World) (hT : ReadsT w T l) :
    Calls Try.prog 9 #[.slice T l.length c] w fun e w' => e = .returned (.bool true) ∧ Below w.heap.size w w' := by
  by_cases l0 : l.length ≤ 300
  · go_enter Try.func9, Try.ntmps9
    go_wp2_with fail
    refine (p_Tables T c l w hT (by omega)).mono ?_
    intro e w1 hp
    obtain ⟨hb1, hp⟩ := hp
    have hT1 := hT.below hb1
    have HB1 := Lib.hid hb1
    clear hT hb1
    rcases hp with ⟨h0, rfl⟩ | ⟨h0, b1, b2, rfl, r1, r2⟩
    · go_wp2_with fail
      refine (r_Freqs T c l w1 hT1 (by omega)).mono ?_
      rintro e w2 hh
      rcases hh with ⟨h1, _⟩ | ⟨_, rfl, hb2⟩
      · exact absurd h1 h0
      · have hne : (tokErr l != 0) = true := by simpa using h0
        have HB2 := Lib.hid (bl_then HB1.out HB1.out.size hb2)
        generalize tokErr l = E at *
        clear h0 hb2 hT1
        go_wp2_with fail
        refine (awake24 _).mono ?_
        rintro e w3 ⟨rfl, hb3⟩
        have HB := Lib.hid (bl_then HB2.out HB2.out.size hb3)
        clear hb3
        go_wp2
        go_ret
        exact ⟨rfl, HB.out⟩
    · have R1 := Lib.hid r1
      have R2 := Lib.hid r2
      clear r1 r2
      go_wp2_with fail
      refine (r_Freqs T c l w1 hT1 (by omega)).mono ?_
      rintro e w2 hh
      rcases hh with ⟨_, b3, b4, rfl, k3, k4, _, hb2⟩ | ⟨h1, _⟩
      · have HB2 := Lib.hid (bl_then HB1.out HB1.out.size hb2)
        have r1 := R1.out.below hb2
        have r2 := R2.out.below hb2
        have r3 := reads_ints k3
        have r4 := reads_ints k4
        obtain ⟨m1, m2⟩ := cnM_ok l0
        obtain ⟨d1, d2⟩ := cnD_ok l0
        have lm := cnM_length l
        have ld := cnD_length l
        have lm2 : (lensC (cnM l)).length = 401 := by rw [lensC_length, lm]
        have ld2 : (lensC (cnD l)).length = 52 := by rw [lensC_length, ld]
        have AM := fun w h => r_Any (some ⟨b3, 0, none⟩) 401 (cnM l) w h (by omega)
        have AD := fun w h => r_Any (some ⟨b4, 0, none⟩) 52 (cnD l) w h (by omega)
        have AM2 := fun w h => r_Any (some ⟨b1, 0, none⟩) 401 (lensC (cnM l)) w h (by omega)
        have AD2 := fun w h => r_Any (some ⟨b2, 0, none⟩) 52 (lensC (cnD l)) w h (by omega)
        have YM := fun (hu : usedN (cnM l) ≠ 0) w h1 h2 => r_May_yes (some ⟨b3, 0, none⟩) (some ⟨b1, 0, none⟩) 401 401 (cnM l) (lensC (cnM l)) 15 w h1 h2 (by omega) (lensC_length _) (tab_some m1 m2 hu).1 (tab_some m1 m2 hu).2
        have YD := fun (hu : usedN (cnD l) ≠ 0) w h1 h2 => r_May_yes (some ⟨b4, 0, none⟩) (some ⟨b2, 0, none⟩) 52 52 (cnD l) (lensC (cnD l)) 15 w h1 h2 (by omega) (lensC_length _) (tab_some d1 d2 hu).1 (tab_some d1 d2 hu).2
        have NM := fun (hu : usedN (cnM l) = 0) => tab_none m1 m2 hu
        have ND := fun (hu : usedN (cnD l) = 0) => tab_none d1 d2 hu
        rw [lm] at AM
        rw [ld] at AD
        rw [lm2] at AM2
        rw [ld2] at AD2
        rw [lm, lm2] at YM
        rw [ld, ld2] at YD
        have HS := Lib.hid (And.intro AM (And.intro AD (And.intro AM2 (And.intro AD2 (And.intro YM (And.intro YD (And.intro NM ND)))))))
        have HR := Lib.hid (And.intro r1 (And.intro r2 (And.intro r3 r4)))
        clear m1 m2 d1 d2 lm ld lm2 ld2 AM AD AM2 AD2 YM YD NM ND r1 r2 r3 r4 k3 k4 hb2 hT1 h0
        go_upto_region 9 with (fail)
        go_cut [69] (fun v69 wc => v69 = .bool false ∧ Below w2.heap.size w2 wc)
        case first =>
          by_cases hu : usedN (cnM l) = 0
          · have e1 : decide (0 < usedN (cnM l)) = false := by simp [hu]
            have e2 : decide (0 < usedN (lensC (cnM l))) = false := by simp [HS.out.2.2.2.2.2.2.1 hu]
            clear hu
            go_wp2_with fail
            refine (HS.out.1 _ HR.out.2.2.1).mono ?_
            rintro e w3 ⟨rfl, rfl⟩
            rw [e1]
            go_wp2_with fail
            refine (HS.out.1 _ HR.out.2.2.1).mono ?_
            rintro e w3 ⟨rfl, rfl⟩
            rw [e1]
            go_wp2_with fail
            refine (HS.out.2.2.1 _ HR.out.1).mono ?_
            rintro e w3 ⟨rfl, rfl⟩
            rw [e2]
            go_wp2
            go_meet
            case rel => exact ⟨rfl, Below.refl _ _⟩
          · have e1 : decide (0 < usedN (cnM l)) = true := by simp; omega
            have Y := HS.out.2.2.2.2.1 hu w2 HR.out.2.2.1 HR.out.1
            clear hu
            go_wp2_with fail
            refine (HS.out.1 _ HR.out.2.2.1).mono ?_
            rintro e w3 ⟨rfl, rfl⟩
            rw [e1]
            go_wp2_with fail
            refine Y.mono ?_
            rintro e w3 ⟨rfl, hb3⟩
            have hr3 := HR.out.2.2.1.below hb3
            have HB3 := Lib.hid hb3
            clear hb3 Y
            go_wp2_with fail
            refine (HS.out.1 _ hr3).mono ?_
            rintro e w4 ⟨rfl, rfl⟩
            rw [e1]
            go_wp2
            all_goals
              go_meet
              case rel => exact ⟨rfl, HB3.out⟩
        obtain ⟨rfl, hb3⟩ := hcut
        have HB3 := Lib.hid (bl_then HB2.out HB2.out.size hb3)
        have HR3 := Lib.hid (And.intro (HR.out.2.1.below hb3) (HR.out.2.2.2.below hb3))
        clear hb3
        go_upto_region 11 with (fail)
        by_cases hu : usedN (cnD l) = 0
        · have e1 : decide (0 < usedN (cnD l)) = false := by simp [hu]
          have e2 : decide (0 < usedN (lensC (cnD l))) = false := by simp [HS.out.2.2.2.2.2.2.2 hu]
          clear hu
          go_wp2_with fail
          refine (HS.out.2.1 _ HR3.out.2).mono ?_
          rintro e w3 ⟨rfl, rfl⟩
          rw [e1]
          go_wp2_with fail
          refine (HS.out.2.1 _ HR3.out.2).mono ?_
          rintro e w3 ⟨rfl, rfl⟩
          rw [e1]
          go_wp2_with fail
          refine (HS.out.2.2.2.1 _ HR3.out.1).mono ?_
          rintro e w3 ⟨rfl, rfl⟩
          rw [e2]
          go_wp2_with fail
          refine (awake24 _).mono ?_
          rintro e w4 ⟨rfl, hb4⟩
          have HB := Lib.hid (bl_then HB3.out HB3.out.size hb4)
          clear hb4
          go_wp2
          go_ret
          exact ⟨rfl, HB.out⟩
        · have e1 : decide (0 < usedN (cnD l)) = true := by simp; omega
          have Y := HS.out.2.2.2.2.2.1 hu wc HR3.out.2 HR3.out.1
          clear hu
          go_wp2_with fail
          refine (HS.out.2.1 _ HR3.out.2).mono ?_
          rintro e w3 ⟨rfl, rfl⟩
          rw [e1]
          go_wp2_with fail
          refine Y.mono ?_
          rintro e w3 ⟨rfl, hb3⟩
          have HB4 := Lib.hid (bl_then HB3.out HB3.out.size hb3)
          clear hb3 Y
          go_wp2_with fail
          refine (awake24 _).mono ?_
          rintro e w4 ⟨rfl, hb4⟩
          have HB := Lib.hid (bl_then HB4.out HB4.out.size hb4)
          clear hb4
          go_wp2
          go_ret
          exact ⟨rfl, HB.out⟩
      · exact absurd h0 h1
  · go_enter Try.func9, Try.ntmps9
    go_wp2_with fail
    refine (awake24 _).mono ?_
    rintro e w1 ⟨rfl, hb⟩
    go_wp2
    go_ret
    exact ⟨rfl, hb⟩

end Go.Proofs.Ytoefkkgnabjmdaa
