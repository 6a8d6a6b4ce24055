/- Chapter 24 (count): Freqs, the program's and the reference's: by walks. -/
import Derived.Test.YtoefkkgnabjmdaaCount
import Derived.Test.YtoefkkgnabjmdaaPrice4
set_option linter.unusedSimpArgs false
set_option linter.unusedVariables false
set_option maxRecDepth 100000
namespace Go.Proofs.Ytoefkkgnabjmdaa
open Go.RowKit

set_option maxHeartbeats 4000000 in
theorem p_Freqs (T : Option Addr) (c : Nat) (l : List Tok) (w : World) (hT : ReadsT w T l) (hl : l.length ≤ 1000) :
    Calls Try.prog 24 #[.slice T l.length c] w (Counted w l) := by
  have hmk1 : ∀ w : World, (Instr.makeSlice 22 (.int .i64 401) (.int .i64 401)).run Try.prog w = .ok (.slice (some ⟨w.heap.size, 0, none⟩) 401 401) (w.alloc (.cells (ivals (zeros 401)).toArray 3)) := fun w => run_zeros w 401 (by omega)
  have hmk2 : ∀ w : World, (Instr.makeSlice 22 (.int .i64 52) (.int .i64 52)).run Try.prog w = .ok (.slice (some ⟨w.heap.size, 0, none⟩) 52 52) (w.alloc (.cells (ivals (zeros 52)).toArray 3)) := fun w => run_zeros w 52 (by omega)
  have HM1 := Lib.hid (countMid1 w)
  have HM2 := Lib.hid (countMid2 w)
  go_enter Try.func24, Try.ntmps24
  go_upto_region 1 with (fail)
  go_cut [5, 6] (fun v5 v6 wc => CountMid w v5 v6 wc)
  case first =>
    go_region
    all_goals
      go_wp2
      go_meet
      case rel => first | exact HM1.out | exact HM2.out
  clear HM1 HM2 hmk1 hmk2
  obtain ⟨b1, b2, rfl, rfl, hk1, hk2, hne, hz1, hz2, hBc⟩ := hcut
  go_wp2_with fail
  go_loopw [19] (fun v19 wr => ∃ k : Nat, k ≤ l.length ∧ v19 = .int .i64 k ∧ tokErr (l.take k) = 0 ∧ Blk wr b1 3 (ivals (cnM (l.take k))).toArray ∧ Blk wr b2 3 (ivals (cnD (l.take k))).toArray ∧ Below w.heap.size w wr) (fun v19 _ => l.length - (intOf v19).toNat)
  case atStart => exact ⟨0, Nat.zero_le _, rfl, rfl, hk1, hk2, hBc⟩
  case round =>
    clear hk1 hk2 hBc
    obtain ⟨k, hk, rfl, hte, hk1, hk2, hBr⟩ := hrel
    have HTE := Lib.hid hte
    clear hte
    by_cases hkl : k < l.length
    · obtain ⟨ad, rfl, had, g0, g1, g2, g3, g4⟩ := (hT.below hBr).five k hkl
      have HTk := Lib.hid (show l.take (k + 1) = l.take k ++ [l[k]] from List.take_succ_eq_append_getElem hkl)
      have HDk := Lib.hid (show l = l.take k ++ (l[k] :: l.drop (k + 1)) by rw [← List.drop_eq_getElem_cons hkl, List.take_append_drop])
      have hm1 := getD_bd (cnM_bd (l.take k)) (by omega)
      have hd1 := getD_bd (cnD_bd (l.take k)) (by omega)
      have hlt : ((l.take k).length : Int) ≤ 1000 := by rw [List.length_take]; omega
      generalize l[k] = t at *
      obtain ⟨tk, tb, tl, td, ti⟩ := t
      have hB2 := bl_alloc (Below.refl wr.heap.size wr) (.cells #[.int .i64 tk, .int .i64 tb, .int .i64 tl, .int .i64 td, .int .i64 ti] 83)
      have kb2 := Blk.new wr 83 #[.int .i64 tk, .int .i64 tb, .int .i64 tl, .int .i64 td, .int .i64 ti]
      have kc2 := Blk.cell kb2
      go_wp2_with fail
      refine (p_Sym ⟨tk, tb, tl, td, ti⟩ _).mono ?_
      rintro e w2 ⟨rfl, hb2⟩
      have hB3 := bl_then hB2 hB2.size hb2
      have kb3 := kb2.below hb2 kb2.lt
      have kc3 := Blk.cell kb3
      have k1 := hk1.below hB3 hk1.lt
      have k2 := hk2.below hB3 hk2.lt
      have HB3 := Lib.hid (bl_then hBr hBr.size hB3)
      have hl1 := k1.lt
      have hl2 := k2.lt
      have hl3 := kb3.lt
      have hs0 := hk1.lt
      have hs1 := hk2.lt
      have hs2 := HB3.out.size
      clear hB2 hB3 hb2 kb2 kc2 g0 g1 g2 g3 g4 hk1 hk2 had hBr
      by_cases hck : tokCheck ⟨tk, tb, tl, td, ti⟩ = 0
      · have HCK := Lib.hid hck
        obtain ⟨hs3, hs4⟩ := tokSym_bd0 hck
        obtain ⟨hs5, hs6⟩ := distS_bd td
        have HSM := Lib.hid (cnM_snoc (l.take k) ⟨tk, tb, tl, td, ti⟩)
        have HSD := Lib.hid (cnD_snoc (l.take k) ⟨tk, tb, tl, td, ti⟩)
        rw [hck]
        clear hck
        generalize tokSym ⟨tk, tb, tl, td, ti⟩ = S at *
        obtain ⟨s, rfl⟩ := Int.eq_ofNat_of_zero_le hs3
        have c1 := ivals_cell (cnM (l.take k)) s (by rw [cnM_length]; omega)
        have k1c := Blk.cell k1 s
        rw [c1] at k1c
        obtain ⟨q1, q2⟩ := hm1 s
        have k1f := Blk.frozen k1 s
        clear c1 hm1
        have KZ := Lib.hid (fun z => k1.setInt s z)
        have KY := Lib.hid (fun z => k2.far (p := ⟨b1, s, none⟩) (by simp; omega) (.int .i64 z))
        have KX := Lib.hid (fun z => kb3.far (p := ⟨b1, s, none⟩) (by simp; omega) (.int .i64 z))
        have HSM2 : Hid (cnM (l.take (k + 1)) = (cnM (l.take k)).set s ((cnM (l.take k)).getD s 0 + 1)) := Lib.hid (by rw [HTk.out, HSM.out]; rfl)
        generalize (cnM (l.take k)).getD s 0 = X at *
        have HX := Lib.hid (fun z => (HB3.out.setCell (p := ⟨b1, s, none⟩) hz1 (.int .i64 z)))
        clear HSM
        by_cases hk1' : tk = 1
        · subst hk1'
          have HSD2 : Hid (cnD (l.take (k + 1)) = bump (cnD (l.take k)) (distS td).toNat) := Lib.hid (by rw [HTk.out, HSD.out]; rfl)
          clear HSD
          go_wp2_with fail
          have K1 := KZ.out (X + 1)
          have K2 := KY.out (X + 1)
          have K3 := HX.out (X + 1)
          have hsz : (w2.setCell ⟨b1, s, none⟩ (.int .i64 (X + 1))).heap.size = w2.heap.size := by simp [World.setCell]
          clear KZ KY KX HX k1 k2 kc3 kb3 k1c k1f
          generalize w2.setCell ⟨b1, s, none⟩ (.int .i64 (X + 1)) = w3 at *
          refine (p_Dist td _).mono ?_
          rintro e w' ⟨rfl, rfl⟩
          generalize distS td = D at *
          generalize distX td = D2 at *
          generalize distM td = D3 at *
          generalize distE td = D4 at *
          obtain ⟨d, rfl⟩ := Int.eq_ofNat_of_zero_le hs5
          have c1 := ivals_cell (cnD (l.take k)) d (by rw [cnD_length]; omega)
          obtain ⟨q3, q4⟩ := hd1 d
          have k2c := Blk.cell K2 d
          rw [c1] at k2c
          have k2f := Blk.frozen K2 d
          have HSD3 : Hid (cnD (l.take (k + 1)) = (cnD (l.take k)).set d ((cnD (l.take k)).getD d 0 + 1)) := Lib.hid (by rw [HSD2.out]; rfl)
          clear hd1 c1 HSD2
          generalize (cnD (l.take k)).getD d 0 = Y at *
          go_wp2
          go_roundw
          case rel =>
            refine ⟨k + 1, by omega, by go_num, ?_, ?_, ?_, K3.setCell (p := ⟨b2, d, none⟩) hz2 _⟩
            · rw [HTk.out, tokErr_append, HTE.out]
              simp [tokErr, HCK.out]
            · rw [HSM2.out]; exact K1.far (by simp; omega) _
            · rw [HSD3.out]; exact K2.setInt d _
          case measure => simp [intOf]; omega
        · have HSD2 : Hid (cnD (l.take (k + 1)) = cnD (l.take k)) := Lib.hid (by rw [HTk.out, HSD.out, if_neg hk1'])
          have hb1 : (tk == 1) = false := by simpa using hk1'
          clear HSD
          go_wp2
          go_roundw
          case rel =>
            refine ⟨k + 1, by omega, by go_num, ?_, ?_, ?_, HX.out _⟩
            · rw [HTk.out, tokErr_append, HTE.out]
              simp [tokErr, HCK.out]
            · rw [HSM2.out]; exact KZ.out _
            · rw [HSD2.out]; exact KY.out _
          case measure => simp [intOf]; omega
      · have HE : Hid (tokErr l = tokCheck ⟨tk, tb, tl, td, ti⟩) := Lib.hid (by
          rw [HDk.out, tokErr_append, HTE.out]
          simp only [if_true]
          show (if tokCheck ⟨tk, tb, tl, td, ti⟩ = 0 then _ else _) = _
          rw [if_neg hck])
        have hne : (tokCheck ⟨tk, tb, tl, td, ti⟩ != 0) = true := by rw [bne_iff_ne]; exact hck
        have HN := Lib.hid hck
        clear hck
        generalize tokCheck ⟨tk, tb, tl, td, ti⟩ = E at *
        go_wp2
        go_ret3
        exact .inr ⟨by rw [HE.out]; exact HN.out, by rw [HE.out]; rfl, HB3.out⟩
    · obtain rfl : k = l.length := by omega
      rw [List.take_length] at HTE hk1 hk2
      go_wp2
      go_ret3
      exact .inl ⟨HTE.out, b1, b2, rfl, hk1, hk2, hne, hBr⟩

set_option maxHeartbeats 4000000 in
theorem r_Freqs (T : Option Addr) (c : Nat) (l : List Tok) (w : World) (hT : ReadsT w T l) (hl : l.length ≤ 1000) :
    Calls Try.prog 25 #[.slice T l.length c] w (Counted w l) := by
  have hmk1 : ∀ w : World, (Instr.makeSlice 22 (.int .i64 401) (.int .i64 401)).run Try.prog w = .ok (.slice (some ⟨w.heap.size, 0, none⟩) 401 401) (w.alloc (.cells (ivals (zeros 401)).toArray 3)) := fun w => run_zeros w 401 (by omega)
  have hmk2 : ∀ w : World, (Instr.makeSlice 22 (.int .i64 52) (.int .i64 52)).run Try.prog w = .ok (.slice (some ⟨w.heap.size, 0, none⟩) 52 52) (w.alloc (.cells (ivals (zeros 52)).toArray 3)) := fun w => run_zeros w 52 (by omega)
  have HM0 := Lib.hid (countMid0 w)
  go_enter Try.func25, Try.ntmps25
  go_upto_region 3 with (fail)
  go_cut [5, 6, 7] (fun v5 v6 v7 wc => v7 = .int .i64 0 ∧ CountMid w v5 v6 wc)
  case first =>
    go_wp2
    go_meet
    case rel => exact ⟨rfl, HM0.out⟩
  clear HM0 hmk1 hmk2
  obtain ⟨rfl, b1, b2, rfl, rfl, hk1, hk2, hne, hz1, hz2, hBc⟩ := hcut
  go_wp2_with fail
  go_loopw [7] (fun v19 wr => ∃ k : Nat, k ≤ l.length ∧ v19 = .int .i64 k ∧ tokErr (l.take k) = 0 ∧ Blk wr b1 3 (ivals (cnM (l.take k))).toArray ∧ Blk wr b2 3 (ivals (cnD (l.take k))).toArray ∧ Below w.heap.size w wr) (fun v19 _ => l.length - (intOf v19).toNat)
  case atStart => exact ⟨0, Nat.zero_le _, rfl, rfl, hk1, hk2, hBc⟩
  case round =>
    clear hk1 hk2 hBc
    obtain ⟨k, hk, rfl, hte, hk1, hk2, hBr⟩ := hrel
    have HTE := Lib.hid hte
    clear hte
    by_cases hkl : k < l.length
    · obtain ⟨ad, rfl, had, g0', g1', g2', g3', g4'⟩ := hT.five k hkl
      have hadB : (ad.add (k * 5)).block < w.heap.size := by rw [block_of_add]; exact had
      have g0 := (hBr.cell (p := ad.add (k * 5)) hadB).trans g0'
      have g1 := (hBr.cell (p := ⟨(ad.add (k * 5)).block, (ad.add (k * 5)).off + 1, none⟩) hadB).trans g1'
      have g2 := (hBr.cell (p := ⟨(ad.add (k * 5)).block, (ad.add (k * 5)).off + 2, none⟩) hadB).trans g2'
      have g3 := (hBr.cell (p := ⟨(ad.add (k * 5)).block, (ad.add (k * 5)).off + 3, none⟩) hadB).trans g3'
      have g4 := (hBr.cell (p := ⟨(ad.add (k * 5)).block, (ad.add (k * 5)).off + 4, none⟩) hadB).trans g4'
      have HTk := Lib.hid (show l.take (k + 1) = l.take k ++ [l[k]] from List.take_succ_eq_append_getElem hkl)
      have HDk := Lib.hid (show l = l.take k ++ (l[k] :: l.drop (k + 1)) by rw [← List.drop_eq_getElem_cons hkl, List.take_append_drop])
      have hm1 := getD_bd (cnM_bd (l.take k)) (by omega)
      have hd1 := getD_bd (cnD_bd (l.take k)) (by omega)
      have hlt : ((l.take k).length : Int) ≤ 1000 := by rw [List.length_take]; omega
      generalize l[k] = t at *
      obtain ⟨tk, tb, tl, td, ti⟩ := t
      go_wp2_with fail
      refine (r_Sym ⟨tk, tb, tl, td, ti⟩ _).mono ?_
      rintro e w2 ⟨rfl, hb2⟩
      have hB3 := hb2
      have k1 := hk1.below hB3 hk1.lt
      have k2 := hk2.below hB3 hk2.lt
      have HB3 := Lib.hid (bl_then hBr hBr.size hB3)
      have hl1 := k1.lt
      have hl2 := k2.lt
      have hs0 := hk1.lt
      have hs1 := hk2.lt
      have hs2 := HB3.out.size
      clear hB3 hb2 g0 g1 g2 g3 g4 hk1 hk2 had hBr
      by_cases hck : tokCheck ⟨tk, tb, tl, td, ti⟩ = 0
      · have HCK := Lib.hid hck
        obtain ⟨hs3, hs4⟩ := tokSym_bd0 hck
        obtain ⟨hs5, hs6⟩ := distS_bd td
        have HSM := Lib.hid (cnM_snoc (l.take k) ⟨tk, tb, tl, td, ti⟩)
        have HSD := Lib.hid (cnD_snoc (l.take k) ⟨tk, tb, tl, td, ti⟩)
        rw [hck]
        clear hck
        generalize tokSym ⟨tk, tb, tl, td, ti⟩ = S at *
        obtain ⟨s, rfl⟩ := Int.eq_ofNat_of_zero_le hs3
        have c1 := ivals_cell (cnM (l.take k)) s (by rw [cnM_length]; omega)
        have k1c := Blk.cell k1 s
        rw [c1] at k1c
        obtain ⟨q1, q2⟩ := hm1 s
        have k1f := Blk.frozen k1 s
        clear c1 hm1
        have KZ := Lib.hid (fun z => k1.setInt s z)
        have KY := Lib.hid (fun z => k2.far (p := ⟨b1, s, none⟩) (by simp; omega) (.int .i64 z))
        have HSM2 : Hid (cnM (l.take (k + 1)) = (cnM (l.take k)).set s ((cnM (l.take k)).getD s 0 + 1)) := Lib.hid (by rw [HTk.out, HSM.out]; rfl)
        generalize (cnM (l.take k)).getD s 0 = X at *
        have HX := Lib.hid (fun z => (HB3.out.setCell (p := ⟨b1, s, none⟩) hz1 (.int .i64 z)))
        clear HSM
        have G0 := ((HX.out (X + 1)).cell (p := ad.add (k * 5)) hadB).trans g0'
        have G3 := ((HX.out (X + 1)).cell (p := ⟨(ad.add (k * 5)).block, (ad.add (k * 5)).off + 3, none⟩) hadB).trans g3'
        clear g0' g1' g2' g3' g4'
        by_cases hk1' : tk = 1
        · subst hk1'
          have HSD2 : Hid (cnD (l.take (k + 1)) = bump (cnD (l.take k)) (distS td).toNat) := Lib.hid (by rw [HTk.out, HSD.out]; rfl)
          clear HSD
          go_wp2_with fail
          have K1 := KZ.out (X + 1)
          have K2 := KY.out (X + 1)
          have K3 := HX.out (X + 1)
          have hsz : (w2.setCell ⟨b1, s, none⟩ (.int .i64 (X + 1))).heap.size = w2.heap.size := by simp [World.setCell]
          clear KZ KY HX k1 k2 k1c k1f
          generalize w2.setCell ⟨b1, s, none⟩ (.int .i64 (X + 1)) = w3 at *
          refine (r_Dist td _).mono ?_
          rintro e w' ⟨rfl, rfl⟩
          generalize distS td = D at *
          generalize distX td = D2 at *
          generalize distM td = D3 at *
          generalize distE td = D4 at *
          obtain ⟨d, rfl⟩ := Int.eq_ofNat_of_zero_le hs5
          have c1 := ivals_cell (cnD (l.take k)) d (by rw [cnD_length]; omega)
          obtain ⟨q3, q4⟩ := hd1 d
          have k2c := Blk.cell K2 d
          rw [c1] at k2c
          have k2f := Blk.frozen K2 d
          have HSD3 : Hid (cnD (l.take (k + 1)) = (cnD (l.take k)).set d ((cnD (l.take k)).getD d 0 + 1)) := Lib.hid (by rw [HSD2.out]; rfl)
          clear hd1 c1 HSD2
          generalize (cnD (l.take k)).getD d 0 = Y at *
          go_wp2
          go_roundw
          case rel =>
            refine ⟨k + 1, by omega, by go_num, ?_, ?_, ?_, K3.setCell (p := ⟨b2, d, none⟩) hz2 _⟩
            · rw [HTk.out, tokErr_append, HTE.out]
              simp [tokErr, HCK.out]
            · rw [HSM2.out]; exact K1.far (by simp; omega) _
            · rw [HSD3.out]; exact K2.setInt d _
          case measure => simp [intOf]; omega
        · have HSD2 : Hid (cnD (l.take (k + 1)) = cnD (l.take k)) := Lib.hid (by rw [HTk.out, HSD.out, if_neg hk1'])
          have hb1 : (tk == 1) = false := by simpa using hk1'
          clear HSD
          go_wp2
          go_roundw
          case rel =>
            refine ⟨k + 1, by omega, by go_num, ?_, ?_, ?_, HX.out _⟩
            · rw [HTk.out, tokErr_append, HTE.out]
              simp [tokErr, HCK.out]
            · rw [HSM2.out]; exact KZ.out _
            · rw [HSD2.out]; exact KY.out _
          case measure => simp [intOf]; omega
      · have HE : Hid (tokErr l = tokCheck ⟨tk, tb, tl, td, ti⟩) := Lib.hid (by
          rw [HDk.out, tokErr_append, HTE.out]
          simp only [if_true]
          show (if tokCheck ⟨tk, tb, tl, td, ti⟩ = 0 then _ else _) = _
          rw [if_neg hck])
        have hne : (tokCheck ⟨tk, tb, tl, td, ti⟩ != 0) = true := by rw [bne_iff_ne]; exact hck
        have HN := Lib.hid hck
        clear hck
        generalize tokCheck ⟨tk, tb, tl, td, ti⟩ = E at *
        go_wp2
        go_ret3
        exact .inr ⟨by rw [HE.out]; exact HN.out, by rw [HE.out]; rfl, HB3.out⟩
    · obtain rfl : k = l.length := by omega
      rw [List.take_length] at HTE hk1 hk2
      go_wp2
      go_ret3
      exact .inl ⟨HTE.out, b1, b2, rfl, hk1, hk2, hne, hBr⟩

end Go.Proofs.Ytoefkkgnabjmdaa
