/- Chapter 24 (count): Freqs, the program's and the reference's: by walks. · Chapter 24 (count): Prices, the program's and the reference's, and the reference's comparison of ints: by walks. · Chapter 24 (count): Prices, the program's and the reference's, and the reference's comparison of ints: by walks. -/
import Derived.Test.YtoefkkgnabjmdaaCount
import Derived.Test.YtoefkkgnabjmdaaPrice
set_option linter.unusedSimpArgs false
set_option linter.unusedVariables false
set_option maxRecDepth 100000
namespace Go.Proofs.Ytoefkkgnabjmdaa

/-! Count2 -/
section
open Go.RowKit

set_option maxHeartbeats 4000000 in
theorem p_Freqs (T : Option Addr) (c : Nat) (l : List Tok) (w : World) (hT : ReadsT w T l) (hl : l.length ≤ 1000) :
    Calls Try.prog 24 #[.slice T l.length c] w (Counted w l) := by
  have hmk1 : ∀ w : World, (Instr.makeSlice 22 (.int .i64 401) (.int .i64 401)).run Try.prog w = .ok (.slice (some ⟨w.heap.size, 0, none⟩) 401 401) (w.alloc (.cells (ivals (zeros 401)).toArray 3)) := fun w => run_zeros w 401 (by omega)
  have hmk2 : ∀ w : World, (Instr.makeSlice 22 (.int .i64 52) (.int .i64 52)).run Try.prog w = .ok (.slice (some ⟨w.heap.size, 0, none⟩) 52 52) (w.alloc (.cells (ivals (zeros 52)).toArray 3)) := fun w => run_zeros w 52 (by omega)
  have HM1 := Lib.hid (countMid1 w)
  have HM2 := Lib.hid (countMid2 w)
  go_enter Try.func24, Try.ntmps24
  go_upto_region 1 with (fail)
  go_cut [5, 6] (fun v5 v6 wc => CountMid w v5 v6 wc)
  case first =>
    go_region
    all_goals
      go_wp2
      go_meet
      case rel => first | exact HM1.out | exact HM2.out
  clear HM1 HM2 hmk1 hmk2
  obtain ⟨b1, b2, rfl, rfl, hk1, hk2, hne, hz1, hz2, hBc⟩ := hcut
  go_wp2_with fail
  go_loopw [19] (fun v19 wr => ∃ k : Nat, k ≤ l.length ∧ v19 = .int .i64 k ∧ tokErr (l.take k) = 0 ∧ Blk wr b1 3 (ivals (cnM (l.take k))).toArray ∧ Blk wr b2 3 (ivals (cnD (l.take k))).toArray ∧ Below w.heap.size w wr) (fun v19 _ => l.length - (intOf v19).toNat)
  case atStart => exact ⟨0, Nat.zero_le _, rfl, rfl, hk1, hk2, hBc⟩
  case round =>
    clear hk1 hk2 hBc
    obtain ⟨k, hk, rfl, hte, hk1, hk2, hBr⟩ := hrel
    have HTE := Lib.hid hte
    clear hte
    by_cases hkl : k < l.length
    · obtain ⟨ad, rfl, had, g0, g1, g2, g3, g4⟩ := (hT.below hBr).five k hkl
      have HTk := Lib.hid (show l.take (k + 1) = l.take k ++ [l[k]] from List.take_succ_eq_append_getElem hkl)
      have HDk := Lib.hid (show l = l.take k ++ (l[k] :: l.drop (k + 1)) by rw [← List.drop_eq_getElem_cons hkl, List.take_append_drop])
      have hm1 := getD_bd (cnM_bd (l.take k)) (by omega)
      have hd1 := getD_bd (cnD_bd (l.take k)) (by omega)
      have hlt : ((l.take k).length : Int) ≤ 1000 := by rw [List.length_take]; omega
      generalize l[k] = t at *
      obtain ⟨tk, tb, tl, td, ti⟩ := t
      have hB2 := bl_alloc (Below.refl wr.heap.size wr) (.cells #[.int .i64 tk, .int .i64 tb, .int .i64 tl, .int .i64 td, .int .i64 ti] 83)
      have kb2 := Blk.new wr 83 #[.int .i64 tk, .int .i64 tb, .int .i64 tl, .int .i64 td, .int .i64 ti]
      have kc2 := Blk.cell kb2
      go_wp2_with fail
      refine (p_Sym ⟨tk, tb, tl, td, ti⟩ _).mono ?_
      rintro e w2 ⟨rfl, hb2⟩
      have hB3 := bl_then hB2 hB2.size hb2
      have kb3 := kb2.below hb2 kb2.lt
      have kc3 := Blk.cell kb3
      have k1 := hk1.below hB3 hk1.lt
      have k2 := hk2.below hB3 hk2.lt
      have HB3 := Lib.hid (bl_then hBr hBr.size hB3)
      have hl1 := k1.lt
      have hl2 := k2.lt
      have hl3 := kb3.lt
      have hs0 := hk1.lt
      have hs1 := hk2.lt
      have hs2 := HB3.out.size
      clear hB2 hB3 hb2 kb2 kc2 g0 g1 g2 g3 g4 hk1 hk2 had hBr
      by_cases hck : tokCheck ⟨tk, tb, tl, td, ti⟩ = 0
      · have HCK := Lib.hid hck
        obtain ⟨hs3, hs4⟩ := tokSym_bd0 hck
        obtain ⟨hs5, hs6⟩ := distS_bd td
        have HSM := Lib.hid (cnM_snoc (l.take k) ⟨tk, tb, tl, td, ti⟩)
        have HSD := Lib.hid (cnD_snoc (l.take k) ⟨tk, tb, tl, td, ti⟩)
        rw [hck]
        clear hck
        generalize tokSym ⟨tk, tb, tl, td, ti⟩ = S at *
        obtain ⟨s, rfl⟩ := Int.eq_ofNat_of_zero_le hs3
        have c1 := ivals_cell (cnM (l.take k)) s (by rw [cnM_length]; omega)
        have k1c := Blk.cell k1 s
        rw [c1] at k1c
        obtain ⟨q1, q2⟩ := hm1 s
        have k1f := Blk.frozen k1 s
        clear c1 hm1
        have KZ := Lib.hid (fun z => k1.setInt s z)
        have KY := Lib.hid (fun z => k2.far (p := ⟨b1, s, none⟩) (by simp; omega) (.int .i64 z))
        have KX := Lib.hid (fun z => kb3.far (p := ⟨b1, s, none⟩) (by simp; omega) (.int .i64 z))
        have HSM2 : Hid (cnM (l.take (k + 1)) = (cnM (l.take k)).set s ((cnM (l.take k)).getD s 0 + 1)) := Lib.hid (by rw [HTk.out, HSM.out]; rfl)
        generalize (cnM (l.take k)).getD s 0 = X at *
        have HX := Lib.hid (fun z => (HB3.out.setCell (p := ⟨b1, s, none⟩) hz1 (.int .i64 z)))
        clear HSM
        by_cases hk1' : tk = 1
        · subst hk1'
          have HSD2 : Hid (cnD (l.take (k + 1)) = bump (cnD (l.take k)) (distS td).toNat) := Lib.hid (by rw [HTk.out, HSD.out]; rfl)
          clear HSD
          go_wp2_with fail
          have K1 := KZ.out (X + 1)
          have K2 := KY.out (X + 1)
          have K3 := HX.out (X + 1)
          have hsz : (w2.setCell ⟨b1, s, none⟩ (.int .i64 (X + 1))).heap.size = w2.heap.size := by simp [World.setCell]
          clear KZ KY KX HX k1 k2 kc3 kb3 k1c k1f
          generalize w2.setCell ⟨b1, s, none⟩ (.int .i64 (X + 1)) = w3 at *
          refine (p_Dist td _).mono ?_
          rintro e w' ⟨rfl, rfl⟩
          generalize distS td = D at *
          generalize distX td = D2 at *
          generalize distM td = D3 at *
          generalize distE td = D4 at *
          obtain ⟨d, rfl⟩ := Int.eq_ofNat_of_zero_le hs5
          have c1 := ivals_cell (cnD (l.take k)) d (by rw [cnD_length]; omega)
          obtain ⟨q3, q4⟩ := hd1 d
          have k2c := Blk.cell K2 d
          rw [c1] at k2c
          have k2f := Blk.frozen K2 d
          have HSD3 : Hid (cnD (l.take (k + 1)) = (cnD (l.take k)).set d ((cnD (l.take k)).getD d 0 + 1)) := Lib.hid (by rw [HSD2.out]; rfl)
          clear hd1 c1 HSD2
          generalize (cnD (l.take k)).getD d 0 = Y at *
          go_wp2
          go_roundw
          case rel =>
            refine ⟨k + 1, by omega, by go_num, ?_, ?_, ?_, K3.setCell (p := ⟨b2, d, none⟩) hz2 _⟩
            · rw [HTk.out, tokErr_append, HTE.out]
              simp [tokErr, HCK.out]
            · rw [HSM2.out]; exact K1.far (by simp; omega) _
            · rw [HSD3.out]; exact K2.setInt d _
          case measure => simp [intOf]; omega
        · have HSD2 : Hid (cnD (l.take (k + 1)) = cnD (l.take k)) := Lib.hid (by rw [HTk.out, HSD.out, if_neg hk1'])
          have hb1 : (tk == 1) = false := by simpa using hk1'
          clear HSD
          go_wp2
          go_roundw
          case rel =>
            refine ⟨k + 1, by omega, by go_num, ?_, ?_, ?_, HX.out _⟩
            · rw [HTk.out, tokErr_append, HTE.out]
              simp [tokErr, HCK.out]
            · rw [HSM2.out]; exact KZ.out _
            · rw [HSD2.out]; exact KY.out _
          case measure => simp [intOf]; omega
      · have HE : Hid (tokErr l = tokCheck ⟨tk, tb, tl, td, ti⟩) := Lib.hid (by
          rw [HDk.out, tokErr_append, HTE.out]
          simp only [if_true]
          show (if tokCheck ⟨tk, tb, tl, td, ti⟩ = 0 then _ else _) = _
          rw [if_neg hck])
        have hne : (tokCheck ⟨tk, tb, tl, td, ti⟩ != 0) = true := by rw [bne_iff_ne]; exact hck
        have HN := Lib.hid hck
        clear hck
        generalize tokCheck ⟨tk, tb, tl, td, ti⟩ = E at *
        go_wp2
        go_ret3
        exact .inr ⟨by rw [HE.out]; exact HN.out, by rw [HE.out]; rfl, HB3.out⟩
    · obtain rfl : k = l.length := by omega
      rw [List.take_length] at HTE hk1 hk2
      go_wp2
      go_ret3
      exact .inl ⟨HTE.out, b1, b2, rfl, hk1, hk2, hne, hBr⟩

set_option maxHeartbeats 4000000 in
theorem r_Freqs (T : Option Addr) (c : Nat) (l : List Tok) (w : World) (hT : ReadsT w T l) (hl : l.length ≤ 1000) :
    Calls Try.prog 25 #[.slice T l.length c] w (Counted w l) := by
  have hmk1 : ∀ w : World, (Instr.makeSlice 22 (.int .i64 401) (.int .i64 401)).run Try.prog w = .ok (.slice (some ⟨w.heap.size, 0, none⟩) 401 401) (w.alloc (.cells (ivals (zeros 401)).toArray 3)) := fun w => run_zeros w 401 (by omega)
  have hmk2 : ∀ w : World, (Instr.makeSlice 22 (.int .i64 52) (.int .i64 52)).run Try.prog w = .ok (.slice (some ⟨w.heap.size, 0, none⟩) 52 52) (w.alloc (.cells (ivals (zeros 52)).toArray 3)) := fun w => run_zeros w 52 (by omega)
  have HM0 := Lib.hid (countMid0 w)
  go_enter Try.func25, Try.ntmps25
  go_upto_region 3 with (fail)
  go_cut [5, 6, 7] (fun v5 v6 v7 wc => v7 = .int .i64 0 ∧ CountMid w v5 v6 wc)
  case first =>
    go_wp2
    go_meet
    case rel => exact ⟨rfl, HM0.out⟩
  clear HM0 hmk1 hmk2
  obtain ⟨rfl, b1, b2, rfl, rfl, hk1, hk2, hne, hz1, hz2, hBc⟩ := hcut
  go_wp2_with fail
  go_loopw [7] (fun v19 wr => ∃ k : Nat, k ≤ l.length ∧ v19 = .int .i64 k ∧ tokErr (l.take k) = 0 ∧ Blk wr b1 3 (ivals (cnM (l.take k))).toArray ∧ Blk wr b2 3 (ivals (cnD (l.take k))).toArray ∧ Below w.heap.size w wr) (fun v19 _ => l.length - (intOf v19).toNat)
  case atStart => exact ⟨0, Nat.zero_le _, rfl, rfl, hk1, hk2, hBc⟩
  case round =>
    clear hk1 hk2 hBc
    obtain ⟨k, hk, rfl, hte, hk1, hk2, hBr⟩ := hrel
    have HTE := Lib.hid hte
    clear hte
    by_cases hkl : k < l.length
    · obtain ⟨ad, rfl, had, g0', g1', g2', g3', g4'⟩ := hT.five k hkl
      have hadB : (ad.add (k * 5)).block < w.heap.size := by rw [block_of_add]; exact had
      have g0 := (hBr.cell (p := ad.add (k * 5)) hadB).trans g0'
      have g1 := (hBr.cell (p := ⟨(ad.add (k * 5)).block, (ad.add (k * 5)).off + 1, none⟩) hadB).trans g1'
      have g2 := (hBr.cell (p := ⟨(ad.add (k * 5)).block, (ad.add (k * 5)).off + 2, none⟩) hadB).trans g2'
      have g3 := (hBr.cell (p := ⟨(ad.add (k * 5)).block, (ad.add (k * 5)).off + 3, none⟩) hadB).trans g3'
      have g4 := (hBr.cell (p := ⟨(ad.add (k * 5)).block, (ad.add (k * 5)).off + 4, none⟩) hadB).trans g4'
      have HTk := Lib.hid (show l.take (k + 1) = l.take k ++ [l[k]] from List.take_succ_eq_append_getElem hkl)
      have HDk := Lib.hid (show l = l.take k ++ (l[k] :: l.drop (k + 1)) by rw [← List.drop_eq_getElem_cons hkl, List.take_append_drop])
      have hm1 := getD_bd (cnM_bd (l.take k)) (by omega)
      have hd1 := getD_bd (cnD_bd (l.take k)) (by omega)
      have hlt : ((l.take k).length : Int) ≤ 1000 := by rw [List.length_take]; omega
      generalize l[k] = t at *
      obtain ⟨tk, tb, tl, td, ti⟩ := t
      go_wp2_with fail
      refine (r_Sym ⟨tk, tb, tl, td, ti⟩ _).mono ?_
      rintro e w2 ⟨rfl, hb2⟩
      have hB3 := hb2
      have k1 := hk1.below hB3 hk1.lt
      have k2 := hk2.below hB3 hk2.lt
      have HB3 := Lib.hid (bl_then hBr hBr.size hB3)
      have hl1 := k1.lt
      have hl2 := k2.lt
      have hs0 := hk1.lt
      have hs1 := hk2.lt
      have hs2 := HB3.out.size
      clear hB3 hb2 g0 g1 g2 g3 g4 hk1 hk2 had hBr
      by_cases hck : tokCheck ⟨tk, tb, tl, td, ti⟩ = 0
      · have HCK := Lib.hid hck
        obtain ⟨hs3, hs4⟩ := tokSym_bd0 hck
        obtain ⟨hs5, hs6⟩ := distS_bd td
        have HSM := Lib.hid (cnM_snoc (l.take k) ⟨tk, tb, tl, td, ti⟩)
        have HSD := Lib.hid (cnD_snoc (l.take k) ⟨tk, tb, tl, td, ti⟩)
        rw [hck]
        clear hck
        generalize tokSym ⟨tk, tb, tl, td, ti⟩ = S at *
        obtain ⟨s, rfl⟩ := Int.eq_ofNat_of_zero_le hs3
        have c1 := ivals_cell (cnM (l.take k)) s (by rw [cnM_length]; omega)
        have k1c := Blk.cell k1 s
        rw [c1] at k1c
        obtain ⟨q1, q2⟩ := hm1 s
        have k1f := Blk.frozen k1 s
        clear c1 hm1
        have KZ := Lib.hid (fun z => k1.setInt s z)
        have KY := Lib.hid (fun z => k2.far (p := ⟨b1, s, none⟩) (by simp; omega) (.int .i64 z))
        have HSM2 : Hid (cnM (l.take (k + 1)) = (cnM (l.take k)).set s ((cnM (l.take k)).getD s 0 + 1)) := Lib.hid (by rw [HTk.out, HSM.out]; rfl)
        generalize (cnM (l.take k)).getD s 0 = X at *
        have HX := Lib.hid (fun z => (HB3.out.setCell (p := ⟨b1, s, none⟩) hz1 (.int .i64 z)))
        clear HSM
        have G0 := ((HX.out (X + 1)).cell (p := ad.add (k * 5)) hadB).trans g0'
        have G3 := ((HX.out (X + 1)).cell (p := ⟨(ad.add (k * 5)).block, (ad.add (k * 5)).off + 3, none⟩) hadB).trans g3'
        clear g0' g1' g2' g3' g4'
        by_cases hk1' : tk = 1
        · subst hk1'
          have HSD2 : Hid (cnD (l.take (k + 1)) = bump (cnD (l.take k)) (distS td).toNat) := Lib.hid (by rw [HTk.out, HSD.out]; rfl)
          clear HSD
          go_wp2_with fail
          have K1 := KZ.out (X + 1)
          have K2 := KY.out (X + 1)
          have K3 := HX.out (X + 1)
          have hsz : (w2.setCell ⟨b1, s, none⟩ (.int .i64 (X + 1))).heap.size = w2.heap.size := by simp [World.setCell]
          clear KZ KY HX k1 k2 k1c k1f
          generalize w2.setCell ⟨b1, s, none⟩ (.int .i64 (X + 1)) = w3 at *
          refine (r_Dist td _).mono ?_
          rintro e w' ⟨rfl, rfl⟩
          generalize distS td = D at *
          generalize distX td = D2 at *
          generalize distM td = D3 at *
          generalize distE td = D4 at *
          obtain ⟨d, rfl⟩ := Int.eq_ofNat_of_zero_le hs5
          have c1 := ivals_cell (cnD (l.take k)) d (by rw [cnD_length]; omega)
          obtain ⟨q3, q4⟩ := hd1 d
          have k2c := Blk.cell K2 d
          rw [c1] at k2c
          have k2f := Blk.frozen K2 d
          have HSD3 : Hid (cnD (l.take (k + 1)) = (cnD (l.take k)).set d ((cnD (l.take k)).getD d 0 + 1)) := Lib.hid (by rw [HSD2.out]; rfl)
          clear hd1 c1 HSD2
          generalize (cnD (l.take k)).getD d 0 = Y at *
          go_wp2
          go_roundw
          case rel =>
            refine ⟨k + 1, by omega, by go_num, ?_, ?_, ?_, K3.setCell (p := ⟨b2, d, none⟩) hz2 _⟩
            · rw [HTk.out, tokErr_append, HTE.out]
              simp [tokErr, HCK.out]
            · rw [HSM2.out]; exact K1.far (by simp; omega) _
            · rw [HSD3.out]; exact K2.setInt d _
          case measure => simp [intOf]; omega
        · have HSD2 : Hid (cnD (l.take (k + 1)) = cnD (l.take k)) := Lib.hid (by rw [HTk.out, HSD.out, if_neg hk1'])
          have hb1 : (tk == 1) = false := by simpa using hk1'
          clear HSD
          go_wp2
          go_roundw
          case rel =>
            refine ⟨k + 1, by omega, by go_num, ?_, ?_, ?_, HX.out _⟩
            · rw [HTk.out, tokErr_append, HTE.out]
              simp [tokErr, HCK.out]
            · rw [HSM2.out]; exact KZ.out _
            · rw [HSD2.out]; exact KY.out _
          case measure => simp [intOf]; omega
      · have HE : Hid (tokErr l = tokCheck ⟨tk, tb, tl, td, ti⟩) := Lib.hid (by
          rw [HDk.out, tokErr_append, HTE.out]
          simp only [if_true]
          show (if tokCheck ⟨tk, tb, tl, td, ti⟩ = 0 then _ else _) = _
          rw [if_neg hck])
        have hne : (tokCheck ⟨tk, tb, tl, td, ti⟩ != 0) = true := by rw [bne_iff_ne]; exact hck
        have HN := Lib.hid hck
        clear hck
        generalize tokCheck ⟨tk, tb, tl, td, ti⟩ = E at *
        go_wp2
        go_ret3
        exact .inr ⟨by rw [HE.out]; exact HN.out, by rw [HE.out]; rfl, HB3.out⟩
    · obtain rfl : k = l.length := by omega
      rw [List.take_length] at HTE hk1 hk2
      go_wp2
      go_ret3
      exact .inl ⟨HTE.out, b1, b2, rfl, hk1, hk2, hne, hBr⟩
end

/-! Count3 -/
section
open Go.RowKit

def codeOk (z : Int) : Bool := decide (1 ≤ z ∧ z ≤ 15)
def priceOf (l : List Int) (i : Nat) : Int := if codeOk (l.getD i 0) = true then l.getD i 0 else 16
def filledTo (l : List Int) (n k : Nat) : List Int := (List.range n).map fun j => if j < k then priceOf l j else 16
def pricesOf (l : List Int) (n : Nat) : List Int := (List.range n).map (priceOf l)
theorem filledTo_length (l : List Int) (n k : Nat) : (filledTo l n k).length = n := by simp [filledTo]
theorem pricesOf_length (l : List Int) (n : Nat) : (pricesOf l n).length = n := by simp [pricesOf]
theorem filledTo_zero (l : List Int) (n : Nat) : filledTo l n 0 = List.replicate n 16 := by
  apply List.ext_getElem
  · simp [filledTo]
  · intro i h1 h2; simp [filledTo]
theorem filledTo_yes (l : List Int) (n k : Nat) (h : codeOk (l.getD k 0) = true) : filledTo l n (k + 1) = (filledTo l n k).set k (l.getD k 0) := by
  apply List.ext_getElem
  · simp [filledTo]
  · intro i h1 h2
    rw [List.getElem_set]
    simp only [filledTo, List.getElem_map, List.getElem_range]
    by_cases hi : k = i
    · subst hi; rw [if_pos (by omega), if_pos rfl]; unfold priceOf; rw [if_pos h]
    · rw [if_neg hi]; by_cases h3 : i < k
      · rw [if_pos (by omega), if_pos h3]
      · rw [if_neg (by omega), if_neg h3]
theorem filledTo_no (l : List Int) (n k : Nat) (h : codeOk (l.getD k 0) = false) : filledTo l n (k + 1) = filledTo l n k := by
  apply List.ext_getElem
  · simp [filledTo]
  · intro i h1 h2
    simp only [filledTo, List.getElem_map, List.getElem_range]
    by_cases hi : k = i
    · subst hi; rw [if_pos (by omega), if_neg (by omega)]; unfold priceOf; rw [if_neg (by rw [h]; simp)]
    · by_cases h3 : i < k
      · rw [if_pos (by omega), if_pos h3]
      · rw [if_neg (by omega), if_neg h3]
theorem filledTo_end (l : List Int) (n k : Nat) (h : k = n ∨ l.length ≤ k) : filledTo l n k = pricesOf l n := by
  apply List.ext_getElem
  · simp [filledTo, pricesOf]
  · intro i h1 h2
    simp only [filledTo, pricesOf, List.getElem_map, List.getElem_range]
    simp [filledTo] at h1
    by_cases h3 : i < k
    · rw [if_pos h3]
    · rw [if_neg h3]
      unfold priceOf
      rw [List.getD_eq_getElem?_getD, List.getElem?_eq_none (by omega)]
      rfl

theorem p_code (z : Int) (w : World) : Calls Try.prog 58 #[.int .i64 z] w fun e w' => e = .returned (.bool (codeOk z)) ∧ w = w' := by
  by_cases h1 : 1 ≤ z
  · have HB := Lib.hid (show codeOk z = decide (z ≤ 15) by unfold codeOk; simp [h1])
    go_enter Try.func58, Try.ntmps58
    go_wp2
    all_goals
      go_ret
      exact ⟨by rw [HB.out]; first | rfl | (congr 1; simp_all), rfl⟩
  · have h2 : z < 1 := by omega
    have HB : Hid (codeOk z = false) := Lib.hid (by unfold codeOk; simp [h1])
    go_enter Try.func58, Try.ntmps58
    go_wp2
    go_ret
    exact ⟨by rw [HB.out]; rfl, rfl⟩
theorem enters_code : Enters 58 := fun _ _ => by kernel_rfl

def FilledDone (w : World) (n : Nat) (xs : List Int) (e : Ending) (w' : World) : Prop :=
  ∃ b, e = .returned (.slice (some ⟨b, 0, none⟩) n n) ∧ w.heap.size ≤ b ∧ Blk w' b 3 (ivals xs).toArray ∧ Below w.heap.size w w'

set_option maxHeartbeats 1000000 in
theorem p_filled (A : Option Addr) (c : Nat) (l : List Int) (n : Nat) (hn : 1 ≤ n) (hn2 : n ≤ 1000) (w : World) (h : ReadsI w A l) (hl : l.length ≤ 1000)
    (hmul : ∀ w, Calls Try.prog 107 #[.int .u64 1, .int .u64 n] w fun e w' => e = .returned (.tuple #[.int .u64 0, .int .u64 n]) ∧ w = w') :
    Calls Try.prog 59 #[.slice A l.length c, .int .i64 n, .int .i64 16, .func (.func 58) #[] #[]] w (FilledDone w n (pricesOf l n)) := by
  have hr1 := reads_ints (Blk.new w 3 (ivals [16]).toArray)
  have hB1 := bl_alloc (Below.refl w.heap.size w) (.cells (ivals [16]).toArray 3)
  have hrep := p_Repeat (some ⟨w.heap.size, 0, none⟩) 1 16 n hn hn2 _ hr1 hmul
  clear hmul
  go_enter Try.func59, Try.ntmps59
  go_wp2_with fail
  refine hrep.mono ?_
  rintro e w1 ⟨b, rfl, hzb, hkb, hb1⟩
  have HB1 := Lib.hid (bl_then hB1 hB1.size hb1)
  have hzb2 : w.heap.size ≤ b := Nat.le_trans hB1.size hzb
  have h1 := h.below HB1.out
  rw [← filledTo_zero l n] at hkb
  clear hrep hr1 hB1 hb1 hzb
  go_upto_region 2 with (fail)
  go_cut [18, 19] (fun v18 v19 wc => wc = w1 ∧ v19 = .int .i64 0 ∧ ∃ m : Nat, v18 = .int .i64 m ∧ m ≤ l.length ∧ m ≤ n ∧ (m = n ∨ l.length ≤ m))
  case first =>
    go_wp2
    all_goals
      go_meet
      case rel => first | exact ⟨rfl, rfl, l.length, rfl, by omega, by omega, by omega⟩ | exact ⟨rfl, rfl, n, rfl, by omega, by omega, by omega⟩
  obtain ⟨rfl, rfl, m, rfl, hm1, hm2, hm3⟩ := hcut
  have HM3 := Lib.hid hm3
  clear hm3
  go_wp2_with fail
  go_loopw [19] (fun v19 wr => ∃ k : Nat, k ≤ m ∧ v19 = .int .i64 k ∧ Blk wr b 3 (ivals (filledTo l n k)).toArray ∧ Below w.heap.size w wr) (fun v19 _ => m - (intOf v19).toNat)
  case atStart => exact ⟨0, Nat.zero_le _, rfl, hkb, HB1.out⟩
  case round =>
    clear hkb h1
    obtain ⟨k, hk, rfl, hkb, hbr⟩ := hrel
    by_cases hkm : k < m
    · obtain ⟨ad, rfl, had, hc'⟩ := h.at_ k (by omega)
      have hadB : (ad.add k).block < w.heap.size := by rw [block_of_add]; exact had
      have hc := (hbr.cell (p := ad.add k) hadB).trans hc'
      have hg := show l.getD k 0 = l[k] by rw [List.getD_eq_getElem?_getD, List.getElem?_eq_getElem (show k < l.length by omega)]; rfl
      have hY := Lib.hid (filledTo_yes l n k)
      have hN := Lib.hid (filledTo_no l n k)
      rw [hg] at hY hN
      clear hg hc'
      generalize l[k] = z at *
      have hent := enters_code #[.int .i64 z] wr
      have kf := Blk.frozen hkb k
      have kc : wr.cell? ⟨b, k, none⟩ = some (.int .i64 ((filledTo l n k).getD k 0)) := by rw [Blk.cell hkb, ivals_cell _ _ (by rw [filledTo_length]; omega)]
      have hbl := hkb.lt
      go_wp2_with fail
      refine (p_code z _).mono ?_
      rintro e w' ⟨rfl, rfl⟩
      by_cases hz : codeOk z = true
      · have HF := Lib.hid (hY.out hz)
        rw [hz]
        clear hz hY hN
        go_wp2
        go_roundw
        case rel => exact ⟨k + 1, by omega, by go_num, by rw [HF.out]; exact hkb.setInt k z, hbr.setCell (p := ⟨b, k, none⟩) hzb2 _⟩
        case measure => simp [intOf]; omega
      · have hz' : codeOk z = false := by simpa using hz
        have HF := Lib.hid (hN.out hz')
        rw [hz']
        clear hz hz' hY hN
        go_wp2
        go_roundw
        case rel => exact ⟨k + 1, by omega, by go_num, by rw [HF.out]; exact hkb, hbr⟩
        case measure => simp [intOf]; omega
    · obtain rfl : k = m := by omega
      have HF := Lib.hid (filledTo_end l n k HM3.out)
      go_wp2
      go_ret
      exact ⟨b, rfl, hzb2, by rw [← HF.out]; exact hkb, hbr⟩
end

/-! Count4 -/
section
open Go.RowKit

theorem p_Prices (M D : Option Addr) (m d : List Int) (c1 c2 : Nat) (w : World) (hm : ReadsI w M m) (hd : ReadsI w D d) (l1 : m.length ≤ 1000) (l2 : d.length ≤ 1000) :
    Calls Try.prog 26 #[.slice M m.length c1, .slice D d.length c2] w fun e w' => ∃ b1 b2, e = .returned (.agg #[.slice (some ⟨b1, 0, none⟩) 401 401, .slice (some ⟨b2, 0, none⟩) 52 52]) ∧
      ReadsI w' (some ⟨b1, 0, none⟩) (pricesOf m 401) ∧ ReadsI w' (some ⟨b2, 0, none⟩) (pricesOf d 52) ∧ Below w.heap.size w w' := by
  have hp1 := fun w h => p_filled M c1 m 401 (by omega) (by omega) w h l1 p_Mul401
  have hp2 := fun w h => p_filled D c2 d 52 (by omega) (by omega) w h l2 p_Mul52
  have hB0 := bl_alloc (Below.refl w.heap.size w) (.cells #[.slice none 0 0, .slice none 0 0] 48)
  have hk0 := Blk.new w 48 #[.slice none 0 0, .slice none 0 0]
  have hm0 := hm.below hB0
  have hd0 := hd.below hB0
  clear hm hd
  go_enter Try.func26, Try.ntmps26
  go_wp2_with fail
  refine Calls.mono (show Calls _ _ #[_, .int .i64 401, _, _] _ _ from hp1 _ hm0) ?_
  rintro e w1 ⟨b1, rfl, z1, k1, hb1⟩
  have hk1 := hk0.below hb1 hk0.lt
  have hd1 := hd0.below hb1
  have hB1 := bl_then hB0 hB0.size hb1
  clear hp1 hm0 hd0 hk0 hB0 hb1 z1
  go_wp2_with fail
  refine Calls.mono (show Calls _ _ #[_, .int .i64 52, _, _] _ _ from hp2 _ hd1) ?_
  rintro e w2 ⟨b2, rfl, z2, k2, hb2⟩
  have hk2 := hk1.below hb2 hk1.lt
  have k3 := k1.below hb2 k1.lt
  have hB2 := bl_then hB1 hB1.size hb2
  have hne1 : ¬ b1 = w.heap.size := Blk.ne_ k3 hk2 (by decide)
  have hne2 : ¬ b2 = w.heap.size := Blk.ne_ k2 hk2 (by decide)
  have c0 := Blk.cell hk2 0
  have c1' := Blk.cell hk2 1
  have f0 := Blk.frozen hk2 0
  have f1 := Blk.frozen hk2 1
  have hz := hk2.lt
  clear hp2 hd1 hk1 hB1 hb2 z2 k1
  go_wp2
  refine bodyPost_ret (v := .agg #[.slice (some ⟨b1, 0, none⟩) 401 401, .slice (some ⟨b2, 0, none⟩) 52 52]) ?_ rfl ⟨b1, b2, rfl, reads_ints ((k3.far (by simp; omega) _).far (by simp; omega) _), reads_ints ((k2.far (by simp; omega) _).far (by simp; omega) _), (hB2.setCell (p := ⟨w.heap.size, 0, none⟩) (Nat.le_refl _) _).setCell (p := ⟨w.heap.size, 1, none⟩) (Nat.le_refl _) _⟩
  simp [results, Try.results26, go_sem, c0, c1', f0, f1]

set_option maxHeartbeats 2000000 in
theorem r_one (A : Option Addr) (c : Nat) (l : List Int) (n : Nat) (hn : n ≤ 1000) (w : World) (h : ReadsI w A l) (hl : l.length ≤ 1000) :
    Calls Try.prog 60 #[.slice A l.length c, .int .i64 n] w fun e w' => ∃ B c', e = .returned (.slice B n c') ∧ RowI w' w.heap.size (.slice B n c') (pricesOf l n) ∧ Below w.heap.size w w' := by
  go_enter Try.func60, Try.ntmps60
  go_wp2_with fail
  go_loopw [5, 6] (fun v5 v6 wr => ∃ k : Nat, k ≤ n ∧ v6 = .int .i64 k ∧ RowI wr w.heap.size v5 (pricesOf l k) ∧ Below w.heap.size w wr) (fun _ v6 _ => n - (intOf v6).toNat)
  case atStart => exact ⟨0, Nat.zero_le _, rfl, Row.nil _ _ _ _, Below.refl _ _⟩
  case round =>
    obtain ⟨k, hk, rfl, hrow, hbr⟩ := hrel
    by_cases hkn : k < n
    · have HP := Lib.hid (show pricesOf l (k + 1) = pricesOf l k ++ [priceOf l k] by simp [pricesOf, List.range_succ])
      have hrl : (pricesOf l k).length = k := pricesOf_length l k
      have HRL := Lib.hid hrl
      have hsz := hbr.size
      clear hrl
      by_cases hkl : k < l.length
      · obtain ⟨ad, rfl, had, hc'⟩ := h.at_ k hkl
        have hadB : (ad.add k).block < w.heap.size := by rw [block_of_add]; exact had
        have hc := (hbr.cell (p := ad.add k) hadB).trans hc'
        have hg := show l.getD k 0 = l[k] by rw [List.getD_eq_getElem?_getD, List.getElem?_eq_getElem hkl]; rfl
        generalize l[k] = z at *
        clear hc'
        by_cases h1 : 1 ≤ z
        · by_cases h2 : z ≤ 15
          · have HQ : Hid (priceOf l k = z) := Lib.hid (by unfold priceOf; rw [hg, if_pos (by unfold codeOk; simp [h1, h2])])
            clear hg
            have hrx := reads_ints (Blk.new wr 3 (ivals [z]).toArray)
            have hrow3 := hrow.alloc (.cells (ivals [z]).toArray 3)
            have hlt := hrow.lt
            have HB3 := Lib.hid (bl_alloc hbr (.cells (ivals [z]).toArray 3))
            clear hrow
            go_wp2_with (at_builtin; go_must (refine wpList_append_ints rfl (.tmp 35) (.tmp 37) rfl w.heap.size _ (pricesOf l k) rfl hrow3 (some ⟨wr.heap.size, 0, none⟩) 1 1 [z] rfl rfl hrx (by have := HRL.out; simp; omega) (by simp; omega) ?_); intro v3 w3 hr3 hg3 ho3)
            go_roundw
            case rel =>
              refine ⟨k + 1, by omega, by go_num, ?_, ?_⟩
              · rw [HP.out, HQ.out]; exact hr3
              · exact HB3.out.grown hg3 (by simp; omega) (fun j hj => (hlt j hj).1)
            case measure => simp [intOf]; omega
          · have HQ : Hid (priceOf l k = 16) := Lib.hid (by unfold priceOf; rw [hg, if_neg (by unfold codeOk; simp [h2])])
            clear hg
            have hrx := reads_ints (Blk.new wr 3 (ivals [16]).toArray)
            have hrow3 := hrow.alloc (.cells (ivals [16]).toArray 3)
            have hlt := hrow.lt
            have HB3 := Lib.hid (bl_alloc hbr (.cells (ivals [16]).toArray 3))
            clear hrow
            go_wp2_with (at_builtin; go_must (refine wpList_append_ints rfl (.tmp 35) (.tmp 37) rfl w.heap.size _ (pricesOf l k) rfl hrow3 (some ⟨wr.heap.size, 0, none⟩) 1 1 [16] rfl rfl hrx (by have := HRL.out; simp; omega) (by simp; omega) ?_); intro v3 w3 hr3 hg3 ho3)
            go_roundw
            case rel =>
              refine ⟨k + 1, by omega, by go_num, ?_, ?_⟩
              · rw [HP.out, HQ.out]; exact hr3
              · exact HB3.out.grown hg3 (by simp; omega) (fun j hj => (hlt j hj).1)
            case measure => simp [intOf]; omega
        · have HQ : Hid (priceOf l k = 16) := Lib.hid (by unfold priceOf; rw [hg, if_neg (by unfold codeOk; simp [h1])])
          clear hg
          have hrx := reads_ints (Blk.new wr 3 (ivals [16]).toArray)
          have hrow3 := hrow.alloc (.cells (ivals [16]).toArray 3)
          have hlt := hrow.lt
          have HB3 := Lib.hid (bl_alloc hbr (.cells (ivals [16]).toArray 3))
          clear hrow
          go_wp2_with (at_builtin; go_must (refine wpList_append_ints rfl (.tmp 35) (.tmp 37) rfl w.heap.size _ (pricesOf l k) rfl hrow3 (some ⟨wr.heap.size, 0, none⟩) 1 1 [16] rfl rfl hrx (by have := HRL.out; simp; omega) (by simp; omega) ?_); intro v3 w3 hr3 hg3 ho3)
          go_roundw
          case rel =>
            refine ⟨k + 1, by omega, by go_num, ?_, ?_⟩
            · rw [HP.out, HQ.out]; exact hr3
            · exact HB3.out.grown hg3 (by simp; omega) (fun j hj => (hlt j hj).1)
          case measure => simp [intOf]; omega
      · have HQ : Hid (priceOf l k = 16) := Lib.hid (by unfold priceOf; rw [List.getD_eq_getElem?_getD, List.getElem?_eq_none (by omega)]; rfl)
        have hrx := reads_ints (Blk.new wr 3 (ivals [16]).toArray)
        have hrow3 := hrow.alloc (.cells (ivals [16]).toArray 3)
        have hlt := hrow.lt
        have HB3 := Lib.hid (bl_alloc hbr (.cells (ivals [16]).toArray 3))
        clear hrow
        go_wp2_with (at_builtin; go_must (refine wpList_append_ints rfl (.tmp 35) (.tmp 37) rfl w.heap.size _ (pricesOf l k) rfl hrow3 (some ⟨wr.heap.size, 0, none⟩) 1 1 [16] rfl rfl hrx (by have := HRL.out; simp; omega) (by simp; omega) ?_); intro v3 w3 hr3 hg3 ho3)
        go_roundw
        case rel =>
          refine ⟨k + 1, by omega, by go_num, ?_, ?_⟩
          · rw [HP.out, HQ.out]; exact hr3
          · exact HB3.out.grown hg3 (by simp; omega) (fun j hj => (hlt j hj).1)
        case measure => simp [intOf]; omega
    · obtain rfl : k = n := by omega
      obtain ⟨B, c', rfl, hc', hrd⟩ := hrow.slice
      rw [pricesOf_length] at *
      go_wp2
      go_ret
      exact ⟨B, c', rfl, hrow, hbr⟩

theorem row_reads {w : World} {base n c : Nat} {A : Option Addr} {xs : List Int} (h : RowI w base (.slice A n c) xs) (hl : xs.length = n) : ReadsI w A xs := by
  subst hl
  exact Row.reads h rfl
theorem r_Prices (M D : Option Addr) (m d : List Int) (c1 c2 : Nat) (w : World) (hm : ReadsI w M m) (hd : ReadsI w D d) (l1 : m.length ≤ 1000) (l2 : d.length ≤ 1000) :
    Calls Try.prog 27 #[.slice M m.length c1, .slice D d.length c2] w fun e w' => ∃ A1 A2 c3 c4, e = .returned (.agg #[.slice A1 401 c3, .slice A2 52 c4]) ∧
      ReadsI w' A1 (pricesOf m 401) ∧ ReadsI w' A2 (pricesOf d 52) ∧ Below w.heap.size w w' := by
  have hp1 := fun w h => r_one M c1 m 401 (by omega) w h l1
  have hp2 := fun w h => r_one D c2 d 52 (by omega) w h l2
  have hB0 := bl_alloc (Below.refl w.heap.size w) (.cells #[.slice none 0 0, .slice none 0 0] 48)
  have hk0 := Blk.new w 48 #[.slice none 0 0, .slice none 0 0]
  have hm0 := hm.below hB0
  have hd0 := hd.below hB0
  clear hm hd
  go_enter Try.func27, Try.ntmps27
  go_wp2_with fail
  refine Calls.mono (show Calls _ _ #[_, .int .i64 401] _ _ from hp1 _ hm0) ?_
  rintro e w1 ⟨A1, c3, rfl, k1, hb1⟩
  have z1 := k1.mono (show w.heap.size + 1 ≤ _ by simp)
  clear k1
  have hk1 := hk0.below hb1 hk0.lt
  have hd1 := hd0.below hb1
  have hB1 := bl_then hB0 hB0.size hb1
  clear hp1 hm0 hd0 hk0 hB0 hb1
  go_wp2_with fail
  refine Calls.mono (show Calls _ _ #[_, .int .i64 52] _ _ from hp2 _ hd1) ?_
  rintro e w2 ⟨A2, c4, rfl, k2, hb2⟩
  have z2 := k2.mono (show w.heap.size + 1 ≤ _ by have := hk1.lt; omega)
  have z3 := z1.below hb2
  clear k2
  have hk2 := hk1.below hb2 hk1.lt
  have hB2 := bl_then hB1 hB1.size hb2
  have c0 := Blk.cell hk2 0
  have c1' := Blk.cell hk2 1
  have f0 := Blk.frozen hk2 0
  have f1 := Blk.frozen hk2 1
  have hz := hk2.lt
  clear hp2 hd1 hk1 hB1 hb2 z1
  go_wp2
  have n1 : (Value.slice A1 401 c3).ownBlock ≠ some w.heap.size := fun h => by have := (z3.lt _ h).1; omega
  have n2 : (Value.slice A2 52 c4).ownBlock ≠ some w.heap.size := fun h => by have := (z2.lt _ h).1; omega
  refine bodyPost_ret (v := .agg #[.slice A1 401 c3, .slice A2 52 c4]) ?_ rfl ⟨A1, A2, c3, c4, rfl, ?_, ?_, (hB2.setCell (p := ⟨w.heap.size, 0, none⟩) (Nat.le_refl _) _).setCell (p := ⟨w.heap.size, 1, none⟩) (Nat.le_refl _) _⟩
  · simp [results, Try.results27, go_sem, c0, c1', f0, f1]
  · exact row_reads ((Row.setCell z3 _ n1).setCell _ n1) (pricesOf_length m 401)
  · exact row_reads ((Row.setCell z2 _ n2).setCell _ n2) (pricesOf_length d 52)

theorem r_Ints (A B : Option Addr) (a b : List Int) (c1 c2 : Nat) (w : World) (ha : ReadsI w A a) (hb : ReadsI w B b) (la : a.length ≤ 1000000000) (lb : b.length ≤ 1000000000) :
    Calls Try.prog 28 #[.slice A a.length c1, .slice B b.length c2] w fun e w' => e = .returned (.bool (decide (a = b))) ∧ Below w.heap.size w w' := by
  by_cases hl : a.length = b.length
  · have HL := Lib.hid hl
    have b1 : ((a.length : Int) != b.length) = false := by rw [bne_eq_false_iff_eq]; omega
    clear hl
    go_enter Try.func28, Try.ntmps28
    go_wp2_with fail
    go_loopw [5] (fun v wr => ∃ k : Nat, k ≤ a.length ∧ v = .int .i64 k ∧ a.take k = b.take k ∧ Below w.heap.size w wr) (fun v _ => a.length - (intOf v).toNat)
    case atStart => exact ⟨0, Nat.zero_le _, rfl, rfl, Below.refl _ _⟩
    case round =>
      obtain ⟨k, hk, rfl, heq, hbr⟩ := hrel
      have HE := Lib.hid heq
      clear heq
      by_cases hkl : k < a.length
      · have hkb : k < b.length := by have := HL.out; omega
        obtain ⟨ad, rfl, had, g1⟩ := (ha.below hbr).at_ k hkl
        obtain ⟨bd, rfl, hbd, g2⟩ := (hb.below hbr).at_ k hkb
        have HA := Lib.hid (show a.take (k + 1) = a.take k ++ [a[k]] from List.take_succ_eq_append_getElem hkl)
        have HB := Lib.hid (show b.take (k + 1) = b.take k ++ [b[k]] from List.take_succ_eq_append_getElem hkb)
        have HN := Lib.hid (show a = b → a[k] = b[k] from fun h => by subst h; rfl)
        generalize a[k] = y at *
        generalize b[k] = z at *
        by_cases hyz : y = z
        · have hd : (y != z) = false := by simpa using hyz
          have HZ := Lib.hid hyz
          clear hyz
          go_wp2_with fail
          go_quiet (fail)
          go_wp2
          go_roundw
          case rel => exact ⟨k + 1, by omega, by go_num, by rw [HA.out, HB.out, HE.out, HZ.out], bl_drewN hbr _⟩
          case measure => simp [intOf]; omega
        · have hd : (y != z) = true := by simpa using hyz
          have HZ := Lib.hid hyz
          clear hyz
          go_wp2_with fail
          go_quiet (fail)
          go_wp2
          go_ret
          exact ⟨by rw [decide_eq_false (fun h => HZ.out (HN.out h))]; rfl, bl_drewN hbr _⟩
      · obtain rfl : k = a.length := by omega
        go_wp2
        go_ret
        have h1 := HE.out
        rw [List.take_length, HL.out, List.take_length] at h1
        exact ⟨by rw [decide_eq_true h1]; rfl, hbr⟩
  · have b1 : ((a.length : Int) != b.length) = true := by rw [bne_iff_ne]; omega
    have HN : Hid (¬ a = b) := Lib.hid (fun h => hl (by rw [h]))
    clear hl
    go_enter Try.func28, Try.ntmps28
    go_wp2
    go_ret
    exact ⟨by rw [decide_eq_false HN.out]; rfl, Below.refl _ _⟩
end

end Go.Proofs.Ytoefkkgnabjmdaa
