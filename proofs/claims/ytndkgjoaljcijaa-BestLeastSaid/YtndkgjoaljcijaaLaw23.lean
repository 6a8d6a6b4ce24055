/- Chapter 23's laws: the reference's Check, the example, the first law: by walks. -/
import Derived.Test.YtndkgjoaljcijaaPrice
set_option linter.unusedSimpArgs false
set_option linter.unusedVariables false
namespace Go.Proofs.Ytndkgjoaljcijaa
open Go.RowKit

set_option maxRecDepth 100000 in
theorem r_fine (A : Option Addr) (c : Nat) (l : List Int) (w : World) (h : ReadsI w A l) (hl : l.length ≤ 1000000000) :
    Calls Try.prog 24 #[.slice A l.length c] w fun e w' => e = .returned (.bool (!l.any priceBad)) ∧ w = w' := by
  go_enter Try.func24, Try.ntmps24
  go_wp2_with fail
  go_loop [3] (fun v => ∃ k : Nat, k ≤ l.length ∧ v = .int .i64 k ∧ (l.take k).any priceBad = false) (fun v => l.length - (intOf v).toNat)
  case atStart => exact ⟨0, Nat.zero_le _, rfl, by simp⟩
  case round =>
    obtain ⟨k, hk, rfl, hno⟩ := hrel
    have HN := Lib.hid hno
    clear hno
    by_cases hkl : k < l.length
    · obtain ⟨ad, rfl, had, hc⟩ := h.at_ k hkl
      have HT := Lib.hid (show l.take (k + 1) = l.take k ++ [l[k]] from List.take_succ_eq_append_getElem hkl)
      have HM := Lib.hid (show l[k] ∈ l from List.getElem_mem hkl)
      generalize l[k] = z at *
      by_cases hz : z < 1
      · have hd : decide (z < 1) = true := by simpa using hz
        have HB : Hid (priceBad z = true) := Lib.hid (by unfold priceBad; simp; omega)
        clear hz
        go_wp2
        go_ret
        refine ⟨?_, rfl⟩
        have : l.any priceBad = true := List.any_eq_true.2 ⟨z, HM.out, HB.out⟩
        rw [this]
        rfl
      · have hd : decide (z < 1) = false := by simpa using hz
        by_cases hz2 : 1048576 < z
        · have HB : Hid (priceBad z = true) := Lib.hid (by unfold priceBad; simp; omega)
          clear hz
          go_wp2
          go_ret
          refine ⟨?_, rfl⟩
          have : l.any priceBad = true := List.any_eq_true.2 ⟨z, HM.out, HB.out⟩
          rw [this]
          rfl
        · have HB : Hid (priceBad z = false) := Lib.hid (by unfold priceBad; simp; omega)
          clear hz
          go_wp2
          go_round
          case rel => exact ⟨k + 1, by omega, by go_num, by rw [HT.out, List.any_append, HN.out]; simp [HB.out]⟩
          case measure => simp [intOf]; omega
    · obtain rfl : k = l.length := by omega
      go_wp2
      go_ret
      have hn := HN.out
      rw [List.take_length] at hn
      exact ⟨by rw [hn]; rfl, rfl⟩

set_option maxRecDepth 100000 in
theorem r_PCheck (M D : Option Addr) (m d : List Int) (c1 c2 : Nat) (w : World) (hm : ReadsI w M m) (hd : ReadsI w D d) (l1 : m.length ≤ 1000000000) (l2 : d.length ≤ 1000000000) :
    Calls Try.prog 10 #[priceV M D m d c1 c2] w fun e w' => e = .returned (.int .i64 (chkE m d)) ∧ Below w.heap.size w w' := by
  unfold priceV
  have hm' := hm.alloc (.cells #[.slice M m.length c1, .slice D d.length c2] 32)
  have hd' := hd.alloc (.cells #[.slice M m.length c1, .slice D d.length c2] 32)
  have HM := Lib.hid hm'
  have HD := Lib.hid hd'
  clear hm hd hm' hd'
  by_cases hf : m.length ≠ 401 ∨ d.length ≠ 52
  · have HE := Lib.hid (chk_form hf)
    by_cases h1 : m.length = 401
    · have h2 : d.length ≠ 52 := by omega
      have b1 : ((m.length : Int) != 401) = false := by rw [bne_eq_false_iff_eq]; omega
      have b2 : ((d.length : Int) != 52) = true := by rw [bne_iff_ne]; omega
      clear hf h1 h2
      go_enter Try.func10, Try.ntmps10
      go_wp2
      go_ret
      exact ⟨by rw [HE.out]; rfl, bl_alloc (Below.refl _ _) _⟩
    · have b1 : ((m.length : Int) != 401) = true := by rw [bne_iff_ne]; omega
      clear hf h1
      go_enter Try.func10, Try.ntmps10
      go_wp2
      go_ret
      exact ⟨by rw [HE.out]; rfl, bl_alloc (Below.refl _ _) _⟩
  · have H2 := Lib.hid (fun h => chk_range hf h)
    have H3 := Lib.hid (fun h h' => chk_ok hf h h')
    have b1 : ((m.length : Int) != 401) = false := by rw [bne_eq_false_iff_eq]; omega
    have b2 : ((d.length : Int) != 52) = false := by rw [bne_eq_false_iff_eq]; omega
    clear hf
    go_enter Try.func10, Try.ntmps10
    go_wp2_with fail
    refine (r_fine M c1 m _ HM.out l1).mono ?_
    rintro e w' ⟨rfl, rfl⟩
    by_cases hb1 : m.any priceBad = true
    · have HE := Lib.hid (H2.out (by rw [hb1]; rfl))
      rw [hb1]
      clear hb1
      go_wp2
      go_ret
      exact ⟨by rw [HE.out]; rfl, bl_alloc (Below.refl _ _) _⟩
    · have hb1' : m.any priceBad = false := by simpa using hb1
      have HB1 := Lib.hid hb1'
      rw [hb1']
      clear hb1 hb1'
      go_wp2_with fail
      refine (r_fine D c2 d _ HD.out l2).mono ?_
      rintro e w' ⟨rfl, rfl⟩
      by_cases hb2 : d.any priceBad = true
      · have HE := Lib.hid (H2.out (by rw [hb2]; simp))
        rw [hb2]
        clear hb2
        go_wp2
        go_ret
        exact ⟨by rw [HE.out]; rfl, bl_alloc (Below.refl _ _) _⟩
      · have hb2' : d.any priceBad = false := by simpa using hb2
        have HE := Lib.hid (H3.out HB1.out hb2')
        rw [hb2']
        clear hb2 hb2'
        go_wp2
        go_ret
        exact ⟨by rw [HE.out]; rfl, bl_alloc (Below.refl _ _) _⟩

/-- Prices that are all alike: as many as there are. -/
def flatM (a : Int) : List Int := List.replicate 401 (flatP a)
def flatD (b : Int) : List Int := List.replicate 52 (flatP b)
theorem flatM_length (a : Int) : (flatM a).length = 401 := List.length_replicate
theorem flatD_length (a : Int) : (flatD a).length = 52 := List.length_replicate
theorem p_PCheck_flat (b1 b2 : Nat) (a b : Int) (w : World) (hm : ReadsI w (some ⟨b1, 0, none⟩) (flatM a)) (hd : ReadsI w (some ⟨b2, 0, none⟩) (flatD b)) :
    Calls Try.prog 30 #[.agg #[.slice (some ⟨b1, 0, none⟩) 401 401, .slice (some ⟨b2, 0, none⟩) 52 52]] w fun e w' => e = .returned (.int .i64 0) ∧ Below w.heap.size w w' := by
  have h := p_PCheck _ _ _ _ 401 52 w hm hd (by rw [flatM_length]; omega) (by rw [flatD_length]; omega)
  rw [show chkE (flatM a) (flatD b) = 0 from chkE_flat a b] at h
  unfold priceV at h
  rwa [flatM_length, flatD_length] at h

end Go.Proofs.Ytndkgjoaljcijaa
