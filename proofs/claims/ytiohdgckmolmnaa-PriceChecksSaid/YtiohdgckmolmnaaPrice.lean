/- Chapter 23 (price): the calls bad, IndexFunc, ContainsFunc, Check, and the reference's: what they give, by walks. -/
import Derived.Test.YtiohdgckmolmnaaInts
import Derived.Test.YtiohdgckmolmnaaPlain23
import Derived.Test.YtiohdgckmolmnaaSlots
set_option linter.unusedSimpArgs false
set_option linter.unusedVariables false
namespace Go.Proofs.Ytiohdgckmolmnaa
open Go.RowKit

theorem p_bad (n : Int) (w : World) : Calls Try.prog 66 #[.int .i64 n] w fun e w' => e = .returned (.bool (priceBad n)) ∧ w = w' := by
  have HB := Lib.hid (show priceBad n = (decide (n < 1) || decide (1048576 < n)) by unfold priceBad; simp)
  by_cases h : n < 1
  · have h1 : decide (n < 1) = true := by simpa using h
    have HB1 : Hid (priceBad n = true) := Lib.hid (by rw [HB.out, h1]; rfl)
    go_enter Try.func66, Try.ntmps66
    go_wp2
    go_ret
    exact ⟨by rw [HB1.out]; rfl, rfl⟩
  · have h1 : decide (n < 1) = false := by simpa using h
    go_enter Try.func66, Try.ntmps66
    go_wp2
    go_ret
    exact ⟨by rw [HB.out, h1]; first | rfl | simp, rfl⟩

theorem enters_bad : Enters 66 := fun _ _ => by kernel_rfl

theorem findIdx_le {l : List Int} {k : Nat} (h : ∀ i (hi : i < l.length), i < k → priceBad l[i] = false) (hk : k ≤ l.length) : (l.take k).any priceBad = false := by
  rw [List.any_eq_false]
  intro x hx
  obtain ⟨i, hi, rfl⟩ := List.getElem_of_mem hx
  rw [List.length_take] at hi
  rw [List.getElem_take]
  simp [h i (by omega) (by omega)]

set_option maxRecDepth 100000 in
theorem p_IndexFunc (A : Option Addr) (c : Nat) (l : List Int) (w : World) (h : ReadsI w A l) (hl : l.length ≤ 1000000000) :
    Calls Try.prog 73 #[.slice A l.length c, .func (.func 66) #[] #[]] w fun e w' => ∃ k : Int, e = .returned (.int .i64 k) ∧ w = w' ∧ (decide (0 ≤ k) = l.any priceBad) := by
  go_enter Try.func73, Try.ntmps73
  go_wp2_with fail
  go_loop [8] (fun v => ∃ k : Nat, k ≤ l.length ∧ v = .int .i64 k ∧ (l.take k).any priceBad = false) (fun v => l.length - (intOf v).toNat)
  case atStart => exact ⟨0, Nat.zero_le _, rfl, by simp⟩
  case round =>
    obtain ⟨k, hk, rfl, hno⟩ := hrel
    have HN := Lib.hid hno
    clear hno
    by_cases hkl : k < l.length
    · obtain ⟨ad, rfl, had, hc⟩ := h.at_ k hkl
      have HT := Lib.hid (show l.take (k + 1) = l.take k ++ [l[k]] from List.take_succ_eq_append_getElem hkl)
      have HM := Lib.hid (show l[k] ∈ l from List.getElem_mem hkl)
      generalize l[k] = z at *
      have hent := enters_bad #[.int .i64 z] w
      go_wp2_with fail
      refine (p_bad z _).mono ?_
      rintro e w' ⟨rfl, rfl⟩
      by_cases hb : priceBad z = true
      · have HB := Lib.hid hb
        rw [hb]
        clear hb
        go_wp2
        go_ret
        refine ⟨k, rfl, rfl, ?_⟩
        rw [decide_eq_true (by omega), eq_comm, List.any_eq_true]
        exact ⟨z, HM.out, HB.out⟩
      · have hb' : priceBad z = false := by simpa using hb
        have HB := Lib.hid hb'
        rw [hb']
        clear hb hb'
        go_wp2_with fail
        go_round
        case rel => exact ⟨k + 1, by omega, by go_num, by rw [HT.out, List.any_append, HN.out]; simp [HB.out]⟩
        case measure => simp [intOf]; omega
    · obtain rfl : k = l.length := by omega
      go_wp2
      go_ret
      have hn := HN.out
      rw [List.take_length] at hn
      exact ⟨-1, rfl, rfl, by rw [hn]; rfl⟩

theorem p_ContainsFunc (A : Option Addr) (c : Nat) (l : List Int) (w : World) (h : ReadsI w A l) (hl : l.length ≤ 1000000000) :
    Calls Try.prog 65 #[.slice A l.length c, .func (.func 66) #[] #[]] w fun e w' => e = .returned (.bool (l.any priceBad)) ∧ w = w' := by
  go_enter Try.func65, Try.ntmps65
  go_wp2_with fail
  refine (p_IndexFunc A c l w h hl).mono ?_
  rintro e w' ⟨k, rfl, rfl, hk⟩
  have HK := Lib.hid hk
  clear hk
  go_wp2
  go_ret
  exact ⟨by rw [← HK.out]; rfl, rfl⟩

/-- Prices as a value. -/
def priceV (M D : Option Addr) (m d : List Int) (c1 c2 : Nat) : Value := .agg #[.slice M m.length c1, .slice D d.length c2]
theorem chk_form {m d : List Int} (h : m.length ≠ 401 ∨ d.length ≠ 52) : chkE m d = 4 := if_pos h
theorem chk_range {m d : List Int} (h : ¬ (m.length ≠ 401 ∨ d.length ≠ 52)) (h2 : (m.any priceBad || d.any priceBad) = true) : chkE m d = 2 := by
  unfold chkE
  rw [if_neg h, if_neg]
  rintro ⟨k1, k2⟩
  rw [← any_bad] at k1 k2
  rw [k1, k2] at h2
  cases h2
theorem chk_ok {m d : List Int} (h : ¬ (m.length ≠ 401 ∨ d.length ≠ 52)) (h2 : m.any priceBad = false) (h3 : d.any priceBad = false) : chkE m d = 0 := by
  unfold chkE
  rw [if_neg h, if_pos ⟨(any_bad m).1 h2, (any_bad d).1 h3⟩]

set_option maxRecDepth 100000 in
theorem p_PCheck (M D : Option Addr) (m d : List Int) (c1 c2 : Nat) (w : World) (hm : ReadsI w M m) (hd : ReadsI w D d) (l1 : m.length ≤ 1000000000) (l2 : d.length ≤ 1000000000) :
    Calls Try.prog 48 #[priceV M D m d c1 c2] w fun e w' => e = .returned (.int .i64 (chkE m d)) ∧ Below w.heap.size w w' := by
  unfold priceV
  have hm' := hm.alloc (.cells #[.slice M m.length c1, .slice D d.length c2] 86)
  have hd' := hd.alloc (.cells #[.slice M m.length c1, .slice D d.length c2] 86)
  have HM := Lib.hid hm'
  have HD := Lib.hid hd'
  clear hm hd hm' hd'
  by_cases hf : m.length ≠ 401 ∨ d.length ≠ 52
  · have HE := Lib.hid (chk_form hf)
    by_cases h1 : m.length = 401
    · have h2 : d.length ≠ 52 := by omega
      have b1 : ((m.length : Int) != 401) = false := by rw [bne_eq_false_iff_eq]; omega
      have b2 : ((d.length : Int) != 52) = true := by rw [bne_iff_ne]; omega
      clear hf h1 h2
      go_enter Try.func48, Try.ntmps48
      go_wp2
      go_ret
      exact ⟨by rw [HE.out]; rfl, bl_alloc (Below.refl _ _) _⟩
    · have b1 : ((m.length : Int) != 401) = true := by rw [bne_iff_ne]; omega
      clear hf h1
      go_enter Try.func48, Try.ntmps48
      go_wp2
      go_ret
      exact ⟨by rw [HE.out]; rfl, bl_alloc (Below.refl _ _) _⟩
  · have H2 := Lib.hid (fun h => chk_range hf h)
    have H3 := Lib.hid (fun h h' => chk_ok hf h h')
    have b1 : ((m.length : Int) != 401) = false := by rw [bne_eq_false_iff_eq]; omega
    have b2 : ((d.length : Int) != 52) = false := by rw [bne_eq_false_iff_eq]; omega
    clear hf
    have hent := fun w => enters_bad #[] w
    go_enter Try.func48, Try.ntmps48
    go_wp2_with fail
    refine (p_ContainsFunc M c1 m _ HM.out l1).mono ?_
    rintro e w' ⟨rfl, rfl⟩
    by_cases hb1 : m.any priceBad = true
    · have HE := Lib.hid (H2.out (by rw [hb1]; rfl))
      rw [hb1]
      clear hb1
      go_wp2
      go_ret
      exact ⟨by rw [HE.out]; rfl, bl_alloc (Below.refl _ _) _⟩
    · have hb1' : m.any priceBad = false := by simpa using hb1
      have HB1 := Lib.hid hb1'
      rw [hb1']
      clear hb1 hb1'
      go_wp2_with fail
      refine (p_ContainsFunc D c2 d _ HD.out l2).mono ?_
      rintro e w' ⟨rfl, rfl⟩
      by_cases hb2 : d.any priceBad = true
      · have HE := Lib.hid (H2.out (by rw [hb2]; simp))
        rw [hb2]
        clear hb2
        go_wp2
        go_ret
        exact ⟨by rw [HE.out]; rfl, bl_alloc (Below.refl _ _) _⟩
      · have hb2' : d.any priceBad = false := by simpa using hb2
        have HE := Lib.hid (H3.out HB1.out hb2')
        rw [hb2']
        clear hb2 hb2'
        go_wp2
        go_ret
        exact ⟨by rw [HE.out]; rfl, bl_alloc (Below.refl _ _) _⟩

end Go.Proofs.Ytiohdgckmolmnaa
