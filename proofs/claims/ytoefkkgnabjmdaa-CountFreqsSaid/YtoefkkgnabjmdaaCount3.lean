/- Chapter 24 (count): Prices, the program's and the reference's, and the reference's comparison of ints: by walks. -/
import Derived.Test.YtoefkkgnabjmdaaCount
import Derived.Test.YtoefkkgnabjmdaaPrice2
set_option linter.unusedSimpArgs false
set_option linter.unusedVariables false
set_option maxRecDepth 100000
namespace Go.Proofs.Ytoefkkgnabjmdaa
open Go.RowKit

def codeOk (z : Int) : Bool := decide (1 ≤ z ∧ z ≤ 15)
def priceOf (l : List Int) (i : Nat) : Int := if codeOk (l.getD i 0) = true then l.getD i 0 else 16
def filledTo (l : List Int) (n k : Nat) : List Int := (List.range n).map fun j => if j < k then priceOf l j else 16
def pricesOf (l : List Int) (n : Nat) : List Int := (List.range n).map (priceOf l)
theorem filledTo_length (l : List Int) (n k : Nat) : (filledTo l n k).length = n := by simp [filledTo]
theorem pricesOf_length (l : List Int) (n : Nat) : (pricesOf l n).length = n := by simp [pricesOf]
theorem filledTo_zero (l : List Int) (n : Nat) : filledTo l n 0 = List.replicate n 16 := by
  apply List.ext_getElem
  · simp [filledTo]
  · intro i h1 h2; simp [filledTo]
theorem filledTo_yes (l : List Int) (n k : Nat) (h : codeOk (l.getD k 0) = true) : filledTo l n (k + 1) = (filledTo l n k).set k (l.getD k 0) := by
  apply List.ext_getElem
  · simp [filledTo]
  · intro i h1 h2
    rw [List.getElem_set]
    simp only [filledTo, List.getElem_map, List.getElem_range]
    by_cases hi : k = i
    · subst hi; rw [if_pos (by omega), if_pos rfl]; unfold priceOf; rw [if_pos h]
    · rw [if_neg hi]; by_cases h3 : i < k
      · rw [if_pos (by omega), if_pos h3]
      · rw [if_neg (by omega), if_neg h3]
theorem filledTo_no (l : List Int) (n k : Nat) (h : codeOk (l.getD k 0) = false) : filledTo l n (k + 1) = filledTo l n k := by
  apply List.ext_getElem
  · simp [filledTo]
  · intro i h1 h2
    simp only [filledTo, List.getElem_map, List.getElem_range]
    by_cases hi : k = i
    · subst hi; rw [if_pos (by omega), if_neg (by omega)]; unfold priceOf; rw [if_neg (by rw [h]; simp)]
    · by_cases h3 : i < k
      · rw [if_pos (by omega), if_pos h3]
      · rw [if_neg (by omega), if_neg h3]
theorem filledTo_end (l : List Int) (n k : Nat) (h : k = n ∨ l.length ≤ k) : filledTo l n k = pricesOf l n := by
  apply List.ext_getElem
  · simp [filledTo, pricesOf]
  · intro i h1 h2
    simp only [filledTo, pricesOf, List.getElem_map, List.getElem_range]
    simp [filledTo] at h1
    by_cases h3 : i < k
    · rw [if_pos h3]
    · rw [if_neg h3]
      unfold priceOf
      rw [List.getD_eq_getElem?_getD, List.getElem?_eq_none (by omega)]
      rfl

theorem p_code (z : Int) (w : World) : Calls Try.prog 58 #[.int .i64 z] w fun e w' => e = .returned (.bool (codeOk z)) ∧ w = w' := by
  by_cases h1 : 1 ≤ z
  · have HB := Lib.hid (show codeOk z = decide (z ≤ 15) by unfold codeOk; simp [h1])
    go_enter Try.func58, Try.ntmps58
    go_wp2
    all_goals
      go_ret
      exact ⟨by rw [HB.out]; first | rfl | (congr 1; simp_all), rfl⟩
  · have h2 : z < 1 := by omega
    have HB : Hid (codeOk z = false) := Lib.hid (by unfold codeOk; simp [h1])
    go_enter Try.func58, Try.ntmps58
    go_wp2
    go_ret
    exact ⟨by rw [HB.out]; rfl, rfl⟩
theorem enters_code : Enters 58 := fun _ _ => by kernel_rfl

def FilledDone (w : World) (n : Nat) (xs : List Int) (e : Ending) (w' : World) : Prop :=
  ∃ b, e = .returned (.slice (some ⟨b, 0, none⟩) n n) ∧ w.heap.size ≤ b ∧ Blk w' b 3 (ivals xs).toArray ∧ Below w.heap.size w w'

set_option maxHeartbeats 1000000 in
theorem p_filled (A : Option Addr) (c : Nat) (l : List Int) (n : Nat) (hn : 1 ≤ n) (hn2 : n ≤ 1000) (w : World) (h : ReadsI w A l) (hl : l.length ≤ 1000)
    (hmul : ∀ w, Calls Try.prog 107 #[.int .u64 1, .int .u64 n] w fun e w' => e = .returned (.tuple #[.int .u64 0, .int .u64 n]) ∧ w = w') :
    Calls Try.prog 59 #[.slice A l.length c, .int .i64 n, .int .i64 16, .func (.func 58) #[] #[]] w (FilledDone w n (pricesOf l n)) := by
  have hr1 := reads_ints (Blk.new w 3 (ivals [16]).toArray)
  have hB1 := bl_alloc (Below.refl w.heap.size w) (.cells (ivals [16]).toArray 3)
  have hrep := p_Repeat (some ⟨w.heap.size, 0, none⟩) 1 16 n hn hn2 _ hr1 hmul
  clear hmul
  go_enter Try.func59, Try.ntmps59
  go_wp2_with fail
  refine hrep.mono ?_
  rintro e w1 ⟨b, rfl, hzb, hkb, hb1⟩
  have HB1 := Lib.hid (bl_then hB1 hB1.size hb1)
  have hzb2 : w.heap.size ≤ b := Nat.le_trans hB1.size hzb
  have h1 := h.below HB1.out
  rw [← filledTo_zero l n] at hkb
  clear hrep hr1 hB1 hb1 hzb
  go_upto_region 2 with (fail)
  go_cut [18, 19] (fun v18 v19 wc => wc = w1 ∧ v19 = .int .i64 0 ∧ ∃ m : Nat, v18 = .int .i64 m ∧ m ≤ l.length ∧ m ≤ n ∧ (m = n ∨ l.length ≤ m))
  case first =>
    go_wp2
    all_goals
      go_meet
      case rel => first | exact ⟨rfl, rfl, l.length, rfl, by omega, by omega, by omega⟩ | exact ⟨rfl, rfl, n, rfl, by omega, by omega, by omega⟩
  obtain ⟨rfl, rfl, m, rfl, hm1, hm2, hm3⟩ := hcut
  have HM3 := Lib.hid hm3
  clear hm3
  go_wp2_with fail
  go_loopw [19] (fun v19 wr => ∃ k : Nat, k ≤ m ∧ v19 = .int .i64 k ∧ Blk wr b 3 (ivals (filledTo l n k)).toArray ∧ Below w.heap.size w wr) (fun v19 _ => m - (intOf v19).toNat)
  case atStart => exact ⟨0, Nat.zero_le _, rfl, hkb, HB1.out⟩
  case round =>
    clear hkb h1
    obtain ⟨k, hk, rfl, hkb, hbr⟩ := hrel
    by_cases hkm : k < m
    · obtain ⟨ad, rfl, had, hc'⟩ := h.at_ k (by omega)
      have hadB : (ad.add k).block < w.heap.size := by rw [block_of_add]; exact had
      have hc := (hbr.cell (p := ad.add k) hadB).trans hc'
      have hg := show l.getD k 0 = l[k] by rw [List.getD_eq_getElem?_getD, List.getElem?_eq_getElem (show k < l.length by omega)]; rfl
      have hY := Lib.hid (filledTo_yes l n k)
      have hN := Lib.hid (filledTo_no l n k)
      rw [hg] at hY hN
      clear hg hc'
      generalize l[k] = z at *
      have hent := enters_code #[.int .i64 z] wr
      have kf := Blk.frozen hkb k
      have kc : wr.cell? ⟨b, k, none⟩ = some (.int .i64 ((filledTo l n k).getD k 0)) := by rw [Blk.cell hkb, ivals_cell _ _ (by rw [filledTo_length]; omega)]
      have hbl := hkb.lt
      go_wp2_with fail
      refine (p_code z _).mono ?_
      rintro e w' ⟨rfl, rfl⟩
      by_cases hz : codeOk z = true
      · have HF := Lib.hid (hY.out hz)
        rw [hz]
        clear hz hY hN
        go_wp2
        go_roundw
        case rel => exact ⟨k + 1, by omega, by go_num, by rw [HF.out]; exact hkb.setInt k z, hbr.setCell (p := ⟨b, k, none⟩) hzb2 _⟩
        case measure => simp [intOf]; omega
      · have hz' : codeOk z = false := by simpa using hz
        have HF := Lib.hid (hN.out hz')
        rw [hz']
        clear hz hz' hY hN
        go_wp2
        go_roundw
        case rel => exact ⟨k + 1, by omega, by go_num, by rw [HF.out]; exact hkb, hbr⟩
        case measure => simp [intOf]; omega
    · obtain rfl : k = m := by omega
      have HF := Lib.hid (filledTo_end l n k HM3.out)
      go_wp2
      go_ret
      exact ⟨b, rfl, hzb2, by rw [← HF.out]; exact hkb, hbr⟩

end Go.Proofs.Ytoefkkgnabjmdaa
