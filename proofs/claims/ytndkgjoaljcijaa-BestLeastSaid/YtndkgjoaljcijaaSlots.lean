/- Chapter 15 (slots): what the program's and the reference's functions give, by walks. -/
import Derived.Test.YtndkgjoaljcijaaLib
import Derived.Test.YtndkgjoaljcijaaPlain15
set_option linter.unusedSimpArgs false
set_option linter.unusedVariables false
set_option maxRecDepth 100000
namespace Go.Proofs.Ytndkgjoaljcijaa
open Go.RowKit

theorem p_lenBits (s : Nat) (hs : s < 1000) (w : World) :
    Calls Try.prog 46 #[.int .i64 s] w fun e w' => e = .returned (.int .i64 (lenBits s)) ∧ w = w' := by
  by_cases h1 : s < 8
  · go_enter Try.func46, Try.ntmps46
    go_wp2
    go_ret
    exact ⟨ret_int (by unfold lenBits; rw [if_pos (by omega)]; rfl), rfl⟩
  · by_cases h2 : s = 28
    · subst h2
      go_enter Try.func46, Try.ntmps46
      go_wp2
      go_ret
      exact ⟨ret_int (by rfl), rfl⟩
    · have h2b : ((s : Int) == 28) = false := by rw [beq_eq_false_iff_ne]; omega
      go_enter Try.func46, Try.ntmps46
      go_wp2
      go_ret
      exact ⟨ret_int (by unfold lenBits; rw [if_neg (by omega)]; omega), rfl⟩

theorem p_distBits (s : Nat) (hs : s < 1000) (w : World) :
    Calls Try.prog 58 #[.int .i64 s] w fun e w' => e = .returned (.int .i64 (distBits s)) ∧ w = w' := by
  by_cases h1 : s < 4
  · go_enter Try.func58, Try.ntmps58
    go_wp2
    go_ret
    exact ⟨ret_int (by unfold distBits; rw [if_pos (by omega)]; rfl), rfl⟩
  · go_enter Try.func58, Try.ntmps58
    go_wp2
    go_ret
    exact ⟨ret_int (by unfold distBits; rw [if_neg (by omega)]; omega), rfl⟩

/-- A function value that is a function of its own is entered. -/
def Enters (f : FuncId) : Prop := ∀ (v : Array Value) (w : World), Sem.run Try.prog (callFunc f v) w = .ok (.enter f v) w
theorem enters_lenBits : Enters 46 := fun _ _ => by kernel_rfl
theorem enters_distBits : Enters 58 := fun _ _ => by kernel_rfl

theorem p_find (f : FuncId) (bits : Nat → Nat) (hf : ∀ (s : Nat), s < 1000 → ∀ w, Calls Try.prog f #[.int .i64 s] w fun e w' => e = .returned (.int .i64 (bits s)) ∧ w = w')
    (hent : Enters f) (b many n s : Nat) (hm : many < 1000) (hbits : ∀ s, s < many → bits s ≤ 24) (hn : n ≤ 67108864) (h1 : slotBase bits b s ≤ n) (h2 : n < slotBase bits b (s + 1)) (hs : s < many) (w : World) :
    Calls Try.prog 45 #[.int .i64 n, .int .i64 b, .int .i64 many, .func (.func f) #[] #[]] w fun e w' =>
      e = .returned (.tuple #[.int .i64 s, .int .i64 (bits s), .int .i64 (n - slotBase bits b s)]) ∧ w = w' := by
  go_enter Try.func45, Try.ntmps45
  go_wp2
  go_loop [1, 14] (fun x i => ∃ k : Nat, k ≤ s ∧ i = .int .i64 k ∧ x = .int .i64 (slotBase bits b k)) (fun _ i => many - (intOf i).toNat)
  case atStart => exact ⟨0, Nat.zero_le _, rfl, rfl⟩
  case round =>
    obtain ⟨k, hk, rfl, rfl⟩ := hrel
    have hkm : k < many := by omega
    have hbk := hbits k hkm
    have hbase : slotBase bits b k ≤ n := Nat.le_trans (slotBase_mono hk) h1
    have hent' := hent #[.int .i64 k] w
    have hup : slotBase bits b (k + 1) ≤ slotBase bits b k + 16777216 := by
      have : 2 ^ bits k ≤ 2 ^ 24 := Nat.pow_le_pow_right (by decide) hbk
      simp only [slotBase]; omega
    have hlow := slotBase_pos (bits := bits) (b := b) k
    have hw : wrap64 ((2 : Int) ^ bits k) = (slotBase bits b (k + 1) : Int) - slotBase bits b k := by
      have : (2 : Int) ^ bits k = ((2 ^ bits k : Nat) : Int) := by simp
      have h24 : 2 ^ bits k ≤ 2 ^ 24 := Nat.pow_le_pow_right (by decide) hbk
      rw [this]
      generalize hg : 2 ^ bits k = p at *
      simp only [slotBase, hg]; unfold wrap64; omega
    rcases Nat.lt_or_ge k s with hks | hks
    · have hnext : slotBase bits b (k + 1) ≤ n := Nat.le_trans (slotBase_mono hks) h1
      go_wp2_with fail
      refine (hf k (by omega) _).mono ?_
      rintro e w' ⟨rfl, rfl⟩
      go_wp2_with fail
      go_round
      case rel => exact ⟨k + 1, by omega, by go_num, by congr 1; omega⟩
      case measure => simp [intOf]; omega
    · obtain rfl : k = s := by omega
      go_wp2_with fail
      refine (hf k (by omega) _).mono ?_
      rintro e w' ⟨rfl, rfl⟩
      go_wp2_with fail
      refine (hf k (by omega) _).mono ?_
      rintro e w' ⟨rfl, rfl⟩
      go_wp2
      go_ret3
      exact ⟨rfl, rfl⟩


theorem p_Len (n : Int) (w : World) :
    Calls Try.prog 31 #[.int .i64 n] w fun e w' => e = .returned (.tuple #[.int .i64 (lenS n), .int .i64 (lenX n), .int .i64 (lenM n), .int .i64 (lenE n)]) ∧ w = w' := by
  by_cases h : lenOk n
  · have HS := Lib.hid (show lenS n = (lenSlot n : Int) from if_pos h)
    have HX := Lib.hid (show lenX n = (lenBits (lenSlot n) : Int) from if_pos h)
    have HM := Lib.hid (show lenM n = n - (lenBase (lenSlot n) : Int) from if_pos h)
    have HE := Lib.hid (show lenE n = 0 from if_pos h)
    obtain ⟨h1, h2, h3⟩ := lenSlot_spec n h
    obtain ⟨ha, hb⟩ := h
    obtain ⟨m, rfl⟩ := Int.eq_ofNat_of_zero_le (show 0 ≤ n by omega)
    go_enter Try.func31, Try.ntmps31
    go_wp2_with fail
    refine (p_find 46 lenBits (fun s hs w => p_lenBits s hs w) enters_lenBits 2 29 m (lenSlot m) (by omega) (fun s hs => by have := lenBits_le s (by omega); omega) (by omega) (by unfold lenBase at h1; omega) (by unfold lenBase at h2; omega) (by omega) _).mono ?_
    rintro e w' ⟨rfl, rfl⟩
    go_wp2
    refine bodyPost_ret (results_tmp4 rfl _ _ _) rfl ?_
    rw [HS.out, HX.out, HM.out, HE.out]
    exact ⟨rfl, rfl⟩
  · have HS := Lib.hid (show lenS n = 0 from if_neg h)
    have HX := Lib.hid (show lenX n = 0 from if_neg h)
    have HM := Lib.hid (show lenM n = 0 from if_neg h)
    have HE := Lib.hid (show lenE n = 2 from if_neg h)
    have h' : n < 2 ∨ 258 < n := by unfold lenOk at h; omega
    clear h
    rcases h' with h' | h'
    · go_enter Try.func31, Try.ntmps31
      go_wp2
      refine bodyPost_ret (results_tmp4 rfl _ _ _) rfl ?_
      rw [HS.out, HX.out, HM.out, HE.out]
      exact ⟨rfl, rfl⟩
    · have h'' : ¬ n < 2 := by omega
      go_enter Try.func31, Try.ntmps31
      go_wp2
      refine bodyPost_ret (results_tmp4 rfl _ _ _) rfl ?_
      rw [HS.out, HX.out, HM.out, HE.out]
      exact ⟨rfl, rfl⟩

theorem p_Dist (n : Int) (w : World) :
    Calls Try.prog 57 #[.int .i64 n] w fun e w' => e = .returned (.tuple #[.int .i64 (distS n), .int .i64 (distX n), .int .i64 (distM n), .int .i64 (distE n)]) ∧ w = w' := by
  by_cases h : distOk n
  · have HS := Lib.hid (show distS n = (distSlot n : Int) from if_pos h)
    have HX := Lib.hid (show distX n = (distBits (distSlot n) : Int) from if_pos h)
    have HM := Lib.hid (show distM n = n - (distBase (distSlot n) : Int) from if_pos h)
    have HE := Lib.hid (show distE n = 0 from if_pos h)
    obtain ⟨h1, h2, h3⟩ := distSlot_spec n h
    obtain ⟨ha, hb⟩ := h
    obtain ⟨m, rfl⟩ := Int.eq_ofNat_of_zero_le (show 0 ≤ n by omega)
    go_enter Try.func57, Try.ntmps57
    go_wp2_with fail
    refine (p_find 58 distBits (fun s hs w => p_distBits s hs w) enters_distBits 1 52 m (distSlot m) (by omega) (fun s hs => by have := distBits_le s (by omega); omega) (by omega) (by unfold distBase at h1; omega) (by unfold distBase at h2; omega) (by omega) _).mono ?_
    rintro e w' ⟨rfl, rfl⟩
    go_wp2
    refine bodyPost_ret (results_tmp4 rfl _ _ _) rfl ?_
    rw [HS.out, HX.out, HM.out, HE.out]
    exact ⟨rfl, rfl⟩
  · have HS := Lib.hid (show distS n = 0 from if_neg h)
    have HX := Lib.hid (show distX n = 0 from if_neg h)
    have HM := Lib.hid (show distM n = 0 from if_neg h)
    have HE := Lib.hid (show distE n = 2 from if_neg h)
    have h' : n < 1 ∨ 67108864 < n := by unfold distOk at h; omega
    clear h
    rcases h' with h' | h'
    · go_enter Try.func57, Try.ntmps57
      go_wp2
      refine bodyPost_ret (results_tmp4 rfl _ _ _) rfl ?_
      rw [HS.out, HX.out, HM.out, HE.out]
      exact ⟨rfl, rfl⟩
    · have h'' : ¬ n < 1 := by omega
      go_enter Try.func57, Try.ntmps57
      go_wp2
      refine bodyPost_ret (results_tmp4 rfl _ _ _) rfl ?_
      rw [HS.out, HX.out, HM.out, HE.out]
      exact ⟨rfl, rfl⟩

end Go.Proofs.Ytndkgjoaljcijaa
