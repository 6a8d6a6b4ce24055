/- Chapter 16 (token): what the program's and the reference's functions give, by walks. -/
import Derived.Test.YtndkgjoaljcijaaSlots
import Derived.Test.YtndkgjoaljcijaaRef15L
set_option linter.unusedSimpArgs false
set_option linter.unusedVariables false
namespace Go.Proofs.Ytndkgjoaljcijaa
open Go.RowKit

def tokV (t : Tok) : Value := .agg #[.int .i64 t.kind, .int .i64 t.byte, .int .i64 t.len, .int .i64 t.dist, .int .i64 t.rep]

theorem tokCheck_yes {t : Tok} (h : tokOk t) : (0 : Int) = tokCheck t := (if_pos h).symm
theorem tokCheck_no {t : Tok} (h : ¬ tokOk t) : (10 : Int) = tokCheck t := (if_neg h).symm


set_option maxHeartbeats 1000000 in
set_option maxRecDepth 100000 in
theorem p_Check' (k b l d r : Int) (w : World) :
    Calls Try.prog 47 #[.agg #[.int .i64 k, .int .i64 b, .int .i64 l, .int .i64 d, .int .i64 r]] w fun e w' => e = .returned (.int .i64 (tokCheck ⟨k, b, l, d, r⟩)) ∧ Below w.heap.size w w' := by
  go_enter Try.func47, Try.ntmps47
  go_wp2
  all_goals
    go_ret
    refine ⟨ret_int ?_, by repeat (first | exact Below.refl _ _ | refine bl_alloc ?_ _)⟩
    simp only [beq_iff_eq, beq_eq_false_iff_ne, bne_iff_ne, bne_eq_false_iff_eq, Bool.not_eq_true', Bool.not_eq_false', decide_eq_true_eq, decide_eq_false_iff_not, ne_eq] at *
    first | exact tokCheck_no (by simp only [tokOk, true_and]; omega) | exact tokCheck_yes (by simp only [tokOk, true_and]; omega)
theorem p_Check (t : Tok) (w : World) : Calls Try.prog 47 #[tokV t] w fun e w' => e = .returned (.int .i64 (tokCheck t)) ∧ Below w.heap.size w w' := p_Check' _ _ _ _ _ w

set_option maxHeartbeats 1000000 in
set_option maxRecDepth 100000 in
theorem r_Check' (k b l d r : Int) (w : World) :
    Calls Try.prog 42 #[.agg #[.int .i64 k, .int .i64 b, .int .i64 l, .int .i64 d, .int .i64 r]] w fun e w' => e = .returned (.int .i64 (tokCheck ⟨k, b, l, d, r⟩)) ∧ Below w.heap.size w w' := by
  go_enter Try.func42, Try.ntmps42
  go_wp2
  all_goals
    go_ret
    refine ⟨ret_int ?_, by repeat (first | exact Below.refl _ _ | refine bl_alloc ?_ _)⟩
    simp only [beq_iff_eq, beq_eq_false_iff_ne, bne_iff_ne, bne_eq_false_iff_eq, Bool.not_eq_true', Bool.not_eq_false', decide_eq_true_eq, decide_eq_false_iff_not, ne_eq] at *
    first | exact tokCheck_no (by simp only [tokOk, true_and]; omega) | exact tokCheck_yes (by simp only [tokOk, true_and]; omega)
theorem r_Check (t : Tok) (w : World) : Calls Try.prog 42 #[tokV t] w fun e w' => e = .returned (.int .i64 (tokCheck t)) ∧ Below w.heap.size w w' := r_Check' _ _ _ _ _ w

set_option maxRecDepth 100000 in
theorem p_Size (t : Tok) (w : World) : Calls Try.prog 49 #[tokV t] w fun e w' => e = .returned (.int .i64 (tokSize t)) ∧ Below w.heap.size w w' := by
  obtain ⟨k, b, l, d, r⟩ := t
  unfold tokV
  by_cases h : tokOk ⟨k, b, l, d, r⟩
  · have HC := Lib.hid (show tokCheck ⟨k, b, l, d, r⟩ = 0 from if_pos h)
    by_cases hk : k = 0
    · have HS := Lib.hid (show tokSize ⟨k, b, l, d, r⟩ = 1 by unfold tokSize; rw [if_pos h, if_pos hk])
      have hk' : (k == 0) = true := by rw [beq_iff_eq]; exact hk
      clear h hk
      go_enter Try.func49, Try.ntmps49
      go_wp2_with fail
      refine (p_Check' _ _ _ _ _ _).mono ?_
      rintro e w1 ⟨rfl, hb⟩
      obtain ⟨hc, hf⟩ := bcell hb
      rw [HC.out]
      go_wp2
      go_ret
      exact ⟨ret_int HS.out.symm, bl_then (bl_alloc (Below.refl _ _) _) (by simp) hb⟩
    · have HS := Lib.hid (show tokSize ⟨k, b, l, d, r⟩ = l by unfold tokSize; rw [if_pos h, if_neg hk])
      have hk' : (k == 0) = false := by rw [beq_eq_false_iff_ne]; exact hk
      clear h hk
      go_enter Try.func49, Try.ntmps49
      go_wp2_with fail
      refine (p_Check' _ _ _ _ _ _).mono ?_
      rintro e w1 ⟨rfl, hb⟩
      obtain ⟨hc, hf⟩ := bcell hb
      rw [HC.out]
      go_wp2
      go_ret
      exact ⟨ret_int HS.out.symm, bl_then (bl_alloc (Below.refl _ _) _) (by simp) hb⟩
  · have HC := Lib.hid (show tokCheck ⟨k, b, l, d, r⟩ = 10 from if_neg h)
    have HS := Lib.hid (show tokSize ⟨k, b, l, d, r⟩ = 0 from if_neg h)
    clear h
    go_enter Try.func49, Try.ntmps49
    go_wp2_with fail
    refine (p_Check' _ _ _ _ _ _).mono ?_
    rintro e w1 ⟨rfl, hb⟩
    obtain ⟨hc, hf⟩ := bcell hb
    rw [HC.out]
    go_wp2
    go_ret
    exact ⟨ret_int HS.out.symm, bl_then (bl_alloc (Below.refl _ _) _) (by simp) hb⟩

set_option maxRecDepth 100000 in
theorem p_Sym (t : Tok) (w : World) : Calls Try.prog 32 #[tokV t] w fun e w' => e = .returned (.tuple #[.int .i64 (tokSym t), .int .i64 (tokCheck t)]) ∧ Below w.heap.size w w' := by
  obtain ⟨k, b, l, d, r⟩ := t
  unfold tokV
  by_cases h : tokOk ⟨k, b, l, d, r⟩
  · have HC := Lib.hid (show tokCheck ⟨k, b, l, d, r⟩ = 0 from if_pos h)
    have hS0 : 0 ≤ lenS l ∧ lenS l ≤ 28 := by
      unfold lenS; split
      · rename_i hl; have := lenSlot_spec l hl; omega
      · omega
    obtain ⟨hS0, hS1⟩ := hS0
    by_cases hk : k = 0
    · have HS := Lib.hid (show tokSym ⟨k, b, l, d, r⟩ = b by unfold tokSym; rw [if_pos h, if_pos hk])
      have hk' : (k == 0) = true := by rw [beq_iff_eq]; exact hk
      clear h hk
      go_enter Try.func32, Try.ntmps32
      go_wp2_with fail
      refine (p_Check' _ _ _ _ _ _).mono ?_
      rintro e w1 ⟨rfl, hb⟩
      obtain ⟨hc, hf⟩ := bcell hb
      rw [HC.out]
      go_wp2
      go_ret2
      rw [HS.out, HC.out]
      exact ⟨rfl, bl_then (bl_alloc (Below.refl _ _) _) (by simp) hb⟩
    · have hk' : (k == 0) = false := by rw [beq_eq_false_iff_ne]; exact hk
      by_cases hk1 : k = 1
      · have HS := Lib.hid (show tokSym ⟨k, b, l, d, r⟩ = 256 + lenS l by unfold tokSym; rw [if_pos h, if_neg hk, if_pos hk1])
        subst hk1
        clear h hk hk'
        go_enter Try.func32, Try.ntmps32
        go_wp2_with fail
        refine (p_Check' _ _ _ _ _ _).mono ?_
        rintro e w1 ⟨rfl, hb⟩
        obtain ⟨hc, hf⟩ := bcell hb
        rw [HC.out]
        go_wp2_with fail
        refine (p_Len _ _).mono ?_
        rintro e w2 ⟨rfl, rfl⟩
        go_wp2
        go_ret2
        rw [HS.out, HC.out]
        exact ⟨ret_int2 (by omega), bl_then (bl_alloc (Below.refl _ _) _) (by simp) hb⟩
      · have hk2 : k = 2 := by simp only [tokOk] at h; omega
        have hr : 0 ≤ r ∧ r ≤ 3 := by simp only [tokOk] at h; omega
        obtain ⟨hr0, hr1⟩ := hr
        have HS := Lib.hid (show tokSym ⟨k, b, l, d, r⟩ = 285 + 29 * r + lenS l by unfold tokSym; rw [if_pos h, if_neg hk, if_neg hk1])
        subst hk2
        clear h hk hk' hk1
        go_enter Try.func32, Try.ntmps32
        go_wp2_with fail
        refine (p_Check' _ _ _ _ _ _).mono ?_
        rintro e w1 ⟨rfl, hb⟩
        obtain ⟨hc, hf⟩ := bcell hb
        rw [HC.out]
        go_wp2_with fail
        refine (p_Len _ _).mono ?_
        rintro e w2 ⟨rfl, rfl⟩
        go_wp2
        go_ret2
        rw [HS.out, HC.out]
        exact ⟨ret_int2 (by omega), bl_then (bl_alloc (Below.refl _ _) _) (by simp) hb⟩
  · have HC := Lib.hid (show tokCheck ⟨k, b, l, d, r⟩ = 10 from if_neg h)
    have HS := Lib.hid (show tokSym ⟨k, b, l, d, r⟩ = 0 from if_neg h)
    clear h
    go_enter Try.func32, Try.ntmps32
    go_wp2_with fail
    refine (p_Check' _ _ _ _ _ _).mono ?_
    rintro e w1 ⟨rfl, hb⟩
    obtain ⟨hc, hf⟩ := bcell hb
    rw [HC.out]
    go_wp2
    go_ret2
    rw [HS.out, HC.out]
    exact ⟨rfl, bl_then (bl_alloc (Below.refl _ _) _) (by simp) hb⟩

set_option maxRecDepth 100000 in
theorem r_Sym (t : Tok) (w : World) : Calls Try.prog 38 #[tokV t] w fun e w' => e = .returned (.tuple #[.int .i64 (tokSym t), .int .i64 (tokCheck t)]) ∧ Below w.heap.size w w' := by
  obtain ⟨k, b, l, d, r⟩ := t
  unfold tokV
  by_cases h : tokOk ⟨k, b, l, d, r⟩
  · have HC := Lib.hid (show tokCheck ⟨k, b, l, d, r⟩ = 0 from if_pos h)
    have hS0 : 0 ≤ lenS l ∧ lenS l ≤ 28 := by
      unfold lenS; split
      · rename_i hl; have := lenSlot_spec l hl; omega
      · omega
    obtain ⟨hS0, hS1⟩ := hS0
    by_cases hk : k = 0
    · have HS := Lib.hid (show tokSym ⟨k, b, l, d, r⟩ = b by unfold tokSym; rw [if_pos h, if_pos hk])
      have hk' : (k == 0) = true := by rw [beq_iff_eq]; exact hk
      clear h hk
      go_enter Try.func38, Try.ntmps38
      go_wp2_with fail
      refine (r_Check' _ _ _ _ _ _).mono ?_
      rintro e w1 ⟨rfl, hb⟩
      obtain ⟨hc, hf⟩ := bcell hb
      rw [HC.out]
      go_wp2
      go_ret2
      rw [HS.out, HC.out]
      exact ⟨rfl, bl_then (bl_alloc (Below.refl _ _) _) (by simp) hb⟩
    · have hk' : (k == 0) = false := by rw [beq_eq_false_iff_ne]; exact hk
      by_cases hk1 : k = 1
      · have HS := Lib.hid (show tokSym ⟨k, b, l, d, r⟩ = 256 + lenS l by unfold tokSym; rw [if_pos h, if_neg hk, if_pos hk1])
        subst hk1
        clear h hk hk'
        go_enter Try.func38, Try.ntmps38
        go_wp2_with fail
        refine (r_Check' _ _ _ _ _ _).mono ?_
        rintro e w1 ⟨rfl, hb⟩
        obtain ⟨hc, hf⟩ := bcell hb
        rw [HC.out]
        go_wp2_with fail
        refine (r_Len _ _).mono ?_
        rintro e w2 ⟨rfl, rfl⟩
        go_wp2
        go_ret2
        rw [HS.out, HC.out]
        exact ⟨ret_int2 (by omega), bl_then (bl_alloc (Below.refl _ _) _) (by simp) hb⟩
      · have hk2 : k = 2 := by simp only [tokOk] at h; omega
        have hr : 0 ≤ r ∧ r ≤ 3 := by simp only [tokOk] at h; omega
        obtain ⟨hr0, hr1⟩ := hr
        have HS := Lib.hid (show tokSym ⟨k, b, l, d, r⟩ = 285 + 29 * r + lenS l by unfold tokSym; rw [if_pos h, if_neg hk, if_neg hk1])
        subst hk2
        clear h hk hk' hk1
        go_enter Try.func38, Try.ntmps38
        go_wp2_with fail
        refine (r_Check' _ _ _ _ _ _).mono ?_
        rintro e w1 ⟨rfl, hb⟩
        obtain ⟨hc, hf⟩ := bcell hb
        rw [HC.out]
        go_wp2_with fail
        refine (r_Len _ _).mono ?_
        rintro e w2 ⟨rfl, rfl⟩
        go_wp2
        go_ret2
        rw [HS.out, HC.out]
        exact ⟨ret_int2 (by omega), bl_then (bl_alloc (Below.refl _ _) _) (by simp) hb⟩
  · have HC := Lib.hid (show tokCheck ⟨k, b, l, d, r⟩ = 10 from if_neg h)
    have HS := Lib.hid (show tokSym ⟨k, b, l, d, r⟩ = 0 from if_neg h)
    clear h
    go_enter Try.func38, Try.ntmps38
    go_wp2_with fail
    refine (r_Check' _ _ _ _ _ _).mono ?_
    rintro e w1 ⟨rfl, hb⟩
    obtain ⟨hc, hf⟩ := bcell hb
    rw [HC.out]
    go_wp2
    go_ret2
    rw [HS.out, HC.out]
    exact ⟨rfl, bl_then (bl_alloc (Below.refl _ _) _) (by simp) hb⟩

end Go.Proofs.Ytndkgjoaljcijaa
