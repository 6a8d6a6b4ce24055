/- Package slices: Equal at ints of the same numbers; package lcp: shared: by walks. -/
import Derived.Test.YtbalodhgbpagfaaSufDoub
import Derived.ScopeJumps
import Derived.WalkMore
set_option linter.unusedSimpArgs false
set_option linter.unusedVariables false
set_option maxRecDepth 100000
namespace Go.Proofs.Ytbalodhgbpagfaa
open Go.RowKit

set_option maxHeartbeats 4000000 in
theorem p_EqualI (A B : Option Addr) (c1 c2 : Nat) (l : List Nat) (w : World) (hA : ReadsI w A (nz l)) (hB : ReadsI w B (nz l)) (hl : l.length ≤ 1000000) :
    Calls Try.prog 31 #[.slice A l.length c1, .slice B l.length c2] w fun e w' => e = .returned (.bool true) ∧ Below w.heap.size w w' := by
  have e0 : ((l.length : Int) != (l.length : Int)) = false := by simp
  go_enter Try.func31, Try.ntmps31
  go_wp2_with fail
  go_loopw [13] (fun v13 wr => ∃ i : Nat, i ≤ l.length ∧ v13 = .int .i64 i ∧ Below w.heap.size w wr) (fun v13 _ => l.length - (intOf v13).toNat)
  case atStart => exact ⟨0, Nat.zero_le _, rfl, Below.refl _ _⟩
  case round =>
    obtain ⟨i, hi, rfl, hb⟩ := hrel
    have HB := Lib.hid hb
    by_cases hil : i < l.length
    · obtain ⟨a1, rfl, h1, c1_⟩ := (hA.below hb).atN i hil
      obtain ⟨a2, rfl, h2, c2_⟩ := (hB.below hb).atN i hil
      generalize l.getD i 0 = x at *
      have hi1 : (i : Int) < (l.length : Int) := by omega
      have e1 : ((x : Int) != (x : Int)) = false := by simp
      have e4 : IntKind.i64.wrap ((i : Int) + 1) = (i : Int) + 1 := Go.IntWalk.i64_in _ (by omega)
      clear hb hA hB
      go_upto_region 6 with (fail)
      go_quiet (fail)
      all_goals go_wp2_with fail
      all_goals
        go_roundw
        case rel => exact ⟨i + 1, by omega, by go_num, bl_drewN HB.out _⟩
        case measure => simp [intOf]; omega
    · obtain rfl : i = l.length := by omega
      clear hb hA hB
      go_wp2
      go_ret
      exact ⟨rfl, HB.out⟩
theorem lcpT_ge (t : List Nat) (i k m : Nat) (hi : i ≤ t.length) (hk : k ≤ t.length) : m ≤ lcpT t i k ↔ i + m ≤ t.length ∧ k + m ≤ t.length ∧ ∀ j, j < m → t.getD (i + j) 0 = t.getD (k + j) 0 := by
  unfold lcpT
  rw [lcpL_ge_iff, List.length_drop, List.length_drop]
  have e : ∀ x j, (t.drop x).getD j 0 = t.getD (x + j) 0 := fun x j => by rw [List.getD_eq_getElem?_getD, List.getElem?_drop, ← List.getD_eq_getElem?_getD]
  constructor
  · rintro ⟨a, b, c⟩
    exact ⟨by omega, by omega, fun j hj => by have := c j hj; rwa [e, e] at this⟩
  · rintro ⟨a, b, c⟩
    exact ⟨by omega, by omega, fun j hj => by rw [e, e]; exact c j hj⟩
theorem lcp_more (s : List UInt8) (i k n : Nat) (hi : i ≤ s.length) (hk : k ≤ s.length) (hn : n ≤ lcpT (codesB s) i k) : (i + n < s.length ∧ k + n < s.length ∧ s.getD (i + n) 0 = s.getD (k + n) 0) ↔ n + 1 ≤ lcpT (codesB s) i k := by
  have hl := codesB_len s
  rw [lcpT_ge _ _ _ _ (by omega) (by omega)] at hn ⊢
  rw [hl] at hn ⊢
  constructor
  · rintro ⟨a, b, c⟩
    refine ⟨by omega, by omega, fun j hj => ?_⟩
    by_cases q : j = n
    · subst q
      rw [codesB_get s a, codesB_get s b, c]
    · exact hn.2.2 j (by omega)
  · rintro ⟨a, b, c⟩
    have := c n (by omega)
    rw [codesB_get s (by omega), codesB_get s (by omega)] at this
    exact ⟨by omega, by omega, UInt8.toNat_inj.1 this⟩
set_option maxHeartbeats 4000000 in
theorem p_lshared (s : List UInt8) (i k n0 : Nat) (hi : i ≤ s.length) (hk : k ≤ s.length) (hl : s.length ≤ 1000000) (hn : n0 ≤ lcpT (codesB s) i k) (w : World) :
    Calls Try.prog 21 #[.string (str s), .int .i64 i, .int .i64 k, .int .i64 n0] w fun e w' => e = .returned (.int .i64 (lcpT (codesB s) i k : Nat)) ∧ Below w.heap.size w w' := by
  have HSZ := Lib.hid (str_size s)
  obtain ⟨R, hR⟩ : ∃ R, R = lcpT (codesB s) i k := ⟨_, rfl⟩
  have HSTEP : Hid (∀ n, n ≤ R → ((i + n < s.length ∧ k + n < s.length ∧ s.getD (i + n) 0 = s.getD (k + n) 0) ↔ n + 1 ≤ R)) := Lib.hid (fun n hn => by rw [hR] at hn ⊢; exact lcp_more s i k n hi hk hn)
  have HR : Hid (R ≤ 1000000) := Lib.hid (by
    rw [hR]
    have := ((lcpT_ge (codesB s) i k _ (by rw [codesB_len]; exact hi) (by rw [codesB_len]; exact hk)).1 (Nat.le_refl _)).1
    rw [codesB_len] at this
    omega)
  rw [← hR] at hn ⊢
  clear hR
  go_enter Try.func21, Try.ntmps21
  go_wp2
  have hr9 := HR.out
  have e1 : ∀ n : Nat, n ≤ R → IntKind.i64.wrap ((i : Int) + (n : Int)) = (i : Int) + (n : Int) := fun n hn => Go.IntWalk.i64_in _ (by omega)
  have e2 : ∀ n : Nat, n ≤ R → IntKind.i64.wrap ((k : Int) + (n : Int)) = (k : Int) + (n : Int) := fun n hn => Go.IntWalk.i64_in _ (by omega)
  have HE := Lib.hid (And.intro e1 e2)
  clear e1 e2 hr9
  refine wp_scope_jumps 0 (fun a' w' => Below w.heap.size w w' ∧ ∃ (n : Nat) (u9 u10 u11 u12 u13 u14 u15 u16 u17 u18 u19 u20 u21 u22 u23 u24 u25 u26 u27 u28 u29 u30 u31 u32 u33 u34 u35 u36 u37 : Value), a' = { tmps := #[.string (str s), .int .i64 i, .int .i64 k, .int .i64 n, undef, undef, undef, undef, .int .i64 0, u9, u10, u11, u12, u13, u14, u15, u16, u17, u18, u19, u20, u21, u22, u23, u24, u25, u26, u27, u28, u29, u30, u31, u32, u33, u34, u35, u36, u37, undef], defers := [] } ∧ n ≤ R) (fun a' _ => R - (intOf (a'.tmps.getD 3 undef)).toNat) rfl ?_ ?_
  · have e1 := HE.out.1 n0 hn
    have e2 := HE.out.2 n0 hn
    go_wp2
    go_step3
    by_cases c1 : i + n0 < s.length
    · have b1 : decide ((i : Int) + (n0 : Int) < ((str s).size : Int)) = true := decide_eq_true (by rw [HSZ.out]; omega)
      by_cases c2 : k + n0 < s.length
      · have b2 : decide ((k : Int) + (n0 : Int) < ((str s).size : Int)) = true := decide_eq_true (by rw [HSZ.out]; omega)
        have x1 := run_byte s ((i : Int) + (n0 : Int)) (by omega) (by omega)
        have x2 := run_byte s ((k : Int) + (n0 : Int)) (by omega) (by omega)
        rw [show ((i : Int) + (n0 : Int)).toNat = i + n0 by omega] at x1
        rw [show ((k : Int) + (n0 : Int)).toNat = k + n0 by omega] at x2
        have hst := HSTEP.out n0 (by omega)
        by_cases c3 : s.getD (i + n0) 0 = s.getD (k + n0) 0
        · have HS := Lib.hid (hst.1 ⟨c1, c2, c3⟩)
          rw [c3] at x1
          generalize s.getD (k + n0) 0 = y at *
          have b3 : ((y.toNat : Int) == (y.toNat : Int)) = true := by simp
          have e4 : IntKind.i64.wrap ((n0 : Int) + 1) = (n0 : Int) + 1 := Go.IntWalk.i64_in _ (by have := HR.out; omega)
          clear hst c1 c2 c3
          go_upto_region 1 with (fail)
          go_quiet (fail)
          all_goals go_wp2_with fail
          all_goals go_step3
          all_goals refine ⟨rfl, bl_drewN (Below.refl _ _) _, n0 + 1, _, _, _, _, _, _, _, _, _, _, _, _, _, _, _, _, _, _, _, _, _, _, _, _, _, _, _, _, _, rfl, by have := HS.out; omega⟩
        · have HS := Lib.hid (show n0 = R by
            have h9 : ¬ n0 + 1 ≤ R := fun q => c3 (hst.2 q).2.2
            omega)
          obtain ⟨y1, hy1⟩ : ∃ y, y = s.getD (i + n0) 0 := ⟨_, rfl⟩
          obtain ⟨y2, hy2⟩ : ∃ y, y = s.getD (k + n0) 0 := ⟨_, rfl⟩
          rw [← hy1] at x1
          rw [← hy2] at x2
          have b3 : ((y1.toNat : Int) == (y2.toNat : Int)) = false := by
            rw [beq_eq_false_iff_ne]
            intro e
            exact c3 (by rw [← hy1, ← hy2]; exact UInt8.toNat_inj.1 (by omega))
          have b3n : (y1.toNat == y2.toNat) = false := by
            rw [beq_eq_false_iff_ne]
            intro e
            exact c3 (by rw [← hy1, ← hy2]; exact UInt8.toNat_inj.1 e)
          clear hst c1 c2 c3 hy1 hy2
          go_upto_region 1 with (fail)
          go_quiet (fail)
          all_goals
            go_wp2
            simp only [Exit.jump]
            go_ret
            exact ⟨by rw [← HS.out]; rfl, bl_drewN (Below.refl _ _) _⟩
      · have b2 : decide ((k : Int) + (n0 : Int) < ((str s).size : Int)) = false := decide_eq_false (by rw [HSZ.out]; omega)
        have hst := HSTEP.out n0 (by omega)
        have HS := Lib.hid (show n0 = R by
          have h9 : ¬ n0 + 1 ≤ R := fun q => c2 (hst.2 q).2.1
          omega)
        clear hst c1 c2
        go_upto_region 1 with (fail)
        go_quiet (fail)
        all_goals
          go_wp2
          simp only [Exit.jump]
          go_ret
          exact ⟨by rw [← HS.out]; rfl, bl_drewN (Below.refl _ _) _⟩
    · have b1 : decide ((i : Int) + (n0 : Int) < ((str s).size : Int)) = false := decide_eq_false (by rw [HSZ.out]; omega)
      have hst := HSTEP.out n0 (by omega)
      have HS := Lib.hid (show n0 = R by
        have h9 : ¬ n0 + 1 ≤ R := fun q => c1 (hst.2 q).1
        omega)
      clear hst c1
      go_upto_region 1 with (fail)
      go_quiet (fail)
      all_goals
        go_wp2
        simp only [Exit.jump]
        go_ret
        exact ⟨by rw [← HS.out]; rfl, bl_drewN (Below.refl _ _) _⟩
  · rintro a' w' ⟨hb, n, u9, u10, u11, u12, u13, u14, u15, u16, u17, u18, u19, u20, u21, u22, u23, u24, u25, u26, u27, u28, u29, u30, u31, u32, u33, u34, u35, u36, u37, rfl, hn⟩
    have HB := Lib.hid hb
    have e1 := HE.out.1 n hn
    have e2 := HE.out.2 n hn
    clear hb
    by_cases c1 : i + n < s.length
    · have b1 : decide ((i : Int) + (n : Int) < ((str s).size : Int)) = true := decide_eq_true (by rw [HSZ.out]; omega)
      by_cases c2 : k + n < s.length
      · have b2 : decide ((k : Int) + (n : Int) < ((str s).size : Int)) = true := decide_eq_true (by rw [HSZ.out]; omega)
        have x1 := run_byte s ((i : Int) + (n : Int)) (by omega) (by omega)
        have x2 := run_byte s ((k : Int) + (n : Int)) (by omega) (by omega)
        rw [show ((i : Int) + (n : Int)).toNat = i + n by omega] at x1
        rw [show ((k : Int) + (n : Int)).toNat = k + n by omega] at x2
        have hst := HSTEP.out n (by omega)
        by_cases c3 : s.getD (i + n) 0 = s.getD (k + n) 0
        · have HS := Lib.hid (hst.1 ⟨c1, c2, c3⟩)
          rw [c3] at x1
          generalize s.getD (k + n) 0 = y at *
          have b3 : ((y.toNat : Int) == (y.toNat : Int)) = true := by simp
          have e4 : IntKind.i64.wrap ((n : Int) + 1) = (n : Int) + 1 := Go.IntWalk.i64_in _ (by have := HR.out; omega)
          clear hst c1 c2 c3
          go_upto_region 1 with (fail)
          go_quiet (fail)
          all_goals go_wp2_with fail
          all_goals go_step3
          all_goals refine ⟨rfl, ⟨bl_drewN HB.out _, n + 1, _, _, _, _, _, _, _, _, _, _, _, _, _, _, _, _, _, _, _, _, _, _, _, _, _, _, _, _, _, rfl, by have := HS.out; omega⟩, ?_⟩
          all_goals (have := HS.out; simp [intOf]; omega)
        · have HS := Lib.hid (show n = R by
            have h9 : ¬ n + 1 ≤ R := fun q => c3 (hst.2 q).2.2
            omega)
          obtain ⟨y1, hy1⟩ : ∃ y, y = s.getD (i + n) 0 := ⟨_, rfl⟩
          obtain ⟨y2, hy2⟩ : ∃ y, y = s.getD (k + n) 0 := ⟨_, rfl⟩
          rw [← hy1] at x1
          rw [← hy2] at x2
          have b3 : ((y1.toNat : Int) == (y2.toNat : Int)) = false := by
            rw [beq_eq_false_iff_ne]
            intro e
            exact c3 (by rw [← hy1, ← hy2]; exact UInt8.toNat_inj.1 (by omega))
          have b3n : (y1.toNat == y2.toNat) = false := by
            rw [beq_eq_false_iff_ne]
            intro e
            exact c3 (by rw [← hy1, ← hy2]; exact UInt8.toNat_inj.1 e)
          clear hst c1 c2 c3 hy1 hy2
          go_upto_region 1 with (fail)
          go_quiet (fail)
          all_goals
            go_wp2
            simp only [Exit.jump]
            go_ret
            exact ⟨by rw [← HS.out]; rfl, bl_drewN (HB.out) _⟩
      · have b2 : decide ((k : Int) + (n : Int) < ((str s).size : Int)) = false := decide_eq_false (by rw [HSZ.out]; omega)
        have hst := HSTEP.out n (by omega)
        have HS := Lib.hid (show n = R by
          have h9 : ¬ n + 1 ≤ R := fun q => c2 (hst.2 q).2.1
          omega)
        clear hst c1 c2
        go_upto_region 1 with (fail)
        go_quiet (fail)
        all_goals
          go_wp2
          simp only [Exit.jump]
          go_ret
          exact ⟨by rw [← HS.out]; rfl, bl_drewN (HB.out) _⟩
    · have b1 : decide ((i : Int) + (n : Int) < ((str s).size : Int)) = false := decide_eq_false (by rw [HSZ.out]; omega)
      have hst := HSTEP.out n (by omega)
      have HS := Lib.hid (show n = R by
        have h9 : ¬ n + 1 ≤ R := fun q => c1 (hst.2 q).1
        omega)
      clear hst c1
      go_upto_region 1 with (fail)
      go_quiet (fail)
      all_goals
        go_wp2
        simp only [Exit.jump]
        go_ret
        exact ⟨by rw [← HS.out]; rfl, bl_drewN (HB.out) _⟩
end Go.Proofs.Ytbalodhgbpagfaa
