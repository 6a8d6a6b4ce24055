/- Chapter 18 (denote): the calls check, behind, Copy: what they give, by walks. -/
import Derived.Test.YtiohdgckmolmnaaBytes
import Derived.Test.YtiohdgckmolmnaaPlain18
set_option linter.unusedSimpArgs false
set_option linter.unusedVariables false
namespace Go.Proofs.Ytiohdgckmolmnaa
open Go.RowKit

set_option maxRecDepth 100000 in
theorem p_dcheck (x n d window : Int) (w : World) :
    Calls Try.prog 58 #[.int .i64 x, .int .i64 n, .int .i64 d, .int .i64 window] w fun e w' => e = .returned (.int .i64 (copyE x n d window)) ∧ w = w' := by
  have D1 := Lib.hid (fun (h : n < 0 ∨ 258 < n ∨ window < 1 ∨ 67108864 < window) => (show (1 : Int) = copyE x n d window from (if_pos h).symm))
  have D2 := Lib.hid (fun (h : ¬ (n < 0 ∨ 258 < n ∨ window < 1 ∨ 67108864 < window)) (h2 : d < 1 ∨ window < d ∨ x < d) => (show (10 : Int) = copyE x n d window from ((if_neg h).trans (if_pos h2)).symm))
  have D3 := Lib.hid (fun (h : ¬ (n < 0 ∨ 258 < n ∨ window < 1 ∨ 67108864 < window)) (h2 : ¬ (d < 1 ∨ window < d ∨ x < d)) => (show (0 : Int) = copyE x n d window from ((if_neg h).trans (if_neg h2)).symm))
  go_enter Try.func58, Try.ntmps58
  go_wp2
  all_goals
    go_ret
    refine ⟨ret_int ?_, rfl⟩
    (try simp only [beq_iff_eq, beq_eq_false_iff_ne, bne_iff_ne, bne_eq_false_iff_eq, Bool.not_eq_true', Bool.not_eq_false', decide_eq_true_eq, decide_eq_false_iff_not, ne_eq] at *)
    first | exact D1.out (by omega) | exact D2.out (by omega) (by omega) | exact D3.out (by omega) (by omega)

set_option maxHeartbeats 1000000 in
set_option maxRecDepth 100000 in
theorem p_behind (base : Nat) (v : Value) (xs : List UInt8) (n d : Nat) (w : World) (hb : base ≤ w.heap.size) (hr : RowB w base v xs) (hn : n ≤ 1000000) (hd : 0 < d) (hd2 : d ≤ xs.length) (hx : xs.length ≤ 1000000000000) :
    Calls Try.prog 59 #[v, .int .i64 n, .int .i64 d] w (GivesB w base (cpy d n xs)) := by
  go_enter Try.func59, Try.ntmps59
  go_wp2
  go_loopw [0, 1, 2] (fun v0 v1 v2 wr => ∃ (ys : List UInt8) (m k : Nat), v1 = .int .i64 m ∧ v2 = .int .i64 k ∧ RowB wr base v0 ys ∧ Below base w wr ∧ base ≤ wr.heap.size ∧ 0 < k ∧ k ≤ ys.length ∧ ys.length + m = xs.length + n ∧ m ≤ n ∧ cpy k m ys = cpy d n xs) (fun _ v1 _ _ => (intOf v1).toNat)
  case atStart => exact ⟨xs, n, d, rfl, rfl, hr, Below.refl _ _, hb, hd, hd2, rfl, Nat.le_refl _, rfl⟩
  case round =>
    obtain ⟨ys, m, k, rfl, rfl, hry, hby, hbs, hk0, hk1, hlen, hmn, hcp⟩ := hrel
    obtain ⟨A, c, rfl, hc, hrd⟩ := hry.slice
    have hc2 : c ≤ 9223372036854775807 := by
      rcases hry.2 with ⟨h, _⟩ | ⟨g, o, cap, cur, mk, h, _, _, _, hm, _⟩
      · injection h with _ _ h; omega
      · injection h with _ _ h; subst h; simpa only [maxLen] using hm
    have HL := Lib.hid hlen
    have HC := Lib.hid hcp
    have hbig : ys.length ≤ 1000001000000 := by omega
    clear hlen hcp
    by_cases hm : 0 < m
    · rcases Nat.lt_or_ge k m with hmk' | hmk'
      rotate_left
      · have hmk := hmk'
        have hrc := hrd.cut (ys.length - k) (ys.length - k + m) c (by omega) (by omega) hc
        rw [if_neg (by omega), show ys.length - k + m - (ys.length - k) = m by omega] at hrc
        have HR := Lib.hid hrc
        clear hrc
        go_wp2_with (at_builtin; go_must (refine wpList_append_bytes rfl (.tmp 18) (.tmp 24) rfl base (.slice A ys.length c) ys rfl hry (A.map (·.add (ys.length - k))) (ys.length - k + m - (ys.length - k)) (c - (ys.length - k)) ((ys.drop (ys.length - k)).take m) rfl ?_ HR.out ?_ hbs ?_); (simp; omega); (simp; omega); intro v1 w1 hr1 hg1 ho1)
        go_roundw
        case rel =>
          refine ⟨ys ++ (ys.drop (ys.length - k)).take m, m - m, k + m, by congr 1 <;> omega, by congr 1 <;> omega, hr1, hby.grown hg1 hbs (fun j hj => (hry.lt j hj).1), Nat.le_trans hbs hg1.size, by omega, by simp; omega, by have := HL.out; simp; omega, by omega, ?_⟩
          rw [← HC.out]
          have := cpy_double (n := m) hk0 hk1
          rw [Nat.min_eq_left hmk] at this
          exact this.symm
        case measure => simp [intOf]; omega
      · have hmk : k ≤ m := Nat.le_of_lt hmk'
        have hrc := hrd.cut (ys.length - k) (ys.length - k + k) c (by omega) (by omega) hc
        rw [if_neg (by omega), show ys.length - k + k - (ys.length - k) = k by omega] at hrc
        have HR := Lib.hid hrc
        clear hrc
        go_wp2_with (at_builtin; go_must (refine wpList_append_bytes rfl (.tmp 18) (.tmp 24) rfl base (.slice A ys.length c) ys rfl hry (A.map (·.add (ys.length - k))) (ys.length - (ys.length - k)) (c - (ys.length - k)) ((ys.drop (ys.length - k)).take k) rfl ?_ HR.out ?_ hbs ?_); (simp; omega); (simp; omega); intro v1 w1 hr1 hg1 ho1)
        go_roundw
        case rel =>
          refine ⟨ys ++ (ys.drop (ys.length - k)).take k, m - k, k + k, by congr 1 <;> omega, by congr 1 <;> omega, hr1, hby.grown hg1 hbs (fun j hj => (hry.lt j hj).1), Nat.le_trans hbs hg1.size, by omega, by simp; omega, by have := HL.out; simp; omega, by omega, ?_⟩
          rw [← HC.out]
          have := cpy_double (n := m) hk0 hk1
          rw [Nat.min_eq_right hmk] at this
          exact this.symm
        case measure => simp [intOf]; omega
    · go_wp2
      go_ret
      obtain rfl : m = 0 := by omega
      exact ⟨_, rfl, by rw [← HC.out]; exact hry, hby, hby.size⟩

end Go.Proofs.Ytiohdgckmolmnaa
