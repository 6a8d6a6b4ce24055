/- Chapter 17's laws: the walks of the law functions. -/
import Derived.Test.YtiohdgckmolmnaaRepsU
set_option linter.unusedSimpArgs false
set_option linter.unusedVariables false
namespace Go.Proofs.Ytiohdgckmolmnaa
open Go.RowKit

set_option maxHeartbeats 2000000 in
set_option maxRecDepth 100000 in
theorem awake17 (w : World) : Calls Try.prog 20 #[] w fun e w' => e = .returned (.bool true) ∧ Below w.heap.size w w' := by
  have e1 : useR ⟨1, 2, 3, 4⟩ ⟨2, 0, 2, 0, 2⟩ = ⟨3, 1, 2, 4⟩ := by decide
  have e2 : useD ⟨1, 2, 3, 4⟩ ⟨2, 0, 2, 0, 2⟩ = 3 := by decide
  have e3 : useE ⟨1, 2, 3, 4⟩ ⟨2, 0, 2, 0, 2⟩ = 0 := by decide
  have e4 : useR ⟨3, 1, 2, 4⟩ ⟨1, 0, 2, 9, 0⟩ = ⟨9, 3, 1, 2⟩ := by decide
  have e5 : useD ⟨3, 1, 2, 4⟩ ⟨1, 0, 2, 9, 0⟩ = 9 := by decide
  have e6 : useE ⟨3, 1, 2, 4⟩ ⟨1, 0, 2, 9, 0⟩ = 0 := by decide
  have e7 : useR ⟨0, 0, 0, 0⟩ ⟨2, 0, 2, 0, 0⟩ = ⟨0, 0, 0, 0⟩ := by decide
  have e8 : useD ⟨0, 0, 0, 0⟩ ⟨2, 0, 2, 0, 0⟩ = 0 := by decide
  have e9 : useE ⟨0, 0, 0, 0⟩ ⟨2, 0, 2, 0, 0⟩ = 10 := by decide
  have hqr := fun W => eqReps W
  have hqm := eqRepsMark
  go_enter Try.func20, Try.ntmps20
  go_wp2_with fail
  refine (p_Start _).mono ?_
  rintro e w1 ⟨rfl, hb1⟩
  go_wp2_with fail
  refine (p_Use ⟨1, 2, 3, 4⟩ ⟨2, 0, 2, 0, 2⟩ _).mono ?_
  rintro e w2 ⟨rfl, hb2⟩
  rw [e1, e2, e3]
  unfold rpV
  go_wp2_with fail
  refine (p_Use ⟨3, 1, 2, 4⟩ ⟨1, 0, 2, 9, 0⟩ _).mono ?_
  rintro e w3 ⟨rfl, hb3⟩
  rw [e4, e5, e6]
  unfold rpV
  obtain ⟨hc3, hf3⟩ := bcell hb3
  have hz3 : w2.heap.size < w3.heap.size := by have := hb3.size; simp at this; omega
  go_wp2_with fail
  refine (p_Use ⟨0, 0, 0, 0⟩ ⟨2, 0, 2, 0, 0⟩ _).mono ?_
  rintro e w4 ⟨rfl, hb4⟩
  rw [e7, e8, e9]
  unfold rpV
  obtain ⟨hc4, hf4⟩ := bcell hb4
  have hz4 : w3.heap.size < w4.heap.size := by have := hb4.size; simp at this; omega
  have hz5 : w2.heap.size < w4.heap.size := by omega
  go_wp2_with fail
  refine (p_Find ⟨9, 3, 1, 2⟩ 1 _).mono ?_
  rintro e w5 ⟨rfl, hb5⟩
  rw [show rpFind ⟨9, 3, 1, 2⟩ 1 = 2 from rfl]
  obtain ⟨hc5, hf5⟩ := bcell hb5
  have hz6 : w3.heap.size < w5.heap.size := by have := hb5.size; simp at this; omega
  go_wp2_with fail
  refine (p_Find ⟨9, 3, 1, 2⟩ 4 _).mono ?_
  rintro e w6 ⟨rfl, hb6⟩
  rw [show rpFind ⟨9, 3, 1, 2⟩ 4 = -1 from rfl]
  go_wp2
  go_ret
  have b2 := bl_then hb1 hb1.size hb2
  have b3 := bl_then (bl_alloc b2 _) (by have := b2.size; simp; omega) hb3
  have b4 := bl_then (bl_alloc b3 _) (by have := b3.size; simp; omega) hb4
  have b5 := bl_then (bl_alloc b4 _) (by have := b4.size; simp; omega) hb5
  exact ⟨rfl, bl_then b5 b5.size hb6⟩

set_option maxHeartbeats 8000000 in
set_option maxRecDepth 100000 in
theorem law_RepsUses (r : Rp) (t : Tok) (x : Int) (w : World) : Calls Try.prog 3 #[rpV r, tokV t, .int .i64 x] w fun e w' => e = .returned (.bool true) ∧ Below w.heap.size w w' := by
  obtain ⟨a, b, c, d⟩ := r
  obtain ⟨k, y, l, z, i⟩ := t
  unfold rpV tokV
  generalize hR : useR ⟨a, b, c, d⟩ ⟨k, y, l, z, i⟩ = R
  have HR := Lib.hid hR
  clear hR
  obtain ⟨a1, b1, c1, d1⟩ := R
  have hqr := fun W => eqReps W
  have hqm := eqRepsMark
  go_enter Try.func3, Try.ntmps3
  go_wp2_with fail
  refine (p_Use ⟨a, b, c, d⟩ ⟨k, y, l, z, i⟩ _).mono ?_
  rintro e w1 ⟨rfl, hb1⟩
  rw [HR.out]
  unfold rpV
  obtain ⟨hc1, hf1⟩ := bcell hb1
  have hz1 : w.heap.size + 1 < w1.heap.size := by have := hb1.size; simp at this; omega
  have hz1' : w.heap.size < w1.heap.size := by omega
  go_wp2_with fail
  refine (r_Use ⟨a, b, c, d⟩ ⟨k, y, l, z, i⟩ _).mono ?_
  rintro e w2 ⟨rfl, hb2⟩
  rw [HR.out]
  unfold rpV
  obtain ⟨hc2, hf2⟩ := bcell hb2
  have hz2 : w1.heap.size < w2.heap.size := by have := hb2.size; simp at this; omega
  have hz2' : w.heap.size < w2.heap.size := by omega
  have B1 := bl_then (bl_alloc (bl_alloc (Below.refl w.heap.size w) _) _) (by simp; omega) hb1
  have HB := Lib.hid (bl_alloc (bl_then (bl_alloc B1 _) (by have := B1.size; simp; omega) hb2) (.cells #[.int .i64 a1, .int .i64 b1, .int .i64 c1, .int .i64 d1] 23))
  clear B1
  go_wp2_with fail
  have HK : Hid (∀ w', Below (w2.alloc (.cells #[.int .i64 a1, .int .i64 b1, .int .i64 c1, .int .i64 d1] 23)).heap.size (w2.alloc (.cells #[.int .i64 a1, .int .i64 b1, .int .i64 c1, .int .i64 d1] 23)) w' → w'.cell? ⟨w.heap.size, 0, none⟩ = some (.int .i64 a) ∧ w'.cell? ⟨w.heap.size, 1, none⟩ = some (.int .i64 b) ∧ w'.cell? ⟨w.heap.size, 2, none⟩ = some (.int .i64 c) ∧ w'.cell? ⟨w.heap.size, 3, none⟩ = some (.int .i64 d) ∧ w'.cell? ⟨w1.heap.size, 0, none⟩ = some (.int .i64 a1) ∧ w'.cell? ⟨w1.heap.size, 1, none⟩ = some (.int .i64 b1) ∧ w'.cell? ⟨w1.heap.size, 2, none⟩ = some (.int .i64 c1) ∧ w'.cell? ⟨w1.heap.size, 3, none⟩ = some (.int .i64 d1) ∧ w'.cell? ⟨w2.heap.size, 0, none⟩ = some (.int .i64 a1) ∧ w'.cell? ⟨w2.heap.size, 1, none⟩ = some (.int .i64 b1) ∧ w'.cell? ⟨w2.heap.size, 2, none⟩ = some (.int .i64 c1) ∧ w'.cell? ⟨w2.heap.size, 3, none⟩ = some (.int .i64 d1) ∧ Below (w2.alloc (.cells #[.int .i64 a1, .int .i64 b1, .int .i64 c1, .int .i64 d1] 23)).heap.size (w2.alloc (.cells #[.int .i64 a1, .int .i64 b1, .int .i64 c1, .int .i64 d1] 23)) w') :=
    fun w' h => ⟨(h.cell (by simp; omega)).trans (by go_simp), (h.cell (by simp; omega)).trans (by go_simp), (h.cell (by simp; omega)).trans (by go_simp), (h.cell (by simp; omega)).trans (by go_simp), (h.cell (by simp; omega)).trans (by go_simp), (h.cell (by simp; omega)).trans (by go_simp), (h.cell (by simp; omega)).trans (by go_simp), (h.cell (by simp; omega)).trans (by go_simp), (h.cell (by simp)).trans (by go_simp), (h.cell (by simp)).trans (by go_simp), (h.cell (by simp)).trans (by go_simp), (h.cell (by simp)).trans (by go_simp), h⟩
  go_region_held3 (fun w' => w'.cell? ⟨w.heap.size, 0, none⟩ = some (.int .i64 a) ∧ w'.cell? ⟨w.heap.size, 1, none⟩ = some (.int .i64 b) ∧ w'.cell? ⟨w.heap.size, 2, none⟩ = some (.int .i64 c) ∧ w'.cell? ⟨w.heap.size, 3, none⟩ = some (.int .i64 d) ∧ w'.cell? ⟨w1.heap.size, 0, none⟩ = some (.int .i64 a1) ∧ w'.cell? ⟨w1.heap.size, 1, none⟩ = some (.int .i64 b1) ∧ w'.cell? ⟨w1.heap.size, 2, none⟩ = some (.int .i64 c1) ∧ w'.cell? ⟨w1.heap.size, 3, none⟩ = some (.int .i64 d1) ∧ w'.cell? ⟨w2.heap.size, 0, none⟩ = some (.int .i64 a1) ∧ w'.cell? ⟨w2.heap.size, 1, none⟩ = some (.int .i64 b1) ∧ w'.cell? ⟨w2.heap.size, 2, none⟩ = some (.int .i64 c1) ∧ w'.cell? ⟨w2.heap.size, 3, none⟩ = some (.int .i64 d1) ∧ Below (w2.alloc (.cells #[.int .i64 a1, .int .i64 b1, .int .i64 c1, .int .i64 d1] 23)).heap.size (w2.alloc (.cells #[.int .i64 a1, .int .i64 b1, .int .i64 c1, .int .i64 d1] 23)) w')
    (first | exact HK.out _ (by with_reducible assumption) | exact HK.out _ (Below.refl _ _).drew)
    (first | (go_at_call 16; refine (kcall (w2 := w2.alloc (.cells #[.int .i64 a1, .int .i64 b1, .int .i64 c1, .int .i64 d1] 23)) ?_ (p_Find ⟨_, _, _, _⟩ _ _)).mono ?_; (first | with_reducible assumption | exact (Below.refl _ _).drew); rintro e w' ⟨rfl, hb⟩)
           | (go_at_call 17; refine (kcall (w2 := w2.alloc (.cells #[.int .i64 a1, .int .i64 b1, .int .i64 c1, .int .i64 d1] 23)) ?_ (r_Find ⟨_, _, _, _⟩ _ _)).mono ?_; (first | with_reducible assumption | exact (Below.refl _ _).drew); rintro e w' ⟨rfl, hb⟩)
           | (go_at_call 18; refine (kcall (w2 := w2.alloc (.cells #[.int .i64 a1, .int .i64 b1, .int .i64 c1, .int .i64 d1] 23)) ?_ (p_Start _)).mono ?_; (first | with_reducible assumption | exact (Below.refl _ _).drew); rintro e w' ⟨rfl, hb⟩)
           | (go_at_call 19; refine (kcall (w2 := w2.alloc (.cells #[.int .i64 a1, .int .i64 b1, .int .i64 c1, .int .i64 d1] 23)) ?_ (r_Start _)).mono ?_; (first | with_reducible assumption | exact (Below.refl _ _).drew); rintro e w' ⟨rfl, hb⟩)
           | (go_at_call 20; refine (kcall (w2 := w2.alloc (.cells #[.int .i64 a1, .int .i64 b1, .int .i64 c1, .int .i64 d1] 23)) ?_ (awake17 _)).mono ?_; (first | with_reducible assumption | exact (Below.refl _ _).drew); rintro e w' ⟨rfl, hb⟩))
  all_goals
    go_wp2
    go_ret
    exact ⟨rfl, bl_then HB.out HB.out.size (by assumption)⟩

set_option maxHeartbeats 2000000 in
set_option maxRecDepth 100000 in
theorem moves_bad0a (a b c d n x : Int) (hn0 : 0 ≤ n) (hn1 : n ≤ 255)  (hb : a < 1) (w : World) :
    Calls Try.prog 4 #[.agg #[.int .i64 a, .int .i64 b, .int .i64 c, .int .i64 d], .int .u8 n, .int .u8 x] w fun e w' => e = .returned (.bool true) ∧ Below w.heap.size w w' := by
  go_enter Try.func4, Try.ntmps4
  go_wp2
  refine wp_loop_rounds 1 ?_
  rw [rounds_succ]
  go_wp2_with fail
  refine (awake17 _).mono ?_
  rintro e w1 ⟨rfl, hb1⟩
  go_wp2
  go_ret
  exact ⟨rfl, bl_then (bl_alloc (Below.refl w.heap.size w) _) (by simp) hb1⟩

set_option maxHeartbeats 2000000 in
set_option maxRecDepth 100000 in
theorem moves_bad0b (a b c d n x : Int) (hn0 : 0 ≤ n) (hn1 : n ≤ 255)  (hb : 67108864 < a) (w : World) :
    Calls Try.prog 4 #[.agg #[.int .i64 a, .int .i64 b, .int .i64 c, .int .i64 d], .int .u8 n, .int .u8 x] w fun e w' => e = .returned (.bool true) ∧ Below w.heap.size w w' := by
  have hb' : ¬ a < 1 := by omega
  go_enter Try.func4, Try.ntmps4
  go_wp2
  refine wp_loop_rounds 1 ?_
  rw [rounds_succ]
  go_wp2_with fail
  refine (awake17 _).mono ?_
  rintro e w1 ⟨rfl, hb1⟩
  go_wp2
  go_ret
  exact ⟨rfl, bl_then (bl_alloc (Below.refl w.heap.size w) _) (by simp) hb1⟩

set_option maxHeartbeats 2000000 in
set_option maxRecDepth 100000 in
theorem moves_bad1a (a b c d n x : Int) (hn0 : 0 ≤ n) (hn1 : n ≤ 255) (la : 1 ≤ a) (ua : a ≤ 67108864) (hb : b < 1) (w : World) :
    Calls Try.prog 4 #[.agg #[.int .i64 a, .int .i64 b, .int .i64 c, .int .i64 d], .int .u8 n, .int .u8 x] w fun e w' => e = .returned (.bool true) ∧ Below w.heap.size w w' := by
  go_enter Try.func4, Try.ntmps4
  go_wp2
  refine wp_loop_rounds 2 ?_
  rw [rounds_succ]
  go_wp2_with fail
  rw [rounds_succ]
  go_wp2_with fail
  refine (awake17 _).mono ?_
  rintro e w1 ⟨rfl, hb1⟩
  go_wp2
  go_ret
  exact ⟨rfl, bl_then (bl_alloc (Below.refl w.heap.size w) _) (by simp) hb1⟩

set_option maxHeartbeats 2000000 in
set_option maxRecDepth 100000 in
theorem moves_bad1b (a b c d n x : Int) (hn0 : 0 ≤ n) (hn1 : n ≤ 255) (la : 1 ≤ a) (ua : a ≤ 67108864) (hb : 67108864 < b) (w : World) :
    Calls Try.prog 4 #[.agg #[.int .i64 a, .int .i64 b, .int .i64 c, .int .i64 d], .int .u8 n, .int .u8 x] w fun e w' => e = .returned (.bool true) ∧ Below w.heap.size w w' := by
  have hb' : ¬ b < 1 := by omega
  go_enter Try.func4, Try.ntmps4
  go_wp2
  refine wp_loop_rounds 2 ?_
  rw [rounds_succ]
  go_wp2_with fail
  rw [rounds_succ]
  go_wp2_with fail
  refine (awake17 _).mono ?_
  rintro e w1 ⟨rfl, hb1⟩
  go_wp2
  go_ret
  exact ⟨rfl, bl_then (bl_alloc (Below.refl w.heap.size w) _) (by simp) hb1⟩

set_option maxHeartbeats 2000000 in
set_option maxRecDepth 100000 in
theorem moves_bad2a (a b c d n x : Int) (hn0 : 0 ≤ n) (hn1 : n ≤ 255) (la : 1 ≤ a) (ua : a ≤ 67108864) (lb : 1 ≤ b) (ub : b ≤ 67108864) (hb : c < 1) (w : World) :
    Calls Try.prog 4 #[.agg #[.int .i64 a, .int .i64 b, .int .i64 c, .int .i64 d], .int .u8 n, .int .u8 x] w fun e w' => e = .returned (.bool true) ∧ Below w.heap.size w w' := by
  go_enter Try.func4, Try.ntmps4
  go_wp2
  refine wp_loop_rounds 3 ?_
  rw [rounds_succ]
  go_wp2_with fail
  rw [rounds_succ]
  go_wp2_with fail
  rw [rounds_succ]
  go_wp2_with fail
  refine (awake17 _).mono ?_
  rintro e w1 ⟨rfl, hb1⟩
  go_wp2
  go_ret
  exact ⟨rfl, bl_then (bl_alloc (Below.refl w.heap.size w) _) (by simp) hb1⟩

set_option maxHeartbeats 2000000 in
set_option maxRecDepth 100000 in
theorem moves_bad2b (a b c d n x : Int) (hn0 : 0 ≤ n) (hn1 : n ≤ 255) (la : 1 ≤ a) (ua : a ≤ 67108864) (lb : 1 ≤ b) (ub : b ≤ 67108864) (hb : 67108864 < c) (w : World) :
    Calls Try.prog 4 #[.agg #[.int .i64 a, .int .i64 b, .int .i64 c, .int .i64 d], .int .u8 n, .int .u8 x] w fun e w' => e = .returned (.bool true) ∧ Below w.heap.size w w' := by
  have hb' : ¬ c < 1 := by omega
  go_enter Try.func4, Try.ntmps4
  go_wp2
  refine wp_loop_rounds 3 ?_
  rw [rounds_succ]
  go_wp2_with fail
  rw [rounds_succ]
  go_wp2_with fail
  rw [rounds_succ]
  go_wp2_with fail
  refine (awake17 _).mono ?_
  rintro e w1 ⟨rfl, hb1⟩
  go_wp2
  go_ret
  exact ⟨rfl, bl_then (bl_alloc (Below.refl w.heap.size w) _) (by simp) hb1⟩

set_option maxHeartbeats 2000000 in
set_option maxRecDepth 100000 in
theorem moves_bad3a (a b c d n x : Int) (hn0 : 0 ≤ n) (hn1 : n ≤ 255) (la : 1 ≤ a) (ua : a ≤ 67108864) (lb : 1 ≤ b) (ub : b ≤ 67108864) (lc : 1 ≤ c) (uc : c ≤ 67108864) (hb : d < 1) (w : World) :
    Calls Try.prog 4 #[.agg #[.int .i64 a, .int .i64 b, .int .i64 c, .int .i64 d], .int .u8 n, .int .u8 x] w fun e w' => e = .returned (.bool true) ∧ Below w.heap.size w w' := by
  go_enter Try.func4, Try.ntmps4
  go_wp2
  refine wp_loop_rounds 4 ?_
  rw [rounds_succ]
  go_wp2_with fail
  rw [rounds_succ]
  go_wp2_with fail
  rw [rounds_succ]
  go_wp2_with fail
  rw [rounds_succ]
  go_wp2_with fail
  refine (awake17 _).mono ?_
  rintro e w1 ⟨rfl, hb1⟩
  go_wp2
  go_ret
  exact ⟨rfl, bl_then (bl_alloc (Below.refl w.heap.size w) _) (by simp) hb1⟩

set_option maxHeartbeats 2000000 in
set_option maxRecDepth 100000 in
theorem moves_bad3b (a b c d n x : Int) (hn0 : 0 ≤ n) (hn1 : n ≤ 255) (la : 1 ≤ a) (ua : a ≤ 67108864) (lb : 1 ≤ b) (ub : b ≤ 67108864) (lc : 1 ≤ c) (uc : c ≤ 67108864) (hb : 67108864 < d) (w : World) :
    Calls Try.prog 4 #[.agg #[.int .i64 a, .int .i64 b, .int .i64 c, .int .i64 d], .int .u8 n, .int .u8 x] w fun e w' => e = .returned (.bool true) ∧ Below w.heap.size w w' := by
  have hb' : ¬ d < 1 := by omega
  go_enter Try.func4, Try.ntmps4
  go_wp2
  refine wp_loop_rounds 4 ?_
  rw [rounds_succ]
  go_wp2_with fail
  rw [rounds_succ]
  go_wp2_with fail
  rw [rounds_succ]
  go_wp2_with fail
  rw [rounds_succ]
  go_wp2_with fail
  refine (awake17 _).mono ?_
  rintro e w1 ⟨rfl, hb1⟩
  go_wp2
  go_ret
  exact ⟨rfl, bl_then (bl_alloc (Below.refl w.heap.size w) _) (by simp) hb1⟩

set_option maxHeartbeats 8000000 in
set_option maxRecDepth 100000 in
theorem moves_good0 (a b c d n x : Int) (hn0 : 0 ≤ n) (hn1 : n ≤ 255) (hx0 : 0 ≤ x) (hx1 : x ≤ 255) (hk : n % 4 = 0) (la : 1 ≤ a) (ua : a ≤ 67108864) (lb : 1 ≤ b) (ub : b ≤ 67108864) (lc : 1 ≤ c) (uc : c ≤ 67108864) (ld : 1 ≤ d) (ud : d ≤ 67108864) (w : World) :
    Calls Try.prog 4 #[.agg #[.int .i64 a, .int .i64 b, .int .i64 c, .int .i64 d], .int .u8 n, .int .u8 x] w fun e w' => e = .returned (.bool true) ∧ Below w.heap.size w w' := by
  have t1 : tokOk ⟨2, 0, 3, 0, 0⟩ := by decide
  have t2 : tokOk ⟨1, 0, 3, x + 1, 0⟩ := by simp only [tokOk, true_and, and_true]; omega
  have t3 : tokOk ⟨0, x, 0, 0, 0⟩ := by simp only [tokOk, true_and, and_true]; omega
  have o1 : useOk ⟨a, b, c, d⟩ ⟨2, 0, 3, 0, 0⟩ := ⟨t1, fun _ => ⟨la, ua⟩⟩
  have o2 : useOk ⟨a, b, c, d⟩ ⟨1, 0, 3, x + 1, 0⟩ := ⟨t2, fun h => by simp at h⟩
  have o3 : useOk ⟨a, b, c, d⟩ ⟨0, x, 0, 0, 0⟩ := ⟨t3, fun h => by simp at h⟩
  have E1 := Lib.hid (show useR ⟨a, b, c, d⟩ ⟨2, 0, 3, 0, 0⟩ = ⟨a, b, c, d⟩ ∧ useD ⟨a, b, c, d⟩ ⟨2, 0, 3, 0, 0⟩ = a ∧ useE ⟨a, b, c, d⟩ ⟨2, 0, 3, 0, 0⟩ = 0 from ⟨(if_pos o1).trans rfl, (if_pos o1).trans rfl, if_pos o1⟩)
  have E2 := Lib.hid (show useR ⟨a, b, c, d⟩ ⟨1, 0, 3, x + 1, 0⟩ = ⟨x + 1, a, b, c⟩ ∧ useD ⟨a, b, c, d⟩ ⟨1, 0, 3, x + 1, 0⟩ = x + 1 ∧ useE ⟨a, b, c, d⟩ ⟨1, 0, 3, x + 1, 0⟩ = 0 from ⟨(if_pos o2).trans rfl, (if_pos o2).trans rfl, if_pos o2⟩)
  have E3 := Lib.hid (show useR ⟨a, b, c, d⟩ ⟨0, x, 0, 0, 0⟩ = ⟨a, b, c, d⟩ ∧ useD ⟨a, b, c, d⟩ ⟨0, x, 0, 0, 0⟩ = 0 ∧ useE ⟨a, b, c, d⟩ ⟨0, x, 0, 0, 0⟩ = 0 from ⟨(if_pos o3).trans rfl, (if_pos o3).trans rfl, if_pos o3⟩)
  clear t1 t2 t3 o1 o2 o3
  have hqr := fun W => eqReps W
  have hqm := eqRepsMark
  go_enter Try.func4, Try.ntmps4
  go_wp2
  refine wp_loop_rounds 5 ?_
  rw [rounds_succ]
  go_wp2_with fail
  rw [rounds_succ]
  go_wp2_with fail
  rw [rounds_succ]
  go_wp2_with fail
  rw [rounds_succ]
  go_wp2_with fail
  rw [rounds_succ]
  go_wp2_with fail
  refine (p_Use ⟨a, b, c, d⟩ ⟨2, 0, 3, 0, 0⟩ _).mono ?_
  rintro e w1 ⟨rfl, hb1⟩
  rw [E1.out.1, E1.out.2.1, E1.out.2.2]
  unfold rpV
  obtain ⟨hc1, hf1⟩ := bcell hb1
  have hz1 : w.heap.size < w1.heap.size := by have := hb1.size; simp at this; omega
  go_wp2_with fail
  refine (p_Use ⟨a, b, c, d⟩ ⟨1, 0, 3, x + 1, 0⟩ _).mono ?_
  rintro e w2 ⟨rfl, hb2⟩
  rw [E2.out.1, E2.out.2.1, E2.out.2.2]
  unfold rpV
  obtain ⟨hc2, hf2⟩ := bcell hb2
  have hz2 : w1.heap.size < w2.heap.size := by have := hb2.size; simp at this; omega
  have hz2' : w.heap.size < w2.heap.size := by omega
  go_wp2_with fail
  refine (p_Use ⟨a, b, c, d⟩ ⟨0, x, 0, 0, 0⟩ _).mono ?_
  rintro e w3 ⟨rfl, hb3⟩
  rw [E3.out.1, E3.out.2.1, E3.out.2.2]
  unfold rpV
  obtain ⟨hc3, hf3⟩ := bcell hb3
  have hz3 : w2.heap.size < w3.heap.size := by have := hb3.size; simp at this; omega
  have hz3' : w1.heap.size < w3.heap.size := by omega
  have hz3'' : w.heap.size < w3.heap.size := by omega
  have B1 := bl_then (bl_alloc (Below.refl w.heap.size w) _) (by simp) hb1
  have B2 := bl_then (bl_alloc B1 _) (by have := B1.size; simp; omega) hb2
  have HB := Lib.hid (bl_alloc (bl_then (bl_alloc B2 _) (by have := B2.size; simp; omega) hb3) (.cells #[.int .i64 a, .int .i64 b, .int .i64 c, .int .i64 d] 23))
  clear B1 B2
  go_wp2_with fail
  go_quiet (fail)
  go_wp2
  refine wp_loop_rounds 4 ?_
  rw [rounds_succ]
  go_wp2
  go_quiet (fail)
  go_wp2
  rw [rounds_succ]
  go_wp2
  go_quiet (fail)
  go_wp2
  rw [rounds_succ]
  go_wp2
  go_quiet (fail)
  go_wp2
  rw [rounds_succ]
  go_wp2_with fail
  refine (awake17 _).mono ?_
  rintro e w4 ⟨rfl, hb4⟩
  go_wp2
  go_ret
  exact ⟨rfl, bl_then (bl_drewN HB.out _) (by have := HB.out.size; simp at this ⊢; omega) hb4⟩

set_option maxHeartbeats 8000000 in
set_option maxRecDepth 100000 in
theorem moves_good1 (a b c d n x : Int) (hn0 : 0 ≤ n) (hn1 : n ≤ 255) (hx0 : 0 ≤ x) (hx1 : x ≤ 255) (hk : n % 4 = 1) (la : 1 ≤ a) (ua : a ≤ 67108864) (lb : 1 ≤ b) (ub : b ≤ 67108864) (lc : 1 ≤ c) (uc : c ≤ 67108864) (ld : 1 ≤ d) (ud : d ≤ 67108864) (w : World) :
    Calls Try.prog 4 #[.agg #[.int .i64 a, .int .i64 b, .int .i64 c, .int .i64 d], .int .u8 n, .int .u8 x] w fun e w' => e = .returned (.bool true) ∧ Below w.heap.size w w' := by
  have t1 : tokOk ⟨2, 0, 3, 0, 1⟩ := by decide
  have t2 : tokOk ⟨1, 0, 3, x + 1, 0⟩ := by simp only [tokOk, true_and, and_true]; omega
  have t3 : tokOk ⟨0, x, 0, 0, 0⟩ := by simp only [tokOk, true_and, and_true]; omega
  have o1 : useOk ⟨a, b, c, d⟩ ⟨2, 0, 3, 0, 1⟩ := ⟨t1, fun _ => ⟨lb, ub⟩⟩
  have o2 : useOk ⟨a, b, c, d⟩ ⟨1, 0, 3, x + 1, 0⟩ := ⟨t2, fun h => by simp at h⟩
  have o3 : useOk ⟨a, b, c, d⟩ ⟨0, x, 0, 0, 0⟩ := ⟨t3, fun h => by simp at h⟩
  have E1 := Lib.hid (show useR ⟨a, b, c, d⟩ ⟨2, 0, 3, 0, 1⟩ = ⟨b, a, c, d⟩ ∧ useD ⟨a, b, c, d⟩ ⟨2, 0, 3, 0, 1⟩ = b ∧ useE ⟨a, b, c, d⟩ ⟨2, 0, 3, 0, 1⟩ = 0 from ⟨(if_pos o1).trans rfl, (if_pos o1).trans rfl, if_pos o1⟩)
  have E2 := Lib.hid (show useR ⟨a, b, c, d⟩ ⟨1, 0, 3, x + 1, 0⟩ = ⟨x + 1, a, b, c⟩ ∧ useD ⟨a, b, c, d⟩ ⟨1, 0, 3, x + 1, 0⟩ = x + 1 ∧ useE ⟨a, b, c, d⟩ ⟨1, 0, 3, x + 1, 0⟩ = 0 from ⟨(if_pos o2).trans rfl, (if_pos o2).trans rfl, if_pos o2⟩)
  have E3 := Lib.hid (show useR ⟨a, b, c, d⟩ ⟨0, x, 0, 0, 0⟩ = ⟨a, b, c, d⟩ ∧ useD ⟨a, b, c, d⟩ ⟨0, x, 0, 0, 0⟩ = 0 ∧ useE ⟨a, b, c, d⟩ ⟨0, x, 0, 0, 0⟩ = 0 from ⟨(if_pos o3).trans rfl, (if_pos o3).trans rfl, if_pos o3⟩)
  clear t1 t2 t3 o1 o2 o3
  have hqr := fun W => eqReps W
  have hqm := eqRepsMark
  go_enter Try.func4, Try.ntmps4
  go_wp2
  refine wp_loop_rounds 5 ?_
  rw [rounds_succ]
  go_wp2_with fail
  rw [rounds_succ]
  go_wp2_with fail
  rw [rounds_succ]
  go_wp2_with fail
  rw [rounds_succ]
  go_wp2_with fail
  rw [rounds_succ]
  go_wp2_with fail
  refine (p_Use ⟨a, b, c, d⟩ ⟨2, 0, 3, 0, 1⟩ _).mono ?_
  rintro e w1 ⟨rfl, hb1⟩
  rw [E1.out.1, E1.out.2.1, E1.out.2.2]
  unfold rpV
  obtain ⟨hc1, hf1⟩ := bcell hb1
  have hz1 : w.heap.size < w1.heap.size := by have := hb1.size; simp at this; omega
  go_wp2_with fail
  refine (p_Use ⟨a, b, c, d⟩ ⟨1, 0, 3, x + 1, 0⟩ _).mono ?_
  rintro e w2 ⟨rfl, hb2⟩
  rw [E2.out.1, E2.out.2.1, E2.out.2.2]
  unfold rpV
  obtain ⟨hc2, hf2⟩ := bcell hb2
  have hz2 : w1.heap.size < w2.heap.size := by have := hb2.size; simp at this; omega
  have hz2' : w.heap.size < w2.heap.size := by omega
  go_wp2_with fail
  refine (p_Use ⟨a, b, c, d⟩ ⟨0, x, 0, 0, 0⟩ _).mono ?_
  rintro e w3 ⟨rfl, hb3⟩
  rw [E3.out.1, E3.out.2.1, E3.out.2.2]
  unfold rpV
  obtain ⟨hc3, hf3⟩ := bcell hb3
  have hz3 : w2.heap.size < w3.heap.size := by have := hb3.size; simp at this; omega
  have hz3' : w1.heap.size < w3.heap.size := by omega
  have hz3'' : w.heap.size < w3.heap.size := by omega
  have B1 := bl_then (bl_alloc (Below.refl w.heap.size w) _) (by simp) hb1
  have B2 := bl_then (bl_alloc B1 _) (by have := B1.size; simp; omega) hb2
  have HB := Lib.hid (bl_alloc (bl_then (bl_alloc B2 _) (by have := B2.size; simp; omega) hb3) (.cells #[.int .i64 a, .int .i64 b, .int .i64 c, .int .i64 d] 23))
  clear B1 B2
  go_wp2_with fail
  go_quiet (fail)
  go_wp2
  refine wp_loop_rounds 4 ?_
  rw [rounds_succ]
  go_wp2
  go_quiet (fail)
  go_wp2
  rw [rounds_succ]
  go_wp2
  go_quiet (fail)
  go_wp2
  rw [rounds_succ]
  go_wp2
  go_quiet (fail)
  go_wp2
  rw [rounds_succ]
  go_wp2_with fail
  refine (awake17 _).mono ?_
  rintro e w4 ⟨rfl, hb4⟩
  go_wp2
  go_ret
  exact ⟨rfl, bl_then (bl_drewN HB.out _) (by have := HB.out.size; simp at this ⊢; omega) hb4⟩

set_option maxHeartbeats 8000000 in
set_option maxRecDepth 100000 in
theorem moves_good2 (a b c d n x : Int) (hn0 : 0 ≤ n) (hn1 : n ≤ 255) (hx0 : 0 ≤ x) (hx1 : x ≤ 255) (hk : n % 4 = 2) (la : 1 ≤ a) (ua : a ≤ 67108864) (lb : 1 ≤ b) (ub : b ≤ 67108864) (lc : 1 ≤ c) (uc : c ≤ 67108864) (ld : 1 ≤ d) (ud : d ≤ 67108864) (w : World) :
    Calls Try.prog 4 #[.agg #[.int .i64 a, .int .i64 b, .int .i64 c, .int .i64 d], .int .u8 n, .int .u8 x] w fun e w' => e = .returned (.bool true) ∧ Below w.heap.size w w' := by
  have t1 : tokOk ⟨2, 0, 3, 0, 2⟩ := by decide
  have t2 : tokOk ⟨1, 0, 3, x + 1, 0⟩ := by simp only [tokOk, true_and, and_true]; omega
  have t3 : tokOk ⟨0, x, 0, 0, 0⟩ := by simp only [tokOk, true_and, and_true]; omega
  have o1 : useOk ⟨a, b, c, d⟩ ⟨2, 0, 3, 0, 2⟩ := ⟨t1, fun _ => ⟨lc, uc⟩⟩
  have o2 : useOk ⟨a, b, c, d⟩ ⟨1, 0, 3, x + 1, 0⟩ := ⟨t2, fun h => by simp at h⟩
  have o3 : useOk ⟨a, b, c, d⟩ ⟨0, x, 0, 0, 0⟩ := ⟨t3, fun h => by simp at h⟩
  have E1 := Lib.hid (show useR ⟨a, b, c, d⟩ ⟨2, 0, 3, 0, 2⟩ = ⟨c, a, b, d⟩ ∧ useD ⟨a, b, c, d⟩ ⟨2, 0, 3, 0, 2⟩ = c ∧ useE ⟨a, b, c, d⟩ ⟨2, 0, 3, 0, 2⟩ = 0 from ⟨(if_pos o1).trans rfl, (if_pos o1).trans rfl, if_pos o1⟩)
  have E2 := Lib.hid (show useR ⟨a, b, c, d⟩ ⟨1, 0, 3, x + 1, 0⟩ = ⟨x + 1, a, b, c⟩ ∧ useD ⟨a, b, c, d⟩ ⟨1, 0, 3, x + 1, 0⟩ = x + 1 ∧ useE ⟨a, b, c, d⟩ ⟨1, 0, 3, x + 1, 0⟩ = 0 from ⟨(if_pos o2).trans rfl, (if_pos o2).trans rfl, if_pos o2⟩)
  have E3 := Lib.hid (show useR ⟨a, b, c, d⟩ ⟨0, x, 0, 0, 0⟩ = ⟨a, b, c, d⟩ ∧ useD ⟨a, b, c, d⟩ ⟨0, x, 0, 0, 0⟩ = 0 ∧ useE ⟨a, b, c, d⟩ ⟨0, x, 0, 0, 0⟩ = 0 from ⟨(if_pos o3).trans rfl, (if_pos o3).trans rfl, if_pos o3⟩)
  clear t1 t2 t3 o1 o2 o3
  have hqr := fun W => eqReps W
  have hqm := eqRepsMark
  go_enter Try.func4, Try.ntmps4
  go_wp2
  refine wp_loop_rounds 5 ?_
  rw [rounds_succ]
  go_wp2_with fail
  rw [rounds_succ]
  go_wp2_with fail
  rw [rounds_succ]
  go_wp2_with fail
  rw [rounds_succ]
  go_wp2_with fail
  rw [rounds_succ]
  go_wp2_with fail
  refine (p_Use ⟨a, b, c, d⟩ ⟨2, 0, 3, 0, 2⟩ _).mono ?_
  rintro e w1 ⟨rfl, hb1⟩
  rw [E1.out.1, E1.out.2.1, E1.out.2.2]
  unfold rpV
  obtain ⟨hc1, hf1⟩ := bcell hb1
  have hz1 : w.heap.size < w1.heap.size := by have := hb1.size; simp at this; omega
  go_wp2_with fail
  refine (p_Use ⟨a, b, c, d⟩ ⟨1, 0, 3, x + 1, 0⟩ _).mono ?_
  rintro e w2 ⟨rfl, hb2⟩
  rw [E2.out.1, E2.out.2.1, E2.out.2.2]
  unfold rpV
  obtain ⟨hc2, hf2⟩ := bcell hb2
  have hz2 : w1.heap.size < w2.heap.size := by have := hb2.size; simp at this; omega
  have hz2' : w.heap.size < w2.heap.size := by omega
  go_wp2_with fail
  refine (p_Use ⟨a, b, c, d⟩ ⟨0, x, 0, 0, 0⟩ _).mono ?_
  rintro e w3 ⟨rfl, hb3⟩
  rw [E3.out.1, E3.out.2.1, E3.out.2.2]
  unfold rpV
  obtain ⟨hc3, hf3⟩ := bcell hb3
  have hz3 : w2.heap.size < w3.heap.size := by have := hb3.size; simp at this; omega
  have hz3' : w1.heap.size < w3.heap.size := by omega
  have hz3'' : w.heap.size < w3.heap.size := by omega
  have B1 := bl_then (bl_alloc (Below.refl w.heap.size w) _) (by simp) hb1
  have B2 := bl_then (bl_alloc B1 _) (by have := B1.size; simp; omega) hb2
  have HB := Lib.hid (bl_alloc (bl_then (bl_alloc B2 _) (by have := B2.size; simp; omega) hb3) (.cells #[.int .i64 a, .int .i64 b, .int .i64 c, .int .i64 d] 23))
  clear B1 B2
  go_wp2_with fail
  go_quiet (fail)
  go_wp2
  refine wp_loop_rounds 4 ?_
  rw [rounds_succ]
  go_wp2
  go_quiet (fail)
  go_wp2
  rw [rounds_succ]
  go_wp2
  go_quiet (fail)
  go_wp2
  rw [rounds_succ]
  go_wp2
  go_quiet (fail)
  go_wp2
  rw [rounds_succ]
  go_wp2_with fail
  refine (awake17 _).mono ?_
  rintro e w4 ⟨rfl, hb4⟩
  go_wp2
  go_ret
  exact ⟨rfl, bl_then (bl_drewN HB.out _) (by have := HB.out.size; simp at this ⊢; omega) hb4⟩

set_option maxHeartbeats 8000000 in
set_option maxRecDepth 100000 in
theorem moves_good3 (a b c d n x : Int) (hn0 : 0 ≤ n) (hn1 : n ≤ 255) (hx0 : 0 ≤ x) (hx1 : x ≤ 255) (hk : n % 4 = 3) (la : 1 ≤ a) (ua : a ≤ 67108864) (lb : 1 ≤ b) (ub : b ≤ 67108864) (lc : 1 ≤ c) (uc : c ≤ 67108864) (ld : 1 ≤ d) (ud : d ≤ 67108864) (w : World) :
    Calls Try.prog 4 #[.agg #[.int .i64 a, .int .i64 b, .int .i64 c, .int .i64 d], .int .u8 n, .int .u8 x] w fun e w' => e = .returned (.bool true) ∧ Below w.heap.size w w' := by
  have t1 : tokOk ⟨2, 0, 3, 0, 3⟩ := by decide
  have t2 : tokOk ⟨1, 0, 3, x + 1, 0⟩ := by simp only [tokOk, true_and, and_true]; omega
  have t3 : tokOk ⟨0, x, 0, 0, 0⟩ := by simp only [tokOk, true_and, and_true]; omega
  have o1 : useOk ⟨a, b, c, d⟩ ⟨2, 0, 3, 0, 3⟩ := ⟨t1, fun _ => ⟨ld, ud⟩⟩
  have o2 : useOk ⟨a, b, c, d⟩ ⟨1, 0, 3, x + 1, 0⟩ := ⟨t2, fun h => by simp at h⟩
  have o3 : useOk ⟨a, b, c, d⟩ ⟨0, x, 0, 0, 0⟩ := ⟨t3, fun h => by simp at h⟩
  have E1 := Lib.hid (show useR ⟨a, b, c, d⟩ ⟨2, 0, 3, 0, 3⟩ = ⟨d, a, b, c⟩ ∧ useD ⟨a, b, c, d⟩ ⟨2, 0, 3, 0, 3⟩ = d ∧ useE ⟨a, b, c, d⟩ ⟨2, 0, 3, 0, 3⟩ = 0 from ⟨(if_pos o1).trans rfl, (if_pos o1).trans rfl, if_pos o1⟩)
  have E2 := Lib.hid (show useR ⟨a, b, c, d⟩ ⟨1, 0, 3, x + 1, 0⟩ = ⟨x + 1, a, b, c⟩ ∧ useD ⟨a, b, c, d⟩ ⟨1, 0, 3, x + 1, 0⟩ = x + 1 ∧ useE ⟨a, b, c, d⟩ ⟨1, 0, 3, x + 1, 0⟩ = 0 from ⟨(if_pos o2).trans rfl, (if_pos o2).trans rfl, if_pos o2⟩)
  have E3 := Lib.hid (show useR ⟨a, b, c, d⟩ ⟨0, x, 0, 0, 0⟩ = ⟨a, b, c, d⟩ ∧ useD ⟨a, b, c, d⟩ ⟨0, x, 0, 0, 0⟩ = 0 ∧ useE ⟨a, b, c, d⟩ ⟨0, x, 0, 0, 0⟩ = 0 from ⟨(if_pos o3).trans rfl, (if_pos o3).trans rfl, if_pos o3⟩)
  clear t1 t2 t3 o1 o2 o3
  have hqr := fun W => eqReps W
  have hqm := eqRepsMark
  go_enter Try.func4, Try.ntmps4
  go_wp2
  refine wp_loop_rounds 5 ?_
  rw [rounds_succ]
  go_wp2_with fail
  rw [rounds_succ]
  go_wp2_with fail
  rw [rounds_succ]
  go_wp2_with fail
  rw [rounds_succ]
  go_wp2_with fail
  rw [rounds_succ]
  go_wp2_with fail
  refine (p_Use ⟨a, b, c, d⟩ ⟨2, 0, 3, 0, 3⟩ _).mono ?_
  rintro e w1 ⟨rfl, hb1⟩
  rw [E1.out.1, E1.out.2.1, E1.out.2.2]
  unfold rpV
  obtain ⟨hc1, hf1⟩ := bcell hb1
  have hz1 : w.heap.size < w1.heap.size := by have := hb1.size; simp at this; omega
  go_wp2_with fail
  refine (p_Use ⟨a, b, c, d⟩ ⟨1, 0, 3, x + 1, 0⟩ _).mono ?_
  rintro e w2 ⟨rfl, hb2⟩
  rw [E2.out.1, E2.out.2.1, E2.out.2.2]
  unfold rpV
  obtain ⟨hc2, hf2⟩ := bcell hb2
  have hz2 : w1.heap.size < w2.heap.size := by have := hb2.size; simp at this; omega
  have hz2' : w.heap.size < w2.heap.size := by omega
  go_wp2_with fail
  refine (p_Use ⟨a, b, c, d⟩ ⟨0, x, 0, 0, 0⟩ _).mono ?_
  rintro e w3 ⟨rfl, hb3⟩
  rw [E3.out.1, E3.out.2.1, E3.out.2.2]
  unfold rpV
  obtain ⟨hc3, hf3⟩ := bcell hb3
  have hz3 : w2.heap.size < w3.heap.size := by have := hb3.size; simp at this; omega
  have hz3' : w1.heap.size < w3.heap.size := by omega
  have hz3'' : w.heap.size < w3.heap.size := by omega
  have B1 := bl_then (bl_alloc (Below.refl w.heap.size w) _) (by simp) hb1
  have B2 := bl_then (bl_alloc B1 _) (by have := B1.size; simp; omega) hb2
  have HB := Lib.hid (bl_alloc (bl_then (bl_alloc B2 _) (by have := B2.size; simp; omega) hb3) (.cells #[.int .i64 a, .int .i64 b, .int .i64 c, .int .i64 d] 23))
  clear B1 B2
  go_wp2_with fail
  go_quiet (fail)
  go_wp2
  refine wp_loop_rounds 4 ?_
  rw [rounds_succ]
  go_wp2
  go_quiet (fail)
  go_wp2
  rw [rounds_succ]
  go_wp2
  go_quiet (fail)
  go_wp2
  rw [rounds_succ]
  go_wp2
  go_quiet (fail)
  go_wp2
  rw [rounds_succ]
  go_wp2_with fail
  refine (awake17 _).mono ?_
  rintro e w4 ⟨rfl, hb4⟩
  go_wp2
  go_ret
  exact ⟨rfl, bl_then (bl_drewN HB.out _) (by have := HB.out.size; simp at this ⊢; omega) hb4⟩

theorem law_RepsMoves (r : Rp) (n x : Int) (hn0 : 0 ≤ n) (hn1 : n ≤ 255) (hx0 : 0 ≤ x) (hx1 : x ≤ 255) (w : World) : Calls Try.prog 4 #[rpV r, .int .u8 n, .int .u8 x] w fun e w' => e = .returned (.bool true) ∧ Below w.heap.size w w' := by
  obtain ⟨a, b, c, d⟩ := r
  by_cases pa : a < 1
  · exact moves_bad0a a b c d n x hn0 hn1  pa w
  by_cases qa : 67108864 < a
  · exact moves_bad0b a b c d n x hn0 hn1  qa w
  by_cases pb : b < 1
  · exact moves_bad1a a b c d n x hn0 hn1 (by omega) (by omega) pb w
  by_cases qb : 67108864 < b
  · exact moves_bad1b a b c d n x hn0 hn1 (by omega) (by omega) qb w
  by_cases pc : c < 1
  · exact moves_bad2a a b c d n x hn0 hn1 (by omega) (by omega) (by omega) (by omega) pc w
  by_cases qc : 67108864 < c
  · exact moves_bad2b a b c d n x hn0 hn1 (by omega) (by omega) (by omega) (by omega) qc w
  by_cases pd : d < 1
  · exact moves_bad3a a b c d n x hn0 hn1 (by omega) (by omega) (by omega) (by omega) (by omega) (by omega) pd w
  by_cases qd : 67108864 < d
  · exact moves_bad3b a b c d n x hn0 hn1 (by omega) (by omega) (by omega) (by omega) (by omega) (by omega) qd w
  have hk : n % 4 = 0 ∨ n % 4 = 1 ∨ n % 4 = 2 ∨ n % 4 = 3 := by omega
  rcases hk with hk | hk | hk | hk
  · exact moves_good0 a b c d n x hn0 hn1 hx0 hx1 hk (by omega) (by omega) (by omega) (by omega) (by omega) (by omega) (by omega) (by omega) w
  · exact moves_good1 a b c d n x hn0 hn1 hx0 hx1 hk (by omega) (by omega) (by omega) (by omega) (by omega) (by omega) (by omega) (by omega) w
  · exact moves_good2 a b c d n x hn0 hn1 hx0 hx1 hk (by omega) (by omega) (by omega) (by omega) (by omega) (by omega) (by omega) (by omega) w
  · exact moves_good3 a b c d n x hn0 hn1 hx0 hx1 hk (by omega) (by omega) (by omega) (by omega) (by omega) (by omega) (by omega) (by omega) w

end Go.Proofs.Ytiohdgckmolmnaa
