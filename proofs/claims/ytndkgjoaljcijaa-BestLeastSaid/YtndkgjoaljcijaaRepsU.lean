/- Chapter 17 (reps), the calls Use, Find, Start: what they give, by walks. -/
import Derived.Test.YtndkgjoaljcijaaReps
import Derived.Handy
set_option linter.unusedSimpArgs false
set_option linter.unusedVariables false
namespace Go.Proofs.Ytndkgjoaljcijaa
open Go.RowKit

set_option maxHeartbeats 2000000 in
set_option maxRecDepth 100000 in
theorem p_Use_bad (a b c d : Int) (t : Tok) (h : ¬ tokOk t) (w : World) :
    Calls Try.prog 48 #[.agg #[.int .i64 a, .int .i64 b, .int .i64 c, .int .i64 d], tokV t] w fun e w' => e = .returned (.tuple #[.agg #[.int .i64 0, .int .i64 0, .int .i64 0, .int .i64 0], .int .i64 0, .int .i64 10]) ∧ Below w.heap.size w w' := by
  obtain ⟨k, y, l, x, i⟩ := t
  unfold tokV
  have HC := Lib.hid (show tokCheck ⟨k, y, l, x, i⟩ = 10 from if_neg h)
  clear h
  go_enter Try.func48, Try.ntmps48
  go_wp2_with fail
  refine (p_Check' _ _ _ _ _ _).mono ?_
  rintro e w1 ⟨rfl, hb1⟩
  obtain ⟨hc1, hf1⟩ := bcell hb1
  have hz1 : w.heap.size + 1 + 1 < w1.heap.size := by have := hb1.size; simp at this; omega
  have hz2 : w.heap.size + 1 < w1.heap.size := by omega
  have hz3 : w.heap.size < w1.heap.size := by omega
  have HB := Lib.hid (bl_then (bl_alloc (bl_alloc (bl_alloc (Below.refl w.heap.size w) _) _) _) (by simp; omega) hb1)
  clear hb1
  rw [HC.out]
  go_wp2
  refine bodyPost_ret (v := .tuple #[.agg #[.int .i64 0, .int .i64 0, .int .i64 0, .int .i64 0], .int .i64 0, .int .i64 10]) (by simp [results, Try.results48, go_sem, hc1]) rfl ⟨rfl, ?_⟩
  repeat (first | with_reducible exact HB.out | with_reducible assumption | refine Below.setCell ?_ (by first | omega | (simp; done) | (simp; omega)) _ | exact bl_then HB.out (by omega) (by assumption) | refine Below.drew ?_ | refine bl_alloc ?_ _)

set_option maxHeartbeats 2000000 in
set_option maxRecDepth 100000 in
theorem p_Use_lit (a b c d : Int) (y l x i : Int) (h : tokOk ⟨0, y, l, x, i⟩) (w : World) :
    Calls Try.prog 48 #[.agg #[.int .i64 a, .int .i64 b, .int .i64 c, .int .i64 d], tokV ⟨0, y, l, x, i⟩] w fun e w' => e = .returned (.tuple #[.agg #[.int .i64 a, .int .i64 b, .int .i64 c, .int .i64 d], .int .i64 0, .int .i64 0]) ∧ Below w.heap.size w w' := by
  unfold tokV
  have HC := Lib.hid (show tokCheck ⟨0, y, l, x, i⟩ = 0 from if_pos h)
  clear h
  go_enter Try.func48, Try.ntmps48
  go_wp2_with fail
  refine (p_Check' _ _ _ _ _ _).mono ?_
  rintro e w1 ⟨rfl, hb1⟩
  obtain ⟨hc1, hf1⟩ := bcell hb1
  have hz1 : w.heap.size + 1 + 1 < w1.heap.size := by have := hb1.size; simp at this; omega
  have hz2 : w.heap.size + 1 < w1.heap.size := by omega
  have hz3 : w.heap.size < w1.heap.size := by omega
  have HB := Lib.hid (bl_then (bl_alloc (bl_alloc (bl_alloc (Below.refl w.heap.size w) _) _) _) (by simp; omega) hb1)
  clear hb1
  rw [HC.out]
  go_wp2
  refine bodyPost_ret (v := .tuple #[.agg #[.int .i64 a, .int .i64 b, .int .i64 c, .int .i64 d], .int .i64 0, .int .i64 0]) (by simp [results, Try.results48, go_sem, hc1]) rfl ⟨rfl, ?_⟩
  repeat (first | with_reducible exact HB.out | with_reducible assumption | refine Below.setCell ?_ (by first | omega | (simp; done) | (simp; omega)) _ | exact bl_then HB.out (by omega) (by assumption) | refine Below.drew ?_ | refine bl_alloc ?_ _)

set_option maxHeartbeats 2000000 in
set_option maxRecDepth 100000 in
theorem p_Use_copy (a b c d : Int) (y l x i : Int) (h : tokOk ⟨1, y, l, x, i⟩) (w : World) :
    Calls Try.prog 48 #[.agg #[.int .i64 a, .int .i64 b, .int .i64 c, .int .i64 d], tokV ⟨1, y, l, x, i⟩] w fun e w' => e = .returned (.tuple #[.agg #[.int .i64 x, .int .i64 a, .int .i64 b, .int .i64 c], .int .i64 x, .int .i64 0]) ∧ Below w.heap.size w w' := by
  unfold tokV
  have HC := Lib.hid (show tokCheck ⟨1, y, l, x, i⟩ = 0 from if_pos h)
  clear h
  go_enter Try.func48, Try.ntmps48
  go_wp2_with fail
  refine (p_Check' _ _ _ _ _ _).mono ?_
  rintro e w1 ⟨rfl, hb1⟩
  obtain ⟨hc1, hf1⟩ := bcell hb1
  have hz1 : w.heap.size + 1 + 1 < w1.heap.size := by have := hb1.size; simp at this; omega
  have hz2 : w.heap.size + 1 < w1.heap.size := by omega
  have hz3 : w.heap.size < w1.heap.size := by omega
  have HB := Lib.hid (bl_then (bl_alloc (bl_alloc (bl_alloc (Below.refl w.heap.size w) _) _) _) (by simp; omega) hb1)
  clear hb1
  rw [HC.out]
  go_wp2_with fail
  have HK : Hid (∀ w', Below (w.heap.size + 1 + 1) w1 w' → w'.cell? ⟨w.heap.size, 0, none⟩ = some (.int .i64 a) ∧ w'.cell? ⟨w.heap.size, 1, none⟩ = some (.int .i64 b) ∧ w'.cell? ⟨w.heap.size, 2, none⟩ = some (.int .i64 c) ∧ w'.cell? ⟨w.heap.size, 3, none⟩ = some (.int .i64 d) ∧ w'.cell? ⟨w.heap.size + 1, 3, none⟩ = some (.int .i64 x) ∧ Below (w.heap.size + 1 + 1) w1 w') :=
    fun w' hb => ⟨(hb.cell (by simp; omega)).trans (by go_simp), (hb.cell (by simp; omega)).trans (by go_simp), (hb.cell (by simp; omega)).trans (by go_simp), (hb.cell (by simp; omega)).trans (by go_simp), (hb.cell (by simp)).trans (by go_simp), hb⟩
  have HR : Hid (∀ w', Below w1.heap.size w1 w' → w'.cell? ⟨w.heap.size + 1 + 1, 0, none⟩ = some (.int .i64 0) ∧ w'.cell? ⟨w.heap.size + 1 + 1, 1, none⟩ = some (.int .i64 0) ∧ w'.cell? ⟨w.heap.size + 1 + 1, 2, none⟩ = some (.int .i64 0) ∧ w'.cell? ⟨w.heap.size + 1 + 1, 3, none⟩ = some (.int .i64 0) ∧ w'.frozen? ⟨w.heap.size + 1 + 1, 0, none⟩ = false ∧ w'.frozen? ⟨w.heap.size + 1 + 1, 1, none⟩ = false ∧ w'.frozen? ⟨w.heap.size + 1 + 1, 2, none⟩ = false ∧ w'.frozen? ⟨w.heap.size + 1 + 1, 3, none⟩ = false) :=
    fun w' hb => ⟨(hb.cell hz1).trans (by go_simp), (hb.cell hz1).trans (by go_simp), (hb.cell hz1).trans (by go_simp), (hb.cell hz1).trans (by go_simp), (hb.frozen hz1).trans (by go_simp), (hb.frozen hz1).trans (by go_simp), (hb.frozen hz1).trans (by go_simp), (hb.frozen hz1).trans (by go_simp)⟩
  go_region_held3 (fun w' => w'.cell? ⟨w.heap.size, 0, none⟩ = some (.int .i64 a) ∧ w'.cell? ⟨w.heap.size, 1, none⟩ = some (.int .i64 b) ∧ w'.cell? ⟨w.heap.size, 2, none⟩ = some (.int .i64 c) ∧ w'.cell? ⟨w.heap.size, 3, none⟩ = some (.int .i64 d) ∧ w'.cell? ⟨w.heap.size + 1, 3, none⟩ = some (.int .i64 x) ∧ Below (w.heap.size + 1 + 1) w1 w')
    (exact HK.out _ (by repeat (first | with_reducible assumption | exact (Below.refl _ _).drew | refine Below.setCell ?_ (by first | omega | (simp; done) | (simp; omega)) _)))
    ((go_at_call 56; refine (kcall (w2 := w1) ?_ (p_ahead3 _ _ _ _ _ _)).mono ?_; (exact (Below.refl _ _).drew); rintro e w2 ⟨rfl, hb3⟩; have hb2 := hb3.mono (Nat.le_of_lt hz1); obtain ⟨g0, g1, g2, g3, g4, g5, g6, g7⟩ := HR.out _ hb3))
  go_wp2
  refine bodyPost_ret (v := .tuple #[.agg #[.int .i64 x, .int .i64 a, .int .i64 b, .int .i64 c], .int .i64 x, .int .i64 0]) (by simp [results, Try.results48, go_sem, g0, g1, g2, g3, g4, g5, g6, g7]) rfl ⟨rfl, ?_⟩
  repeat (first | with_reducible exact HB.out | with_reducible assumption | refine Below.setCell ?_ (by first | omega | (simp; done) | (simp; omega)) _ | exact bl_then HB.out (by omega) (by assumption) | refine Below.drew ?_ | refine bl_alloc ?_ _)

set_option maxHeartbeats 2000000 in
set_option maxRecDepth 100000 in
theorem p_Use_far0a (a b c d : Int) (y l x : Int) (h : tokOk ⟨2, y, l, x, 0⟩) (hd : a < 1) (w : World) :
    Calls Try.prog 48 #[.agg #[.int .i64 a, .int .i64 b, .int .i64 c, .int .i64 d], tokV ⟨2, y, l, x, 0⟩] w fun e w' => e = .returned (.tuple #[.agg #[.int .i64 0, .int .i64 0, .int .i64 0, .int .i64 0], .int .i64 0, .int .i64 10]) ∧ Below w.heap.size w w' := by
  unfold tokV
  have HC := Lib.hid (show tokCheck ⟨2, y, l, x, 0⟩ = 0 from if_pos h)
  skip
  clear h
  go_enter Try.func48, Try.ntmps48
  go_wp2_with fail
  refine (p_Check' _ _ _ _ _ _).mono ?_
  rintro e w1 ⟨rfl, hb1⟩
  obtain ⟨hc1, hf1⟩ := bcell hb1
  have hz1 : w.heap.size + 1 + 1 < w1.heap.size := by have := hb1.size; simp at this; omega
  have hz2 : w.heap.size + 1 < w1.heap.size := by omega
  have hz3 : w.heap.size < w1.heap.size := by omega
  have HB := Lib.hid (bl_then (bl_alloc (bl_alloc (bl_alloc (Below.refl w.heap.size w) _) _) _) (by simp; omega) hb1)
  clear hb1
  rw [HC.out]
  go_wp2
  refine bodyPost_ret (v := .tuple #[.agg #[.int .i64 0, .int .i64 0, .int .i64 0, .int .i64 0], .int .i64 0, .int .i64 10]) (by simp [results, Try.results48, go_sem, hc1]) rfl ⟨rfl, ?_⟩
  repeat (first | with_reducible exact HB.out | with_reducible assumption | refine Below.setCell ?_ (by first | omega | (simp; done) | (simp; omega)) _ | exact bl_then HB.out (by omega) (by assumption) | refine Below.drew ?_ | refine bl_alloc ?_ _)

set_option maxHeartbeats 2000000 in
set_option maxRecDepth 100000 in
theorem p_Use_far0b (a b c d : Int) (y l x : Int) (h : tokOk ⟨2, y, l, x, 0⟩) (hd : 67108864 < a) (w : World) :
    Calls Try.prog 48 #[.agg #[.int .i64 a, .int .i64 b, .int .i64 c, .int .i64 d], tokV ⟨2, y, l, x, 0⟩] w fun e w' => e = .returned (.tuple #[.agg #[.int .i64 0, .int .i64 0, .int .i64 0, .int .i64 0], .int .i64 0, .int .i64 10]) ∧ Below w.heap.size w w' := by
  unfold tokV
  have HC := Lib.hid (show tokCheck ⟨2, y, l, x, 0⟩ = 0 from if_pos h)
  have hd' : ¬ a < 1 := by omega
  clear h
  go_enter Try.func48, Try.ntmps48
  go_wp2_with fail
  refine (p_Check' _ _ _ _ _ _).mono ?_
  rintro e w1 ⟨rfl, hb1⟩
  obtain ⟨hc1, hf1⟩ := bcell hb1
  have hz1 : w.heap.size + 1 + 1 < w1.heap.size := by have := hb1.size; simp at this; omega
  have hz2 : w.heap.size + 1 < w1.heap.size := by omega
  have hz3 : w.heap.size < w1.heap.size := by omega
  have HB := Lib.hid (bl_then (bl_alloc (bl_alloc (bl_alloc (Below.refl w.heap.size w) _) _) _) (by simp; omega) hb1)
  clear hb1
  rw [HC.out]
  go_wp2
  refine bodyPost_ret (v := .tuple #[.agg #[.int .i64 0, .int .i64 0, .int .i64 0, .int .i64 0], .int .i64 0, .int .i64 10]) (by simp [results, Try.results48, go_sem, hc1]) rfl ⟨rfl, ?_⟩
  repeat (first | with_reducible exact HB.out | with_reducible assumption | refine Below.setCell ?_ (by first | omega | (simp; done) | (simp; omega)) _ | exact bl_then HB.out (by omega) (by assumption) | refine Below.drew ?_ | refine bl_alloc ?_ _)

set_option maxHeartbeats 2000000 in
set_option maxRecDepth 100000 in
theorem p_Use_rep0 (a b c d : Int) (y l x : Int) (h : tokOk ⟨2, y, l, x, 0⟩) (h1 : 1 ≤ a) (h2 : a ≤ 67108864) (w : World) :
    Calls Try.prog 48 #[.agg #[.int .i64 a, .int .i64 b, .int .i64 c, .int .i64 d], tokV ⟨2, y, l, x, 0⟩] w fun e w' => e = .returned (.tuple #[.agg #[.int .i64 a, .int .i64 b, .int .i64 c, .int .i64 d], .int .i64 a, .int .i64 0]) ∧ Below w.heap.size w w' := by
  unfold tokV
  have HC := Lib.hid (show tokCheck ⟨2, y, l, x, 0⟩ = 0 from if_pos h)
  clear h
  go_enter Try.func48, Try.ntmps48
  go_wp2_with fail
  refine (p_Check' _ _ _ _ _ _).mono ?_
  rintro e w1 ⟨rfl, hb1⟩
  obtain ⟨hc1, hf1⟩ := bcell hb1
  have hz1 : w.heap.size + 1 + 1 < w1.heap.size := by have := hb1.size; simp at this; omega
  have hz2 : w.heap.size + 1 < w1.heap.size := by omega
  have hz3 : w.heap.size < w1.heap.size := by omega
  have HB := Lib.hid (bl_then (bl_alloc (bl_alloc (bl_alloc (Below.refl w.heap.size w) _) _) _) (by simp; omega) hb1)
  clear hb1
  rw [HC.out]
  go_wp2_with fail
  have HR : Hid (∀ w', Below w1.heap.size w1 w' → w'.cell? ⟨w.heap.size + 1 + 1, 0, none⟩ = some (.int .i64 0) ∧ w'.cell? ⟨w.heap.size + 1 + 1, 1, none⟩ = some (.int .i64 0) ∧ w'.cell? ⟨w.heap.size + 1 + 1, 2, none⟩ = some (.int .i64 0) ∧ w'.cell? ⟨w.heap.size + 1 + 1, 3, none⟩ = some (.int .i64 0) ∧ w'.frozen? ⟨w.heap.size + 1 + 1, 0, none⟩ = false ∧ w'.frozen? ⟨w.heap.size + 1 + 1, 1, none⟩ = false ∧ w'.frozen? ⟨w.heap.size + 1 + 1, 2, none⟩ = false ∧ w'.frozen? ⟨w.heap.size + 1 + 1, 3, none⟩ = false) :=
    fun w' hb => ⟨(hb.cell hz1).trans (by go_simp), (hb.cell hz1).trans (by go_simp), (hb.cell hz1).trans (by go_simp), (hb.cell hz1).trans (by go_simp), (hb.frozen hz1).trans (by go_simp), (hb.frozen hz1).trans (by go_simp), (hb.frozen hz1).trans (by go_simp), (hb.frozen hz1).trans (by go_simp)⟩
  refine (p_ahead0 _ _ _ _ _ _).mono ?_
  rintro e w2 ⟨rfl, hb3⟩
  obtain ⟨g0, g1, g2, g3, g4, g5, g6, g7⟩ := HR.out _ hb3
  go_wp2
  refine bodyPost_ret (v := .tuple #[.agg #[.int .i64 a, .int .i64 b, .int .i64 c, .int .i64 d], .int .i64 a, .int .i64 0]) (by simp [results, Try.results48, go_sem, g0, g1, g2, g3, g4, g5, g6, g7]) rfl ⟨rfl, ?_⟩
  repeat (first | with_reducible exact HB.out | with_reducible assumption | refine Below.setCell ?_ (by first | omega | (simp; done) | (simp; omega)) _ | exact bl_then HB.out (by omega) (by assumption) | refine Below.drew ?_ | refine bl_alloc ?_ _)

set_option maxHeartbeats 2000000 in
set_option maxRecDepth 100000 in
theorem p_Use_far1a (a b c d : Int) (y l x : Int) (h : tokOk ⟨2, y, l, x, 1⟩) (hd : b < 1) (w : World) :
    Calls Try.prog 48 #[.agg #[.int .i64 a, .int .i64 b, .int .i64 c, .int .i64 d], tokV ⟨2, y, l, x, 1⟩] w fun e w' => e = .returned (.tuple #[.agg #[.int .i64 0, .int .i64 0, .int .i64 0, .int .i64 0], .int .i64 0, .int .i64 10]) ∧ Below w.heap.size w w' := by
  unfold tokV
  have HC := Lib.hid (show tokCheck ⟨2, y, l, x, 1⟩ = 0 from if_pos h)
  skip
  clear h
  go_enter Try.func48, Try.ntmps48
  go_wp2_with fail
  refine (p_Check' _ _ _ _ _ _).mono ?_
  rintro e w1 ⟨rfl, hb1⟩
  obtain ⟨hc1, hf1⟩ := bcell hb1
  have hz1 : w.heap.size + 1 + 1 < w1.heap.size := by have := hb1.size; simp at this; omega
  have hz2 : w.heap.size + 1 < w1.heap.size := by omega
  have hz3 : w.heap.size < w1.heap.size := by omega
  have HB := Lib.hid (bl_then (bl_alloc (bl_alloc (bl_alloc (Below.refl w.heap.size w) _) _) _) (by simp; omega) hb1)
  clear hb1
  rw [HC.out]
  go_wp2
  refine bodyPost_ret (v := .tuple #[.agg #[.int .i64 0, .int .i64 0, .int .i64 0, .int .i64 0], .int .i64 0, .int .i64 10]) (by simp [results, Try.results48, go_sem, hc1]) rfl ⟨rfl, ?_⟩
  repeat (first | with_reducible exact HB.out | with_reducible assumption | refine Below.setCell ?_ (by first | omega | (simp; done) | (simp; omega)) _ | exact bl_then HB.out (by omega) (by assumption) | refine Below.drew ?_ | refine bl_alloc ?_ _)

set_option maxHeartbeats 2000000 in
set_option maxRecDepth 100000 in
theorem p_Use_far1b (a b c d : Int) (y l x : Int) (h : tokOk ⟨2, y, l, x, 1⟩) (hd : 67108864 < b) (w : World) :
    Calls Try.prog 48 #[.agg #[.int .i64 a, .int .i64 b, .int .i64 c, .int .i64 d], tokV ⟨2, y, l, x, 1⟩] w fun e w' => e = .returned (.tuple #[.agg #[.int .i64 0, .int .i64 0, .int .i64 0, .int .i64 0], .int .i64 0, .int .i64 10]) ∧ Below w.heap.size w w' := by
  unfold tokV
  have HC := Lib.hid (show tokCheck ⟨2, y, l, x, 1⟩ = 0 from if_pos h)
  have hd' : ¬ b < 1 := by omega
  clear h
  go_enter Try.func48, Try.ntmps48
  go_wp2_with fail
  refine (p_Check' _ _ _ _ _ _).mono ?_
  rintro e w1 ⟨rfl, hb1⟩
  obtain ⟨hc1, hf1⟩ := bcell hb1
  have hz1 : w.heap.size + 1 + 1 < w1.heap.size := by have := hb1.size; simp at this; omega
  have hz2 : w.heap.size + 1 < w1.heap.size := by omega
  have hz3 : w.heap.size < w1.heap.size := by omega
  have HB := Lib.hid (bl_then (bl_alloc (bl_alloc (bl_alloc (Below.refl w.heap.size w) _) _) _) (by simp; omega) hb1)
  clear hb1
  rw [HC.out]
  go_wp2
  refine bodyPost_ret (v := .tuple #[.agg #[.int .i64 0, .int .i64 0, .int .i64 0, .int .i64 0], .int .i64 0, .int .i64 10]) (by simp [results, Try.results48, go_sem, hc1]) rfl ⟨rfl, ?_⟩
  repeat (first | with_reducible exact HB.out | with_reducible assumption | refine Below.setCell ?_ (by first | omega | (simp; done) | (simp; omega)) _ | exact bl_then HB.out (by omega) (by assumption) | refine Below.drew ?_ | refine bl_alloc ?_ _)

set_option maxHeartbeats 2000000 in
set_option maxRecDepth 100000 in
theorem p_Use_rep1 (a b c d : Int) (y l x : Int) (h : tokOk ⟨2, y, l, x, 1⟩) (h1 : 1 ≤ b) (h2 : b ≤ 67108864) (w : World) :
    Calls Try.prog 48 #[.agg #[.int .i64 a, .int .i64 b, .int .i64 c, .int .i64 d], tokV ⟨2, y, l, x, 1⟩] w fun e w' => e = .returned (.tuple #[.agg #[.int .i64 b, .int .i64 a, .int .i64 c, .int .i64 d], .int .i64 b, .int .i64 0]) ∧ Below w.heap.size w w' := by
  unfold tokV
  have HC := Lib.hid (show tokCheck ⟨2, y, l, x, 1⟩ = 0 from if_pos h)
  clear h
  go_enter Try.func48, Try.ntmps48
  go_wp2_with fail
  refine (p_Check' _ _ _ _ _ _).mono ?_
  rintro e w1 ⟨rfl, hb1⟩
  obtain ⟨hc1, hf1⟩ := bcell hb1
  have hz1 : w.heap.size + 1 + 1 < w1.heap.size := by have := hb1.size; simp at this; omega
  have hz2 : w.heap.size + 1 < w1.heap.size := by omega
  have hz3 : w.heap.size < w1.heap.size := by omega
  have HB := Lib.hid (bl_then (bl_alloc (bl_alloc (bl_alloc (Below.refl w.heap.size w) _) _) _) (by simp; omega) hb1)
  clear hb1
  rw [HC.out]
  go_wp2_with fail
  have HR : Hid (∀ w', Below w1.heap.size w1 w' → w'.cell? ⟨w.heap.size + 1 + 1, 0, none⟩ = some (.int .i64 0) ∧ w'.cell? ⟨w.heap.size + 1 + 1, 1, none⟩ = some (.int .i64 0) ∧ w'.cell? ⟨w.heap.size + 1 + 1, 2, none⟩ = some (.int .i64 0) ∧ w'.cell? ⟨w.heap.size + 1 + 1, 3, none⟩ = some (.int .i64 0) ∧ w'.frozen? ⟨w.heap.size + 1 + 1, 0, none⟩ = false ∧ w'.frozen? ⟨w.heap.size + 1 + 1, 1, none⟩ = false ∧ w'.frozen? ⟨w.heap.size + 1 + 1, 2, none⟩ = false ∧ w'.frozen? ⟨w.heap.size + 1 + 1, 3, none⟩ = false) :=
    fun w' hb => ⟨(hb.cell hz1).trans (by go_simp), (hb.cell hz1).trans (by go_simp), (hb.cell hz1).trans (by go_simp), (hb.cell hz1).trans (by go_simp), (hb.frozen hz1).trans (by go_simp), (hb.frozen hz1).trans (by go_simp), (hb.frozen hz1).trans (by go_simp), (hb.frozen hz1).trans (by go_simp)⟩
  refine (p_ahead1 _ _ _ _ _ _).mono ?_
  rintro e w2 ⟨rfl, hb3⟩
  obtain ⟨g0, g1, g2, g3, g4, g5, g6, g7⟩ := HR.out _ hb3
  go_wp2
  refine bodyPost_ret (v := .tuple #[.agg #[.int .i64 b, .int .i64 a, .int .i64 c, .int .i64 d], .int .i64 b, .int .i64 0]) (by simp [results, Try.results48, go_sem, g0, g1, g2, g3, g4, g5, g6, g7]) rfl ⟨rfl, ?_⟩
  repeat (first | with_reducible exact HB.out | with_reducible assumption | refine Below.setCell ?_ (by first | omega | (simp; done) | (simp; omega)) _ | exact bl_then HB.out (by omega) (by assumption) | refine Below.drew ?_ | refine bl_alloc ?_ _)

set_option maxHeartbeats 2000000 in
set_option maxRecDepth 100000 in
theorem p_Use_far2a (a b c d : Int) (y l x : Int) (h : tokOk ⟨2, y, l, x, 2⟩) (hd : c < 1) (w : World) :
    Calls Try.prog 48 #[.agg #[.int .i64 a, .int .i64 b, .int .i64 c, .int .i64 d], tokV ⟨2, y, l, x, 2⟩] w fun e w' => e = .returned (.tuple #[.agg #[.int .i64 0, .int .i64 0, .int .i64 0, .int .i64 0], .int .i64 0, .int .i64 10]) ∧ Below w.heap.size w w' := by
  unfold tokV
  have HC := Lib.hid (show tokCheck ⟨2, y, l, x, 2⟩ = 0 from if_pos h)
  skip
  clear h
  go_enter Try.func48, Try.ntmps48
  go_wp2_with fail
  refine (p_Check' _ _ _ _ _ _).mono ?_
  rintro e w1 ⟨rfl, hb1⟩
  obtain ⟨hc1, hf1⟩ := bcell hb1
  have hz1 : w.heap.size + 1 + 1 < w1.heap.size := by have := hb1.size; simp at this; omega
  have hz2 : w.heap.size + 1 < w1.heap.size := by omega
  have hz3 : w.heap.size < w1.heap.size := by omega
  have HB := Lib.hid (bl_then (bl_alloc (bl_alloc (bl_alloc (Below.refl w.heap.size w) _) _) _) (by simp; omega) hb1)
  clear hb1
  rw [HC.out]
  go_wp2
  refine bodyPost_ret (v := .tuple #[.agg #[.int .i64 0, .int .i64 0, .int .i64 0, .int .i64 0], .int .i64 0, .int .i64 10]) (by simp [results, Try.results48, go_sem, hc1]) rfl ⟨rfl, ?_⟩
  repeat (first | with_reducible exact HB.out | with_reducible assumption | refine Below.setCell ?_ (by first | omega | (simp; done) | (simp; omega)) _ | exact bl_then HB.out (by omega) (by assumption) | refine Below.drew ?_ | refine bl_alloc ?_ _)

set_option maxHeartbeats 2000000 in
set_option maxRecDepth 100000 in
theorem p_Use_far2b (a b c d : Int) (y l x : Int) (h : tokOk ⟨2, y, l, x, 2⟩) (hd : 67108864 < c) (w : World) :
    Calls Try.prog 48 #[.agg #[.int .i64 a, .int .i64 b, .int .i64 c, .int .i64 d], tokV ⟨2, y, l, x, 2⟩] w fun e w' => e = .returned (.tuple #[.agg #[.int .i64 0, .int .i64 0, .int .i64 0, .int .i64 0], .int .i64 0, .int .i64 10]) ∧ Below w.heap.size w w' := by
  unfold tokV
  have HC := Lib.hid (show tokCheck ⟨2, y, l, x, 2⟩ = 0 from if_pos h)
  have hd' : ¬ c < 1 := by omega
  clear h
  go_enter Try.func48, Try.ntmps48
  go_wp2_with fail
  refine (p_Check' _ _ _ _ _ _).mono ?_
  rintro e w1 ⟨rfl, hb1⟩
  obtain ⟨hc1, hf1⟩ := bcell hb1
  have hz1 : w.heap.size + 1 + 1 < w1.heap.size := by have := hb1.size; simp at this; omega
  have hz2 : w.heap.size + 1 < w1.heap.size := by omega
  have hz3 : w.heap.size < w1.heap.size := by omega
  have HB := Lib.hid (bl_then (bl_alloc (bl_alloc (bl_alloc (Below.refl w.heap.size w) _) _) _) (by simp; omega) hb1)
  clear hb1
  rw [HC.out]
  go_wp2
  refine bodyPost_ret (v := .tuple #[.agg #[.int .i64 0, .int .i64 0, .int .i64 0, .int .i64 0], .int .i64 0, .int .i64 10]) (by simp [results, Try.results48, go_sem, hc1]) rfl ⟨rfl, ?_⟩
  repeat (first | with_reducible exact HB.out | with_reducible assumption | refine Below.setCell ?_ (by first | omega | (simp; done) | (simp; omega)) _ | exact bl_then HB.out (by omega) (by assumption) | refine Below.drew ?_ | refine bl_alloc ?_ _)

set_option maxHeartbeats 2000000 in
set_option maxRecDepth 100000 in
theorem p_Use_rep2 (a b c d : Int) (y l x : Int) (h : tokOk ⟨2, y, l, x, 2⟩) (h1 : 1 ≤ c) (h2 : c ≤ 67108864) (w : World) :
    Calls Try.prog 48 #[.agg #[.int .i64 a, .int .i64 b, .int .i64 c, .int .i64 d], tokV ⟨2, y, l, x, 2⟩] w fun e w' => e = .returned (.tuple #[.agg #[.int .i64 c, .int .i64 a, .int .i64 b, .int .i64 d], .int .i64 c, .int .i64 0]) ∧ Below w.heap.size w w' := by
  unfold tokV
  have HC := Lib.hid (show tokCheck ⟨2, y, l, x, 2⟩ = 0 from if_pos h)
  clear h
  go_enter Try.func48, Try.ntmps48
  go_wp2_with fail
  refine (p_Check' _ _ _ _ _ _).mono ?_
  rintro e w1 ⟨rfl, hb1⟩
  obtain ⟨hc1, hf1⟩ := bcell hb1
  have hz1 : w.heap.size + 1 + 1 < w1.heap.size := by have := hb1.size; simp at this; omega
  have hz2 : w.heap.size + 1 < w1.heap.size := by omega
  have hz3 : w.heap.size < w1.heap.size := by omega
  have HB := Lib.hid (bl_then (bl_alloc (bl_alloc (bl_alloc (Below.refl w.heap.size w) _) _) _) (by simp; omega) hb1)
  clear hb1
  rw [HC.out]
  go_wp2_with fail
  have HR : Hid (∀ w', Below w1.heap.size w1 w' → w'.cell? ⟨w.heap.size + 1 + 1, 0, none⟩ = some (.int .i64 0) ∧ w'.cell? ⟨w.heap.size + 1 + 1, 1, none⟩ = some (.int .i64 0) ∧ w'.cell? ⟨w.heap.size + 1 + 1, 2, none⟩ = some (.int .i64 0) ∧ w'.cell? ⟨w.heap.size + 1 + 1, 3, none⟩ = some (.int .i64 0) ∧ w'.frozen? ⟨w.heap.size + 1 + 1, 0, none⟩ = false ∧ w'.frozen? ⟨w.heap.size + 1 + 1, 1, none⟩ = false ∧ w'.frozen? ⟨w.heap.size + 1 + 1, 2, none⟩ = false ∧ w'.frozen? ⟨w.heap.size + 1 + 1, 3, none⟩ = false) :=
    fun w' hb => ⟨(hb.cell hz1).trans (by go_simp), (hb.cell hz1).trans (by go_simp), (hb.cell hz1).trans (by go_simp), (hb.cell hz1).trans (by go_simp), (hb.frozen hz1).trans (by go_simp), (hb.frozen hz1).trans (by go_simp), (hb.frozen hz1).trans (by go_simp), (hb.frozen hz1).trans (by go_simp)⟩
  refine (p_ahead2 _ _ _ _ _ _).mono ?_
  rintro e w2 ⟨rfl, hb3⟩
  obtain ⟨g0, g1, g2, g3, g4, g5, g6, g7⟩ := HR.out _ hb3
  go_wp2
  refine bodyPost_ret (v := .tuple #[.agg #[.int .i64 c, .int .i64 a, .int .i64 b, .int .i64 d], .int .i64 c, .int .i64 0]) (by simp [results, Try.results48, go_sem, g0, g1, g2, g3, g4, g5, g6, g7]) rfl ⟨rfl, ?_⟩
  repeat (first | with_reducible exact HB.out | with_reducible assumption | refine Below.setCell ?_ (by first | omega | (simp; done) | (simp; omega)) _ | exact bl_then HB.out (by omega) (by assumption) | refine Below.drew ?_ | refine bl_alloc ?_ _)

set_option maxHeartbeats 2000000 in
set_option maxRecDepth 100000 in
theorem p_Use_far3a (a b c d : Int) (y l x : Int) (h : tokOk ⟨2, y, l, x, 3⟩) (hd : d < 1) (w : World) :
    Calls Try.prog 48 #[.agg #[.int .i64 a, .int .i64 b, .int .i64 c, .int .i64 d], tokV ⟨2, y, l, x, 3⟩] w fun e w' => e = .returned (.tuple #[.agg #[.int .i64 0, .int .i64 0, .int .i64 0, .int .i64 0], .int .i64 0, .int .i64 10]) ∧ Below w.heap.size w w' := by
  unfold tokV
  have HC := Lib.hid (show tokCheck ⟨2, y, l, x, 3⟩ = 0 from if_pos h)
  skip
  clear h
  go_enter Try.func48, Try.ntmps48
  go_wp2_with fail
  refine (p_Check' _ _ _ _ _ _).mono ?_
  rintro e w1 ⟨rfl, hb1⟩
  obtain ⟨hc1, hf1⟩ := bcell hb1
  have hz1 : w.heap.size + 1 + 1 < w1.heap.size := by have := hb1.size; simp at this; omega
  have hz2 : w.heap.size + 1 < w1.heap.size := by omega
  have hz3 : w.heap.size < w1.heap.size := by omega
  have HB := Lib.hid (bl_then (bl_alloc (bl_alloc (bl_alloc (Below.refl w.heap.size w) _) _) _) (by simp; omega) hb1)
  clear hb1
  rw [HC.out]
  go_wp2
  refine bodyPost_ret (v := .tuple #[.agg #[.int .i64 0, .int .i64 0, .int .i64 0, .int .i64 0], .int .i64 0, .int .i64 10]) (by simp [results, Try.results48, go_sem, hc1]) rfl ⟨rfl, ?_⟩
  repeat (first | with_reducible exact HB.out | with_reducible assumption | refine Below.setCell ?_ (by first | omega | (simp; done) | (simp; omega)) _ | exact bl_then HB.out (by omega) (by assumption) | refine Below.drew ?_ | refine bl_alloc ?_ _)

set_option maxHeartbeats 2000000 in
set_option maxRecDepth 100000 in
theorem p_Use_far3b (a b c d : Int) (y l x : Int) (h : tokOk ⟨2, y, l, x, 3⟩) (hd : 67108864 < d) (w : World) :
    Calls Try.prog 48 #[.agg #[.int .i64 a, .int .i64 b, .int .i64 c, .int .i64 d], tokV ⟨2, y, l, x, 3⟩] w fun e w' => e = .returned (.tuple #[.agg #[.int .i64 0, .int .i64 0, .int .i64 0, .int .i64 0], .int .i64 0, .int .i64 10]) ∧ Below w.heap.size w w' := by
  unfold tokV
  have HC := Lib.hid (show tokCheck ⟨2, y, l, x, 3⟩ = 0 from if_pos h)
  have hd' : ¬ d < 1 := by omega
  clear h
  go_enter Try.func48, Try.ntmps48
  go_wp2_with fail
  refine (p_Check' _ _ _ _ _ _).mono ?_
  rintro e w1 ⟨rfl, hb1⟩
  obtain ⟨hc1, hf1⟩ := bcell hb1
  have hz1 : w.heap.size + 1 + 1 < w1.heap.size := by have := hb1.size; simp at this; omega
  have hz2 : w.heap.size + 1 < w1.heap.size := by omega
  have hz3 : w.heap.size < w1.heap.size := by omega
  have HB := Lib.hid (bl_then (bl_alloc (bl_alloc (bl_alloc (Below.refl w.heap.size w) _) _) _) (by simp; omega) hb1)
  clear hb1
  rw [HC.out]
  go_wp2
  refine bodyPost_ret (v := .tuple #[.agg #[.int .i64 0, .int .i64 0, .int .i64 0, .int .i64 0], .int .i64 0, .int .i64 10]) (by simp [results, Try.results48, go_sem, hc1]) rfl ⟨rfl, ?_⟩
  repeat (first | with_reducible exact HB.out | with_reducible assumption | refine Below.setCell ?_ (by first | omega | (simp; done) | (simp; omega)) _ | exact bl_then HB.out (by omega) (by assumption) | refine Below.drew ?_ | refine bl_alloc ?_ _)

set_option maxHeartbeats 2000000 in
set_option maxRecDepth 100000 in
theorem p_Use_rep3 (a b c d : Int) (y l x : Int) (h : tokOk ⟨2, y, l, x, 3⟩) (h1 : 1 ≤ d) (h2 : d ≤ 67108864) (w : World) :
    Calls Try.prog 48 #[.agg #[.int .i64 a, .int .i64 b, .int .i64 c, .int .i64 d], tokV ⟨2, y, l, x, 3⟩] w fun e w' => e = .returned (.tuple #[.agg #[.int .i64 d, .int .i64 a, .int .i64 b, .int .i64 c], .int .i64 d, .int .i64 0]) ∧ Below w.heap.size w w' := by
  unfold tokV
  have HC := Lib.hid (show tokCheck ⟨2, y, l, x, 3⟩ = 0 from if_pos h)
  clear h
  go_enter Try.func48, Try.ntmps48
  go_wp2_with fail
  refine (p_Check' _ _ _ _ _ _).mono ?_
  rintro e w1 ⟨rfl, hb1⟩
  obtain ⟨hc1, hf1⟩ := bcell hb1
  have hz1 : w.heap.size + 1 + 1 < w1.heap.size := by have := hb1.size; simp at this; omega
  have hz2 : w.heap.size + 1 < w1.heap.size := by omega
  have hz3 : w.heap.size < w1.heap.size := by omega
  have HB := Lib.hid (bl_then (bl_alloc (bl_alloc (bl_alloc (Below.refl w.heap.size w) _) _) _) (by simp; omega) hb1)
  clear hb1
  rw [HC.out]
  go_wp2_with fail
  have HR : Hid (∀ w', Below w1.heap.size w1 w' → w'.cell? ⟨w.heap.size + 1 + 1, 0, none⟩ = some (.int .i64 0) ∧ w'.cell? ⟨w.heap.size + 1 + 1, 1, none⟩ = some (.int .i64 0) ∧ w'.cell? ⟨w.heap.size + 1 + 1, 2, none⟩ = some (.int .i64 0) ∧ w'.cell? ⟨w.heap.size + 1 + 1, 3, none⟩ = some (.int .i64 0) ∧ w'.frozen? ⟨w.heap.size + 1 + 1, 0, none⟩ = false ∧ w'.frozen? ⟨w.heap.size + 1 + 1, 1, none⟩ = false ∧ w'.frozen? ⟨w.heap.size + 1 + 1, 2, none⟩ = false ∧ w'.frozen? ⟨w.heap.size + 1 + 1, 3, none⟩ = false) :=
    fun w' hb => ⟨(hb.cell hz1).trans (by go_simp), (hb.cell hz1).trans (by go_simp), (hb.cell hz1).trans (by go_simp), (hb.cell hz1).trans (by go_simp), (hb.frozen hz1).trans (by go_simp), (hb.frozen hz1).trans (by go_simp), (hb.frozen hz1).trans (by go_simp), (hb.frozen hz1).trans (by go_simp)⟩
  refine (p_ahead3 _ _ _ _ _ _).mono ?_
  rintro e w2 ⟨rfl, hb3⟩
  obtain ⟨g0, g1, g2, g3, g4, g5, g6, g7⟩ := HR.out _ hb3
  go_wp2
  refine bodyPost_ret (v := .tuple #[.agg #[.int .i64 d, .int .i64 a, .int .i64 b, .int .i64 c], .int .i64 d, .int .i64 0]) (by simp [results, Try.results48, go_sem, g0, g1, g2, g3, g4, g5, g6, g7]) rfl ⟨rfl, ?_⟩
  repeat (first | with_reducible exact HB.out | with_reducible assumption | refine Below.setCell ?_ (by first | omega | (simp; done) | (simp; omega)) _ | exact bl_then HB.out (by omega) (by assumption) | refine Below.drew ?_ | refine bl_alloc ?_ _)

set_option maxHeartbeats 2000000 in
set_option maxRecDepth 100000 in
theorem r_Use_bad (a b c d : Int) (t : Tok) (h : ¬ tokOk t) (w : World) :
    Calls Try.prog 28 #[.agg #[.int .i64 a, .int .i64 b, .int .i64 c, .int .i64 d], tokV t] w fun e w' => e = .returned (.tuple #[.agg #[.int .i64 0, .int .i64 0, .int .i64 0, .int .i64 0], .int .i64 0, .int .i64 10]) ∧ Below w.heap.size w w' := by
  obtain ⟨k, y, l, x, i⟩ := t
  unfold tokV
  have HC := Lib.hid (show tokCheck ⟨k, y, l, x, i⟩ = 10 from if_neg h)
  clear h
  go_enter Try.func28, Try.ntmps28
  go_wp2_with fail
  refine (r_Check' _ _ _ _ _ _).mono ?_
  rintro e w1 ⟨rfl, hb1⟩
  obtain ⟨hc1, hf1⟩ := bcell hb1
  have hz1 : w.heap.size + 1 + 1 < w1.heap.size := by have := hb1.size; simp at this; omega
  have hz2 : w.heap.size + 1 < w1.heap.size := by omega
  have hz3 : w.heap.size < w1.heap.size := by omega
  have HB := Lib.hid (bl_then (bl_alloc (bl_alloc (bl_alloc (Below.refl w.heap.size w) _) _) _) (by simp; omega) hb1)
  clear hb1
  rw [HC.out]
  go_wp2
  refine bodyPost_ret (v := .tuple #[.agg #[.int .i64 0, .int .i64 0, .int .i64 0, .int .i64 0], .int .i64 0, .int .i64 10]) (by simp [results, Try.results28, go_sem, hc1]) rfl ⟨rfl, ?_⟩
  repeat (first | with_reducible exact HB.out | with_reducible assumption | refine Below.setCell ?_ (by first | omega | (simp; done) | (simp; omega)) _ | exact bl_then HB.out (by omega) (by assumption) | refine Below.drew ?_ | refine bl_alloc ?_ _)

set_option maxHeartbeats 2000000 in
set_option maxRecDepth 100000 in
theorem r_Use_lit (a b c d : Int) (y l x i : Int) (h : tokOk ⟨0, y, l, x, i⟩) (w : World) :
    Calls Try.prog 28 #[.agg #[.int .i64 a, .int .i64 b, .int .i64 c, .int .i64 d], tokV ⟨0, y, l, x, i⟩] w fun e w' => e = .returned (.tuple #[.agg #[.int .i64 a, .int .i64 b, .int .i64 c, .int .i64 d], .int .i64 0, .int .i64 0]) ∧ Below w.heap.size w w' := by
  unfold tokV
  have HC := Lib.hid (show tokCheck ⟨0, y, l, x, i⟩ = 0 from if_pos h)
  clear h
  go_enter Try.func28, Try.ntmps28
  go_wp2_with fail
  refine (r_Check' _ _ _ _ _ _).mono ?_
  rintro e w1 ⟨rfl, hb1⟩
  obtain ⟨hc1, hf1⟩ := bcell hb1
  have hz1 : w.heap.size + 1 + 1 < w1.heap.size := by have := hb1.size; simp at this; omega
  have hz2 : w.heap.size + 1 < w1.heap.size := by omega
  have hz3 : w.heap.size < w1.heap.size := by omega
  have HB := Lib.hid (bl_then (bl_alloc (bl_alloc (bl_alloc (Below.refl w.heap.size w) _) _) _) (by simp; omega) hb1)
  clear hb1
  rw [HC.out]
  go_wp2
  refine bodyPost_ret (v := .tuple #[.agg #[.int .i64 a, .int .i64 b, .int .i64 c, .int .i64 d], .int .i64 0, .int .i64 0]) (by simp [results, Try.results28, go_sem, hc1]) rfl ⟨rfl, ?_⟩
  repeat (first | with_reducible exact HB.out | with_reducible assumption | refine Below.setCell ?_ (by first | omega | (simp; done) | (simp; omega)) _ | exact bl_then HB.out (by omega) (by assumption) | refine Below.drew ?_ | refine bl_alloc ?_ _)

set_option maxHeartbeats 2000000 in
set_option maxRecDepth 100000 in
theorem r_Use_copy (a b c d : Int) (y l x i : Int) (h : tokOk ⟨1, y, l, x, i⟩) (w : World) :
    Calls Try.prog 28 #[.agg #[.int .i64 a, .int .i64 b, .int .i64 c, .int .i64 d], tokV ⟨1, y, l, x, i⟩] w fun e w' => e = .returned (.tuple #[.agg #[.int .i64 x, .int .i64 a, .int .i64 b, .int .i64 c], .int .i64 x, .int .i64 0]) ∧ Below w.heap.size w w' := by
  unfold tokV
  have HC := Lib.hid (show tokCheck ⟨1, y, l, x, i⟩ = 0 from if_pos h)
  clear h
  go_enter Try.func28, Try.ntmps28
  go_wp2_with fail
  refine (r_Check' _ _ _ _ _ _).mono ?_
  rintro e w1 ⟨rfl, hb1⟩
  obtain ⟨hc1, hf1⟩ := bcell hb1
  have hz1 : w.heap.size + 1 + 1 < w1.heap.size := by have := hb1.size; simp at this; omega
  have hz2 : w.heap.size + 1 < w1.heap.size := by omega
  have hz3 : w.heap.size < w1.heap.size := by omega
  have HB := Lib.hid (bl_then (bl_alloc (bl_alloc (bl_alloc (Below.refl w.heap.size w) _) _) _) (by simp; omega) hb1)
  clear hb1
  rw [HC.out]
  go_wp2_with fail
  go_region
  all_goals go_wp2
  all_goals refine bodyPost_ret (v := .tuple #[.agg #[.int .i64 x, .int .i64 a, .int .i64 b, .int .i64 c], .int .i64 x, .int .i64 0]) (by simp [results, Try.results28, go_sem, hc1]) rfl ⟨rfl, ?_⟩
  all_goals (repeat (first | with_reducible exact HB.out | with_reducible assumption | refine Below.setCell ?_ (by first | omega | (simp; done) | (simp; omega)) _ | exact bl_then HB.out (by omega) (by assumption) | refine Below.drew ?_ | refine bl_alloc ?_ _))

set_option maxHeartbeats 2000000 in
set_option maxRecDepth 100000 in
theorem r_Use_far0a (a b c d : Int) (y l x : Int) (h : tokOk ⟨2, y, l, x, 0⟩) (hd : a < 1) (w : World) :
    Calls Try.prog 28 #[.agg #[.int .i64 a, .int .i64 b, .int .i64 c, .int .i64 d], tokV ⟨2, y, l, x, 0⟩] w fun e w' => e = .returned (.tuple #[.agg #[.int .i64 0, .int .i64 0, .int .i64 0, .int .i64 0], .int .i64 0, .int .i64 10]) ∧ Below w.heap.size w w' := by
  unfold tokV
  have HC := Lib.hid (show tokCheck ⟨2, y, l, x, 0⟩ = 0 from if_pos h)
  skip
  clear h
  go_enter Try.func28, Try.ntmps28
  go_wp2_with fail
  refine (r_Check' _ _ _ _ _ _).mono ?_
  rintro e w1 ⟨rfl, hb1⟩
  obtain ⟨hc1, hf1⟩ := bcell hb1
  have hz1 : w.heap.size + 1 + 1 < w1.heap.size := by have := hb1.size; simp at this; omega
  have hz2 : w.heap.size + 1 < w1.heap.size := by omega
  have hz3 : w.heap.size < w1.heap.size := by omega
  have HB := Lib.hid (bl_then (bl_alloc (bl_alloc (bl_alloc (Below.refl w.heap.size w) _) _) _) (by simp; omega) hb1)
  clear hb1
  rw [HC.out]
  go_wp2
  refine bodyPost_ret (v := .tuple #[.agg #[.int .i64 0, .int .i64 0, .int .i64 0, .int .i64 0], .int .i64 0, .int .i64 10]) (by simp [results, Try.results28, go_sem, hc1]) rfl ⟨rfl, ?_⟩
  repeat (first | with_reducible exact HB.out | with_reducible assumption | refine Below.setCell ?_ (by first | omega | (simp; done) | (simp; omega)) _ | exact bl_then HB.out (by omega) (by assumption) | refine Below.drew ?_ | refine bl_alloc ?_ _)

set_option maxHeartbeats 2000000 in
set_option maxRecDepth 100000 in
theorem r_Use_far0b (a b c d : Int) (y l x : Int) (h : tokOk ⟨2, y, l, x, 0⟩) (hd : 67108864 < a) (w : World) :
    Calls Try.prog 28 #[.agg #[.int .i64 a, .int .i64 b, .int .i64 c, .int .i64 d], tokV ⟨2, y, l, x, 0⟩] w fun e w' => e = .returned (.tuple #[.agg #[.int .i64 0, .int .i64 0, .int .i64 0, .int .i64 0], .int .i64 0, .int .i64 10]) ∧ Below w.heap.size w w' := by
  unfold tokV
  have HC := Lib.hid (show tokCheck ⟨2, y, l, x, 0⟩ = 0 from if_pos h)
  have hd' : ¬ a < 1 := by omega
  clear h
  go_enter Try.func28, Try.ntmps28
  go_wp2_with fail
  refine (r_Check' _ _ _ _ _ _).mono ?_
  rintro e w1 ⟨rfl, hb1⟩
  obtain ⟨hc1, hf1⟩ := bcell hb1
  have hz1 : w.heap.size + 1 + 1 < w1.heap.size := by have := hb1.size; simp at this; omega
  have hz2 : w.heap.size + 1 < w1.heap.size := by omega
  have hz3 : w.heap.size < w1.heap.size := by omega
  have HB := Lib.hid (bl_then (bl_alloc (bl_alloc (bl_alloc (Below.refl w.heap.size w) _) _) _) (by simp; omega) hb1)
  clear hb1
  rw [HC.out]
  go_wp2
  refine bodyPost_ret (v := .tuple #[.agg #[.int .i64 0, .int .i64 0, .int .i64 0, .int .i64 0], .int .i64 0, .int .i64 10]) (by simp [results, Try.results28, go_sem, hc1]) rfl ⟨rfl, ?_⟩
  repeat (first | with_reducible exact HB.out | with_reducible assumption | refine Below.setCell ?_ (by first | omega | (simp; done) | (simp; omega)) _ | exact bl_then HB.out (by omega) (by assumption) | refine Below.drew ?_ | refine bl_alloc ?_ _)

set_option maxHeartbeats 2000000 in
set_option maxRecDepth 100000 in
theorem r_Use_rep0 (a b c d : Int) (y l x : Int) (h : tokOk ⟨2, y, l, x, 0⟩) (h1 : 1 ≤ a) (h2 : a ≤ 67108864) (w : World) :
    Calls Try.prog 28 #[.agg #[.int .i64 a, .int .i64 b, .int .i64 c, .int .i64 d], tokV ⟨2, y, l, x, 0⟩] w fun e w' => e = .returned (.tuple #[.agg #[.int .i64 a, .int .i64 b, .int .i64 c, .int .i64 d], .int .i64 a, .int .i64 0]) ∧ Below w.heap.size w w' := by
  unfold tokV
  have HC := Lib.hid (show tokCheck ⟨2, y, l, x, 0⟩ = 0 from if_pos h)
  clear h
  go_enter Try.func28, Try.ntmps28
  go_wp2_with fail
  refine (r_Check' _ _ _ _ _ _).mono ?_
  rintro e w1 ⟨rfl, hb1⟩
  obtain ⟨hc1, hf1⟩ := bcell hb1
  have hz1 : w.heap.size + 1 + 1 < w1.heap.size := by have := hb1.size; simp at this; omega
  have hz2 : w.heap.size + 1 < w1.heap.size := by omega
  have hz3 : w.heap.size < w1.heap.size := by omega
  have HB := Lib.hid (bl_then (bl_alloc (bl_alloc (bl_alloc (Below.refl w.heap.size w) _) _) _) (by simp; omega) hb1)
  clear hb1
  rw [HC.out]
  go_wp2
  go_rounds 5
  refine bodyPost_ret (v := .tuple #[.agg #[.int .i64 a, .int .i64 b, .int .i64 c, .int .i64 d], .int .i64 a, .int .i64 0]) (by simp [results, Try.results28, go_sem, hc1, hz1, hz2, hz3, Nat.ne_of_lt hz1, Nat.ne_of_gt hz1]) rfl ⟨rfl, ?_⟩
  repeat (first | with_reducible exact HB.out | with_reducible assumption | refine Below.setCell ?_ (by first | omega | (simp; done) | (simp; omega)) _ | exact bl_then HB.out (by omega) (by assumption) | refine Below.drew ?_ | refine bl_alloc ?_ _)

set_option maxHeartbeats 2000000 in
set_option maxRecDepth 100000 in
theorem r_Use_far1a (a b c d : Int) (y l x : Int) (h : tokOk ⟨2, y, l, x, 1⟩) (hd : b < 1) (w : World) :
    Calls Try.prog 28 #[.agg #[.int .i64 a, .int .i64 b, .int .i64 c, .int .i64 d], tokV ⟨2, y, l, x, 1⟩] w fun e w' => e = .returned (.tuple #[.agg #[.int .i64 0, .int .i64 0, .int .i64 0, .int .i64 0], .int .i64 0, .int .i64 10]) ∧ Below w.heap.size w w' := by
  unfold tokV
  have HC := Lib.hid (show tokCheck ⟨2, y, l, x, 1⟩ = 0 from if_pos h)
  skip
  clear h
  go_enter Try.func28, Try.ntmps28
  go_wp2_with fail
  refine (r_Check' _ _ _ _ _ _).mono ?_
  rintro e w1 ⟨rfl, hb1⟩
  obtain ⟨hc1, hf1⟩ := bcell hb1
  have hz1 : w.heap.size + 1 + 1 < w1.heap.size := by have := hb1.size; simp at this; omega
  have hz2 : w.heap.size + 1 < w1.heap.size := by omega
  have hz3 : w.heap.size < w1.heap.size := by omega
  have HB := Lib.hid (bl_then (bl_alloc (bl_alloc (bl_alloc (Below.refl w.heap.size w) _) _) _) (by simp; omega) hb1)
  clear hb1
  rw [HC.out]
  go_wp2
  refine bodyPost_ret (v := .tuple #[.agg #[.int .i64 0, .int .i64 0, .int .i64 0, .int .i64 0], .int .i64 0, .int .i64 10]) (by simp [results, Try.results28, go_sem, hc1]) rfl ⟨rfl, ?_⟩
  repeat (first | with_reducible exact HB.out | with_reducible assumption | refine Below.setCell ?_ (by first | omega | (simp; done) | (simp; omega)) _ | exact bl_then HB.out (by omega) (by assumption) | refine Below.drew ?_ | refine bl_alloc ?_ _)

set_option maxHeartbeats 2000000 in
set_option maxRecDepth 100000 in
theorem r_Use_far1b (a b c d : Int) (y l x : Int) (h : tokOk ⟨2, y, l, x, 1⟩) (hd : 67108864 < b) (w : World) :
    Calls Try.prog 28 #[.agg #[.int .i64 a, .int .i64 b, .int .i64 c, .int .i64 d], tokV ⟨2, y, l, x, 1⟩] w fun e w' => e = .returned (.tuple #[.agg #[.int .i64 0, .int .i64 0, .int .i64 0, .int .i64 0], .int .i64 0, .int .i64 10]) ∧ Below w.heap.size w w' := by
  unfold tokV
  have HC := Lib.hid (show tokCheck ⟨2, y, l, x, 1⟩ = 0 from if_pos h)
  have hd' : ¬ b < 1 := by omega
  clear h
  go_enter Try.func28, Try.ntmps28
  go_wp2_with fail
  refine (r_Check' _ _ _ _ _ _).mono ?_
  rintro e w1 ⟨rfl, hb1⟩
  obtain ⟨hc1, hf1⟩ := bcell hb1
  have hz1 : w.heap.size + 1 + 1 < w1.heap.size := by have := hb1.size; simp at this; omega
  have hz2 : w.heap.size + 1 < w1.heap.size := by omega
  have hz3 : w.heap.size < w1.heap.size := by omega
  have HB := Lib.hid (bl_then (bl_alloc (bl_alloc (bl_alloc (Below.refl w.heap.size w) _) _) _) (by simp; omega) hb1)
  clear hb1
  rw [HC.out]
  go_wp2
  refine bodyPost_ret (v := .tuple #[.agg #[.int .i64 0, .int .i64 0, .int .i64 0, .int .i64 0], .int .i64 0, .int .i64 10]) (by simp [results, Try.results28, go_sem, hc1]) rfl ⟨rfl, ?_⟩
  repeat (first | with_reducible exact HB.out | with_reducible assumption | refine Below.setCell ?_ (by first | omega | (simp; done) | (simp; omega)) _ | exact bl_then HB.out (by omega) (by assumption) | refine Below.drew ?_ | refine bl_alloc ?_ _)

set_option maxHeartbeats 2000000 in
set_option maxRecDepth 100000 in
theorem r_Use_rep1 (a b c d : Int) (y l x : Int) (h : tokOk ⟨2, y, l, x, 1⟩) (h1 : 1 ≤ b) (h2 : b ≤ 67108864) (w : World) :
    Calls Try.prog 28 #[.agg #[.int .i64 a, .int .i64 b, .int .i64 c, .int .i64 d], tokV ⟨2, y, l, x, 1⟩] w fun e w' => e = .returned (.tuple #[.agg #[.int .i64 b, .int .i64 a, .int .i64 c, .int .i64 d], .int .i64 b, .int .i64 0]) ∧ Below w.heap.size w w' := by
  unfold tokV
  have HC := Lib.hid (show tokCheck ⟨2, y, l, x, 1⟩ = 0 from if_pos h)
  clear h
  go_enter Try.func28, Try.ntmps28
  go_wp2_with fail
  refine (r_Check' _ _ _ _ _ _).mono ?_
  rintro e w1 ⟨rfl, hb1⟩
  obtain ⟨hc1, hf1⟩ := bcell hb1
  have hz1 : w.heap.size + 1 + 1 < w1.heap.size := by have := hb1.size; simp at this; omega
  have hz2 : w.heap.size + 1 < w1.heap.size := by omega
  have hz3 : w.heap.size < w1.heap.size := by omega
  have HB := Lib.hid (bl_then (bl_alloc (bl_alloc (bl_alloc (Below.refl w.heap.size w) _) _) _) (by simp; omega) hb1)
  clear hb1
  rw [HC.out]
  go_wp2
  go_rounds 5
  refine bodyPost_ret (v := .tuple #[.agg #[.int .i64 b, .int .i64 a, .int .i64 c, .int .i64 d], .int .i64 b, .int .i64 0]) (by simp [results, Try.results28, go_sem, hc1, hz1, hz2, hz3, Nat.ne_of_lt hz1, Nat.ne_of_gt hz1]) rfl ⟨rfl, ?_⟩
  repeat (first | with_reducible exact HB.out | with_reducible assumption | refine Below.setCell ?_ (by first | omega | (simp; done) | (simp; omega)) _ | exact bl_then HB.out (by omega) (by assumption) | refine Below.drew ?_ | refine bl_alloc ?_ _)

set_option maxHeartbeats 2000000 in
set_option maxRecDepth 100000 in
theorem r_Use_far2a (a b c d : Int) (y l x : Int) (h : tokOk ⟨2, y, l, x, 2⟩) (hd : c < 1) (w : World) :
    Calls Try.prog 28 #[.agg #[.int .i64 a, .int .i64 b, .int .i64 c, .int .i64 d], tokV ⟨2, y, l, x, 2⟩] w fun e w' => e = .returned (.tuple #[.agg #[.int .i64 0, .int .i64 0, .int .i64 0, .int .i64 0], .int .i64 0, .int .i64 10]) ∧ Below w.heap.size w w' := by
  unfold tokV
  have HC := Lib.hid (show tokCheck ⟨2, y, l, x, 2⟩ = 0 from if_pos h)
  skip
  clear h
  go_enter Try.func28, Try.ntmps28
  go_wp2_with fail
  refine (r_Check' _ _ _ _ _ _).mono ?_
  rintro e w1 ⟨rfl, hb1⟩
  obtain ⟨hc1, hf1⟩ := bcell hb1
  have hz1 : w.heap.size + 1 + 1 < w1.heap.size := by have := hb1.size; simp at this; omega
  have hz2 : w.heap.size + 1 < w1.heap.size := by omega
  have hz3 : w.heap.size < w1.heap.size := by omega
  have HB := Lib.hid (bl_then (bl_alloc (bl_alloc (bl_alloc (Below.refl w.heap.size w) _) _) _) (by simp; omega) hb1)
  clear hb1
  rw [HC.out]
  go_wp2
  refine bodyPost_ret (v := .tuple #[.agg #[.int .i64 0, .int .i64 0, .int .i64 0, .int .i64 0], .int .i64 0, .int .i64 10]) (by simp [results, Try.results28, go_sem, hc1]) rfl ⟨rfl, ?_⟩
  repeat (first | with_reducible exact HB.out | with_reducible assumption | refine Below.setCell ?_ (by first | omega | (simp; done) | (simp; omega)) _ | exact bl_then HB.out (by omega) (by assumption) | refine Below.drew ?_ | refine bl_alloc ?_ _)

set_option maxHeartbeats 2000000 in
set_option maxRecDepth 100000 in
theorem r_Use_far2b (a b c d : Int) (y l x : Int) (h : tokOk ⟨2, y, l, x, 2⟩) (hd : 67108864 < c) (w : World) :
    Calls Try.prog 28 #[.agg #[.int .i64 a, .int .i64 b, .int .i64 c, .int .i64 d], tokV ⟨2, y, l, x, 2⟩] w fun e w' => e = .returned (.tuple #[.agg #[.int .i64 0, .int .i64 0, .int .i64 0, .int .i64 0], .int .i64 0, .int .i64 10]) ∧ Below w.heap.size w w' := by
  unfold tokV
  have HC := Lib.hid (show tokCheck ⟨2, y, l, x, 2⟩ = 0 from if_pos h)
  have hd' : ¬ c < 1 := by omega
  clear h
  go_enter Try.func28, Try.ntmps28
  go_wp2_with fail
  refine (r_Check' _ _ _ _ _ _).mono ?_
  rintro e w1 ⟨rfl, hb1⟩
  obtain ⟨hc1, hf1⟩ := bcell hb1
  have hz1 : w.heap.size + 1 + 1 < w1.heap.size := by have := hb1.size; simp at this; omega
  have hz2 : w.heap.size + 1 < w1.heap.size := by omega
  have hz3 : w.heap.size < w1.heap.size := by omega
  have HB := Lib.hid (bl_then (bl_alloc (bl_alloc (bl_alloc (Below.refl w.heap.size w) _) _) _) (by simp; omega) hb1)
  clear hb1
  rw [HC.out]
  go_wp2
  refine bodyPost_ret (v := .tuple #[.agg #[.int .i64 0, .int .i64 0, .int .i64 0, .int .i64 0], .int .i64 0, .int .i64 10]) (by simp [results, Try.results28, go_sem, hc1]) rfl ⟨rfl, ?_⟩
  repeat (first | with_reducible exact HB.out | with_reducible assumption | refine Below.setCell ?_ (by first | omega | (simp; done) | (simp; omega)) _ | exact bl_then HB.out (by omega) (by assumption) | refine Below.drew ?_ | refine bl_alloc ?_ _)

set_option maxHeartbeats 2000000 in
set_option maxRecDepth 100000 in
theorem r_Use_rep2 (a b c d : Int) (y l x : Int) (h : tokOk ⟨2, y, l, x, 2⟩) (h1 : 1 ≤ c) (h2 : c ≤ 67108864) (w : World) :
    Calls Try.prog 28 #[.agg #[.int .i64 a, .int .i64 b, .int .i64 c, .int .i64 d], tokV ⟨2, y, l, x, 2⟩] w fun e w' => e = .returned (.tuple #[.agg #[.int .i64 c, .int .i64 a, .int .i64 b, .int .i64 d], .int .i64 c, .int .i64 0]) ∧ Below w.heap.size w w' := by
  unfold tokV
  have HC := Lib.hid (show tokCheck ⟨2, y, l, x, 2⟩ = 0 from if_pos h)
  clear h
  go_enter Try.func28, Try.ntmps28
  go_wp2_with fail
  refine (r_Check' _ _ _ _ _ _).mono ?_
  rintro e w1 ⟨rfl, hb1⟩
  obtain ⟨hc1, hf1⟩ := bcell hb1
  have hz1 : w.heap.size + 1 + 1 < w1.heap.size := by have := hb1.size; simp at this; omega
  have hz2 : w.heap.size + 1 < w1.heap.size := by omega
  have hz3 : w.heap.size < w1.heap.size := by omega
  have HB := Lib.hid (bl_then (bl_alloc (bl_alloc (bl_alloc (Below.refl w.heap.size w) _) _) _) (by simp; omega) hb1)
  clear hb1
  rw [HC.out]
  go_wp2
  go_rounds 5
  refine bodyPost_ret (v := .tuple #[.agg #[.int .i64 c, .int .i64 a, .int .i64 b, .int .i64 d], .int .i64 c, .int .i64 0]) (by simp [results, Try.results28, go_sem, hc1, hz1, hz2, hz3, Nat.ne_of_lt hz1, Nat.ne_of_gt hz1]) rfl ⟨rfl, ?_⟩
  repeat (first | with_reducible exact HB.out | with_reducible assumption | refine Below.setCell ?_ (by first | omega | (simp; done) | (simp; omega)) _ | exact bl_then HB.out (by omega) (by assumption) | refine Below.drew ?_ | refine bl_alloc ?_ _)

set_option maxHeartbeats 2000000 in
set_option maxRecDepth 100000 in
theorem r_Use_far3a (a b c d : Int) (y l x : Int) (h : tokOk ⟨2, y, l, x, 3⟩) (hd : d < 1) (w : World) :
    Calls Try.prog 28 #[.agg #[.int .i64 a, .int .i64 b, .int .i64 c, .int .i64 d], tokV ⟨2, y, l, x, 3⟩] w fun e w' => e = .returned (.tuple #[.agg #[.int .i64 0, .int .i64 0, .int .i64 0, .int .i64 0], .int .i64 0, .int .i64 10]) ∧ Below w.heap.size w w' := by
  unfold tokV
  have HC := Lib.hid (show tokCheck ⟨2, y, l, x, 3⟩ = 0 from if_pos h)
  skip
  clear h
  go_enter Try.func28, Try.ntmps28
  go_wp2_with fail
  refine (r_Check' _ _ _ _ _ _).mono ?_
  rintro e w1 ⟨rfl, hb1⟩
  obtain ⟨hc1, hf1⟩ := bcell hb1
  have hz1 : w.heap.size + 1 + 1 < w1.heap.size := by have := hb1.size; simp at this; omega
  have hz2 : w.heap.size + 1 < w1.heap.size := by omega
  have hz3 : w.heap.size < w1.heap.size := by omega
  have HB := Lib.hid (bl_then (bl_alloc (bl_alloc (bl_alloc (Below.refl w.heap.size w) _) _) _) (by simp; omega) hb1)
  clear hb1
  rw [HC.out]
  go_wp2
  refine bodyPost_ret (v := .tuple #[.agg #[.int .i64 0, .int .i64 0, .int .i64 0, .int .i64 0], .int .i64 0, .int .i64 10]) (by simp [results, Try.results28, go_sem, hc1]) rfl ⟨rfl, ?_⟩
  repeat (first | with_reducible exact HB.out | with_reducible assumption | refine Below.setCell ?_ (by first | omega | (simp; done) | (simp; omega)) _ | exact bl_then HB.out (by omega) (by assumption) | refine Below.drew ?_ | refine bl_alloc ?_ _)

set_option maxHeartbeats 2000000 in
set_option maxRecDepth 100000 in
theorem r_Use_far3b (a b c d : Int) (y l x : Int) (h : tokOk ⟨2, y, l, x, 3⟩) (hd : 67108864 < d) (w : World) :
    Calls Try.prog 28 #[.agg #[.int .i64 a, .int .i64 b, .int .i64 c, .int .i64 d], tokV ⟨2, y, l, x, 3⟩] w fun e w' => e = .returned (.tuple #[.agg #[.int .i64 0, .int .i64 0, .int .i64 0, .int .i64 0], .int .i64 0, .int .i64 10]) ∧ Below w.heap.size w w' := by
  unfold tokV
  have HC := Lib.hid (show tokCheck ⟨2, y, l, x, 3⟩ = 0 from if_pos h)
  have hd' : ¬ d < 1 := by omega
  clear h
  go_enter Try.func28, Try.ntmps28
  go_wp2_with fail
  refine (r_Check' _ _ _ _ _ _).mono ?_
  rintro e w1 ⟨rfl, hb1⟩
  obtain ⟨hc1, hf1⟩ := bcell hb1
  have hz1 : w.heap.size + 1 + 1 < w1.heap.size := by have := hb1.size; simp at this; omega
  have hz2 : w.heap.size + 1 < w1.heap.size := by omega
  have hz3 : w.heap.size < w1.heap.size := by omega
  have HB := Lib.hid (bl_then (bl_alloc (bl_alloc (bl_alloc (Below.refl w.heap.size w) _) _) _) (by simp; omega) hb1)
  clear hb1
  rw [HC.out]
  go_wp2
  refine bodyPost_ret (v := .tuple #[.agg #[.int .i64 0, .int .i64 0, .int .i64 0, .int .i64 0], .int .i64 0, .int .i64 10]) (by simp [results, Try.results28, go_sem, hc1]) rfl ⟨rfl, ?_⟩
  repeat (first | with_reducible exact HB.out | with_reducible assumption | refine Below.setCell ?_ (by first | omega | (simp; done) | (simp; omega)) _ | exact bl_then HB.out (by omega) (by assumption) | refine Below.drew ?_ | refine bl_alloc ?_ _)

set_option maxHeartbeats 2000000 in
set_option maxRecDepth 100000 in
theorem r_Use_rep3 (a b c d : Int) (y l x : Int) (h : tokOk ⟨2, y, l, x, 3⟩) (h1 : 1 ≤ d) (h2 : d ≤ 67108864) (w : World) :
    Calls Try.prog 28 #[.agg #[.int .i64 a, .int .i64 b, .int .i64 c, .int .i64 d], tokV ⟨2, y, l, x, 3⟩] w fun e w' => e = .returned (.tuple #[.agg #[.int .i64 d, .int .i64 a, .int .i64 b, .int .i64 c], .int .i64 d, .int .i64 0]) ∧ Below w.heap.size w w' := by
  unfold tokV
  have HC := Lib.hid (show tokCheck ⟨2, y, l, x, 3⟩ = 0 from if_pos h)
  clear h
  go_enter Try.func28, Try.ntmps28
  go_wp2_with fail
  refine (r_Check' _ _ _ _ _ _).mono ?_
  rintro e w1 ⟨rfl, hb1⟩
  obtain ⟨hc1, hf1⟩ := bcell hb1
  have hz1 : w.heap.size + 1 + 1 < w1.heap.size := by have := hb1.size; simp at this; omega
  have hz2 : w.heap.size + 1 < w1.heap.size := by omega
  have hz3 : w.heap.size < w1.heap.size := by omega
  have HB := Lib.hid (bl_then (bl_alloc (bl_alloc (bl_alloc (Below.refl w.heap.size w) _) _) _) (by simp; omega) hb1)
  clear hb1
  rw [HC.out]
  go_wp2
  go_rounds 5
  refine bodyPost_ret (v := .tuple #[.agg #[.int .i64 d, .int .i64 a, .int .i64 b, .int .i64 c], .int .i64 d, .int .i64 0]) (by simp [results, Try.results28, go_sem, hc1, hz1, hz2, hz3, Nat.ne_of_lt hz1, Nat.ne_of_gt hz1]) rfl ⟨rfl, ?_⟩
  repeat (first | with_reducible exact HB.out | with_reducible assumption | refine Below.setCell ?_ (by first | omega | (simp; done) | (simp; omega)) _ | exact bl_then HB.out (by omega) (by assumption) | refine Below.drew ?_ | refine bl_alloc ?_ _)

theorem p_Use (r : Rp) (t : Tok) (w : World) :
    Calls Try.prog 48 #[rpV r, tokV t] w fun e w' => e = .returned (.tuple #[rpV (useR r t), .int .i64 (useD r t), .int .i64 (useE r t)]) ∧ Below w.heap.size w w' := by
  obtain ⟨a, b, c, d⟩ := r
  by_cases ht : tokOk t
  · obtain ⟨k, y, l, x, i⟩ := t
    have hk : k = 0 ∨ k = 1 ∨ (k = 2 ∧ (i = 0 ∨ i = 1 ∨ i = 2 ∨ i = 3)) := by simp only [tokOk] at ht; omega
    rcases hk with rfl | rfl | ⟨rfl, hi⟩
    · have hu : useOk ⟨a, b, c, d⟩ ⟨0, y, l, x, i⟩ := ⟨ht, fun h => by simp at h⟩
      have e1 : useR ⟨a, b, c, d⟩ ⟨0, y, l, x, i⟩ = ⟨a, b, c, d⟩ := by unfold useR; rw [if_pos hu]; rfl
      have e2 : useD ⟨a, b, c, d⟩ ⟨0, y, l, x, i⟩ = 0 := by unfold useD; rw [if_pos hu]; rfl
      have e3 : useE ⟨a, b, c, d⟩ ⟨0, y, l, x, i⟩ = 0 := if_pos hu
      rw [e1, e2, e3]
      exact p_Use_lit a b c d y l x i ht w
    · have hu : useOk ⟨a, b, c, d⟩ ⟨1, y, l, x, i⟩ := ⟨ht, fun h => by simp at h⟩
      have e1 : useR ⟨a, b, c, d⟩ ⟨1, y, l, x, i⟩ = ⟨x, a, b, c⟩ := by unfold useR; rw [if_pos hu]; rfl
      have e2 : useD ⟨a, b, c, d⟩ ⟨1, y, l, x, i⟩ = x := by unfold useD; rw [if_pos hu]; rfl
      have e3 : useE ⟨a, b, c, d⟩ ⟨1, y, l, x, i⟩ = 0 := if_pos hu
      rw [e1, e2, e3]
      exact p_Use_copy a b c d y l x i ht w
    · rcases hi with rfl | rfl | rfl | rfl
      · by_cases hd : 1 ≤ a ∧ a ≤ 67108864
        · have hu : useOk ⟨a, b, c, d⟩ ⟨2, y, l, x, 0⟩ := ⟨ht, fun _ => hd⟩
          have e1 : useR ⟨a, b, c, d⟩ ⟨2, y, l, x, 0⟩ = ⟨a, b, c, d⟩ := by unfold useR; rw [if_pos hu]; rfl
          have e2 : useD ⟨a, b, c, d⟩ ⟨2, y, l, x, 0⟩ = a := by unfold useD; rw [if_pos hu]; rfl
          have e3 : useE ⟨a, b, c, d⟩ ⟨2, y, l, x, 0⟩ = 0 := if_pos hu
          rw [e1, e2, e3]
          exact p_Use_rep0 a b c d y l x ht hd.1 hd.2 w
        · have hu : ¬ useOk ⟨a, b, c, d⟩ ⟨2, y, l, x, 0⟩ := fun h => hd (h.2 rfl)
          rw [show useR ⟨a, b, c, d⟩ ⟨2, y, l, x, 0⟩ = ⟨0, 0, 0, 0⟩ from if_neg hu, show useD ⟨a, b, c, d⟩ ⟨2, y, l, x, 0⟩ = 0 from if_neg hu, show useE ⟨a, b, c, d⟩ ⟨2, y, l, x, 0⟩ = 10 from if_neg hu]
          by_cases hl : a < 1
          · exact p_Use_far0a a b c d y l x ht hl w
          · exact p_Use_far0b a b c d y l x ht (by omega) w
      · by_cases hd : 1 ≤ b ∧ b ≤ 67108864
        · have hu : useOk ⟨a, b, c, d⟩ ⟨2, y, l, x, 1⟩ := ⟨ht, fun _ => hd⟩
          have e1 : useR ⟨a, b, c, d⟩ ⟨2, y, l, x, 1⟩ = ⟨b, a, c, d⟩ := by unfold useR; rw [if_pos hu]; rfl
          have e2 : useD ⟨a, b, c, d⟩ ⟨2, y, l, x, 1⟩ = b := by unfold useD; rw [if_pos hu]; rfl
          have e3 : useE ⟨a, b, c, d⟩ ⟨2, y, l, x, 1⟩ = 0 := if_pos hu
          rw [e1, e2, e3]
          exact p_Use_rep1 a b c d y l x ht hd.1 hd.2 w
        · have hu : ¬ useOk ⟨a, b, c, d⟩ ⟨2, y, l, x, 1⟩ := fun h => hd (h.2 rfl)
          rw [show useR ⟨a, b, c, d⟩ ⟨2, y, l, x, 1⟩ = ⟨0, 0, 0, 0⟩ from if_neg hu, show useD ⟨a, b, c, d⟩ ⟨2, y, l, x, 1⟩ = 0 from if_neg hu, show useE ⟨a, b, c, d⟩ ⟨2, y, l, x, 1⟩ = 10 from if_neg hu]
          by_cases hl : b < 1
          · exact p_Use_far1a a b c d y l x ht hl w
          · exact p_Use_far1b a b c d y l x ht (by omega) w
      · by_cases hd : 1 ≤ c ∧ c ≤ 67108864
        · have hu : useOk ⟨a, b, c, d⟩ ⟨2, y, l, x, 2⟩ := ⟨ht, fun _ => hd⟩
          have e1 : useR ⟨a, b, c, d⟩ ⟨2, y, l, x, 2⟩ = ⟨c, a, b, d⟩ := by unfold useR; rw [if_pos hu]; rfl
          have e2 : useD ⟨a, b, c, d⟩ ⟨2, y, l, x, 2⟩ = c := by unfold useD; rw [if_pos hu]; rfl
          have e3 : useE ⟨a, b, c, d⟩ ⟨2, y, l, x, 2⟩ = 0 := if_pos hu
          rw [e1, e2, e3]
          exact p_Use_rep2 a b c d y l x ht hd.1 hd.2 w
        · have hu : ¬ useOk ⟨a, b, c, d⟩ ⟨2, y, l, x, 2⟩ := fun h => hd (h.2 rfl)
          rw [show useR ⟨a, b, c, d⟩ ⟨2, y, l, x, 2⟩ = ⟨0, 0, 0, 0⟩ from if_neg hu, show useD ⟨a, b, c, d⟩ ⟨2, y, l, x, 2⟩ = 0 from if_neg hu, show useE ⟨a, b, c, d⟩ ⟨2, y, l, x, 2⟩ = 10 from if_neg hu]
          by_cases hl : c < 1
          · exact p_Use_far2a a b c d y l x ht hl w
          · exact p_Use_far2b a b c d y l x ht (by omega) w
      · by_cases hd : 1 ≤ d ∧ d ≤ 67108864
        · have hu : useOk ⟨a, b, c, d⟩ ⟨2, y, l, x, 3⟩ := ⟨ht, fun _ => hd⟩
          have e1 : useR ⟨a, b, c, d⟩ ⟨2, y, l, x, 3⟩ = ⟨d, a, b, c⟩ := by unfold useR; rw [if_pos hu]; rfl
          have e2 : useD ⟨a, b, c, d⟩ ⟨2, y, l, x, 3⟩ = d := by unfold useD; rw [if_pos hu]; rfl
          have e3 : useE ⟨a, b, c, d⟩ ⟨2, y, l, x, 3⟩ = 0 := if_pos hu
          rw [e1, e2, e3]
          exact p_Use_rep3 a b c d y l x ht hd.1 hd.2 w
        · have hu : ¬ useOk ⟨a, b, c, d⟩ ⟨2, y, l, x, 3⟩ := fun h => hd (h.2 rfl)
          rw [show useR ⟨a, b, c, d⟩ ⟨2, y, l, x, 3⟩ = ⟨0, 0, 0, 0⟩ from if_neg hu, show useD ⟨a, b, c, d⟩ ⟨2, y, l, x, 3⟩ = 0 from if_neg hu, show useE ⟨a, b, c, d⟩ ⟨2, y, l, x, 3⟩ = 10 from if_neg hu]
          by_cases hl : d < 1
          · exact p_Use_far3a a b c d y l x ht hl w
          · exact p_Use_far3b a b c d y l x ht (by omega) w
  · have hu : ¬ useOk ⟨a, b, c, d⟩ t := fun h => ht h.1
    rw [show useR ⟨a, b, c, d⟩ t = ⟨0, 0, 0, 0⟩ from if_neg hu, show useD ⟨a, b, c, d⟩ t = 0 from if_neg hu, show useE ⟨a, b, c, d⟩ t = 10 from if_neg hu]
    exact p_Use_bad a b c d t ht w

theorem r_Use (r : Rp) (t : Tok) (w : World) :
    Calls Try.prog 28 #[rpV r, tokV t] w fun e w' => e = .returned (.tuple #[rpV (useR r t), .int .i64 (useD r t), .int .i64 (useE r t)]) ∧ Below w.heap.size w w' := by
  obtain ⟨a, b, c, d⟩ := r
  by_cases ht : tokOk t
  · obtain ⟨k, y, l, x, i⟩ := t
    have hk : k = 0 ∨ k = 1 ∨ (k = 2 ∧ (i = 0 ∨ i = 1 ∨ i = 2 ∨ i = 3)) := by simp only [tokOk] at ht; omega
    rcases hk with rfl | rfl | ⟨rfl, hi⟩
    · have hu : useOk ⟨a, b, c, d⟩ ⟨0, y, l, x, i⟩ := ⟨ht, fun h => by simp at h⟩
      have e1 : useR ⟨a, b, c, d⟩ ⟨0, y, l, x, i⟩ = ⟨a, b, c, d⟩ := by unfold useR; rw [if_pos hu]; rfl
      have e2 : useD ⟨a, b, c, d⟩ ⟨0, y, l, x, i⟩ = 0 := by unfold useD; rw [if_pos hu]; rfl
      have e3 : useE ⟨a, b, c, d⟩ ⟨0, y, l, x, i⟩ = 0 := if_pos hu
      rw [e1, e2, e3]
      exact r_Use_lit a b c d y l x i ht w
    · have hu : useOk ⟨a, b, c, d⟩ ⟨1, y, l, x, i⟩ := ⟨ht, fun h => by simp at h⟩
      have e1 : useR ⟨a, b, c, d⟩ ⟨1, y, l, x, i⟩ = ⟨x, a, b, c⟩ := by unfold useR; rw [if_pos hu]; rfl
      have e2 : useD ⟨a, b, c, d⟩ ⟨1, y, l, x, i⟩ = x := by unfold useD; rw [if_pos hu]; rfl
      have e3 : useE ⟨a, b, c, d⟩ ⟨1, y, l, x, i⟩ = 0 := if_pos hu
      rw [e1, e2, e3]
      exact r_Use_copy a b c d y l x i ht w
    · rcases hi with rfl | rfl | rfl | rfl
      · by_cases hd : 1 ≤ a ∧ a ≤ 67108864
        · have hu : useOk ⟨a, b, c, d⟩ ⟨2, y, l, x, 0⟩ := ⟨ht, fun _ => hd⟩
          have e1 : useR ⟨a, b, c, d⟩ ⟨2, y, l, x, 0⟩ = ⟨a, b, c, d⟩ := by unfold useR; rw [if_pos hu]; rfl
          have e2 : useD ⟨a, b, c, d⟩ ⟨2, y, l, x, 0⟩ = a := by unfold useD; rw [if_pos hu]; rfl
          have e3 : useE ⟨a, b, c, d⟩ ⟨2, y, l, x, 0⟩ = 0 := if_pos hu
          rw [e1, e2, e3]
          exact r_Use_rep0 a b c d y l x ht hd.1 hd.2 w
        · have hu : ¬ useOk ⟨a, b, c, d⟩ ⟨2, y, l, x, 0⟩ := fun h => hd (h.2 rfl)
          rw [show useR ⟨a, b, c, d⟩ ⟨2, y, l, x, 0⟩ = ⟨0, 0, 0, 0⟩ from if_neg hu, show useD ⟨a, b, c, d⟩ ⟨2, y, l, x, 0⟩ = 0 from if_neg hu, show useE ⟨a, b, c, d⟩ ⟨2, y, l, x, 0⟩ = 10 from if_neg hu]
          by_cases hl : a < 1
          · exact r_Use_far0a a b c d y l x ht hl w
          · exact r_Use_far0b a b c d y l x ht (by omega) w
      · by_cases hd : 1 ≤ b ∧ b ≤ 67108864
        · have hu : useOk ⟨a, b, c, d⟩ ⟨2, y, l, x, 1⟩ := ⟨ht, fun _ => hd⟩
          have e1 : useR ⟨a, b, c, d⟩ ⟨2, y, l, x, 1⟩ = ⟨b, a, c, d⟩ := by unfold useR; rw [if_pos hu]; rfl
          have e2 : useD ⟨a, b, c, d⟩ ⟨2, y, l, x, 1⟩ = b := by unfold useD; rw [if_pos hu]; rfl
          have e3 : useE ⟨a, b, c, d⟩ ⟨2, y, l, x, 1⟩ = 0 := if_pos hu
          rw [e1, e2, e3]
          exact r_Use_rep1 a b c d y l x ht hd.1 hd.2 w
        · have hu : ¬ useOk ⟨a, b, c, d⟩ ⟨2, y, l, x, 1⟩ := fun h => hd (h.2 rfl)
          rw [show useR ⟨a, b, c, d⟩ ⟨2, y, l, x, 1⟩ = ⟨0, 0, 0, 0⟩ from if_neg hu, show useD ⟨a, b, c, d⟩ ⟨2, y, l, x, 1⟩ = 0 from if_neg hu, show useE ⟨a, b, c, d⟩ ⟨2, y, l, x, 1⟩ = 10 from if_neg hu]
          by_cases hl : b < 1
          · exact r_Use_far1a a b c d y l x ht hl w
          · exact r_Use_far1b a b c d y l x ht (by omega) w
      · by_cases hd : 1 ≤ c ∧ c ≤ 67108864
        · have hu : useOk ⟨a, b, c, d⟩ ⟨2, y, l, x, 2⟩ := ⟨ht, fun _ => hd⟩
          have e1 : useR ⟨a, b, c, d⟩ ⟨2, y, l, x, 2⟩ = ⟨c, a, b, d⟩ := by unfold useR; rw [if_pos hu]; rfl
          have e2 : useD ⟨a, b, c, d⟩ ⟨2, y, l, x, 2⟩ = c := by unfold useD; rw [if_pos hu]; rfl
          have e3 : useE ⟨a, b, c, d⟩ ⟨2, y, l, x, 2⟩ = 0 := if_pos hu
          rw [e1, e2, e3]
          exact r_Use_rep2 a b c d y l x ht hd.1 hd.2 w
        · have hu : ¬ useOk ⟨a, b, c, d⟩ ⟨2, y, l, x, 2⟩ := fun h => hd (h.2 rfl)
          rw [show useR ⟨a, b, c, d⟩ ⟨2, y, l, x, 2⟩ = ⟨0, 0, 0, 0⟩ from if_neg hu, show useD ⟨a, b, c, d⟩ ⟨2, y, l, x, 2⟩ = 0 from if_neg hu, show useE ⟨a, b, c, d⟩ ⟨2, y, l, x, 2⟩ = 10 from if_neg hu]
          by_cases hl : c < 1
          · exact r_Use_far2a a b c d y l x ht hl w
          · exact r_Use_far2b a b c d y l x ht (by omega) w
      · by_cases hd : 1 ≤ d ∧ d ≤ 67108864
        · have hu : useOk ⟨a, b, c, d⟩ ⟨2, y, l, x, 3⟩ := ⟨ht, fun _ => hd⟩
          have e1 : useR ⟨a, b, c, d⟩ ⟨2, y, l, x, 3⟩ = ⟨d, a, b, c⟩ := by unfold useR; rw [if_pos hu]; rfl
          have e2 : useD ⟨a, b, c, d⟩ ⟨2, y, l, x, 3⟩ = d := by unfold useD; rw [if_pos hu]; rfl
          have e3 : useE ⟨a, b, c, d⟩ ⟨2, y, l, x, 3⟩ = 0 := if_pos hu
          rw [e1, e2, e3]
          exact r_Use_rep3 a b c d y l x ht hd.1 hd.2 w
        · have hu : ¬ useOk ⟨a, b, c, d⟩ ⟨2, y, l, x, 3⟩ := fun h => hd (h.2 rfl)
          rw [show useR ⟨a, b, c, d⟩ ⟨2, y, l, x, 3⟩ = ⟨0, 0, 0, 0⟩ from if_neg hu, show useD ⟨a, b, c, d⟩ ⟨2, y, l, x, 3⟩ = 0 from if_neg hu, show useE ⟨a, b, c, d⟩ ⟨2, y, l, x, 3⟩ = 10 from if_neg hu]
          by_cases hl : d < 1
          · exact r_Use_far3a a b c d y l x ht hl w
          · exact r_Use_far3b a b c d y l x ht (by omega) w
  · have hu : ¬ useOk ⟨a, b, c, d⟩ t := fun h => ht h.1
    rw [show useR ⟨a, b, c, d⟩ t = ⟨0, 0, 0, 0⟩ from if_neg hu, show useD ⟨a, b, c, d⟩ t = 0 from if_neg hu, show useE ⟨a, b, c, d⟩ t = 10 from if_neg hu]
    exact r_Use_bad a b c d t ht w

end Go.Proofs.Ytndkgjoaljcijaa
