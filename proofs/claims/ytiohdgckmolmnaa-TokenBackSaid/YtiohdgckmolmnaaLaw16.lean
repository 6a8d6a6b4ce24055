/- Chapter 16's laws: the walks of the law functions. -/
import Derived.Test.YtiohdgckmolmnaaTok
import Derived.Deep.RegionHeld3
set_option linter.unusedSimpArgs false
set_option linter.unusedVariables false
namespace Go.Proofs.Ytiohdgckmolmnaa
open Go.RowKit

set_option maxRecDepth 100000 in
theorem awake16 (w : World) : Calls Try.prog 29 #[] w fun e w' => e = .returned (.bool true) ∧ Below w.heap.size w w' := by
  have e1 : tokSym ⟨2, 0, 2, 0, 1⟩ = 314 := by decide
  have e2 : tokCheck ⟨2, 0, 2, 0, 1⟩ = 0 := by decide
  have e3 : tokSym ⟨3, 0, 0, 0, 0⟩ = 0 := by decide
  have e4 : tokCheck ⟨3, 0, 0, 0, 0⟩ = 10 := by decide
  have e5 : tokSize ⟨2, 0, 2, 0, 1⟩ = 2 := by decide
  have e6 : tokSize ⟨0, 7, 0, 0, 0⟩ = 1 := by decide
  have e7 : tokCheck ⟨0, 7, 1, 0, 0⟩ = 10 := by decide
  go_enter Try.func29, Try.ntmps29
  go_wp2_with fail
  refine (p_Sym ⟨2, 0, 2, 0, 1⟩ _).mono ?_
  rintro e w1 ⟨rfl, hb1⟩
  rw [e1, e2]
  obtain ⟨hc1, hf1⟩ := bcell hb1
  have hz1 : w.heap.size < w1.heap.size := by have := hb1.size; simp at this; omega
  go_wp2_with fail
  refine (p_Of 314 _).mono ?_
  rintro e w1' ⟨rfl, rfl⟩
  rw [show ofKind 314 = 2 from rfl, show ofByte 314 = 0 from rfl, show ofRep 314 = 1 from rfl, show ofSlot 314 = 0 from rfl, show ofErr 314 = 0 from rfl]
  go_wp2_with fail
  refine (p_Sym ⟨3, 0, 0, 0, 0⟩ _).mono ?_
  rintro e w2 ⟨rfl, hb2⟩
  rw [e3, e4]
  obtain ⟨hc2, hf2⟩ := bcell hb2
  have hz2 : w.heap.size < w2.heap.size := by have := hb2.size; omega
  go_wp2_with fail
  refine (p_Of 401 _).mono ?_
  rintro e w2' ⟨rfl, rfl⟩
  rw [show ofKind 401 = 0 from rfl, show ofByte 401 = 0 from rfl, show ofRep 401 = 0 from rfl, show ofSlot 401 = 0 from rfl, show ofErr 401 = 2 from rfl]
  go_wp2_with fail
  refine (p_Size ⟨2, 0, 2, 0, 1⟩ _).mono ?_
  rintro e w3 ⟨rfl, hb3⟩
  rw [e5]
  go_wp2_with fail
  refine (p_Size ⟨0, 7, 0, 0, 0⟩ _).mono ?_
  rintro e w4 ⟨rfl, hb4⟩
  rw [e6]
  go_wp2_with fail
  refine (p_Check ⟨0, 7, 1, 0, 0⟩ _).mono ?_
  rintro e w5 ⟨rfl, hb5⟩
  rw [e7]
  go_wp2
  go_ret
  have b1 := bl_then (bl_alloc (Below.refl w.heap.size w) _) (by simp) hb1
  have b2 := bl_then b1 b1.size hb2
  have b3 := bl_then b2 b2.size hb3
  have b4 := bl_then b3 b3.size hb4
  exact ⟨rfl, bl_then b4 b4.size hb5⟩

set_option maxHeartbeats 4000000 in
set_option maxRecDepth 100000 in
theorem law_TokenLooks (t : Tok) (s : Int) (w : World) : Calls Try.prog 5 #[tokV t, .int .i64 s] w fun e w' => e = .returned (.bool true) ∧ Below w.heap.size w w' := by
  obtain ⟨k, b, l, d, r⟩ := t
  unfold tokV
  go_enter Try.func5, Try.ntmps5
  go_wp2_with fail
  refine (p_Sym ⟨k, b, l, d, r⟩ _).mono ?_
  rintro e w1 ⟨rfl, hb1⟩
  obtain ⟨hc1, hf1⟩ := bcell hb1
  have hz1 : w.heap.size < w1.heap.size := by have := hb1.size; simp at this; omega
  go_wp2_with fail
  refine (r_Sym ⟨k, b, l, d, r⟩ _).mono ?_
  rintro e w2 ⟨rfl, hb2⟩
  obtain ⟨hc2, hf2⟩ := bcell hb2
  have hz2 : w.heap.size < w2.heap.size := by have := hb2.size; omega
  go_wp2_with fail
  refine (p_Of s _).mono ?_
  rintro e w2' ⟨rfl, rfl⟩
  go_wp2_with fail
  refine (r_Of s _).mono ?_
  rintro e w2' ⟨rfl, rfl⟩
  go_wp2_with fail
  have HB := Lib.hid (bl_then (bl_then (bl_alloc (Below.refl w.heap.size w) _) (by simp) hb1) (Nat.le_of_lt hz1) hb2)
  have c0 := Lib.hid (show w2.cell? ⟨w.heap.size, 0, none⟩ = some (.int .i64 k) by go_simp)
  have c1 := Lib.hid (show w2.cell? ⟨w.heap.size, 1, none⟩ = some (.int .i64 b) by go_simp)
  have c2 := Lib.hid (show w2.cell? ⟨w.heap.size, 2, none⟩ = some (.int .i64 l) by go_simp)
  have c3 := Lib.hid (show w2.cell? ⟨w.heap.size, 3, none⟩ = some (.int .i64 d) by go_simp)
  have c4 := Lib.hid (show w2.cell? ⟨w.heap.size, 4, none⟩ = some (.int .i64 r) by go_simp)
  have HK : Hid (∀ w', Below w2.heap.size w2 w' → w'.cell? ⟨w.heap.size, 0, none⟩ = some (.int .i64 k) ∧ w'.cell? ⟨w.heap.size, 1, none⟩ = some (.int .i64 b) ∧ w'.cell? ⟨w.heap.size, 2, none⟩ = some (.int .i64 l) ∧ w'.cell? ⟨w.heap.size, 3, none⟩ = some (.int .i64 d) ∧ w'.cell? ⟨w.heap.size, 4, none⟩ = some (.int .i64 r) ∧ Below w2.heap.size w2 w') :=
    fun w' h => ⟨(h.cell hz2).trans c0.out, (h.cell hz2).trans c1.out, (h.cell hz2).trans c2.out, (h.cell hz2).trans c3.out, (h.cell hz2).trans c4.out, h⟩
  go_region_held3 (fun w' => w'.cell? ⟨w.heap.size, 0, none⟩ = some (.int .i64 k) ∧ w'.cell? ⟨w.heap.size, 1, none⟩ = some (.int .i64 b) ∧ w'.cell? ⟨w.heap.size, 2, none⟩ = some (.int .i64 l) ∧ w'.cell? ⟨w.heap.size, 3, none⟩ = some (.int .i64 d) ∧ w'.cell? ⟨w.heap.size, 4, none⟩ = some (.int .i64 r) ∧ Below w2.heap.size w2 w')
    (first | exact HK.out _ (by assumption) | exact HK.out _ (Below.refl _ _).drew)
    (first | (go_at_call 25; refine (kcall (w2 := w2) ?_ (p_Check' _ _ _ _ _ _)).mono ?_; (first | assumption | exact (Below.refl _ _).drew); rintro e w' ⟨rfl, hb⟩)
           | (go_at_call 26; refine (kcall (w2 := w2) ?_ (r_Check' _ _ _ _ _ _)).mono ?_; (first | assumption | exact (Below.refl _ _).drew); rintro e w' ⟨rfl, hb⟩)
           | (go_at_call 27; refine (kcall (w2 := w2) ?_ (p_Size ⟨_, _, _, _, _⟩ _)).mono ?_; (first | assumption | exact (Below.refl _ _).drew); rintro e w' ⟨rfl, hb⟩)
           | (go_at_call 28; refine (kcall (w2 := w2) ?_ (r_Size ⟨_, _, _, _, _⟩ _)).mono ?_; (first | assumption | exact (Below.refl _ _).drew); rintro e w' ⟨rfl, hb⟩)
           | (go_at_call 29; refine (kcall (w2 := w2) ?_ (awake16 _)).mono ?_; (first | assumption | exact (Below.refl _ _).drew); rintro e w' ⟨rfl, hb⟩))
  all_goals
    go_wp2
    go_ret
    exact ⟨rfl, bl_then HB.out HB.out.size (by assumption)⟩

set_option maxHeartbeats 1000000 in
set_option maxRecDepth 100000 in
theorem law_TokenBack (t : Tok) (w : World) : Calls Try.prog 6 #[tokV t] w fun e w' => e = .returned (.bool true) ∧ Below w.heap.size w w' := by
  by_cases h : tokOk t
  · have hC : tokCheck t = 0 := if_pos h
    obtain ⟨q1, q2, q3, q4, q5⟩ := tokBack t h
    obtain ⟨k, b, l, d, r⟩ := t
    unfold tokV
    have hk : k = 0 ∨ (k = 1 ∨ k = 2) := by simp only [tokOk] at h; omega
    have HQ := Lib.hid (And.intro hC (And.intro q1 (And.intro q2 (And.intro q3 (And.intro q4 q5)))))
    clear hC q1 q2 q3 q4 q5 h
    rcases hk with rfl | hk
    · go_enter Try.func6, Try.ntmps6
      go_wp2_with fail
      refine (p_Sym ⟨0, b, l, d, r⟩ _).mono ?_
      rintro e w1 ⟨rfl, hb1⟩
      rw [HQ.out.1]
      obtain ⟨hc1, hf1⟩ := bcell hb1
      have hz1 : w.heap.size < w1.heap.size := by have := hb1.size; simp at this; omega
      go_wp2_with fail
      refine (p_Of _ _).mono ?_
      rintro e w2' ⟨rfl, rfl⟩
      rw [HQ.out.2.1, HQ.out.2.2.1, HQ.out.2.2.2.1, HQ.out.2.2.2.2.1, HQ.out.2.2.2.2.2]
      go_wp2_with fail
      refine (awake16 _).mono ?_
      rintro e w2 ⟨rfl, hb2⟩
      go_wp2
      go_ret
      exact ⟨rfl, bl_then (bl_then (bl_alloc (Below.refl w.heap.size w) _) (by simp) hb1) (Nat.le_of_lt hz1) hb2⟩
    · have hkn : (k != 0) = true := by rw [bne_iff_ne]; omega
      have hq6 : (if k = 0 then 0 else lenS l) = lenS l := if_neg (by omega)
      have HQ6 := Lib.hid hq6
      clear hk hq6
      go_enter Try.func6, Try.ntmps6
      go_wp2_with fail
      refine (p_Sym ⟨k, b, l, d, r⟩ _).mono ?_
      rintro e w1 ⟨rfl, hb1⟩
      rw [HQ.out.1]
      obtain ⟨hc1, hf1⟩ := bcell hb1
      have hz1 : w.heap.size < w1.heap.size := by have := hb1.size; simp at this; omega
      go_wp2_with fail
      refine (p_Of _ _).mono ?_
      rintro e w2' ⟨rfl, rfl⟩
      rw [HQ.out.2.1, HQ.out.2.2.1, HQ.out.2.2.2.1, HQ.out.2.2.2.2.1, HQ.out.2.2.2.2.2, HQ6.out]
      go_wp2_with fail
      refine (r_Len _ _).mono ?_
      rintro e w2' ⟨rfl, rfl⟩
      go_wp2_with fail
      refine (awake16 _).mono ?_
      rintro e w2 ⟨rfl, hb2⟩
      go_wp2
      go_ret
      exact ⟨rfl, bl_then (bl_then (bl_alloc (Below.refl w.heap.size w) _) (by simp) hb1) (Nat.le_of_lt hz1) hb2⟩
  · have HN := Lib.hid (tokNone t h)
    obtain ⟨k, b, l, d, r⟩ := t
    unfold tokV
    clear h
    go_enter Try.func6, Try.ntmps6
    go_wp2_with fail
    refine (p_Sym ⟨k, b, l, d, r⟩ _).mono ?_
    rintro e w1 ⟨rfl, hb1⟩
    rw [HN.out.1, HN.out.2.2]
    obtain ⟨hc1, hf1⟩ := bcell hb1
    have hz1 : w.heap.size < w1.heap.size := by have := hb1.size; simp at this; omega
    go_wp2_with fail
    refine (p_Size ⟨k, b, l, d, r⟩ _).mono ?_
    rintro e w2 ⟨rfl, hb2⟩
    rw [HN.out.2.1]
    go_wp2_with fail
    refine (awake16 _).mono ?_
    rintro e w3 ⟨rfl, hb3⟩
    go_wp2
    go_ret
    have b2 := bl_then (bl_then (bl_alloc (Below.refl w.heap.size w) _) (by simp) hb1) (Nat.le_of_lt hz1) hb2
    exact ⟨rfl, bl_then b2 b2.size hb3⟩

end Go.Proofs.Ytiohdgckmolmnaa
