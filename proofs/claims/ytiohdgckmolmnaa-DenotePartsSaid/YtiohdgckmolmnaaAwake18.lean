/- Chapter 18: the example, by a walk. -/
import Derived.Test.YtiohdgckmolmnaaValid
import Derived.Lib.SlBytesConst
set_option linter.unusedSimpArgs false
set_option linter.unusedVariables false
namespace Go.Proofs.Ytiohdgckmolmnaa
open Go.RowKit

theorem reads_toks (w : World) (l : List Tok) (t : TypeId) : ReadsT (w.alloc (.cells (tvals l).toArray t)) (some ⟨w.heap.size, 0, none⟩) l :=
  ⟨tvals_length l, fun _ => ⟨_, rfl, by simp, fun j u hu => by
    have e : (⟨w.heap.size, 0, none⟩ : Addr).add j = ⟨w.heap.size, j, none⟩ := by unfold Addr.add; split <;> simp_all
    rw [e, (Blk.new w t (tvals l).toArray).cell j]
    simpa using hu⟩⟩

theorem reads_xy (w : World) (m : Nat × Nat) : ReadsB (w.alloc (.cells #[.int .u8 120, .int .u8 121] 5 m)) (some ⟨w.heap.size, 0, none⟩) [120, 121] :=
  ⟨rfl, fun _ => ⟨_, rfl, by simp, fun j u hu => by
    have e : (⟨w.heap.size, 0, none⟩ : Addr).add j = ⟨w.heap.size, j, none⟩ := by unfold Addr.add; split <;> simp_all
    rw [e, heap_cell' (heap_alloc_new w _) j]
    have hb : bvals [120, 121] = [.int .u8 120, .int .u8 121] := rfl
    rw [hb] at hu
    simpa using hu⟩⟩

def tA : Tok := ⟨0, 97, 0, 0, 0⟩
def tB : Tok := ⟨1, 0, 3, 1, 0⟩
theorem ex1 : applyT 9 [tA, tB] [] ⟨1, 2, 3, 4⟩ = ⟨[97, 97, 97, 97], ⟨1, 1, 2, 3⟩, 0⟩ := by rfl
theorem ex2 : applyT 9 [tB] [] ⟨1, 2, 3, 4⟩ = badRes 10 := by rfl
theorem ex3 : copyB [120, 121] 3 2 2 = [120, 121, 120, 121, 120] ∧ copyE 2 3 2 2 = 0 := ⟨rfl, rfl⟩
theorem ex4 : copyB [120, 121] 3 2 1 = [] ∧ copyE 2 3 2 1 = 10 := ⟨rfl, rfl⟩
theorem ex5 : copyB [120, 121] 3 2 0 = [] ∧ copyE 2 3 2 0 = 1 := ⟨rfl, rfl⟩
theorem ex6 : validT 9 [] ⟨1, 2, 3, 4⟩ [tA, tB] [97, 97, 97, 97] = true := by decide
theorem ex7 : validT 9 [] ⟨1, 2, 3, 4⟩ [tA, tB] [97, 97, 97] = false := by decide

set_option maxHeartbeats 4000000 in
set_option maxRecDepth 100000 in
theorem awake18 (w : World) : Calls Try.prog 39 #[] w fun e w' => e = .returned (.bool true) ∧ Below w.heap.size w w' := by
  have kc := fun (w : World) (C : Array Value) (n c : Nat) => Lib.run_convert_bytes_const (P := Try.prog) w 68 5 C n c Try.underlying68 Try.underlying5
  have hqr := fun W => eqReps W
  have hqm := eqRepsMark
  have hR := reads_toks w [tA, tB] 25
  have hR2 : ReadsT (w.alloc (.cells (tvals [tA, tB]).toArray 25)) (some ⟨w.heap.size, 5, none⟩) [tB] := by
    have := Reads.cut (k := 1) (cap := 2) hR (by decide) (by decide)
    exact this
  have e0 : (tvals [tA, tB]).toArray = #[.int .i64 0, .int .i64 97, .int .i64 0, .int .i64 0, .int .i64 0, .int .i64 1, .int .i64 0, .int .i64 3, .int .i64 1, .int .i64 0] := rfl
  rw [e0] at hR hR2
  clear e0
  go_enter Try.func39, Try.ntmps39
  go_wp2_with fail
  refine (p_Apply none 0 [] ⟨1, 2, 3, 4⟩ (some ⟨w.heap.size, 0, none⟩) 2 [tA, tB] 9 _ Reads.none_ hR (by decide) (by decide)).mono ?_
  rintro e w1 ⟨v1, rfl, hr1, hb1, hs1⟩
  rw [ex1] at hr1 ⊢
  obtain ⟨A1, c1, rfl, hc1, hrd1⟩ := hr1.slice
  unfold rpV
  have hz1 : w.heap.size < w1.heap.size := by simp at hs1; omega
  have hR3 := hR2.below hb1
  go_wp2_with fail
  refine (p_Apply none 0 [] ⟨1, 2, 3, 4⟩ (some ⟨w.heap.size, 5, none⟩) 1 [tB] 9 _ Reads.none_ (hR3.below ((Below.refl _ _).alloc (Nat.le_refl _) _)) (by decide) (by decide)).mono ?_
  rintro e w2 ⟨v2, rfl, hr2, hb2, hs2⟩
  rw [ex2]
  unfold rpV badRes
  simp only
  have hz2 : w1.heap.size < w2.heap.size := by simp at hs2; omega
  have k2 := Blk.below (Blk.new w1 23 (rpCells ⟨1, 1, 2, 3⟩)) hb2 (by simp)
  have hrB1 := (hrd1.alloc (.cells (rpCells ⟨1, 1, 2, 3⟩) 23)).below hb2
  have hRT := (hR.below hb1).below ((Below.refl _ _).alloc (Nat.le_refl _) (.cells (rpCells ⟨1, 1, 2, 3⟩) 23)) |>.below hb2
  have b2 : Below w.heap.size w w2 := bl_then (bl_alloc (bl_then (bl_alloc (Below.refl _ _) _) (by simp) hb1) _) (by simp; omega) hb2
  have kc2 := kc (w2.alloc (.cells #[.int .i64 0, .int .i64 0, .int .i64 0, .int .i64 0] 23)) #[.int .u8 120, .int .u8 121] 2 2
  have hxy := reads_xy (w2.alloc (.cells #[.int .i64 0, .int .i64 0, .int .i64 0, .int .i64 0] 23)) (2, 3)
  simp only [World.size_alloc] at kc2 hxy
  go_wp2_with fail
  refine (p_Copy (some ⟨w2.heap.size + 1, 0, none⟩) 2 [120, 121] 3 2 2 _ hxy (by decide)).mono ?_
  rintro e w3 ⟨v3, rfl, hr3, hb3, hs3⟩
  rw [ex3.1] at hr3
  rw [show copyE (([120, 121] : List UInt8).length : Int) 3 2 2 = 0 from rfl]
  have bb2 := bl_alloc (bl_alloc b2 (.cells #[.int .i64 0, .int .i64 0, .int .i64 0, .int .i64 0] 23)) (.cells #[.int .u8 120, .int .u8 121] 5 (2, 3))
  have b3 := bl_then bb2 bb2.size hb3
  have hz3 : w2.heap.size < w3.heap.size := by simp at hs3; omega
  have B2 := ((Below.refl w2.heap.size w2).alloc (Nat.le_refl _) (.cells #[.int .i64 0, .int .i64 0, .int .i64 0, .int .i64 0] 23)).alloc (by simp) (.cells #[.int .u8 120, .int .u8 121] 5 (2, 3))
  have B23 := bl_then B2 B2.size hb3
  clear kc2 hxy
  go_wp2_with fail
  refine (p_Copy (some ⟨w3.heap.size, 0, none⟩) 2 [120, 121] 3 2 1 _ (reads_xy w3 (2, 3)) (by decide)).mono ?_
  rintro e w4 ⟨v4, rfl, hr4, hb4, hs4⟩
  rw [show copyE (([120, 121] : List UInt8).length : Int) 3 2 1 = 10 from rfl]
  have b4 := bl_then (bl_alloc b3 _) (by have := b3.size; simp; omega) hb4
  have B24 := bl_then (B23.alloc (by have := B23.size; omega) _) (by have := B23.size; simp; omega) hb4
  have B34 := bl_then ((Below.refl w3.heap.size w3).alloc (Nat.le_refl _) _) (by simp) hb4
  go_wp2_with fail
  refine (p_Copy (some ⟨w4.heap.size, 0, none⟩) 2 [120, 121] 3 2 0 _ (reads_xy w4 (2, 3)) (by decide)).mono ?_
  rintro e w5 ⟨v5, rfl, hr5, hb5, hs5⟩
  rw [show copyE (([120, 121] : List UInt8).length : Int) 3 2 0 = 1 from rfl]
  have b5 := bl_then (bl_alloc b4 _) (by have := b4.size; simp; omega) hb5
  have B25 := bl_then (B24.alloc (by have := B24.size; omega) _) (by have := B24.size; simp; omega) hb5
  have B35 := bl_then (B34.alloc (by have := B34.size; omega) _) (by have := B34.size; simp; omega) hb5
  have k5 := Blk.below k2 B25 hz2
  have kcell := Blk.cell k5
  have rA := hrB1.below B25
  have r3 := hr3.below B35
  obtain ⟨A3, c3, rfl, hc3, hrd3⟩ := r3.slice
  have hs1 : (convert 68 9 (.slice A1 4 c1)).run Try.prog w5 = .ok (.string ⟨#[97, 97, 97, 97]⟩) w5 := run_str w5 _ A1 4 c1 [97, 97, 97, 97] rA
  have hs3' : (convert 68 9 (.slice A3 5 c3)).run Try.prog w5 = .ok (.string ⟨#[120, 121, 120, 121, 120]⟩) w5 := run_str w5 _ A3 5 c3 [120, 121, 120, 121, 120] hrd3
  have hT5 := hRT.below B25
  have HB5 := Lib.hid b5
  simp only [rpCells] at kcell
  clear b2 bb2 b3 b4 b5 B2 B23 B24 B34 B25 B35 k2 k5 hb1 hb2 hb3 hb4 hb5 hr1 hr2 hr3 hr4 hr5 hc1 hc3 hR hR2 hR3 hRT hrB1 hrd1
  go_wp2_with fail
  refine (p_Valid [] ⟨1, 2, 3, 4⟩ (some ⟨w.heap.size, 0, none⟩) 2 [tA, tB] 9 [97, 97, 97, 97] _ hT5 (by decide) (by decide) (by decide)).mono ?_
  rintro e w6 ⟨rfl, hb6⟩
  rw [ex6]
  have hT6 := hT5.below hb6
  go_wp2_with fail
  refine (p_Valid [] ⟨1, 2, 3, 4⟩ (some ⟨w.heap.size, 0, none⟩) 2 [tA, tB] 9 [97, 97, 97] _ hT6 (by decide) (by decide) (by decide)).mono ?_
  rintro e w7 ⟨rfl, hb7⟩
  rw [ex7]
  go_wp2
  go_ret
  have b6 := bl_then HB5.out HB5.out.size hb6
  exact ⟨rfl, bl_then b6 b6.size hb7⟩

end Go.Proofs.Ytiohdgckmolmnaa
