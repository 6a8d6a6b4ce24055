/- Chapter 29 (window): New, Last, Copy: what they do, by walks. -/
import Derived.Test.YtiohdgckmolmnaaWin3
set_option linter.unusedSimpArgs false
set_option linter.unusedVariables false
namespace Go.Proofs.Ytiohdgckmolmnaa
open Go.RowKit

theorem str_append29 (a b : List UInt8) : str a ++ str b = str (a ++ b) := by
  apply ByteArray.ext
  simp [str]
theorem hadd29 (x y : List UInt8) (h : x.length + y.length ≤ 9223372036854775807) (W : World) : (Op.stringOp .add (str x) (str y)).run Try.prog W = .ok (.string (str (x ++ y))) W := by
  rw [run_string_add_sum W _ _ (by rw [str_size, str_size]; exact h), str_append29]

/-- A new window, or none. -/
def NewDone (size : Int) (w : World) (e : Ending) (w' : World) : Prop :=
  if 1 ≤ size ∧ size ≤ 67108864 then ∃ g b ring, e = .returned (.tuple #[.pointer (some ⟨g, 0, none⟩), .int .i64 0]) ∧ Win w' g b size.toNat ring 0 [] ∧ w.heap.size ≤ g ∧ w.heap.size ≤ b ∧ Below w.heap.size w w'
  else e = .returned (.tuple #[.pointer none, .int .i64 1]) ∧ w = w'

set_option maxRecDepth 100000 in
theorem p_New (size : Int) (w : World) : Calls Try.prog 32 #[.int .i64 size] w (NewDone size w) := by
  by_cases h : 1 ≤ size ∧ size ≤ 67108864
  · obtain ⟨h1, h2⟩ := h
    obtain ⟨n, rfl⟩ : ∃ n : Nat, size = n := ⟨size.toNat, by omega⟩
    by_cases hm : n ≤ 256
    · have hmk := run_make_u8 w n (by omega)
      go_enter Try.func32, Try.ntmps32
      go_wp2
      go_ret2
      unfold NewDone
      rw [if_pos ⟨h1, h2⟩]
      have hl : (List.replicate (min n 256) (0 : UInt8)).length = n := by rw [List.length_replicate]; omega
      have hm' : min n 256 = n := by omega
      refine ⟨w.heap.size + 1, w.heap.size, List.replicate (min n 256) 0, rfl, ⟨Ring.new (by omega) (by omega), ?_, ?_, by omega⟩, by omega, Nat.le_refl _, ?_⟩
      · rw [hl]
        have := Blk.new (w.alloc (.cells (bvals (List.replicate n 0)).toArray 5)) 96 (winC n w.heap.size n 0 0)
        rw [World.size_alloc] at this
        exact this
      · rw [hm']
        exact (Blk.new w _ _).alloc _
      · exact bl_alloc (bl_alloc (Below.refl _ _) _) _
    · have hmk : (Instr.makeSlice 68 (.int .i64 256) (.int .i64 256)).run Try.prog w = .ok (.slice (some ⟨w.heap.size, 0, none⟩) 256 256) (w.alloc (.cells (bvals (List.replicate 256 0)).toArray 5)) := run_make_u8 w 256 (by omega)
      go_enter Try.func32, Try.ntmps32
      go_wp2
      go_ret2
      unfold NewDone
      rw [if_pos ⟨h1, h2⟩]
      have hl : (List.replicate (min n 256) (0 : UInt8)).length = 256 := by rw [List.length_replicate]; omega
      have hm' : min n 256 = 256 := by omega
      refine ⟨w.heap.size + 1, w.heap.size, List.replicate (min n 256) 0, rfl, ⟨Ring.new (by omega) (by omega), ?_, ?_, by omega⟩, by omega, Nat.le_refl _, ?_⟩
      · rw [hl]
        have := Blk.new (w.alloc (.cells (bvals (List.replicate 256 0)).toArray 5)) 96 (winC n w.heap.size 256 0 0)
        rw [World.size_alloc] at this
        exact this
      · rw [hm']
        exact (Blk.new w _ _).alloc _
      · exact bl_alloc (bl_alloc (Below.refl _ _) _) _
  · by_cases h1 : size < 1
    · have HN := Lib.hid h
      clear h
      go_enter Try.func32, Try.ntmps32
      go_wp2
      go_ret2
      unfold NewDone
      rw [if_neg HN.out]
      exact ⟨rfl, rfl⟩
    · have h2 : 67108864 < size := by omega
      have HN := Lib.hid h
      clear h
      go_enter Try.func32, Try.ntmps32
      go_wp2
      go_ret2
      unfold NewDone
      rw [if_neg HN.out]
      exact ⟨rfl, rfl⟩

theorem p_Last_nil (n : Int) (w : World) : Calls Try.prog 35 #[.pointer none, .int .i64 n] w fun e w' => e = .returned (.string (str [])) ∧ w = w' := by
  go_enter Try.func35, Try.ntmps35
  go_wp2
  go_ret
  exact ⟨rfl, rfl⟩

set_option maxRecDepth 100000 in
theorem p_Last (g b size : Nat) (ring : List UInt8) (at_ : Nat) (held : List UInt8) (n : Int) (w : World) (h : Win w g b size ring at_ held) :
    Calls Try.prog 35 #[.pointer (some ⟨g, 0, none⟩), .int .i64 n] w fun e w' => e = .returned (.string (str (lastI n held))) ∧ Below w.heap.size w w' := by
  have kc := Blk.cell h.blk
  have h1 := h.rg.hh
  have h2 := h.rg.hn
  have h3 := h.rg.hmax
  simp only [winC] at kc
  have HW := Lib.hid h
  clear h
  by_cases hn : n < 1
  · have HL := Lib.hid (lastI_neg hn held)
    go_enter Try.func35, Try.ntmps35
    go_wp2
    go_ret
    exact ⟨by rw [HL.out]; rfl, Below.refl _ _⟩
  · obtain ⟨k, rfl⟩ : ∃ k : Nat, n = k := ⟨n.toNat, by omega⟩
    by_cases hk : k ≤ held.length
    · have HL := Lib.hid (show lastI (k : Int) held = lastN k held from rfl)
      go_enter Try.func35, Try.ntmps35
      go_wp2_with fail
      refine (p_halves g b size ring at_ held k w HW.out (by omega)).mono ?_
      rintro e w' ⟨A, c1, B, c2, p, q, rfl, hp, hq, hpq, x, rfl⟩
      have hl : p.length + q.length ≤ 67108864 := by
        have := congrArg List.length hpq
        rw [List.length_append, lastN_length] at this
        omega
      have s1 := run_str (w.drewN x) _ A p.length c1 p hp
      have s2 := run_str (w.drewN x) _ B q.length c2 q hq
      have s3 := hadd29 p q (by omega)
      have s4 : (str p).size + (str q).size ≤ 9223372036854775807 := by rw [str_size, str_size]; omega
      have HPQ := Lib.hid hpq
      clear hpq hp hq
      go_wp2
      go_ret
      exact ⟨by rw [HL.out, ← HPQ.out]; rfl, bl_drewN (Below.refl _ _) _⟩
    · have HL := Lib.hid (show lastI (k : Int) held = lastN held.length held by unfold lastI; rw [lastN_all (Nat.le_refl _), lastN_all (by omega)])
      go_enter Try.func35, Try.ntmps35
      go_wp2_with fail
      refine (p_halves g b size ring at_ held held.length w HW.out (by omega)).mono ?_
      rintro e w' ⟨A, c1, B, c2, p, q, rfl, hp, hq, hpq, x, rfl⟩
      have hl : p.length + q.length ≤ 67108864 := by
        have := congrArg List.length hpq
        rw [List.length_append, lastN_length] at this
        omega
      have s1 := run_str (w.drewN x) _ A p.length c1 p hp
      have s2 := run_str (w.drewN x) _ B q.length c2 q hq
      have s3 := hadd29 p q (by omega)
      have s4 : (str p).size + (str q).size ≤ 9223372036854775807 := by rw [str_size, str_size]; omega
      have HPQ := Lib.hid hpq
      clear hpq hp hq
      go_wp2
      go_ret
      exact ⟨by rw [HL.out, ← HPQ.out]; rfl, bl_drewN (Below.refl _ _) _⟩

end Go.Proofs.Ytiohdgckmolmnaa
