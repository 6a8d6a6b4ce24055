/- Chapter 29's second law: two windows that were told the same last bytes: by a walk. -/
import Derived.Test.YtiohdgckmolmnaaLaw29c
set_option linter.unusedSimpArgs false
set_option linter.unusedVariables false
namespace Go.Proofs.Ytiohdgckmolmnaa
open Go.RowKit

theorem p_New_int (m : Int) (n : Nat) (hm : m = n) (h1 : 1 ≤ n) (h2 : n ≤ 67108864) (w : World) : Calls Try.prog 32 #[.int .i64 m] w fun e w' =>
    ∃ g b ring, e = .returned (.tuple #[.pointer (some ⟨g, 0, none⟩), .int .i64 0]) ∧ Win w' g b n ring 0 [] ∧ w.heap.size ≤ g ∧ w.heap.size ≤ b ∧ Below w.heap.size w w' := by
  subst hm
  exact p_New_yes n h1 h2 w

set_option maxHeartbeats 4000000 in
set_option maxRecDepth 100000 in
theorem law_WindowForgets_main (sz : Nat) (s t : List UInt8) (x : Deed) (w : World) (h1 : sz ≤ 255) (h2 : s.length ≤ 1000) (h3 : t.length ≤ 1000) :
    Calls Try.prog 8 #[.int .u8 sz, .agg #[.string (str s), .string (str t)], deedV x] w fun e w' => e = .returned (.bool true) ∧ Below w.heap.size w w' := by
  obtain ⟨k, n, d, xs⟩ := x
  unfold deedV
  simp only
  have hsz1 := str_size s
  have hsz2 := str_size t
  have k0 := (Blk.new w 62 #[.string (str s), .string (str t)]).alloc (.cells #[.int .i64 k, .int .i64 n, .int .i64 d, .string (str xs)] 55)
  have k1 := Blk.new (w.alloc (.cells #[.string (str s), .string (str t)] 62)) 55 #[.int .i64 k, .int .i64 n, .int .i64 d, .string (str xs)]
  rw [World.size_alloc] at k1
  have hB0 := bl_alloc (bl_alloc (Below.refl w.heap.size w) (.cells #[.string (str s), .string (str t)] 62)) (.cells #[.int .i64 k, .int .i64 n, .int .i64 d, .string (str xs)] 55)
  have K0 := Lib.hid k0
  have K1 := Lib.hid k1
  have HB0 := Lib.hid hB0
  clear k0 k1 hB0
  go_enter Try.func8, Try.ntmps8
  go_wp2_with fail
  generalize (w.alloc (.cells #[.string (str s), .string (str t)] 62)).alloc (.cells #[.int .i64 k, .int .i64 n, .int .i64 d, .string (str xs)] 55) = w0 at *
  have kc0 := Blk.cell K0.out
  go_region
  all_goals
    clear kc0
    have hs1 : (s.length : Int) ≤ 1000 := by omega
    have hs2 : (t.length : Int) ≤ 1000 := by omega
    have hsz : (sz : Int) ≤ 255 := by omega
    go_wp2_with fail
    refine (p_New_int (sz + 1) (sz + 1) (by omega) (by omega) (by omega) _).mono ?_
    rintro e w1 ⟨g1, b1, r1, rfl, hW1, hg1, hb1, hB1⟩
    have HB1 : Hid (Below w.heap.size w w1) := Lib.hid (bl_then HB0.out.drew HB0.out.size hB1)
    have hc1 := K1.out.drew.below hB1 K1.out.drew.lt
    have z0 : w.heap.size + 1 < w0.drew.heap.size := K1.out.drew.lt
    have z1 : w0.drew.heap.size ≤ w1.heap.size := hB1.size
    have u1 := hW1.blk.lt
    have u2 := hW1.row.lt
    have HW1 := Lib.hid hW1
    generalize w0.drew.heap.size = S0 at *
    clear hW1 hB1
    go_wp2_with fail
    refine (p_New_int (sz + 1) (sz + 1) (by omega) (by omega) (by omega) _).mono ?_
    rintro e w2 ⟨g2, b2, r2, rfl, hW2, hg2, hb2, hB2⟩
    have HB2 := Lib.hid (bl_then HB1.out HB1.out.size hB2)
    have hc2 := hc1.below hB2 hc1.lt
    have z2 := hB2.size
    have v1 := hW2.blk.lt
    have v2 := hW2.row.lt
    have HW2 := Lib.hid hW2
    have HA2 := Lib.hid (HW1.out.below hB2)
    clear hW2 hB2 hc1
    go_wp2_with fail
    refine (p_Put g1 b1 (sz + 1) r1 0 [] s w2 HA2.out (by omega)).mono ?_
    rintro e w3 ⟨b3, r3, a3, rfl, hW3, hb3, hT3, -⟩
    rw [List.nil_append] at hW3
    have z3 := hT3.size
    have HB3 := Lib.hid (HB2.out.trans (hT3.below HB2.out.size (by omega) (by omega)))
    have hc3 := hc2.touch hT3 (by omega) (by omega)
    have HW3 := Lib.hid hW3
    have u3 := hW3.row.lt
    have HC3 := Lib.hid (HW2.out.keep hT3 (by omega) (by omega) (by omega) (by omega))
    clear hW3 hT3 hc2
    go_wp2_with fail
    refine (p_Put g1 b3 (sz + 1) r3 a3 _ t w3 HW3.out (by omega)).mono ?_
    rintro e w4 ⟨b4, r4, a4, rfl, hW4, hb4, hT4, -⟩
    rw [lastN_append] at hW4
    have z4 := hT4.size
    have HB4 := Lib.hid (HB3.out.trans (hT4.below HB3.out.size (by omega) (by omega)))
    have hc4 := hc3.touch hT4 (by omega) (by omega)
    have HW4 := Lib.hid hW4
    have u4 := hW4.row.lt
    have HC4 := Lib.hid (HC3.out.keep hT4 (by omega) (by omega) (by omega) (by omega))
    clear hW4 hT4 hc3
    have hadd := hadd29 s t (by omega)
    have haz : (str s).size + (str t).size ≤ 9223372036854775807 := by rw [str_size, str_size]; omega
    go_wp2_with fail
    (try rw [str_append29])
    refine (p_lastS (s ++ t) (sz + 1) w4 (by rw [List.length_append]; omega)).mono ?_
    rintro e w4' ⟨rfl, rfl⟩
    rw [show lastI ((sz : Int) + 1) (s ++ t) = lastN (sz + 1) (s ++ t) from rfl]
    clear hadd haz
    go_wp2_with fail
    refine (p_Put g2 b2 (sz + 1) r2 0 [] (lastN (sz + 1) (s ++ t)) w4 HC4.out (by rw [lastN_length]; omega)).mono ?_
    rintro e w5 ⟨b5, r5, a5, rfl, hW5, hb5, hT5, -⟩
    rw [List.nil_append, lastN_lastN] at hW5
    have z5 := hT5.size
    have HB5 := Lib.hid (HB4.out.trans (hT5.below HB4.out.size (by omega) (by omega)))
    have hc5 := hc4.touch hT5 (by omega) (by omega)
    have HC5 := Lib.hid hW5
    have v5 := hW5.row.lt
    have HW5 := Lib.hid (HW4.out.keep hT5 (by omega) (by omega) (by omega) (by omega))
    clear hW5 hT5 hc4
    generalize lastN (sz + 1) (s ++ t) = H at *
    have kc5 := Blk.cell hc5
    go_wp2_with fail
    refine (p_WCopy g1 b4 (sz + 1) r4 a4 H n d w5 HW5.out).mono ?_
    rintro e w6 ⟨b6, r6, a6, rfl, hW6, hb6, hT6⟩
    have z6 := hT6.size
    have HB6 := Lib.hid (HB5.out.trans (hT6.below HB5.out.size (by omega) (by omega)))
    have hc6 := hc5.touch hT6 (by omega) (by omega)
    have HW6 := Lib.hid hW6
    have u6 := hW6.row.lt
    have HC6 := Lib.hid (HC5.out.keep hT6 (by omega) (by omega) (by omega) (by omega))
    clear hW6 hT6 hc5 kc5
    have kc6 := Blk.cell hc6
    go_wp2_with fail
    refine (p_WCopy g2 b5 (sz + 1) r5 a5 H n d w6 HC6.out).mono ?_
    rintro e w7 ⟨b7, r7, a7, rfl, hW7, hb7, hT7⟩
    have z7 := hT7.size
    have HB7 := Lib.hid (HB6.out.trans (hT7.below HB6.out.size (by omega) (by omega)))
    have HC7 := Lib.hid hW7
    have HW7 := Lib.hid (HW6.out.keep hT7 (by omega) (by omega) (by omega) (by omega))
    clear hW7 hT7 kc6 hc6
    generalize wHeld (sz + 1) H n d = H' at *
    generalize wOut H n d = O at *
    generalize copyE H.length n d 67108864 = er at *
    have hse := str_self O
    go_wp2_with fail
    refine (p_Last g1 b6 (sz + 1) r6 a6 H' (sz + 1) w7 HW7.out).mono ?_
    rintro e w8 ⟨rfl, hb8⟩
    have HB8 := Lib.hid (bl_then HB7.out HB7.out.size hb8)
    have HC8 := Lib.hid (HC7.out.below hb8)
    have HW8 := Lib.hid (HW7.out.below hb8)
    clear hb8
    go_wp2_with fail
    refine (p_Last g2 b7 (sz + 1) r7 a7 H' (sz + 1) w8 HC8.out).mono ?_
    rintro e w9 ⟨rfl, hb9⟩
    have HB9 := Lib.hid (bl_then HB8.out HB8.out.size hb9)
    have HC9 := Lib.hid (HC8.out.below hb9)
    have HW9 := Lib.hid (HW8.out.below hb9)
    clear hb9
    have hse2 := str_self (lastI ((sz : Int) + 1) H')
    go_wp2_with fail
    refine (p_Have g1 b6 (sz + 1) r6 a6 H' w9 HW9.out).mono ?_
    rintro e w9' ⟨rfl, rfl⟩
    go_wp2_with fail
    refine (p_Have g2 b7 (sz + 1) r7 a7 H' w9 HC9.out).mono ?_
    rintro e w9' ⟨rfl, rfl⟩
    go_wp2_with fail
    refine (awake29 w9).mono ?_
    rintro e w10 ⟨rfl, hb10⟩
    go_wp2
    go_ret
    exact ⟨rfl, bl_then HB9.out HB9.out.size hb10⟩

end Go.Proofs.Ytiohdgckmolmnaa
