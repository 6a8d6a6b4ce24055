/- Chapter 24's first law: by a walk. -/
import Derived.Test.YtoefkkgnabjmdaaLaw24
set_option linter.unusedSimpArgs false
set_option linter.unusedVariables false
set_option maxRecDepth 100000
namespace Go.Proofs.Ytoefkkgnabjmdaa
open Go.RowKit

/-- What either count gives, told alike: two rows and a number. -/
def CntV (w w' : World) (l : List Tok) (e : Ending) : Prop :=
  ∃ A B a b c1 c2, e = .returned (.tuple #[.slice A (List.length a) c1, .slice B (List.length b) c2, .int .i64 (tokErr l)]) ∧ ReadsI w' A a ∧ ReadsI w' B b ∧ Below w.heap.size w w' ∧
    a = (if tokErr l = 0 then cnM l else []) ∧ b = (if tokErr l = 0 then cnD l else [])
theorem counted_v {w w' : World} {l : List Tok} {e : Ending} (h : Counted w l e w') : CntV w w' l e := by
  rcases h with ⟨h0, b1, b2, rfl, k1, k2, _, hb⟩ | ⟨h0, rfl, hb⟩
  · exact ⟨_, _, cnM l, cnD l, 401, 52, by rw [cnM_length, cnD_length, h0], reads_ints k1, reads_ints k2, hb, (if_pos h0).symm, (if_pos h0).symm⟩
  · exact ⟨none, none, [], [], 0, 0, rfl, ReadsI.nil _ _, ReadsI.nil _ _, hb, (if_neg h0).symm, (if_neg h0).symm⟩
noncomputable def cntA (l : List Tok) : List Int := if tokErr l = 0 then cnM l else []
noncomputable def cntB (l : List Tok) : List Int := if tokErr l = 0 then cnD l else []
theorem cntA_len (l : List Tok) : (cntA l).length ≤ 401 := by unfold cntA; split; rw [cnM_length]; exact Nat.le_refl _; simp
theorem cntB_len (l : List Tok) : (cntB l).length ≤ 52 := by unfold cntB; split; rw [cnD_length]; exact Nat.le_refl _; simp

set_option maxHeartbeats 4000000 in
theorem law_CountFreqs_main (T M D : Option Addr) (l : List Tok) (m d : List Int) (c c1 c2 : Nat) (w : World) (hT : ReadsT w T l) (hm : ReadsI w M m) (hd : ReadsI w D d) (l0 : l.length ≤ 300) (l1 : m.length ≤ 500) (l2 : d.length ≤ 500) :
    Calls Try.prog 8 #[.slice T l.length c, .slice M m.length c1, .slice D d.length c2] w fun e w' => e = .returned (.bool true) ∧ Below w.heap.size w w' := by
  go_enter Try.func8, Try.ntmps8
  go_wp2_with fail
  refine (p_Freqs T c l w hT (by omega)).mono ?_
  rintro e w1 hh
  obtain ⟨A1, B1, a1, b1, k1, j1, rfl, ha1, hb1, hB1, ea, eb⟩ := counted_v hh
  clear hh
  have E1 := Lib.hid ea
  have E2 := Lib.hid eb
  have n1 : a1.length ≤ 401 := by rw [ea]; exact cntA_len l
  have n2 : b1.length ≤ 52 := by rw [eb]; exact cntB_len l
  have hT1 := hT.below hB1
  have hm1 := hm.below hB1
  have hd1 := hd.below hB1
  clear ea eb hT hm hd
  go_wp2_with fail
  refine (r_Freqs T c l w1 hT1 (by omega)).mono ?_
  rintro e w2 hh
  obtain ⟨A2, B2, a2, b2, k2, j2, rfl, ha2, hb2, hB2, ea, eb⟩ := counted_v hh
  clear hh
  obtain rfl : a2 = a1 := by rw [ea, E1.out]
  obtain rfl : b2 = b1 := by rw [eb, E2.out]
  have ha1' := ha1.below hB2
  have hb1' := hb1.below hB2
  have hm2 := hm1.below hB2
  have hd2 := hd1.below hB2
  have hBB2 := bl_then hB1 hB1.size hB2
  clear ea eb E1 E2 hT1 hm1 hd1 ha1 hb1 hB1 hB2
  generalize tokErr l = E at *
  go_wp2_with fail
  refine (p_Prices M D m d c1 c2 w2 hm2 hd2 (by omega) (by omega)).mono ?_
  rintro e w3 ⟨g1, g2, rfl, q1, q2, hb3⟩
  have hB3 := bl_alloc hb3 (.cells #[.slice (some ⟨g1, 0, none⟩) 401 401, .slice (some ⟨g2, 0, none⟩) 52 52] 48)
  have x1 := Blk.new w3 48 #[.slice (some ⟨g1, 0, none⟩) 401 401, .slice (some ⟨g2, 0, none⟩) 52 52]
  have y1 := ha1'.below hB3
  have y2 := hb1'.below hB3
  have y3 := ha2.below hB3
  have y4 := hb2.below hB3
  have hm3 := hm2.below hB3
  have hd3 := hd2.below hB3
  have q3 := q1.alloc (.cells #[.slice (some ⟨g1, 0, none⟩) 401 401, .slice (some ⟨g2, 0, none⟩) 52 52] 48)
  have q4 := q2.alloc (.cells #[.slice (some ⟨g1, 0, none⟩) 401 401, .slice (some ⟨g2, 0, none⟩) 52 52] 48)
  have hBB3 := bl_then hBB2 hBB2.size hB3
  clear hb3 hB3 hBB2 ha1' hb1' ha2 hb2 hm2 hd2 q1 q2
  go_wp2_with fail
  generalize hw4 : w3.alloc (.cells #[.slice (some ⟨g1, 0, none⟩) 401 401, .slice (some ⟨g2, 0, none⟩) 52 52] 48) = w4 at *
  refine (r_Prices M D m d c1 c2 w4 hm3 hd3 (by omega) (by omega)).mono ?_
  rintro e w5 ⟨A5, B5, c5, c6, rfl, r1, r2, hb5⟩
  have hB5 := bl_alloc hb5 (.cells #[.slice A5 401 c5, .slice B5 52 c6] 48)
  have x2 := Blk.new w5 48 #[.slice A5 401 c5, .slice B5 52 c6]
  have hx : w3.heap.size < w4.heap.size := x1.lt
  have x3 := x1.below hB5 x1.lt
  have z1 := y1.below hB5
  have z2 := y2.below hB5
  have z3 := y3.below hB5
  have z4 := y4.below hB5
  have s1 := q3.below hB5
  have s2 := q4.below hB5
  have s3 := r1.alloc (.cells #[.slice A5 401 c5, .slice B5 52 c6] 48)
  have s4 := r2.alloc (.cells #[.slice A5 401 c5, .slice B5 52 c6] 48)
  have hBB5 := bl_then hBB3 hBB3.size hB5
  clear hw4 y1 y2 y3 y4 q3 q4 r1 r2 hb5 hB5 hBB3 x1 hm3 hd3
  go_wp2_with fail
  generalize w5.alloc (.cells #[.slice A5 401 c5, .slice B5 52 c6] 48) = w6 at *
  refine (r_Ints _ _ a2 a2 _ _ w6 z1 z3 (by omega) (by omega)).mono ?_
  rintro e w7 ⟨rfl, hb7⟩
  rw [decide_eq_true rfl]
  have z2' := z2.below hb7
  have z4' := z4.below hb7
  have s1' := s1.below hb7
  have s2' := s2.below hb7
  have s3' := s3.below hb7
  have s4' := s4.below hb7
  have x2' := x2.below hb7 x2.lt
  have x3' := x3.below hb7 x3.lt
  have hBB7 := bl_then hBB5 hBB5.size hb7
  clear z1 z2 z3 z4 s1 s2 s3 s4 x2 x3 hb7 hBB5
  go_wp2_with fail
  refine (r_Ints _ _ b2 b2 _ _ w7 z2' z4' (by omega) (by omega)).mono ?_
  rintro e w8 ⟨rfl, hb8⟩
  rw [decide_eq_true rfl]
  have s1 := s1'.below hb8
  have s2 := s2'.below hb8
  have s3 := s3'.below hb8
  have s4 := s4'.below hb8
  have x2 := x2'.below hb8 x2'.lt
  have x3 := x3'.below hb8 x3'.lt
  have hBB8 := bl_then hBB7 hBB7.size hb8
  have kc2 := Blk.cell x2
  have kc3 := Blk.cell x3
  have hl2 := x2.lt
  have hl3 := x3.lt
  clear z2' z4' s1' s2' s3' s4' x2' x3' hb8 hBB7
  go_wp2_with fail
  have hq := r_Ints _ _ (pricesOf m 401) (pricesOf m 401) 401 c5 w8 s1 s3 (by rw [pricesOf_length]; omega) (by rw [pricesOf_length]; omega)
  rw [pricesOf_length, decide_eq_true rfl] at hq
  refine hq.mono ?_
  clear hq
  rintro e w9 ⟨rfl, hb9⟩
  have s2' := s2.below hb9
  have s4' := s4.below hb9
  have x2' := x2.below hb9 x2.lt
  have x3' := x3.below hb9 x3.lt
  have hBB9 := bl_then hBB8 hBB8.size hb9
  have kc4 := Blk.cell x2'
  have kc5 := Blk.cell x3'
  clear s1 s2 s3 s4 x2 x3 hb9 hBB8 kc2 kc3
  go_wp2_with fail
  have hq := r_Ints _ _ (pricesOf d 52) (pricesOf d 52) 52 c6 w9 s2' s4' (by rw [pricesOf_length]; omega) (by rw [pricesOf_length]; omega)
  rw [pricesOf_length, decide_eq_true rfl] at hq
  refine hq.mono ?_
  clear hq
  rintro e w10 ⟨rfl, hb10⟩
  have hBB10 := bl_then hBB9 hBB9.size hb10
  clear s2' s4' x2' x3' hb10 hBB9 kc4 kc5
  go_wp2_with fail
  refine (awake24 _).mono ?_
  rintro e w11 ⟨rfl, hb11⟩
  have HB := Lib.hid (bl_then hBB10 hBB10.size hb11)
  clear hBB10 hb11
  go_wp2
  go_ret
  exact ⟨rfl, HB.out⟩

theorem law_CountFreqs (T M D : Option Addr) (l : List Tok) (m d : List Int) (c c1 c2 : Nat) (w : World) (hT : ReadsT w T l) (hm : ReadsI w M m) (hd : ReadsI w D d) :
    Calls Try.prog 8 #[.slice T l.length c, .slice M m.length c1, .slice D d.length c2] w fun e w' => e = .returned (.bool true) ∧ Below w.heap.size w w' := by
  by_cases l0 : l.length ≤ 300
  · by_cases l1 : m.length ≤ 500
    · by_cases l2 : d.length ≤ 500
      · exact law_CountFreqs_main T M D l m d c c1 c2 w hT hm hd l0 l1 l2
      · go_enter Try.func8, Try.ntmps8
        go_wp2_with fail
        refine (awake24 _).mono ?_
        rintro e w1 ⟨rfl, hb⟩
        go_wp2
        go_ret
        exact ⟨rfl, hb⟩
    · go_enter Try.func8, Try.ntmps8
      go_wp2_with fail
      refine (awake24 _).mono ?_
      rintro e w1 ⟨rfl, hb⟩
      go_wp2
      go_ret
      exact ⟨rfl, hb⟩
  · go_enter Try.func8, Try.ntmps8
    go_wp2_with fail
    refine (awake24 _).mono ?_
    rintro e w1 ⟨rfl, hb⟩
    go_wp2
    go_ret
    exact ⟨rfl, hb⟩

end Go.Proofs.Ytoefkkgnabjmdaa
