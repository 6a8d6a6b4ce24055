/- Chapter 29's laws: last, the example, one deed: walks. -/
import Derived.Test.YtiohdgckmolmnaaWin5
import Derived.Test.YtiohdgckmolmnaaDenC
set_option linter.unusedSimpArgs false
set_option linter.unusedVariables false
namespace Go.Proofs.Ytiohdgckmolmnaa
open Go.RowKit

theorem p_New_yes (n : Nat) (h1 : 1 ≤ n) (h2 : n ≤ 67108864) (w : World) : Calls Try.prog 32 #[.int .i64 n] w fun e w' =>
    ∃ g b ring, e = .returned (.tuple #[.pointer (some ⟨g, 0, none⟩), .int .i64 0]) ∧ Win w' g b n ring 0 [] ∧ w.heap.size ≤ g ∧ w.heap.size ≤ b ∧ Below w.heap.size w w' :=
  (p_New n w).mono fun e w' h => by
    unfold NewDone at h
    rw [if_pos (by omega)] at h
    exact h
theorem p_New_no (n : Int) (h1 : n < 1 ∨ 67108864 < n) (w : World) : Calls Try.prog 32 #[.int .i64 n] w fun e w' => e = .returned (.tuple #[.pointer none, .int .i64 1]) ∧ w = w' :=
  (p_New n w).mono fun e w' h => by
    unfold NewDone at h
    rw [if_neg (by omega)] at h
    exact h

theorem p_lastS (s : List UInt8) (n : Int) (w : World) (hs : s.length ≤ 1000000000) : Calls Try.prog 36 #[.string (str s), .int .i64 n] w fun e w' => e = .returned (.string (str (lastI n s))) ∧ w = w' := by
  have hz := str_size s
  by_cases hn : n < 1
  · have HL := Lib.hid (lastI_neg hn s)
    go_enter Try.func36, Try.ntmps36
    go_wp2
    go_ret
    exact ⟨by rw [HL.out]; rfl, rfl⟩
  · obtain ⟨k, rfl⟩ : ∃ k : Nat, n = k := ⟨n.toNat, by omega⟩
    by_cases hk : k < s.length
    · have hx := str_extract s (s.length - k)
      rw [hz] at hx
      have HX := Lib.hid hx
      clear hx
      go_enter Try.func36, Try.ntmps36
      go_wp2
      go_ret
      exact ⟨by show Ending.returned (Value.string ((str s).extract (s.length - k) s.length)) = _; rw [HX.out]; rfl, rfl⟩
    · have HL := Lib.hid (show lastI (k : Int) s = s from lastN_all (by omega))
      go_enter Try.func36, Try.ntmps36
      go_wp2
      go_ret
      exact ⟨by rw [HL.out]; rfl, rfl⟩

theorem ok_new4 (w : World) : Calls Try.prog 32 #[.int .i64 4] w fun e w' =>
    ∃ g b ring, e = .returned (.tuple #[.pointer (some ⟨g, 0, none⟩), .int .i64 0]) ∧ Win w' g b 4 ring 0 [] ∧ w.heap.size ≤ g ∧ w.heap.size ≤ b ∧ Below w.heap.size w w' := p_New_yes 4 (by omega) (by omega) w

set_option maxHeartbeats 4000000 in
set_option maxRecDepth 100000 in
theorem awake29 (w : World) : Calls Try.prog 31 #[] w fun e w' => e = .returned (.bool true) ∧ Below w.heap.size w w' := by
  go_enter Try.func31, Try.ntmps31
  go_wp2_with fail
  refine (ok_new4 _).mono ?_
  rintro e w1 ⟨g, b, ring, rfl, hW1, hg, hb, hB1⟩
  go_wp2_with fail
  refine (p_New_no 0 (by omega) _).mono ?_
  rintro e w1' ⟨rfl, rfl⟩
  go_wp2_with fail
  refine (p_Put g b 4 ring 0 [] [97, 98] w1 hW1 (by decide)).mono ?_
  rintro e w2 ⟨b2, ring2, at2, rfl, hW2, hb2, hT2, -⟩
  rw [show lastN 4 ([] ++ [97, 98]) = [97, 98] from rfl] at hW2
  go_wp2_with fail
  refine (p_WCopy g b2 4 ring2 at2 [97, 98] 3 2 w2 hW2).mono ?_
  rintro e w3 ⟨b3, ring3, at3, rfl, hW3, hb3, hT3⟩
  rw [show copyE (([97, 98] : List UInt8).length : Int) 3 2 67108864 = 0 from rfl, show str (wOut [97, 98] 3 2) = ⟨#[97, 98, 97]⟩ from rfl]
  rw [show wHeld 4 [97, 98] 3 2 = [98, 97, 98, 97] from rfl] at hW3
  go_wp2_with fail
  refine (p_WCopy g b3 4 ring3 at3 [98, 97, 98, 97] 3 5 w3 hW3).mono ?_
  rintro e w4 ⟨b4, ring4, at4, rfl, hW4, hb4, hT4⟩
  rw [show copyE (([98, 97, 98, 97] : List UInt8).length : Int) 3 5 67108864 = 10 from rfl]
  rw [show wHeld 4 [98, 97, 98, 97] 3 5 = [98, 97, 98, 97] from rfl] at hW4
  go_wp2_with fail
  refine (p_WCopy g b4 4 ring4 at4 [98, 97, 98, 97] 259 1 w4 hW4).mono ?_
  rintro e w5 ⟨b5, ring5, at5, rfl, hW5, hb5, hT5⟩
  rw [show copyE (([98, 97, 98, 97] : List UInt8).length : Int) 259 1 67108864 = 1 from rfl]
  rw [show wHeld 4 [98, 97, 98, 97] 259 1 = [98, 97, 98, 97] from rfl] at hW5
  have hB5 : Below w.heap.size w w5 := by
    have q3 := hT2.trans hT3 hb2
    have hb3' : b3 = b ∨ w1.heap.size ≤ b3 := by have := hT2.size; rcases hb2 with h | h <;> rcases hb3 with h' | h' <;> omega
    have q4 := q3.trans hT4 hb3'
    have hb4' : b4 = b ∨ w1.heap.size ≤ b4 := by have := q3.size; rcases hb3' with h | h <;> rcases hb4 with h' | h' <;> omega
    have q5 := q4.trans hT5 hb4'
    exact hB1.trans (q5.below hB1.size hg hb)
  go_wp2_with fail
  refine (p_Have g b5 4 ring5 at5 [98, 97, 98, 97] w5 hW5).mono ?_
  rintro e w' ⟨rfl, rfl⟩
  rw [show ((([98, 97, 98, 97] : List UInt8).length : Nat) : Int) = 4 from rfl]
  go_wp2_with fail
  refine (p_Last g b5 4 ring5 at5 [98, 97, 98, 97] 9 w5 hW5).mono ?_
  rintro e w6 ⟨rfl, hb6⟩
  rw [show str (lastI 9 [98, 97, 98, 97]) = ⟨#[98, 97, 98, 97]⟩ from rfl]
  go_wp2_with fail
  refine (p_Last g b5 4 ring5 at5 [98, 97, 98, 97] 2 w6 (hW5.below hb6)).mono ?_
  rintro e w7 ⟨rfl, hb7⟩
  rw [show str (lastI 2 [98, 97, 98, 97]) = ⟨#[98, 97]⟩ from rfl]
  go_wp2_with fail
  refine (p_Last g b5 4 ring5 at5 [98, 97, 98, 97] (-1) w7 ((hW5.below hb6).below hb7)).mono ?_
  rintro e w8 ⟨rfl, hb8⟩
  rw [show str (lastI (-1) [98, 97, 98, 97]) = ⟨#[]⟩ from rfl]
  go_wp2
  go_ret
  exact ⟨rfl, bl_then (bl_then (bl_then hB5 hB5.size hb6) (bl_then hB5 hB5.size hb6).size hb7) (bl_then (bl_then hB5 hB5.size hb6) (bl_then hB5 hB5.size hb6).size hb7).size hb8⟩

end Go.Proofs.Ytiohdgckmolmnaa
