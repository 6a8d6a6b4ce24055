/- The reference of chapter 08: Ints: by a walk. -/
import Derived.Test.YtoefkkgnabjmdaaInts
set_option linter.unusedSimpArgs false
set_option linter.unusedVariables false
set_option maxRecDepth 100000
namespace Go.Proofs.Ytoefkkgnabjmdaa
open Go.RowKit

theorem r_Ints08b (A B : Option Addr) (a b : List Int) (c1 c2 : Nat) (w : World) (ha : ReadsI w A a) (hb : ReadsI w B b) (la : a.length ≤ 1000000000) (lb : b.length ≤ 1000000000) :
    Calls Try.prog 28 #[.slice A a.length c1, .slice B b.length c2] w fun e w' => e = .returned (.bool (decide (a = b))) ∧ Below w.heap.size w w' := by
  by_cases hl : a.length = b.length
  · have HL := Lib.hid hl
    have b1 : ((a.length : Int) != b.length) = false := by rw [bne_eq_false_iff_eq]; omega
    clear hl
    go_enter Try.func28, Try.ntmps28
    go_wp2_with fail
    go_loopw [5] (fun v wr => ∃ k : Nat, k ≤ a.length ∧ v = .int .i64 k ∧ a.take k = b.take k ∧ Below w.heap.size w wr) (fun v _ => a.length - (intOf v).toNat)
    case atStart => exact ⟨0, Nat.zero_le _, rfl, rfl, Below.refl _ _⟩
    case round =>
      obtain ⟨k, hk, rfl, heq, hbr⟩ := hrel
      have HE := Lib.hid heq
      clear heq
      by_cases hkl : k < a.length
      · have hkb : k < b.length := by have := HL.out; omega
        obtain ⟨ad, rfl, had, g1⟩ := (ha.below hbr).at_ k hkl
        obtain ⟨bd, rfl, hbd, g2⟩ := (hb.below hbr).at_ k hkb
        have HA := Lib.hid (show a.take (k + 1) = a.take k ++ [a[k]] from List.take_succ_eq_append_getElem hkl)
        have HB := Lib.hid (show b.take (k + 1) = b.take k ++ [b[k]] from List.take_succ_eq_append_getElem hkb)
        have HN := Lib.hid (show a = b → a[k] = b[k] from fun h => by subst h; rfl)
        generalize a[k] = y at *
        generalize b[k] = z at *
        by_cases hyz : y = z
        · have hd : (y != z) = false := by simpa using hyz
          have HZ := Lib.hid hyz
          clear hyz
          go_wp2_with fail
          go_quiet (fail)
          go_wp2
          go_roundw
          case rel => exact ⟨k + 1, by omega, by go_num, by rw [HA.out, HB.out, HE.out, HZ.out], bl_drewN hbr _⟩
          case measure => simp [intOf]; omega
        · have hd : (y != z) = true := by simpa using hyz
          have HZ := Lib.hid hyz
          clear hyz
          go_wp2_with fail
          go_quiet (fail)
          go_wp2
          go_ret
          exact ⟨by rw [decide_eq_false (fun h => HZ.out (HN.out h))]; rfl, bl_drewN hbr _⟩
      · obtain rfl : k = a.length := by omega
        go_wp2
        go_ret
        have h1 := HE.out
        rw [List.take_length, HL.out, List.take_length] at h1
        exact ⟨by rw [decide_eq_true h1]; rfl, hbr⟩
  · have b1 : ((a.length : Int) != b.length) = true := by rw [bne_iff_ne]; omega
    have HN : Hid (¬ a = b) := Lib.hid (fun h => hl (by rw [h]))
    clear hl
    go_enter Try.func28, Try.ntmps28
    go_wp2
    go_ret
    exact ⟨by rw [decide_eq_false HN.out]; rfl, Below.refl _ _⟩

end Go.Proofs.Ytoefkkgnabjmdaa
