/- The library's IndexFunc and ContainsFunc of ints, by a function that is one of the program's own and changes nothing. -/
import Derived.Test.YtoefkkgnabjmdaaInts
import Derived.Test.YtoefkkgnabjmdaaSlots
set_option linter.unusedSimpArgs false
set_option linter.unusedVariables false
set_option maxRecDepth 100000
namespace Go.Proofs.Ytoefkkgnabjmdaa
open Go.RowKit

theorem any_idx (f : FuncId) (p : Int → Bool) (hent : Enters f) (hf : ∀ z w, Calls Try.prog f #[.int .i64 z] w fun e w' => e = .returned (.bool (p z)) ∧ w = w')
    (A : Option Addr) (c : Nat) (l : List Int) (w : World) (h : ReadsI w A l) (hl : l.length ≤ 1000000000) :
    Calls Try.prog 97 #[.slice A l.length c, .func (.func f) #[] #[]] w fun e w' => ∃ k : Int, e = .returned (.int .i64 k) ∧ w = w' ∧ (decide (0 ≤ k) = l.any p) := by
  go_enter Try.func97, Try.ntmps97
  go_wp2_with fail
  go_loop [8] (fun v => ∃ k : Nat, k ≤ l.length ∧ v = .int .i64 k ∧ (l.take k).any p = false) (fun v => l.length - (intOf v).toNat)
  case atStart => exact ⟨0, Nat.zero_le _, rfl, by simp⟩
  case round =>
    obtain ⟨k, hk, rfl, hno⟩ := hrel
    have HN := Lib.hid hno
    clear hno
    by_cases hkl : k < l.length
    · obtain ⟨ad, rfl, had, hc⟩ := h.at_ k hkl
      have HT := Lib.hid (show l.take (k + 1) = l.take k ++ [l[k]] from List.take_succ_eq_append_getElem hkl)
      have HM := Lib.hid (show l[k] ∈ l from List.getElem_mem hkl)
      generalize l[k] = z at *
      have hent' := hent #[.int .i64 z] w
      go_wp2_with fail
      refine (hf z _).mono ?_
      rintro e w' ⟨rfl, rfl⟩
      by_cases hb : p z = true
      · have HB := Lib.hid hb
        rw [hb]
        clear hb
        go_wp2
        go_ret
        refine ⟨k, rfl, rfl, ?_⟩
        rw [decide_eq_true (by omega), eq_comm, List.any_eq_true]
        exact ⟨z, HM.out, HB.out⟩
      · have hb' : p z = false := by simpa using hb
        have HB := Lib.hid hb'
        rw [hb']
        clear hb hb'
        go_wp2_with fail
        go_round
        case rel => exact ⟨k + 1, by omega, by go_num, by rw [HT.out, List.any_append, HN.out]; simp [HB.out]⟩
        case measure => simp [intOf]; omega
    · obtain rfl : k = l.length := by omega
      go_wp2
      go_ret
      have hn := HN.out
      rw [List.take_length] at hn
      exact ⟨-1, rfl, rfl, by rw [hn]; rfl⟩

theorem any_has (f : FuncId) (p : Int → Bool) (hent : Enters f) (hf : ∀ z w, Calls Try.prog f #[.int .i64 z] w fun e w' => e = .returned (.bool (p z)) ∧ w = w')
    (A : Option Addr) (c : Nat) (l : List Int) (w : World) (h : ReadsI w A l) (hl : l.length ≤ 1000000000) :
    Calls Try.prog 68 #[.slice A l.length c, .func (.func f) #[] #[]] w fun e w' => e = .returned (.bool (l.any p)) ∧ w = w' := by
  go_enter Try.func68, Try.ntmps68
  go_wp2_with fail
  refine (any_idx f p hent hf A c l w h hl).mono ?_
  rintro e w' ⟨k, rfl, rfl, hk⟩
  have HK := Lib.hid hk
  clear hk
  go_wp2
  go_ret
  exact ⟨by rw [← HK.out]; rfl, rfl⟩

end Go.Proofs.Ytoefkkgnabjmdaa
