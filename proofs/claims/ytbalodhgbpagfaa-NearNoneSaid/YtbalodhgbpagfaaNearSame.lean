/- The reference's Same at matches: by a walk. -/
import Derived.Test.YtbalodhgbpagfaaNearAt
set_option linter.unusedSimpArgs false
set_option linter.unusedVariables false
set_option maxRecDepth 100000
namespace Go.Proofs.Ytbalodhgbpagfaa
open Go.RowKit

theorem RowM.lit {w : World} {g base : Nat} (l : List Mt) (h : Blk w g 31 (mvals l).toArray) (hb : base ≤ g) (hl : l.length ≤ 1000000) : RowM w base (.slice (some ⟨g, 0, none⟩) l.length l.length) l :=
  ⟨by rw [mvals_length], .inr ⟨g, 0, l.length, (mvals l).toArray, (0, 0), rfl, hb, h, Nat.le_refl _, by simp only [maxLen]; omega, by simp [mvals_length], by
    rw [← mvals_length]; simp, .inl rfl⟩⟩
set_option maxHeartbeats 2000000 in
theorem p_SameM {w : World} {b1 b2 : Nat} {v1 v2 : Value} {l : List Mt} (h1 : RowM w b1 v1 l) (h2 : RowM w b2 v2 l) (hl : l.length ≤ 1000000) :
    Calls Try.prog 8 #[v1, v2] w fun e w' => e = .returned (.bool true) ∧ Below w.heap.size w w' := by
  obtain ⟨A, c1, rfl, hlc1⟩ := Row.slice h1
  obtain ⟨B, c2, rfl, hlc2⟩ := Row.slice h2
  have H := Lib.hid (And.intro h1 h2)
  clear h1 h2
  go_enter Try.func8, Try.ntmps8
  go_wp2_with fail
  go_loopw [5] (fun v5 wr => ∃ i : Nat, v5 = .int .i64 i ∧ i ≤ l.length ∧ Below w.heap.size w wr) (fun v5 _ => l.length - (intOf v5).toNat)
  case atStart => exact ⟨0, rfl, Nat.zero_le _, Below.refl _ _⟩
  case round =>
    obtain ⟨i, rfl, hi, hB⟩ := hrel
    by_cases hil : i < l.length
    · have r1 := Row.below H.out.1 hB
      have r2 := Row.below H.out.2 hB
      obtain ⟨g, o, rfl⟩ : ∃ g o, A = some ⟨g, o, none⟩ := by
        obtain ⟨g, o, c', e, _⟩ := RowM.form H.out.1 (by omega)
        simp only [Value.slice.injEq] at e
        exact ⟨g, o, e.1⟩
      obtain ⟨g', o', rfl⟩ : ∃ g o, B = some ⟨g, o, none⟩ := by
        obtain ⟨g, o, c', e, _⟩ := RowM.form H.out.2 (by omega)
        simp only [Value.slice.injEq] at e
        exact ⟨g, o, e.1⟩
      obtain ⟨x0, x1⟩ := RowM.two r1 i hil
      obtain ⟨y0, y1⟩ := RowM.two r2 i hil
      generalize gM l i = M at *
      have q1 : (i : Int) < (l.length : Int) := by omega
      have q2 : (0 : Int) ≤ (i : Int) := by omega
      have HB := Lib.hid hB
      clear r1 r2 hB
      go_upto_region 6 with (fail)
      go_quiet (fail)
      go_wp2
      go_roundw
      case rel => exact ⟨i + 1, by go_num, by omega, bl_drewN HB.out _⟩
      case measure => simp [intOf]; omega
    · obtain rfl : i = l.length := by omega
      have HB := Lib.hid hB
      clear hB
      go_wp2
      go_ret
      exact ⟨rfl, HB.out⟩
end Go.Proofs.Ytbalodhgbpagfaa
