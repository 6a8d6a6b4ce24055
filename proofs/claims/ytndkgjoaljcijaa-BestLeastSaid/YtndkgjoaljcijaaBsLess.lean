/- Chapter 26 (best): which of two comes first. -/
import Derived.Test.YtndkgjoaljcijaaBsCost
set_option linter.unusedSimpArgs false
set_option linter.unusedVariables false
set_option maxRecDepth 100000
namespace Go.Proofs.Ytndkgjoaljcijaa
open Go.RowKit

def stCells (s : St) : List Value := [.int .i64 s.at_, .int .i64 s.r.a, .int .i64 s.r.b, .int .i64 s.r.c, .int .i64 s.r.d]
def stV (s : St) : Value := .agg #[.int .i64 s.at_, .int .i64 s.r.a, .int .i64 s.r.b, .int .i64 s.r.c, .int .i64 s.r.d]
def wtV (a : Wt) : Value := .agg #[.int .i64 a.s.at_, .int .i64 a.s.r.a, .int .i64 a.s.r.b, .int .i64 a.s.r.c, .int .i64 a.s.r.d, .int .i64 a.cost, .int .i64 a.all, .int .i64 a.came]
def wtCells (a : Wt) : List Value := [.int .i64 a.s.at_, .int .i64 a.s.r.a, .int .i64 a.s.r.b, .int .i64 a.s.r.c, .int .i64 a.s.r.d, .int .i64 a.cost, .int .i64 a.all, .int .i64 a.came]
set_option maxHeartbeats 4000000 in
theorem p_less (a b : Wt) (w : World) : Calls Try.prog 17 #[wtV a, wtV b] w fun e w' => e = .returned (.bool (decide (lessW a b))) ∧ Below w.heap.size w w' := by
  obtain ⟨⟨i, ⟨r1, r2, r3, r4⟩⟩, c, al, cm⟩ := a
  obtain ⟨⟨j, ⟨s1, s2, s3, s4⟩⟩, c', al', cm'⟩ := b
  unfold wtV
  simp only
  have hB0 := bl_alloc (bl_alloc (Below.refl w.heap.size w) (.cells #[.int .i64 i, .int .i64 r1, .int .i64 r2, .int .i64 r3, .int .i64 r4, .int .i64 c, .int .i64 al, .int .i64 cm] 63)) (.cells #[.int .i64 j, .int .i64 s1, .int .i64 s2, .int .i64 s3, .int .i64 s4, .int .i64 c', .int .i64 al', .int .i64 cm'] 63)
  have HB0 := Lib.hid hB0
  clear hB0
  by_cases h1 : al = al'
  · have b1 : (al != al') = false := by simp [h1]
    have HL : Hid (decide (lessW ⟨⟨i, ⟨r1, r2, r3, r4⟩⟩, c, al, cm⟩ ⟨⟨j, ⟨s1, s2, s3, s4⟩⟩, c', al', cm'⟩) = decide (cm < cm')) := Lib.hid (by rw [decide_eq_decide]; unfold lessW; simp only; omega)
    clear h1
    go_enter Try.func17, Try.ntmps17
    go_wp2
    go_ret
    exact ⟨(by rw [HL.out]; rfl), HB0.out⟩
  · have b1 : (al != al') = true := by simp [h1]
    have HL : Hid (decide (lessW ⟨⟨i, ⟨r1, r2, r3, r4⟩⟩, c, al, cm⟩ ⟨⟨j, ⟨s1, s2, s3, s4⟩⟩, c', al', cm'⟩) = decide (al < al')) := Lib.hid (by rw [decide_eq_decide]; unfold lessW; simp only; omega)
    clear h1
    go_enter Try.func17, Try.ntmps17
    go_wp2
    go_ret
    exact ⟨(by rw [HL.out]; rfl), HB0.out⟩
theorem enters_less : Enters 17 := fun _ _ => by kernel_rfl
end Go.Proofs.Ytndkgjoaljcijaa
