/- The library's Concat of two slices of ints: by a walk. -/
import Derived.Test.YtoefkkgnabjmdaaGrow
set_option linter.unusedSimpArgs false
set_option linter.unusedVariables false
set_option maxRecDepth 100000
namespace Go.Proofs.Ytoefkkgnabjmdaa
open Go.RowKit

set_option maxHeartbeats 4000000 in
theorem p_Concat2 (tb : Nat) (A1 A2 : Option Addr) (c1 c2 : Nat) (xs ys : List Int) (w : World) (hc1 : w.cell? ⟨tb, 0, none⟩ = some (.slice A1 xs.length c1)) (hc2 : w.cell? ⟨tb, 1, none⟩ = some (.slice A2 ys.length c2))
    (htb : tb < w.heap.size) (hx : ReadsI w A1 xs) (hy : ReadsI w A2 ys) (h1 : 1 ≤ xs.length + ys.length) (n1 : xs.length ≤ 100000) (n2 : ys.length ≤ 100000) :
    Calls Try.prog 75 #[.slice (some ⟨tb, 0, none⟩) 2 2] w fun e w' => ∃ v, e = .returned v ∧ RowI w' w.heap.size v (xs ++ ys) ∧ Below w.heap.size w w' := by
  obtain ⟨N, hN⟩ : ∃ N, N = xs.length + ys.length := ⟨_, rfl⟩
  have qN : IntKind.i64.wrap ((xs.length : Int) + ys.length) = N := by rw [show (xs.length : Int) + ys.length = N by omega]; exact Go.IntWalk.i64_in _ (by omega)
  have qN2 : (xs.length : Int) + ys.length = N := by omega
  have hg := p_Grow N (by omega) (by omega) w
  have hN1 : 1 ≤ N := by omega
  have hN2 : N ≤ 200000 := by omega
  clear hN
  go_enter Try.func75, Try.ntmps75
  go_wp2_with fail
  refine wp_loop_rounds 3 ?_
  rw [rounds_succ]
  go_wp2_with fail
  rw [rounds_succ]
  go_wp2_with fail
  rw [rounds_succ]
  go_wp2_with fail
  refine hg.mono ?_
  rintro e w1 ⟨v, rfl, hrow, hb⟩
  have hz := hb.size
  have d1 : w1.cell? ⟨tb, 0, none⟩ = some (.slice A1 xs.length c1) := (hb.cell (p := ⟨tb, 0, none⟩) htb).trans hc1
  have d2 : w1.cell? ⟨tb, 1, none⟩ = some (.slice A2 ys.length c2) := (hb.cell (p := ⟨tb, 1, none⟩) htb).trans hc2
  have hx1 := hx.below hb
  have HB := Lib.hid hb
  have hlt := hrow.lt
  clear hc1 hc2 hg qN qN2 hb
  go_wp2_with fail
  refine wp_loop_rounds 3 ?_
  rw [rounds_succ]
  go_wp2_with (at_builtin; go_must (refine wpList_append_ints rfl (.tmp 31) (.tmp 32) rfl w.heap.size _ [] rfl hrow A1 xs.length c1 xs rfl rfl hx1 (by simp; omega) hz ?_); intro v3 w3 hr3 hg3 ho3)
  have HB3 := Lib.hid (HB.out.grown hg3 hz (fun j hj => (hlt j hj).1))
  have hz3 := HB3.out.size
  have d3 : w3.cell? ⟨tb, 1, none⟩ = some (.slice A2 ys.length c2) := (HB3.out.cell (p := ⟨tb, 1, none⟩) htb).trans ((HB.out.cell (p := ⟨tb, 1, none⟩) htb).symm.trans d2)
  have hy3 := hy.below HB3.out
  have hlt3 := hr3.lt
  rw [List.nil_append] at hr3
  clear d1 d2 hx1 hrow hlt hg3 ho3
  rw [rounds_succ]
  go_wp2_with (at_builtin; go_must (refine wpList_append_ints rfl (.tmp 31) (.tmp 32) rfl w.heap.size _ xs rfl hr3 A2 ys.length c2 ys rfl rfl hy3 (by omega) hz3 ?_); intro v4 w4 hr4 hg4 ho4)
  have HB4 := Lib.hid (HB3.out.grown hg4 hz3 (fun j hj => (hlt3 j hj).1))
  rw [rounds_succ]
  clear hg4 ho4 hr3 hlt3 d3 hy3
  go_wp2
  go_ret
  exact ⟨v4, rfl, hr4, HB4.out⟩

end Go.Proofs.Ytoefkkgnabjmdaa
