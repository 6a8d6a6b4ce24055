/- The library's stable sort of packs, of at most one: by walks. -/
import Derived.Test.YtoefkkgnabjmdaaCoins
set_option linter.unusedSimpArgs false
set_option linter.unusedVariables false
set_option maxRecDepth 100000
namespace Go.Proofs.Ytoefkkgnabjmdaa
open Go.RowKit

theorem ins1 (A : Option Addr) (n c : Nat) (hn : n ≤ 1) (fv : Value) (w : World) :
    Calls Try.prog 119 #[.slice A n c, .int .i64 0, .int .i64 n, fv] w fun e w' => e = .returned (.tuple #[]) ∧ w = w' := by
  go_enter Try.func119, Try.ntmps119
  go_wp2_with fail
  refine wp_loop_rounds 1 ?_
  rw [rounds_succ]
  go_wp2
  go_end0
  exact ⟨rfl, rfl⟩

theorem stable1 (A : Option Addr) (n c : Nat) (hn : n ≤ 1) (fv : Value) (w : World) :
    Calls Try.prog 98 #[.slice A n c, .int .i64 n, fv] w fun e w' => e = .returned (.tuple #[]) ∧ w = w' := by
  go_enter Try.func98, Try.ntmps98
  go_wp2_with fail
  refine wp_loop_rounds 1 ?_
  rw [rounds_succ]
  go_wp2_with fail
  refine (ins1 A n c hn fv _).mono ?_
  rintro e w' ⟨rfl, rfl⟩
  go_wp2_with fail
  refine wp_loop_rounds 1 ?_
  rw [rounds_succ]
  go_wp2
  go_end0
  exact ⟨rfl, rfl⟩

theorem sorts1 : Sorts id 1 := by
  intro w base A c l hl hrow hb
  go_enter Try.func71, Try.ntmps71
  go_wp2_with fail
  refine (stable1 A l.length c hl _ _).mono ?_
  rintro e w' ⟨rfl, rfl⟩
  go_wp2
  go_end0
  exact ⟨rfl, hrow, ⟨rfl, rfl, rfl, Nat.le_refl _, fun i hi _ => rfl⟩⟩

end Go.Proofs.Ytoefkkgnabjmdaa
