/- Five cells of a block written. -/
import Derived.Test.YtndkgjoaljcijaaMem
set_option linter.unusedSimpArgs false
set_option linter.unusedVariables false
namespace Go.Proofs.Ytndkgjoaljcijaa
open Go.RowKit

/-- Five cells written. -/
def put5 (w : World) (g : Nat) (a b c d e : Int) : World := ((((w.setCell ⟨g, 0, none⟩ (.int .i64 a)).setCell ⟨g, 1, none⟩ (.int .i64 b)).setCell ⟨g, 2, none⟩ (.int .i64 c)).setCell ⟨g, 3, none⟩ (.int .i64 d)).setCell ⟨g, 4, none⟩ (.int .i64 e)
theorem put5_here {w : World} {g : Nat} {t : TypeId} {x0 x1 x2 x3 x4 : Value} (a b c d e : Int) (h : Blk w g t #[x0, x1, x2, x3, x4]) : Blk (put5 w g a b c d e) g t #[.int .i64 a, .int .i64 b, .int .i64 c, .int .i64 d, .int .i64 e] := by
  have := (((((h.set_ 0 (.int .i64 a)).set_ 1 (.int .i64 b)).set_ 2 (.int .i64 c)).set_ 3 (.int .i64 d)).set_ 4 (.int .i64 e))
  simpa [put5] using this
theorem put5_below {B : Nat} {w0 w : World} {g : Nat} (a b c d e : Int) (h : Below B w0 w) (hg : B ≤ g) : Below B w0 (put5 w g a b c d e) :=
  ((((h.setCell (p := ⟨g, 0, none⟩) hg _).setCell (p := ⟨g, 1, none⟩) hg _).setCell (p := ⟨g, 2, none⟩) hg _).setCell (p := ⟨g, 3, none⟩) hg _).setCell (p := ⟨g, 4, none⟩) hg _
end Go.Proofs.Ytndkgjoaljcijaa
