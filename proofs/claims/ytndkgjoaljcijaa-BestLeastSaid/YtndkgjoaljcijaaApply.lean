/- Chapter 18 (denote): Apply, the program's: what it gives, by a walk. -/
import Derived.Test.YtndkgjoaljcijaaDenC
import Derived.Test.YtndkgjoaljcijaaToks
import Derived.Test.YtndkgjoaljcijaaPlain18a
import Derived.Test.YtndkgjoaljcijaaRepsU
set_option linter.unusedSimpArgs false
set_option linter.unusedVariables false
namespace Go.Proofs.Ytndkgjoaljcijaa
open Go.RowKit

def rpCells (r : Rp) : Array Value := #[.int .i64 r.a, .int .i64 r.b, .int .i64 r.c, .int .i64 r.d]
/-- A call gives bytes of its own, four distances, and an error's number. -/
def GivesA (w : World) (base : Nat) (x : Res) (e : Ending) (w' : World) : Prop := ∃ v, e = .returned (.tuple #[v, rpV x.reps, .int .i64 x.err]) ∧ RowB w' base v x.bytes ∧ Below base w w' ∧ w.heap.size ≤ w'.heap.size

/-- Four cells written. -/
def put4 (w : World) (g : Nat) (r : Rp) : World := (((w.setCell ⟨g, 0, none⟩ (.int .i64 r.a)).setCell ⟨g, 1, none⟩ (.int .i64 r.b)).setCell ⟨g, 2, none⟩ (.int .i64 r.c)).setCell ⟨g, 3, none⟩ (.int .i64 r.d)
theorem put4_size (w : World) (g : Nat) (r : Rp) : (put4 w g r).heap.size = w.heap.size := by simp [put4, World.setCell]
theorem put4_other {w : World} {g k : Nat} (r : Rp) (h : k ≠ g) : (put4 w g r).heap[k]? = w.heap[k]? := by
  unfold put4
  rw [Below.heap_setCell _ _ _ _ h, Below.heap_setCell _ _ _ _ h, Below.heap_setCell _ _ _ _ h, Below.heap_setCell _ _ _ _ h]
theorem put4_here {w : World} {g : Nat} {t : TypeId} {q : Rp} (r : Rp) (h : Blk w g t (rpCells q)) : Blk (put4 w g r) g t (rpCells r) := by
  have := ((((h.set_ 0 (.int .i64 r.a)).set_ 1 (.int .i64 r.b)).set_ 2 (.int .i64 r.c)).set_ 3 (.int .i64 r.d))
  simpa [rpCells, put4] using this
theorem put4_below {B : Nat} {w0 w : World} {g : Nat} (r : Rp) (h : Below B w0 w) (hg : B ≤ g) : Below B w0 (put4 w g r) :=
  (((h.setCell (p := ⟨g, 0, none⟩) hg _).setCell (p := ⟨g, 1, none⟩) hg _).setCell (p := ⟨g, 2, none⟩) hg _).setCell (p := ⟨g, 3, none⟩) hg _
theorem Blk.put4 {w : World} {g k : Nat} {t : TypeId} {cs : Array Value} (r : Rp) (h : Blk w k t cs) (hk : k ≠ g) : Blk (put4 w g r) k t cs := (put4_other r hk).trans h
theorem RowB.put4 {w : World} {base g : Nat} {v : Value} {xs : List UInt8} (r : Rp) (h : RowB w base v xs) (hg : g < base) : RowB (put4 w g r) base v xs :=
  Row.same h fun k hk => put4_other r (by have := (h.lt k hk).1; omega)

end Go.Proofs.Ytndkgjoaljcijaa
