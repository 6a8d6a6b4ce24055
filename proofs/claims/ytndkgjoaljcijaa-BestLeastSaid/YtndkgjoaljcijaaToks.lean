/- Slices of tokens in this seat's numbers. -/
import Derived.Test.YtndkgjoaljcijaaTok
import Derived.Test.YtndkgjoaljcijaaMemR
set_option linter.unusedSimpArgs false
set_option linter.unusedVariables false
set_option maxRecDepth 100000
namespace Go.Proofs.Ytndkgjoaljcijaa
open Go.RowKit

def tokCells (t : Tok) : List Value := [.int .i64 t.kind, .int .i64 t.byte, .int .i64 t.len, .int .i64 t.dist, .int .i64 t.rep]
def tvals (l : List Tok) : List Value := l.flatMap tokCells
theorem tvals_length (l : List Tok) : (tvals l).length = l.length * 5 := by
  induction l with
  | nil => rfl
  | cons t l ih => simp only [tvals, List.flatMap_cons, List.length_append, List.length_cons] at *; rw [ih]; simp [tokCells]; omega
theorem tvals_get : ∀ (l : List Tok) (i j : Nat) (hi : i < l.length), j < 5 → (tvals l)[i * 5 + j]? = (tokCells l[i])[j]?
  | t :: l, 0, j, _, hj => by
    simp only [tvals, List.flatMap_cons, Nat.zero_mul, Nat.zero_add, List.getElem_cons_zero]
    rw [List.getElem?_append_left (by simp [tokCells]; omega)]
  | t :: l, i + 1, j, hi, hj => by
    simp only [tvals, List.flatMap_cons]
    rw [List.getElem?_append_right (by simp [tokCells]; omega)]
    have e : (i + 1) * 5 + j - (tokCells t).length = i * 5 + j := by simp [tokCells]; omega
    rw [e]
    exact tvals_get l i j (by simpa using hi) hj
/-- The slice at A reads as the tokens l. -/
def ReadsT (w : World) (A : Option Addr) (l : List Tok) : Prop := Reads w w.heap.size 5 A l.length (tvals l)
theorem ReadsT.below {w w' : World} {A : Option Addr} {l : List Tok} (h : ReadsT w A l) (hb : Below w.heap.size w w') : ReadsT w' A l := Reads.more (Reads.below h hb) hb.size
/-- The token at a place. -/
theorem ReadsT.at_ {w : World} {A : Option Addr} {l : List Tok} (h : ReadsT w A l) (i : Nat) (hi : i < l.length) : ∃ ad, A = some ad ∧ ad.block < w.heap.size ∧
    ∀ j v, (tokCells l[i])[j]? = some v → w.cell? ((ad.add (i * 5)).add j) = some v := by
  obtain ⟨ad, e1, e2, e3⟩ := h.2 (by omega)
  refine ⟨ad, e1, e2, fun j v hv => ?_⟩
  rw [add_of_add]
  have hj : j < 5 := by have := (List.getElem?_eq_some_iff.1 hv).1; simpa [tokCells] using this
  exact e3 _ _ ((tvals_get l i j hi hj).trans hv)
/-- The five cells of the token at a place, as the walk spells them. -/
theorem ReadsT.five {w : World} {A : Option Addr} {l : List Tok} (h : ReadsT w A l) (i : Nat) (hi : i < l.length) : ∃ ad, A = some ad ∧ ad.block < w.heap.size ∧
    w.cell? (ad.add (i * 5)) = some (.int .i64 l[i].kind) ∧ w.cell? ⟨(ad.add (i * 5)).block, (ad.add (i * 5)).off + 1, none⟩ = some (.int .i64 l[i].byte) ∧ w.cell? ⟨(ad.add (i * 5)).block, (ad.add (i * 5)).off + 2, none⟩ = some (.int .i64 l[i].len) ∧
    w.cell? ⟨(ad.add (i * 5)).block, (ad.add (i * 5)).off + 3, none⟩ = some (.int .i64 l[i].dist) ∧ w.cell? ⟨(ad.add (i * 5)).block, (ad.add (i * 5)).off + 4, none⟩ = some (.int .i64 l[i].rep) := by
  obtain ⟨ad, e1, e2, e3⟩ := h.at_ i hi
  exact ⟨ad, e1, e2, e3 0 _ rfl, e3 1 _ rfl, e3 2 _ rfl, e3 3 _ rfl, e3 4 _ rfl⟩
end Go.Proofs.Ytndkgjoaljcijaa
