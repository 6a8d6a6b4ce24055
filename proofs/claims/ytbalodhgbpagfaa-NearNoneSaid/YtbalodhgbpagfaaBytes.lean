/- Slices of bytes in this seat's numbers: read, owned, appended to; slices.Clone. -/
import Derived.Test.YtbalodhgbpagfaaMemR
import Derived.Lib.SliceRun
import Derived.Lib.BufferMore
set_option linter.unusedSimpArgs false
set_option linter.unusedVariables false
namespace Go.Proofs.Ytbalodhgbpagfaa
open Go.RowKit

theorem info_u8 : (Try.prog.info? 5).map (fun i => (i.zero, i.size, i.bytes)) = some (some (.int .u8 0), 1, 1) := by kernel_rfl
/-- The slice value v holds the bytes xs in memory of the call's own. -/
def RowB (w : World) (base : Nat) (v : Value) (xs : List UInt8) : Prop := Row w base 5 1 v xs.length (bvals xs)
/-- The slice at A reads as the bytes xs. -/
def ReadsB (w : World) (A : Option Addr) (xs : List UInt8) : Prop := Reads w w.heap.size 1 A xs.length (bvals xs)

theorem RowB.below {w w' : World} {base : Nat} {v : Value} {xs : List UInt8} (h : RowB w base v xs) (hb : Below w.heap.size w w') : RowB w' base v xs := Row.below h hb
theorem RowB.alloc {w : World} {base : Nat} {v : Value} {xs : List UInt8} (h : RowB w base v xs) (o : Obj) : RowB (w.alloc o) base v xs := Row.alloc h o
theorem RowB.mono {w : World} {base base' : Nat} {v : Value} {xs : List UInt8} (h : RowB w base v xs) (hb : base' ≤ base) : RowB w base' v xs := Row.mono h hb
theorem ReadsB.below {w w' : World} {A : Option Addr} {xs : List UInt8} (h : ReadsB w A xs) (hb : Below w.heap.size w w') : ReadsB w' A xs := Reads.more (Reads.below h hb) hb.size
theorem ReadsB.alloc {w : World} {A : Option Addr} {xs : List UInt8} (h : ReadsB w A xs) (o : Obj) : ReadsB (w.alloc o) A xs := h.below ((Below.refl _ _).alloc (Nat.le_refl _) o)
theorem RowB.slice {w : World} {base : Nat} {v : Value} {xs : List UInt8} (h : RowB w base v xs) : ∃ A c, v = .slice A xs.length c ∧ xs.length ≤ c ∧ ReadsB w A xs := by
  obtain ⟨A, c, rfl, hc⟩ := Row.slice h
  exact ⟨A, c, rfl, hc, Row.reads h rfl⟩
theorem RowB.lt {w : World} {base : Nat} {v : Value} {xs : List UInt8} (h : RowB w base v xs) (k : Nat) (hk : v.ownBlock = some k) : base ≤ k ∧ k < w.heap.size := Row.lt h k hk
theorem ReadsB.cut {w : World} {A : Option Addr} {xs : List UInt8} (h : ReadsB w A xs) (i j cap : Nat) (hij : i ≤ j) (hj : j ≤ xs.length) (hc : xs.length ≤ cap) :
    ReadsB w (if cap = i then A else A.map (·.add i)) ((xs.drop i).take (j - i)) := by
  have h1 := Reads.cut (k := i) (cap := cap) h (by omega) hc
  rw [Nat.mul_one] at h1
  have hl : ((xs.drop i).take (j - i)).length = j - i := by simp; omega
  refine ⟨by rw [bvals_length, hl]; simp, fun hn => ?_⟩
  rw [hl] at hn
  obtain ⟨ad, e1, e2, e3⟩ := h1.2 (by omega)
  refine ⟨ad, e1, e2, fun k u hu => e3 k u ?_⟩
  simp only [bvals, List.map_take, List.map_drop] at hu ⊢
  rw [List.getElem?_take] at hu
  split at hu
  · exact hu
  · cases hu
/-- The byte at a place. -/
theorem ReadsB.at_ {w : World} {A : Option Addr} {xs : List UInt8} (h : ReadsB w A xs) (i : Nat) (hi : i < xs.length) : ∃ ad, A = some ad ∧ ad.block < w.heap.size ∧ w.cell? (ad.add i) = some (bval xs[i]) := by
  obtain ⟨ad, e1, e2, e3⟩ := h.2 (by omega)
  exact ⟨ad, e1, e2, e3 i _ (bvals_get xs i hi)⟩

/-- One byte in a new block of one cell. -/
theorem reads_one (w : World) (b : UInt8) (t : TypeId) : ReadsB (w.alloc (.cells #[.int .u8 (b.toNat : Int)] t)) (some ⟨w.heap.size, 0, none⟩) [b] :=
  ⟨rfl, fun _ => ⟨_, rfl, by simp, fun j u hu => by
    have hj : j = 0 := by have := (List.getElem?_eq_some_iff.1 hu).1; simp [bvals] at this; omega
    subst hj
    simp only [bvals, List.map_cons, List.map_nil, List.getElem?_cons_zero, Option.some.injEq] at hu
    subst hu
    exact (cell_of_row _ _ 0 _ _ (0, 0) (heap_alloc_new w _)).trans rfl⟩⟩
/-- A text out of bytes. -/
def str (l : List UInt8) : ByteArray := ⟨l.toArray⟩
theorem str_data (l : List UInt8) : (str l).data.toList = l := rfl
theorem str_size (l : List UInt8) : (str l).size = l.length := rfl
theorem str_of (s : ByteArray) : str s.data.toList = s := rfl
theorem bvals_ints (xs : List UInt8) : bvals xs = (xs.map fun b => (b.toNat : Int)).map (Value.int .u8) := by simp [bvals, bval]
/-- A call gives bytes of its own, and leaves what was. -/
def GivesB (w : World) (base : Nat) (xs : List UInt8) (e : Ending) (w' : World) : Prop := ∃ v, e = .returned v ∧ RowB w' base v xs ∧ Below base w w' ∧ w.heap.size ≤ w'.heap.size

theorem row_empty (w : World) (base : Nat) (hb : base ≤ w.heap.size) : RowB (w.alloc (.cells #[] 5)) base (.slice (some ⟨w.heap.size, 0, none⟩) 0 0) [] :=
  ⟨rfl, .inr ⟨w.heap.size, 0, 0, #[], (0, 0), rfl, hb, heap_alloc_new w _, Nat.le_refl _, Nat.zero_le _, by simp, rfl, .inl rfl⟩⟩

/-- A byte of a text. -/
theorem run_byte (l : List UInt8) (z : Int) (h0 : 0 ≤ z) (h1 : z < l.length) (w : World) : (Instr.index 9 (.string (str l)) (.int .i64 z)).run Try.prog w = .ok (.int .u8 ((l.getD z.toNat 0).toNat : Int)) w := by
  rw [run_index_string w _ _ _ _ Try.underlying9, dif_pos ⟨h0, by rw [str_size]; exact h1⟩]
  have : (str l)[z.toNat]'(by rw [str_size]; omega) = l.getD z.toNat 0 := by
    have hz : z.toNat < l.length := by omega
    rw [List.getD_eq_getElem?_getD, List.getElem?_eq_getElem hz]
    rfl
  rw [this]
end Go.Proofs.Ytbalodhgbpagfaa
