/- Whole blocks of ints, and of natural numbers. -/
import Derived.Test.YtbalodhgbpagfaaInts
set_option linter.unusedSimpArgs false
set_option linter.unusedVariables false
set_option maxRecDepth 100000
namespace Go.Proofs.Ytbalodhgbpagfaa
open Go.RowKit

theorem addr_add (g o n : Nat) : (⟨g, o, none⟩ : Addr).add n = ⟨g, o + n, none⟩ := by unfold Addr.add; split <;> simp_all
def BlkI (w : World) (g : Nat) (xs : List Int) : Prop := Blk w g 3 (ivals xs).toArray
theorem BlkI.at_ {w : World} {g : Nat} {xs : List Int} (h : BlkI w g xs) (i : Nat) (hi : i < xs.length) : w.cell? ⟨g, i, none⟩ = some (.int .i64 xs[i]) := by
  rw [Blk.cell h, List.getElem?_toArray]
  exact ivals_get xs i hi
theorem BlkI.set_ {w : World} {g : Nat} {xs : List Int} (h : BlkI w g xs) (i : Nat) (y : Int) : BlkI (w.setCell ⟨g, i, none⟩ (.int .i64 y)) g (xs.set i y) := by
  have := Blk.set_ h i (.int .i64 y)
  unfold BlkI
  have e : (ivals (xs.set i y)).toArray = (ivals xs).toArray.setIfInBounds i (.int .i64 y) := by
    simp [ivals, List.map_set, ival]
  rw [e]
  exact this
theorem BlkI.reads {w : World} {g : Nat} {xs : List Int} (h : BlkI w g xs) : ReadsI w (some ⟨g, 0, none⟩) xs :=
  ⟨by simp [ivals], fun _ => ⟨_, rfl, Blk.lt h, fun j u hu => by
    have e1 : ((⟨g, 0, none⟩ : Addr).add j) = ⟨g, j, none⟩ := by rw [addr_add, Nat.zero_add]
    rw [e1, Blk.cell h, List.getElem?_toArray]; exact hu⟩⟩
theorem BlkI.made (w : World) (n : Nat) : BlkI (w.alloc (.cells (ivals (List.replicate n 0)).toArray 3)) w.heap.size (List.replicate n 0) := Blk.new w _ _
theorem BlkI.other {w : World} {g : Nat} {xs : List Int} (h : BlkI w g xs) {p : Addr} (hp : g ≠ p.block) (u : Value) : BlkI (w.setCell p u) g xs := (Below.heap_setCell w p u g hp).trans h
theorem BlkI.lt' {w : World} {g : Nat} {xs : List Int} (h : BlkI w g xs) : g < w.heap.size := Blk.lt h
theorem BlkI.below' {w w' : World} {g B : Nat} {xs : List Int} (h : BlkI w g xs) (hb : Below B w w') (hg : g < B) : BlkI w' g xs := Blk.below h hb hg
theorem BlkI.drew' {w : World} {g : Nat} {xs : List Int} (h : BlkI w g xs) : BlkI w.drew g xs := h
theorem BlkI.alloc' {w : World} {g : Nat} {xs : List Int} (h : BlkI w g xs) (o : Obj) : BlkI (w.alloc o) g xs := Blk.alloc h o
theorem BlkI.frozen' {w : World} {g : Nat} {xs : List Int} (h : BlkI w g xs) (i : Nat) : w.frozen? ⟨g, i, none⟩ = false := Blk.frozen h i
/-- Natural numbers as ints. -/
def nz (l : List Nat) : List Int := l.map (fun x : Nat => (x : Int))
theorem nz_length (l : List Nat) : (nz l).length = l.length := by simp [nz]
theorem nz_set (l : List Nat) (i x : Nat) : (nz l).set i (x : Int) = nz (l.set i x) := by simp [nz, List.map_set]
theorem nz_get (l : List Nat) {i : Nat} (h : i < l.length) : (nz l)[i]'(by rw [nz_length]; exact h) = ((l.getD i 0 : Nat) : Int) := by
  simp only [nz, List.getElem_map]
  rw [List.getD_eq_getElem?_getD, List.getElem?_eq_getElem h]
  rfl
theorem nz_zeros (n : Nat) : nz (List.replicate n 0) = List.replicate n 0 := by simp [nz]
theorem nz_append (a b : List Nat) : nz (a ++ b) = nz a ++ nz b := by simp [nz]
theorem BlkI.atN {w : World} {g : Nat} {l : List Nat} (h : BlkI w g (nz l)) (i : Nat) (hi : i < l.length) : w.cell? ⟨g, i, none⟩ = some (.int .i64 ((l.getD i 0 : Nat) : Int)) := by
  rw [h.at_ i (by rw [nz_length]; exact hi), nz_get l hi]
theorem BlkI.setN {w : World} {g : Nat} {l : List Nat} (h : BlkI w g (nz l)) (i x : Nat) : BlkI (w.setCell ⟨g, i, none⟩ (.int .i64 (x : Int))) g (nz (l.set i x)) := by
  rw [← nz_set]; exact h.set_ i x
theorem ReadsI.atN {w : World} {A : Option Addr} {l : List Nat} (h : ReadsI w A (nz l)) (i : Nat) (hi : i < l.length) : ∃ ad, A = some ad ∧ ad.block < w.heap.size ∧ w.cell? (ad.add i) = some (.int .i64 ((l.getD i 0 : Nat) : Int)) := by
  obtain ⟨ad, h1, h2, h3⟩ := h.at_ i (by rw [nz_length]; exact hi)
  exact ⟨ad, h1, h2, by rw [h3, nz_get l hi]⟩
theorem BlkI.readsN {w : World} {g : Nat} {l : List Nat} (h : BlkI w g (nz l)) : ReadsI w (some ⟨g, 0, none⟩) (nz l) := h.reads
theorem BlkI.madeN (w : World) (n : Nat) : BlkI (w.alloc (.cells (ivals (List.replicate n 0)).toArray 3)) w.heap.size (nz (List.replicate n 0)) := by
  rw [nz_zeros]; exact BlkI.made w n
theorem run_zerosB (w : World) (n : Nat) (hn : n ≤ 1000000000) : (Instr.makeSlice 35 (.int .i64 n) (.int .i64 n)).run Try.prog w = .ok (.slice (some ⟨w.heap.size, 0, none⟩) n n) (w.alloc (.cells (ivals (List.replicate n 0)).toArray 3)) := run_make_int w n hn
theorem getD_set_same {α : Type} (l : List α) {i : Nat} (x d : α) (h : i < l.length) : (l.set i x).getD i d = x := by
  rw [List.getD_eq_getElem?_getD, List.getElem?_set_self h]; rfl
theorem getD_set_other {α : Type} (l : List α) {i j : Nat} (x d : α) (h : j ≠ i) : (l.set i x).getD j d = l.getD j d := by
  rw [List.getD_eq_getElem?_getD, List.getElem?_set_ne (by omega), ← List.getD_eq_getElem?_getD]
theorem getD_get {α : Type} (l : List α) {i : Nat} (d : α) (h : i < l.length) : l.getD i d = l[i] := by
  rw [List.getD_eq_getElem?_getD, List.getElem?_eq_getElem h]; rfl
end Go.Proofs.Ytbalodhgbpagfaa
