/- Chapter 24 (count): Freqs, the program's and the reference's: by walks. -/
import Derived.Test.YtoefkkgnabjmdaaInts
import Derived.Test.YtoefkkgnabjmdaaToks
import Derived.Test.YtoefkkgnabjmdaaPlain23
import Derived.Test.YtoefkkgnabjmdaaRef15D
import Derived.RegionTactic
import Derived.ChangeAlike
import Derived.BigRegion
set_option linter.unusedSimpArgs false
set_option linter.unusedVariables false
set_option maxRecDepth 100000
namespace Go.Proofs.Ytoefkkgnabjmdaa
open Go.RowKit

/-- One more at a place. -/
def bump (l : List Int) (i : Nat) : List Int := l.set i (l.getD i 0 + 1)
theorem bump_length (l : List Int) (i : Nat) : (bump l i).length = l.length := List.length_set ..
def cnM (l : List Tok) : List Int := l.foldl (fun m t => bump m (tokSym t).toNat) (List.replicate 401 0)
def cnD (l : List Tok) : List Int := l.foldl (fun d t => if t.kind = 1 then bump d (distS t.dist).toNat else d) (List.replicate 52 0)
theorem cnM_snoc (l : List Tok) (t : Tok) : cnM (l ++ [t]) = bump (cnM l) (tokSym t).toNat := by unfold cnM; rw [List.foldl_append]; rfl
theorem cnD_snoc (l : List Tok) (t : Tok) : cnD (l ++ [t]) = if t.kind = 1 then bump (cnD l) (distS t.dist).toNat else cnD l := by unfold cnD; rw [List.foldl_append]; rfl
theorem snoc_ind {α : Type} {P : List α → Prop} (l : List α) (h0 : P []) (hs : ∀ l a, P l → P (l ++ [a])) : P l := by
  have : ∀ n (l : List α), l.length = n → P l := by
    intro n
    induction n with
    | zero => intro l hl; rw [List.length_eq_zero_iff.1 hl]; exact h0
    | succ n ih =>
      intro l hl
      have hne : l ≠ [] := by intro h; rw [h] at hl; cases hl
      rw [← List.dropLast_concat_getLast hne]
      exact hs _ _ (ih _ (by simp [hl]))
  exact this _ l rfl
theorem cnM_length (l : List Tok) : (cnM l).length = 401 := by
  refine snoc_ind (P := fun l => (cnM l).length = 401) l ?_ fun l t ih => ?_
  · exact List.length_replicate
  · rw [cnM_snoc, bump_length, ih]
theorem cnD_length (l : List Tok) : (cnD l).length = 52 := by
  refine snoc_ind (P := fun l => (cnD l).length = 52) l ?_ fun l t ih => ?_
  · exact List.length_replicate
  · rw [cnD_snoc]; split
    · rw [bump_length, ih]
    · exact ih
theorem bump_bd {l : List Int} {n : Int} (i : Nat) (h : ∀ x ∈ l, 0 ≤ x ∧ x ≤ n) (hn : 0 ≤ n) : ∀ x ∈ bump l i, 0 ≤ x ∧ x ≤ n + 1 := by
  intro x hx
  rcases List.mem_or_eq_of_mem_set hx with h1 | rfl
  · have := h x h1; omega
  · rw [List.getD_eq_getElem?_getD]
    rcases hq : l[i]? with _ | y
    · simp; omega
    · have := h y (List.mem_of_getElem? hq); simp; omega
theorem cnM_bd (l : List Tok) : ∀ x ∈ cnM l, 0 ≤ x ∧ x ≤ l.length := by
  refine snoc_ind (P := fun l => ∀ x ∈ cnM l, 0 ≤ x ∧ x ≤ l.length) l ?_ fun l t ih => ?_
  · intro x hx; rw [List.eq_of_mem_replicate (show x ∈ List.replicate 401 0 from hx)]; simp
  · rw [cnM_snoc, List.length_append]; exact bump_bd _ ih (by omega)
theorem cnD_bd (l : List Tok) : ∀ x ∈ cnD l, 0 ≤ x ∧ x ≤ l.length := by
  refine snoc_ind (P := fun l => ∀ x ∈ cnD l, 0 ≤ x ∧ x ≤ l.length) l ?_ fun l t ih => ?_
  · intro x hx; rw [List.eq_of_mem_replicate (show x ∈ List.replicate 52 0 from hx)]; simp
  · rw [cnD_snoc, List.length_append]; split
    · exact bump_bd _ ih (by omega)
    · intro x hx; have := ih x hx; simp; omega
theorem getD_bd {l : List Int} {n : Int} (h : ∀ x ∈ l, 0 ≤ x ∧ x ≤ n) (hn : 0 ≤ n) (i : Nat) : 0 ≤ l.getD i 0 ∧ l.getD i 0 ≤ n := by
  rw [List.getD_eq_getElem?_getD]
  rcases hq : l[i]? with _ | y
  · simp; omega
  · have := h y (List.mem_of_getElem? hq); simpa using this
/-- A cell of ints is set. -/
theorem ivals_set (l : List Int) (i : Nat) (z : Int) : (ivals l).toArray.setIfInBounds i (.int .i64 z) = (ivals (l.set i z)).toArray := by
  simp [ivals, List.map_set, ival]
theorem ivals_cell (l : List Int) (i : Nat) (h : i < l.length) : (ivals l).toArray[i]? = some (.int .i64 (l.getD i 0)) := by
  rw [List.getElem?_toArray, ivals_get l i h, List.getD_eq_getElem?_getD, List.getElem?_eq_getElem h]; rfl
theorem Blk.setInt {w : World} {g : Nat} {t : TypeId} {l : List Int} (h : Blk w g t (ivals l).toArray) (i : Nat) (z : Int) : Blk (w.setCell ⟨g, i, none⟩ (.int .i64 z)) g t (ivals (l.set i z)).toArray := by
  have := Blk.set_ h i (.int .i64 z)
  rwa [ivals_set] at this
theorem tokSym_bd0 {t : Tok} (h : tokCheck t = 0) : 0 ≤ tokSym t ∧ tokSym t ≤ 400 := by
  have hok : tokOk t := by
    by_cases hk : tokOk t
    · exact hk
    · unfold tokCheck at h; rw [if_neg hk] at h; cases h
  have e : tokSym t = _ := if_pos hok
  obtain ⟨k, b, l, d, r⟩ := t
  have hS : 0 ≤ lenS l ∧ lenS l ≤ 28 := by
    unfold lenS
    by_cases h1 : lenOk l
    · rw [if_pos h1]; have := (lenSlot_spec l h1).2.2; omega
    · rw [if_neg h1]; omega
  rw [e]
  simp only [tokOk, true_and] at hok
  split <;> (try split) <;> simp only at * <;> omega
/-- What the counts give. -/
def Counted (w : World) (l : List Tok) (e : Ending) (w' : World) : Prop :=
  (tokErr l = 0 ∧ ∃ b1 b2, e = .returned (.tuple #[.slice (some ⟨b1, 0, none⟩) 401 401, .slice (some ⟨b2, 0, none⟩) 52 52, .int .i64 0]) ∧ Blk w' b1 3 (ivals (cnM l)).toArray ∧ Blk w' b2 3 (ivals (cnD l)).toArray ∧ b1 ≠ b2 ∧ Below w.heap.size w w') ∨
  (tokErr l ≠ 0 ∧ e = .returned (.tuple #[.slice none 0 0, .slice none 0 0, .int .i64 (tokErr l)]) ∧ Below w.heap.size w w')
def CountMid (w : World) (x y : Value) (wc : World) : Prop :=
  ∃ b1 b2, x = .slice (some ⟨b1, 0, none⟩) 401 401 ∧ y = .slice (some ⟨b2, 0, none⟩) 52 52 ∧ Blk wc b1 3 (ivals (cnM [])).toArray ∧ Blk wc b2 3 (ivals (cnD [])).toArray ∧ b1 ≠ b2 ∧ w.heap.size ≤ b1 ∧ w.heap.size ≤ b2 ∧ Below w.heap.size w wc
/-- So many zeros. -/
def zeros (n : Nat) : List Int := List.replicate n 0
theorem zeros_length (n : Nat) : (zeros n).length = n := List.length_replicate
theorem run_zeros (w : World) (n : Nat) (hn : n ≤ 1000000000) :
    (Instr.makeSlice 22 (.int .i64 n) (.int .i64 n)).run Try.prog w = .ok (.slice (some ⟨w.heap.size, 0, none⟩) n n) (w.alloc (.cells (ivals (zeros n)).toArray 3)) := run_make_int w n hn
theorem countMid1 (w : World) : CountMid w (.slice (some ⟨w.heap.size, 0, none⟩) 401 401) (.slice (some ⟨w.heap.size + 1, 0, none⟩) 52 52) ((w.alloc (.cells (ivals (zeros 401)).toArray 3)).alloc (.cells (ivals (zeros 52)).toArray 3)).drew := by
  refine ⟨_, _, rfl, rfl, (Blk.new w _ _).alloc _, ?_, by omega, Nat.le_refl _, by omega, (bl_alloc (bl_alloc (Below.refl _ _) _) _).drew⟩
  have := Blk.new (w.alloc (.cells (ivals (zeros 401)).toArray 3)) 3 (ivals (zeros 52)).toArray
  rw [World.size_alloc] at this
  exact this
theorem countMid0 (w : World) : CountMid w (.slice (some ⟨w.heap.size, 0, none⟩) 401 401) (.slice (some ⟨w.heap.size + 1, 0, none⟩) 52 52) ((w.alloc (.cells (ivals (zeros 401)).toArray 3)).alloc (.cells (ivals (zeros 52)).toArray 3)) := by
  refine ⟨_, _, rfl, rfl, (Blk.new w _ _).alloc _, ?_, by omega, Nat.le_refl _, by omega, bl_alloc (bl_alloc (Below.refl _ _) _) _⟩
  have := Blk.new (w.alloc (.cells (ivals (zeros 401)).toArray 3)) 3 (ivals (zeros 52)).toArray
  rw [World.size_alloc] at this
  exact this
theorem countMid2 (w : World) : CountMid w (.slice (some ⟨w.heap.size + 1, 0, none⟩) 401 401) (.slice (some ⟨w.heap.size, 0, none⟩) 52 52) ((w.alloc (.cells (ivals (zeros 52)).toArray 3)).alloc (.cells (ivals (zeros 401)).toArray 3)).drew := by
  refine ⟨_, _, rfl, rfl, ?_, (Blk.new w _ _).alloc _, by omega, by omega, Nat.le_refl _, (bl_alloc (bl_alloc (Below.refl _ _) _) _).drew⟩
  have := Blk.new (w.alloc (.cells (ivals (zeros 52)).toArray 3)) 3 (ivals (zeros 401)).toArray
  rw [World.size_alloc] at this
  exact this

end Go.Proofs.Ytoefkkgnabjmdaa
