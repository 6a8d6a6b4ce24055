/- Chapter 57 (spread): one of numbers in order: the plain part. -/
import Derived.Test.YtoefkkgnabjmdaaLib
set_option linter.unusedSimpArgs false
set_option linter.unusedVariables false
namespace Go.Proofs.Ytoefkkgnabjmdaa

def sortI (l : List Int) : List Int := l.mergeSort (fun x y => decide (x ≤ y))
theorem sortI_length (l : List Int) : (sortI l).length = l.length := List.length_mergeSort ..
theorem sortI_perm (l : List Int) : (sortI l).Perm l := List.mergeSort_perm ..
theorem sortI_srt (l : List Int) : (sortI l).Pairwise (· ≤ ·) := by
  have h := List.pairwise_mergeSort (le := fun x y : Int => decide (x ≤ y)) (fun a b c h1 h2 => by simp only [decide_eq_true_eq] at *; omega) (fun a b => by simp only [Bool.or_eq_true, decide_eq_true_eq]; omega) l
  exact h.imp (fun h => by simpa using h)
def lessN (l : List Int) (x : Int) : Nat := l.countP (fun y => decide (y < x))
def alikeN (l : List Int) (x : Int) : Nat := l.countP (fun y => decide (y = x))
theorem lessN_zero {l : List Int} {x : Int} (h : ∀ y ∈ l, x ≤ y) : lessN l x = 0 := List.countP_eq_zero.2 (fun y hy => by have := h y hy; simp only [decide_eq_true_eq]; omega)
theorem alikeN_zero {l : List Int} {x : Int} (h : ∀ y ∈ l, x < y) : alikeN l x = 0 := List.countP_eq_zero.2 (fun y hy => by have := h y hy; simp only [decide_eq_true_eq]; omega)
theorem lessN_cons (y : Int) (l : List Int) (x : Int) : lessN (y :: l) x = lessN l x + if y < x then 1 else 0 := by unfold lessN; rw [List.countP_cons]; simp
theorem alikeN_cons (y : Int) (l : List Int) (x : Int) : alikeN (y :: l) x = alikeN l x + if y = x then 1 else 0 := by unfold alikeN; rw [List.countP_cons]; simp
/-- In order, x stands at k just where as many are less, and not more. -/
theorem sorted_at : ∀ (s : List Int), s.Pairwise (· ≤ ·) → ∀ (k : Nat) (x : Int), k < s.length → (s.getD k 0 = x ↔ lessN s x ≤ k ∧ k < lessN s x + alikeN s x)
  | [], _, k, x, hk => by simp at hk
  | y :: r, hs, k, x, hk => by
    have hs' := List.pairwise_cons.1 hs
    rw [lessN_cons, alikeN_cons]
    rcases Int.lt_trichotomy y x with h | h | h
    · rw [if_pos h, if_neg (by omega)]
      cases k with
      | zero =>
        rw [List.getD_cons_zero]
        constructor
        · intro e; omega
        · intro e; omega
      | succ k =>
        rw [List.getD_cons_succ, sorted_at r hs'.2 k x (by simpa using hk)]
        omega
    · subst h
      rw [if_neg (by omega), if_pos rfl, lessN_zero hs'.1]
      cases k with
      | zero => rw [List.getD_cons_zero]; simp
      | succ k =>
        rw [List.getD_cons_succ, sorted_at r hs'.2 k y (by simpa using hk), lessN_zero hs'.1]
        omega
    · have h1 : ∀ z ∈ r, x < z := fun z hz => by have := hs'.1 z hz; omega
      rw [if_neg (by omega), if_neg (by omega), lessN_zero (fun z hz => by have := h1 z hz; omega), alikeN_zero h1]
      cases k with
      | zero =>
        rw [List.getD_cons_zero]
        omega
      | succ k =>
        rw [List.getD_cons_succ, sorted_at r hs'.2 k x (by simpa using hk), lessN_zero (fun z hz => by have := h1 z hz; omega), alikeN_zero h1]
        omega
theorem lessN_sort (l : List Int) (x : Int) : lessN (sortI l) x = lessN l x := (sortI_perm l).countP_eq _
theorem alikeN_sort (l : List Int) (x : Int) : alikeN (sortI l) x = alikeN l x := (sortI_perm l).countP_eq _
theorem quant_at (l : List Int) (k : Nat) (x : Int) (hk : k < l.length) : (sortI l).getD k 0 = x ↔ lessN l x ≤ k ∧ k < lessN l x + alikeN l x := by
  rw [sorted_at _ (sortI_srt l) k x (by rw [sortI_length]; exact hk), lessN_sort, alikeN_sort]
/-- It is one of the numbers. -/
theorem quant_mem (l : List Int) (k : Nat) (hk : k < l.length) : ∃ i, i < l.length ∧ l.getD i 0 = (sortI l).getD k 0 := by
  have h : (sortI l).getD k 0 ∈ sortI l := by
    rw [List.getD_eq_getElem?_getD, List.getElem?_eq_getElem (by rw [sortI_length]; exact hk)]; exact List.getElem_mem _
  obtain ⟨i, hi, e⟩ := List.mem_iff_getElem.1 ((sortI_perm l).mem_iff.1 h)
  exact ⟨i, hi, by rw [List.getD_eq_getElem?_getD, List.getElem?_eq_getElem hi, ← e]; rfl⟩
theorem quant_mono (l : List Int) {i j : Nat} (h : i ≤ j) (hj : j < l.length) : (sortI l).getD i 0 ≤ (sortI l).getD j 0 := by
  by_cases e : i = j
  · rw [e]; exact Int.le_refl _
  · have := List.pairwise_iff_getElem.1 (sortI_srt l) i j (by rw [sortI_length]; omega) (by rw [sortI_length]; omega) (by omega)
    simp only [List.getD_eq_getElem?_getD]
    rw [List.getElem?_eq_getElem (by rw [sortI_length]; omega), List.getElem?_eq_getElem (by rw [sortI_length]; omega)]
    exact this
def qErr (l : List Int) (n f : Int) : Int := if f < 1 ∨ 1048576 < f ∨ n < 0 ∨ f < n then 1 else if l.length = 0 then 7 else 0
def qAt (len : Nat) (n f : Int) : Nat := n.toNat * (len - 1) / f.toNat
def qVal (l : List Int) (n f : Int) : Int := if qErr l n f = 0 then (sortI l).getD (qAt l.length n f) 0 else 0
theorem qErr_ok {l : List Int} {n f : Int} (h : qErr l n f = 0) : 1 ≤ f ∧ f ≤ 1048576 ∧ 0 ≤ n ∧ n ≤ f ∧ 1 ≤ l.length := by
  unfold qErr at h
  split at h
  · omega
  · split at h
    · omega
    · omega
theorem qAt_lt {len : Nat} {n f : Int} (h1 : 1 ≤ f) (h2 : 0 ≤ n) (h3 : n ≤ f) (h4 : 1 ≤ len) : qAt len n f < len := by
  unfold qAt
  have h : n.toNat * (len - 1) ≤ f.toNat * (len - 1) := Nat.mul_le_mul_right _ (by omega)
  have h5 : n.toNat * (len - 1) / f.toNat ≤ len - 1 := by
    refine Nat.div_le_of_le_mul h
  omega
theorem qAt_mono {len : Nat} {n m f : Int} (h : n ≤ m) : qAt len n f ≤ qAt len m f := Nat.div_le_div_right (Nat.mul_le_mul_right _ (by omega))
theorem qVal_mono {l : List Int} {n m f : Int} (h1 : qErr l n f = 0) (h2 : qErr l m f = 0) (h : n ≤ m) : qVal l n f ≤ qVal l m f := by
  unfold qVal
  rw [if_pos h1, if_pos h2]
  obtain ⟨a1, a2, a3, a4, a5⟩ := qErr_ok h2
  exact quant_mono l (qAt_mono h) (qAt_lt a1 a3 a4 a5)

end Go.Proofs.Ytoefkkgnabjmdaa
