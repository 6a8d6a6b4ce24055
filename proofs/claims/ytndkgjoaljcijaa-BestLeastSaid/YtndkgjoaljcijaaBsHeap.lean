/- Chapter 26 (best): what waits, as a heap: the plain part. -/
import Derived.Test.YtndkgjoaljcijaaReps
set_option linter.unusedSimpArgs false
set_option linter.unusedVariables false
namespace Go.Proofs.Ytndkgjoaljcijaa

structure St where
  at_ : Nat
  r : Rp
structure Wt where
  s : St
  cost : Int
  all : Int
  came : Int
def st0 : St := ⟨0, ⟨0, 0, 0, 0⟩⟩
def wt0 : Wt := ⟨st0, 0, 0, 0⟩
def lessW (a b : Wt) : Prop := a.all < b.all ∨ (a.all = b.all ∧ a.came < b.came)
instance (a b : Wt) : Decidable (lessW a b) := by unfold lessW; infer_instance
def gw (l : List Wt) (i : Nat) : Wt := l.getD i wt0
def swapW (l : List Wt) (i j : Nat) : List Wt := (l.set i (gw l j)).set j (gw l i)
def siftUp : Nat → List Wt → Nat → List Wt
  | 0, l, _ => l
  | k + 1, l, i => if 0 < i ∧ lessW (gw l i) (gw l ((i - 1) / 2)) then siftUp k (swapW l i ((i - 1) / 2)) ((i - 1) / 2) else l
def pushW (l : List Wt) (x : Wt) : List Wt := siftUp l.length (l ++ [x]) l.length
def kidW (l : List Wt) (i : Nat) : Nat := if 2 * i + 1 + 1 < l.length ∧ lessW (gw l (2 * i + 1 + 1)) (gw l (2 * i + 1)) then 2 * i + 1 + 1 else 2 * i + 1
def siftDown : Nat → List Wt → Nat → List Wt
  | 0, l, _ => l
  | k + 1, l, i => if l.length ≤ kidW l i ∨ ¬ lessW (gw l (kidW l i)) (gw l i) then l else siftDown k (swapW l i (kidW l i)) (kidW l i)
def popW (l : List Wt) : List Wt := siftDown l.length ((l.set 0 (gw l (l.length - 1))).take (l.length - 1)) 0
theorem gw_at {l : List Wt} {i : Nat} (h : i < l.length) : gw l i = l[i] := by rw [gw, List.getD_eq_getElem?_getD, List.getElem?_eq_getElem h]; rfl
theorem swapW_length (l : List Wt) (i j : Nat) : (swapW l i j).length = l.length := by simp [swapW]
theorem swapW_get {l : List Wt} {i j : Nat} (hi : i < l.length) (hj : j < l.length) (k : Nat) : gw (swapW l i j) k = if k = j then gw l i else if k = i then gw l j else gw l k := by
  unfold swapW
  conv => lhs; unfold gw
  rw [List.getD_eq_getElem?_getD, List.getElem?_set]
  by_cases e : j = k
  · subst e
    rw [if_pos rfl, if_pos (by simpa using hj), if_pos rfl]; rfl
  · rw [if_neg e, if_neg (fun h => e h.symm), List.getElem?_set]
    by_cases e2 : i = k
    · subst e2
      rw [if_pos rfl, if_pos hi, if_pos rfl]; rfl
    · rw [if_neg e2, if_neg (fun h => e2 h.symm)]
      unfold gw
      rw [List.getD_eq_getElem?_getD]
theorem swapW_perm {l : List Wt} {i j : Nat} (hi : i < l.length) (hj : j < l.length) : (swapW l i j).Perm l := by
  unfold swapW
  rw [gw_at hi, gw_at hj]
  exact List.set_set_perm hi hj
theorem siftUp_length : ∀ (k : Nat) (l : List Wt) (i : Nat), (siftUp k l i).length = l.length
  | 0, l, i => rfl
  | k + 1, l, i => by
    unfold siftUp
    split
    · rw [siftUp_length, swapW_length]
    · rfl
theorem siftUp_perm : ∀ (k : Nat) (l : List Wt) (i : Nat), i < l.length → (siftUp k l i).Perm l
  | 0, l, i, _ => List.Perm.refl _
  | k + 1, l, i, h => by
    unfold siftUp
    split
    · exact (siftUp_perm k _ _ (by rw [swapW_length]; omega)).trans (swapW_perm h (by omega))
    · exact List.Perm.refl _
theorem pushW_perm (l : List Wt) (x : Wt) : (pushW l x).Perm (x :: l) := (siftUp_perm _ _ _ (by simp)).trans (List.perm_append_comm (l₁ := l) (l₂ := [x]))
def HeapW (l : List Wt) : Prop := ∀ j, 0 < j → j < l.length → ¬ lessW (gw l j) (gw l ((j - 1) / 2))
def HeapUp (l : List Wt) (i : Nat) : Prop := (∀ j, 0 < j → j < l.length → j ≠ i → ¬ lessW (gw l j) (gw l ((j - 1) / 2))) ∧ ∀ j, 0 < j → j < l.length → (j - 1) / 2 = i → 0 < i → ¬ lessW (gw l j) (gw l ((i - 1) / 2))
theorem lessW_asymm {a b : Wt} (h : lessW a b) : ¬ lessW b a := by unfold lessW at *; omega
theorem lessW_lt {a b c : Wt} (h : ¬ lessW a c) (k : lessW b c) : ¬ lessW a b := by unfold lessW at *; omega
theorem lessW_nn {a b c : Wt} (h : ¬ lessW a b) (k : ¬ lessW b c) : ¬ lessW a c := by unfold lessW at *; omega
theorem siftUp_heap : ∀ (k : Nat) (l : List Wt) (i : Nat), i ≤ k → i < l.length → HeapUp l i → HeapW (siftUp k l i)
  | 0, l, i, hk, hi, h => by
    obtain rfl : i = 0 := by omega
    exact fun j h0 hj => h.1 j h0 hj (by omega)
  | k + 1, l, i, hk, hi, h => by
    unfold siftUp
    split
    · rename_i hc
      obtain ⟨h0, hl⟩ := hc
      have hp : (i - 1) / 2 < l.length := by omega
      refine siftUp_heap k _ _ (by omega) (by rw [swapW_length]; exact hp) ⟨fun j j0 jl hne => ?_, fun j j0 jl hpar hp0 => ?_⟩
      · rw [swapW_length] at jl
        rw [swapW_get hi hp, swapW_get hi hp]
        rw [if_neg hne]
        by_cases e1 : j = i
        · subst e1
          rw [if_pos rfl, if_pos rfl]
          exact lessW_asymm hl
        · rw [if_neg e1]
          by_cases e2 : (j - 1) / 2 = (i - 1) / 2
          · rw [if_pos e2]
            exact lessW_lt (by rw [← e2]; exact h.1 j j0 jl e1) hl
          · rw [if_neg e2]
            by_cases e3 : (j - 1) / 2 = i
            · rw [if_pos e3]
              exact h.2 j j0 jl e3 h0
            · rw [if_neg e3]
              exact h.1 j j0 jl e1
      · rw [swapW_length] at jl
        rw [swapW_get hi hp, swapW_get hi hp]
        have e0 : ¬ j = (i - 1) / 2 := by omega
        have e4 : ¬ ((i - 1) / 2 - 1) / 2 = (i - 1) / 2 := by omega
        have e5 : ¬ ((i - 1) / 2 - 1) / 2 = i := by omega
        rw [if_neg e0, if_neg e4, if_neg e5]
        have hpp := h.1 ((i - 1) / 2) hp0 hp (by omega)
        by_cases e1 : j = i
        · rw [if_pos e1]; exact hpp
        · rw [if_neg e1]
          exact lessW_nn (by rw [← hpar]; exact h.1 j j0 jl e1) hpp
    · rename_i hc
      intro j h0 hj
      by_cases e : j = i
      · subst e
        exact fun q => hc ⟨h0, q⟩
      · exact h.1 j h0 hj e
theorem gw_append_left {l : List Wt} {x : Wt} {i : Nat} (h : i < l.length) : gw (l ++ [x]) i = gw l i := by rw [gw_at (by simp; omega), gw_at h, List.getElem_append_left h]
theorem pushW_heap {l : List Wt} (h : HeapW l) (x : Wt) : HeapW (pushW l x) := by
  refine siftUp_heap _ _ _ (Nat.le_refl _) (by simp) ⟨fun j j0 jl hne => ?_, fun j j0 jl hpar hp0 => ?_⟩
  · have : j < l.length := by simp at jl; omega
    rw [gw_append_left this, gw_append_left (by omega)]
    exact h j j0 this
  · simp at jl; omega
/-! The first goes. -/
theorem siftDown_length : ∀ (k : Nat) (l : List Wt) (i : Nat), (siftDown k l i).length = l.length
  | 0, l, i => rfl
  | k + 1, l, i => by
    unfold siftDown
    split
    · rfl
    · rw [siftDown_length, swapW_length]
theorem kidW_gt (l : List Wt) (i : Nat) : i < kidW l i ∧ (kidW l i - 1) / 2 = i ∧ 0 < kidW l i := by unfold kidW; split <;> omega
theorem siftDown_perm : ∀ (k : Nat) (l : List Wt) (i : Nat), i < l.length → (siftDown k l i).Perm l
  | 0, l, i, _ => List.Perm.refl _
  | k + 1, l, i, h => by
    unfold siftDown
    split
    · exact List.Perm.refl _
    · rename_i hc
      have hk : kidW l i < l.length := by omega
      exact (siftDown_perm k _ _ (by rw [swapW_length]; exact hk)).trans (swapW_perm h hk)
def HeapDn (l : List Wt) (i : Nat) : Prop := (∀ j, 0 < j → j < l.length → (j - 1) / 2 ≠ i → ¬ lessW (gw l j) (gw l ((j - 1) / 2))) ∧ ∀ j, 0 < j → j < l.length → (j - 1) / 2 = i → 0 < i → ¬ lessW (gw l j) (gw l ((i - 1) / 2))
theorem kidW_least {l : List Wt} {i j : Nat} (hj : j < l.length) (h0 : 0 < j) (hp : (j - 1) / 2 = i) : ¬ lessW (gw l j) (gw l (kidW l i)) := by
  have : j = 2 * i + 1 ∨ j = 2 * i + 1 + 1 := by omega
  unfold kidW
  split
  · rename_i hc
    rcases this with rfl | rfl
    · exact lessW_asymm hc.2
    · exact fun q => lessW_asymm q q
  · rename_i hc
    rcases this with rfl | rfl
    · exact fun q => lessW_asymm q q
    · exact fun q => hc ⟨hj, q⟩
theorem siftDown_heap : ∀ (k : Nat) (l : List Wt) (i : Nat), l.length ≤ i + k → HeapDn l i → HeapW (siftDown k l i)
  | 0, l, i, hk, h => fun j h0 hj => h.1 j h0 hj (by have : j < l.length := hj; omega)
  | k + 1, l, i, hk, h => by
    have hg := kidW_gt l i
    unfold siftDown
    split
    · rename_i hc
      intro j h0 hj
      by_cases e : (j - 1) / 2 = i
      · have hl := kidW_least hj h0 e
        rw [e]
        rcases hc with hc | hc
        · exfalso
          have h1 : kidW l i = 2 * i + 1 ∨ (kidW l i = 2 * i + 1 + 1 ∧ 2 * i + 1 + 1 < l.length) := by
            unfold kidW
            split
            · rename_i hq; exact .inr ⟨rfl, hq.1⟩
            · exact .inl rfl
          omega
        · exact lessW_nn hl hc
      · exact h.1 j h0 hj e
    · rename_i hc
      have hkl : kidW l i < l.length := by omega
      have hls : lessW (gw l (kidW l i)) (gw l i) := Classical.byContradiction fun q => hc (.inr q)
      have hkl' := fun {j} (hj : j < l.length) (h0 : 0 < j) (e : (j - 1) / 2 = i) => kidW_least hj h0 e
      have hil : i < l.length := by omega
      generalize kidW l i = q at *
      obtain ⟨g1, g2, g3⟩ := hg
      refine siftDown_heap k _ _ (by rw [swapW_length]; omega) ⟨fun j j0 jl hne => ?_, fun j j0 jl hpar hp0 => ?_⟩
      · rw [swapW_length] at jl
        rw [swapW_get hil hkl, swapW_get hil hkl]
        rw [if_neg hne]
        by_cases e1 : j = q
        · subst e1
          rw [if_pos rfl, if_pos g2]
          exact lessW_asymm hls
        · rw [if_neg e1]
          by_cases e3 : (j - 1) / 2 = i
          · rw [if_pos e3, if_neg (by omega)]
            exact hkl' jl j0 e3
          · rw [if_neg e3]
            by_cases e4 : j = i
            · subst e4
              rw [if_pos rfl]
              have := h.2 q g3 hkl g2 j0
              exact this
            · rw [if_neg e4]
              exact h.1 j j0 jl e3
      · rw [swapW_length] at jl
        rw [swapW_get hil hkl, swapW_get hil hkl, if_neg (by omega), if_neg (by omega), g2, if_neg (by omega), if_pos rfl]
        have := h.1 j j0 jl (by omega)
        rw [hpar] at this
        exact this
theorem gw_take {l : List Wt} {n i : Nat} (h : i < n) : gw (l.take n) i = gw l i := by unfold gw; rw [List.getD_eq_getElem?_getD, List.getD_eq_getElem?_getD, List.getElem?_take_of_lt h]
theorem gw_set_other {l : List Wt} {x : Wt} {i : Nat} (h : 0 < i) : gw (l.set 0 x) i = gw l i := by unfold gw; rw [List.getD_eq_getElem?_getD, List.getD_eq_getElem?_getD, List.getElem?_set, if_neg (by omega)]
theorem popW_length (l : List Wt) : (popW l).length = l.length - 1 := by simp [popW, siftDown_length]
theorem popW_heap {l : List Wt} (h : HeapW l) : HeapW (popW l) := by
  refine siftDown_heap _ _ _ (by simp) ⟨fun j j0 jl hne => ?_, fun j _ _ _ h0 => absurd h0 (by omega)⟩
  simp only [List.length_take, List.length_set] at jl
  rw [gw_take (by omega), gw_take (by omega), gw_set_other j0, gw_set_other (by omega)]
  exact h j j0 (by omega)
theorem popW_perm {l : List Wt} (hl : 0 < l.length) : (gw l 0 :: popW l).Perm l := by
  match l, hl with
  | [x], _ => exact List.Perm.refl _
  | x :: y :: l, _ =>
    have e0 : gw (x :: y :: l) 0 = x := rfl
    rw [e0]
    refine (List.Perm.cons x ((siftDown_perm _ _ 0 (by simp)).trans ?_)).trans (List.Perm.refl _)
    have e1 : (x :: y :: l).length - 1 = l.length + 1 := by simp
    have e2 : gw (x :: y :: l) (l.length + 1) = (y :: l).getLast (by simp) := by
      rw [gw_at (by simp), List.getLast_eq_getElem]
      simp
    rw [e1, e2, List.set_cons_zero, List.take_succ_cons]
    have e3 : (y :: l).take l.length = (y :: l).dropLast := by rw [List.dropLast_eq_take]; simp
    rw [e3]
    have e4 : (y :: l).dropLast ++ [(y :: l).getLast (by simp)] = y :: l := List.dropLast_concat_getLast _
    have e5 := List.perm_append_comm (l₁ := (y :: l).dropLast) (l₂ := [(y :: l).getLast (by simp)])
    rw [e4] at e5
    exact e5.symm
theorem heap_least {l : List Wt} (h : HeapW l) : ∀ j, j < l.length → ¬ lessW (gw l j) (gw l 0) := by
  intro j
  induction j using Nat.strongRecOn with
  | ind j ih =>
    intro hj
    by_cases e : j = 0
    · subst e; exact fun q => lessW_asymm q q
    · exact lessW_nn (h j (by omega) hj) (ih ((j - 1) / 2) (by omega) (by omega))
theorem heap_min {l : List Wt} (h : HeapW l) {x : Wt} (hx : x ∈ l) : (gw l 0).all ≤ x.all := by
  obtain ⟨j, hj, rfl⟩ := List.mem_iff_getElem.1 hx
  have := heap_least h j hj
  rw [gw_at hj] at this
  unfold lessW at this
  omega
end Go.Proofs.Ytndkgjoaljcijaa
