/- The order of a text's ends, and how much they share: the plain part. -/
set_option linter.unusedSimpArgs false
set_option linter.unusedVariables false
namespace Go.Proofs.Ytbalodhgbpagfaa

/-- How much two rows share ahead. -/
def lcpL : List Nat → List Nat → Nat
  | a :: x, b :: y => if a = b then lcpL x y + 1 else 0
  | _, _ => 0
theorem lcpL_nil (y : List Nat) : lcpL [] y = 0 := by cases y <;> rfl
theorem lcpL_nil' (y : List Nat) : lcpL y [] = 0 := by cases y <;> rfl
theorem lcpL_cons (a b : Nat) (x y : List Nat) : lcpL (a :: x) (b :: y) = if a = b then lcpL x y + 1 else 0 := rfl
theorem lcpL_comm : ∀ (x y : List Nat), lcpL x y = lcpL y x
  | [], y => by rw [lcpL_nil, lcpL_nil']
  | a :: x, [] => rfl
  | a :: x, b :: y => by
    rw [lcpL_cons, lcpL_cons, lcpL_comm x y]
    by_cases h : a = b
    · rw [if_pos h, if_pos h.symm]
    · rw [if_neg h, if_neg (fun q => h q.symm)]
theorem lcpL_le : ∀ (x y : List Nat), lcpL x y ≤ x.length ∧ lcpL x y ≤ y.length
  | [], y => by rw [lcpL_nil]; omega
  | a :: x, [] => by simp [lcpL]
  | a :: x, b :: y => by
    rw [lcpL_cons]
    have := lcpL_le x y
    split <;> simp only [List.length_cons] <;> omega
theorem lcpL_self : ∀ (x : List Nat), lcpL x x = x.length
  | [] => rfl
  | a :: x => by rw [lcpL_cons, if_pos rfl, lcpL_self x]; rfl
/-- A row between two others shares with each as much as these do. -/
theorem lcpL_between : ∀ (x y z : List Nat), x ≤ y → y ≤ z → lcpL x z = min (lcpL x y) (lcpL y z)
  | [], y, z, _, _ => by rw [lcpL_nil, lcpL_nil]; omega
  | a :: x, [], z, h, _ => absurd (List.nil_lt_cons a x) h
  | a :: x, b :: y, [], _, h => absurd (List.nil_lt_cons b y) h
  | a :: x, b :: y, c :: z, h1, h2 => by
    have h1' : ¬ (b :: y < a :: x) := h1
    have h2' : ¬ (c :: z < b :: y) := h2
    rw [List.cons_lt_cons_iff] at h1' h2'
    rw [lcpL_cons, lcpL_cons, lcpL_cons]
    by_cases e1 : a = b
    · by_cases e2 : b = c
      · subst e1
        subst e2
        rw [if_pos rfl, if_pos rfl, if_pos rfl, lcpL_between x y z (fun q => h1' (.inr ⟨rfl, q⟩)) (fun q => h2' (.inr ⟨rfl, q⟩))]
        omega
      · rw [if_pos e1, if_neg e2, if_neg (by omega)]; omega
    · by_cases e2 : a = c
      · exfalso
        have : ¬ (b < a) := fun q => h1' (.inl q)
        have : ¬ (c < b) := fun q => h2' (.inl q)
        omega
      · rw [if_neg e1, if_neg e2]; omega
theorem lcpL_ge_iff : ∀ (x y : List Nat) (n : Nat), n ≤ lcpL x y ↔ n ≤ x.length ∧ n ≤ y.length ∧ ∀ j, j < n → x.getD j 0 = y.getD j 0
  | [], y, n => by rw [lcpL_nil]; simp only [List.length_nil]; exact ⟨fun h => ⟨h, by omega, fun j hj => by omega⟩, fun h => h.1⟩
  | a :: x, [], n => by simp only [lcpL, List.length_nil]; exact ⟨fun h => ⟨by omega, h, fun j hj => by omega⟩, fun h => h.2.1⟩
  | a :: x, b :: y, n => by
    rw [lcpL_cons]
    cases n with
    | zero => simp
    | succ n =>
      have ih := lcpL_ge_iff x y n
      by_cases h : a = b
      · rw [if_pos h]
        simp only [List.length_cons]
        constructor
        · intro hn
          obtain ⟨p, q, r⟩ := ih.1 (by omega)
          refine ⟨by omega, by omega, fun j hj => ?_⟩
          cases j with
          | zero => simpa using h
          | succ j => simpa using r j (by omega)
        · rintro ⟨p, q, r⟩
          have := ih.2 ⟨by omega, by omega, fun j hj => by simpa using r (j + 1) (by omega)⟩
          omega
      · rw [if_neg h]
        constructor
        · intro hn; omega
        · rintro ⟨p, q, r⟩
          exact absurd (by simpa using r 0 (by omega)) h

/-- An end is less than another. -/
def slt (t : List Nat) (i j : Nat) : Prop := t.drop i < t.drop j
instance (t : List Nat) (i j : Nat) : Decidable (slt t i j) := inferInstanceAs (Decidable (t.drop i < t.drop j))
theorem slt_irrefl (t : List Nat) (i : Nat) : ¬ slt t i i := List.lt_irrefl _
theorem slt_trans {t : List Nat} {i j k : Nat} (h : slt t i j) (g : slt t j k) : slt t i k := List.lt_trans h g
theorem slt_asymm {t : List Nat} {i j : Nat} (h : slt t i j) : ¬ slt t j i := List.lt_asymm h
theorem drop_inj {t : List Nat} {i j : Nat} (hi : i ≤ t.length) (hj : j ≤ t.length) (h : t.drop i = t.drop j) : i = j := by
  have := congrArg List.length h
  rw [List.length_drop, List.length_drop] at this
  omega
theorem slt_total {t : List Nat} {i j : Nat} (hi : i ≤ t.length) (hj : j ≤ t.length) (h : i ≠ j) : slt t i j ∨ slt t j i := by
  rcases Classical.em (slt t i j) with q | q
  · exact .inl q
  · rcases Classical.em (slt t j i) with p | p
    · exact .inr p
    · exact absurd (drop_inj hi hj (List.le_antisymm (List.not_lt.1 p) (List.not_lt.1 q))) h
theorem drop_cons {t : List Nat} {i : Nat} (h : i < t.length) : t.drop i = t.getD i 0 :: t.drop (i + 1) := by
  rw [List.drop_eq_getElem_cons h, List.getD_eq_getElem?_getD, List.getElem?_eq_getElem h]
  rfl
theorem slt_step {t : List Nat} {i j : Nat} (hi : i < t.length) (hj : j < t.length) : slt t i j ↔ t.getD i 0 < t.getD j 0 ∨ (t.getD i 0 = t.getD j 0 ∧ slt t (i + 1) (j + 1)) := by
  unfold slt
  rw [drop_cons hi, drop_cons hj, List.cons_lt_cons_iff]

structure IsSA (t : List Nat) (a : List Nat) : Prop where
  perm : a.Perm (List.range t.length)
  sorted : a.Pairwise (slt t)
theorem IsSA.unique {t a b : List Nat} (ha : IsSA t a) (hb : IsSA t b) : a = b :=
  List.Perm.eq_of_pairwise (le := slt t) (fun x y _ _ h1 h2 => absurd h2 (slt_asymm h1)) ha.sorted hb.sorted (ha.perm.trans hb.perm.symm)
theorem IsSA.len {t a : List Nat} (h : IsSA t a) : a.length = t.length := by rw [h.perm.length_eq, List.length_range]
theorem IsSA.mem {t a : List Nat} (h : IsSA t a) (x : Nat) : x ∈ a ↔ x < t.length := by rw [h.perm.mem_iff, List.mem_range]
theorem IsSA.nodup {t a : List Nat} (h : IsSA t a) : a.Nodup := h.perm.nodup_iff.2 List.nodup_range
theorem IsSA.lt {t a : List Nat} (h : IsSA t a) {p q : Nat} (hpq : p < q) (hq : q < a.length) : slt t (a[p]'(by omega)) a[q] :=
  List.pairwise_iff_getElem.1 h.sorted p q (by omega) hq hpq
/-- How much two ends share. -/
def lcpT (t : List Nat) (i j : Nat) : Nat := lcpL (t.drop i) (t.drop j)
theorem lcpT_comm (t : List Nat) (i j : Nat) : lcpT t i j = lcpT t j i := lcpL_comm _ _
theorem slt.le {t : List Nat} {i j : Nat} (h : slt t i j) : t.drop i ≤ t.drop j := List.not_lt.1 (slt_asymm h)
theorem lcpT_between {t : List Nat} {i j k : Nat} (h1 : slt t i j) (h2 : slt t j k) : lcpT t i k = min (lcpT t i j) (lcpT t j k) :=
  lcpL_between _ _ _ h1.le h2.le
/-- Neighbours share `nb k` with the one ahead: what any two ends share is the least between. -/
theorem lcp_chain_up {t a : List Nat} (h : IsSA t a) {p q : Nat} (hpq : p < q) (hq : q + 1 < a.length) : lcpT t (a[p]'(by omega)) (a[q + 1]'hq) = min (lcpT t (a[p]'(by omega)) (a[q]'(by omega))) (lcpT t (a[q]'(by omega)) a[q + 1]) :=
  lcpT_between (h.lt hpq (by omega)) (h.lt (by omega) hq)
theorem lcp_chain_down {t a : List Nat} (h : IsSA t a) {p q : Nat} (hpq : p + 1 < q) (hq : q < a.length) : lcpT t (a[p]'(by omega)) (a[q]'hq) = min (lcpT t (a[p]'(by omega)) (a[p + 1]'(by omega))) (lcpT t (a[p + 1]'(by omega)) a[q]) :=
  lcpT_between (h.lt (by omega) (by omega)) (h.lt hpq hq)
/-- One byte on, one less is shared. -/
theorem lcpT_step {t : List Nat} {i j : Nat} (h : 0 < lcpT t i j) : lcpT t (i + 1) (j + 1) + 1 = lcpT t i j ∧ i < t.length ∧ j < t.length ∧ t.getD i 0 = t.getD j 0 := by
  unfold lcpT at *
  have hl := lcpL_le (t.drop i) (t.drop j)
  rw [List.length_drop, List.length_drop] at hl
  have hi : i < t.length := by omega
  have hj : j < t.length := by omega
  rw [drop_cons hi, drop_cons hj, lcpL_cons] at h ⊢
  by_cases e : t.getD i 0 = t.getD j 0
  · rw [if_pos e]; exact ⟨rfl, hi, hj, e⟩
  · rw [if_neg e] at h; omega
/-- What the ranks are. -/
def rankOf (a : List Nat) (x : Nat) : Nat := a.idxOf x
theorem rank_lt {t a : List Nat} (h : IsSA t a) {x : Nat} (hx : x < t.length) : rankOf a x < a.length := List.idxOf_lt_length_of_mem ((h.mem x).2 hx)
theorem rank_get {t a : List Nat} (h : IsSA t a) {x : Nat} (hx : x < t.length) : a[rankOf a x]'(rank_lt h hx) = x := List.getElem_idxOf (rank_lt h hx)
theorem rank_of_get {t a : List Nat} (h : IsSA t a) {p : Nat} (hp : p < a.length) : rankOf a a[p] = p := by
  have h1 : a[p] < t.length := (h.mem _).1 (List.getElem_mem hp)
  have h2 := rank_get h h1
  exact (List.getElem_inj h.nodup).1 h2
theorem rank_slt {t a : List Nat} (h : IsSA t a) {x y : Nat} (hx : x < t.length) (hy : y < t.length) : rankOf a x < rankOf a y ↔ slt t x y := by
  have e1 := rank_get h hx
  have e2 := rank_get h hy
  constructor
  · intro q
    have := h.lt q (rank_lt h hy)
    rwa [e1, e2] at this
  · intro q
    rcases Nat.lt_trichotomy (rankOf a x) (rankOf a y) with r | r | r
    · exact r
    · exfalso
      have : x = y := by rw [← e1, ← e2]; simp only [r]
      subst this
      exact slt_irrefl _ _ q
    · have := h.lt r (rank_lt h hx)
      rw [e1, e2] at this
      exact absurd q (slt_asymm this)
/-- Kasai's step: the neighbour ahead of the next end shares one less at least. -/
theorem kasai {t a : List Nat} (h : IsSA t a) {i : Nat} (hi : i + 1 < t.length) (h0 : 0 < rankOf a i) (h2 : 0 < rankOf a (i + 1)) :
    lcpT t i (a[rankOf a i - 1]'(by have := rank_lt h (x := i) (by omega); omega)) ≤ lcpT t (i + 1) (a[rankOf a (i + 1) - 1]'(by have := rank_lt h hi; omega)) + 1 := by
  have r1 := rank_lt h (x := i) (by omega)
  have r2 := rank_lt h hi
  have e1 := rank_get h (x := i) (by omega)
  have e2 := rank_get h hi
  have hlt : slt t (a[rankOf a i - 1]'(by omega)) i := by
    have := h.lt (p := rankOf a i - 1) (q := rankOf a i) (by omega) r1
    rwa [e1] at this
  obtain ⟨k, hk⟩ : ∃ k, k = a[rankOf a i - 1]'(by omega) := ⟨_, rfl⟩
  have hkl : k < t.length := by rw [hk]; exact (h.mem _).1 (List.getElem_mem _)
  rw [← hk] at hlt ⊢
  by_cases hz : lcpT t i k ≤ 1
  · omega
  · obtain ⟨s1, s2, s3, s4⟩ := lcpT_step (t := t) (i := i) (j := k) (by omega)
    have hk1 : k + 1 < t.length := by
      have := (lcpL_le (t.drop (i + 1)) (t.drop (k + 1))).2
      rw [List.length_drop] at this
      unfold lcpT at s1 hz
      omega
    have hs : slt t (k + 1) (i + 1) := by
      rcases (slt_step s3 s2).1 hlt with q | ⟨_, q⟩
      · omega
      · exact q
    have hr : rankOf a (k + 1) < rankOf a (i + 1) := (rank_slt h hk1 hi).2 hs
    have e3 := rank_get h hk1
    have hpl := rank_lt h hk1
    by_cases hq : rankOf a (k + 1) = rankOf a (i + 1) - 1
    · have : a[rankOf a (i + 1) - 1]'(by omega) = k + 1 := by rw [← e3]; simp only [hq]
      rw [this, ← s1]
      omega
    · have g1 := h.lt (p := rankOf a (k + 1)) (q := rankOf a (i + 1) - 1) (by omega) (by omega)
      have g2 := h.lt (p := rankOf a (i + 1) - 1) (q := rankOf a (i + 1)) (by omega) r2
      rw [e3] at g1
      rw [e2] at g2
      have hb := lcpT_between g1 g2
      rw [lcpT_comm t (k + 1) (i + 1)] at hb
      rw [lcpT_comm t (i + 1) (a[rankOf a (i + 1) - 1]'(by omega))]
      omega
end Go.Proofs.Ytbalodhgbpagfaa
