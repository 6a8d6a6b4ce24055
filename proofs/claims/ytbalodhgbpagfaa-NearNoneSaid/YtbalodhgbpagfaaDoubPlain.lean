/- Ends sorted by twice as many bytes each time: the plain part. -/
import Derived.Test.YtbalodhgbpagfaaSaPlain
set_option linter.unusedSimpArgs false
set_option linter.unusedVariables false
namespace Go.Proofs.Ytbalodhgbpagfaa

/-- Sorting by ranks, those that are alike as they came. -/
def cntS (many : Nat) (rk : Nat → Nat) (l : List Nat) : List Nat := (List.range many).flatMap (fun c => l.filter (fun p => rk p == c))
theorem cntS_perm (rk : Nat → Nat) (l : List Nat) : ∀ (many : Nat), ((List.range many).flatMap (fun c => l.filter (fun p => rk p == c))).Perm (l.filter (fun p => decide (rk p < many)))
  | 0 => by simp
  | m + 1 => by
    rw [List.range_succ, List.flatMap_append]
    refine ((cntS_perm rk l m).append_right _).trans ?_
    simp only [List.flatMap_cons, List.flatMap_nil, List.append_nil]
    induction l with
    | nil => simp
    | cons x l ih =>
      by_cases h : rk x < m
      · have h2 : rk x < m + 1 := by omega
        have h3 : (rk x == m) = false := by rw [beq_eq_false_iff_ne]; omega
        simp only [List.filter_cons, h, h2, h3, decide_true, if_true]
        exact (List.cons_append ▸ (ih.cons x))
      · by_cases h2 : rk x = m
        · have h3 : (rk x == m) = true := by rw [beq_iff_eq]; exact h2
          have h4 : rk x < m + 1 := by omega
          simp only [List.filter_cons, h, h4, h3, decide_false, decide_true, if_true, if_false]
          exact List.perm_middle.trans (ih.cons x)
        · have h3 : (rk x == m) = false := by rw [beq_eq_false_iff_ne]; exact h2
          have h4 : ¬ rk x < m + 1 := by omega
          simp only [List.filter_cons, h, h4, h3, decide_false, if_false]
          exact ih
theorem cntS_all {many : Nat} {rk : Nat → Nat} {l : List Nat} (h : ∀ p ∈ l, rk p < many) : (cntS many rk l).Perm l := by
  have := cntS_perm rk l many
  rwa [List.filter_eq_self.2 (fun p hp => decide_eq_true (h p hp))] at this
theorem cntS_mem {many : Nat} {rk : Nat → Nat} {l : List Nat} (h : ∀ p ∈ l, rk p < many) (x : Nat) : x ∈ cntS many rk l ↔ x ∈ l := (cntS_all h).mem_iff
theorem pairwise_flatMap_range (R : Nat → Nat → Prop) (g : Nat → List Nat) : ∀ (m : Nat), (∀ c, c < m → (g c).Pairwise R) → (∀ c e, c < e → e < m → ∀ x ∈ g c, ∀ y ∈ g e, R x y) → ((List.range m).flatMap g).Pairwise R
  | 0, _, _ => by simp
  | m + 1, h1, h2 => by
    rw [List.range_succ, List.flatMap_append, List.pairwise_append]
    refine ⟨pairwise_flatMap_range R g m (fun c hc => h1 c (by omega)) (fun c e hc he => h2 c e hc (by omega)), by simpa using h1 m (by omega), fun x hx y hy => ?_⟩
    obtain ⟨c, hc, hx⟩ := List.mem_flatMap.1 hx
    simp only [List.flatMap_cons, List.flatMap_nil, List.append_nil] at hy
    exact h2 c m (List.mem_range.1 hc) (by omega) x hx y hy
theorem cntS_sorted {many : Nat} {rk : Nat → Nat} {l : List Nat} {R : Nat → Nat → Prop} (hR : l.Pairwise R) : (cntS many rk l).Pairwise (fun x y => rk x < rk y ∨ (rk x = rk y ∧ R x y)) := by
  unfold cntS
  refine pairwise_flatMap_range _ _ many (fun c hc => ?_) (fun c e hce he x hx y hy => ?_)
  · have := hR.filter (fun p => rk p == c)
    refine List.Pairwise.imp_of_mem ?_ this
    intro x y hx hy hr
    have e1 := (List.mem_filter.1 hx).2
    have e2 := (List.mem_filter.1 hy).2
    rw [beq_iff_eq] at e1 e2
    exact .inr ⟨by omega, hr⟩
  · have e1 := (List.mem_filter.1 hx).2
    have e2 := (List.mem_filter.1 hy).2
    rw [beq_iff_eq] at e1 e2
    exact .inl (by omega)
/-! Rows of some bytes. -/
theorem take_lt_iff : ∀ (k m : Nat) (x y : List Nat), x.take (k + m) < y.take (k + m) ↔ x.take k < y.take k ∨ (x.take k = y.take k ∧ (x.drop k).take m < (y.drop k).take m)
  | 0, m, x, y => by simp
  | k + 1, m, [], [] => by simp
  | k + 1, m, [], b :: y => by
    rw [show k + 1 + m = (k + m) + 1 by omega]
    simp [List.nil_lt_cons]
  | k + 1, m, a :: x, [] => by
    rw [show k + 1 + m = (k + m) + 1 by omega]
    simp
  | k + 1, m, a :: x, b :: y => by
    rw [show k + 1 + m = (k + m) + 1 by omega]
    simp only [List.take_succ_cons, List.drop_succ_cons, List.cons_lt_cons_iff, List.cons.injEq]
    rw [take_lt_iff k m x y]
    constructor
    · rintro (h | ⟨h, h2 | ⟨h2, h3⟩⟩)
      · exact .inl (.inl h)
      · exact .inl (.inr ⟨h, h2⟩)
      · exact .inr ⟨⟨h, h2⟩, h3⟩
    · rintro ((h | ⟨h, h2⟩) | ⟨⟨h, h2⟩, h3⟩)
      · exact .inl h
      · exact .inr ⟨h, .inl h2⟩
      · exact .inr ⟨h, .inr ⟨h2, h3⟩⟩
theorem take_eq_iff : ∀ (k m : Nat) (x y : List Nat), x.take (k + m) = y.take (k + m) ↔ x.take k = y.take k ∧ (x.drop k).take m = (y.drop k).take m
  | 0, m, x, y => by simp
  | k + 1, m, [], [] => by simp
  | k + 1, m, [], b :: y => by
    rw [show k + 1 + m = (k + m) + 1 by omega]
    simp
  | k + 1, m, a :: x, [] => by
    rw [show k + 1 + m = (k + m) + 1 by omega]
    simp
  | k + 1, m, a :: x, b :: y => by
    rw [show k + 1 + m = (k + m) + 1 by omega]
    simp only [List.take_succ_cons, List.drop_succ_cons, List.cons.injEq]
    rw [take_eq_iff k m x y]
    constructor
    · rintro ⟨h, h2, h3⟩; exact ⟨⟨h, h2⟩, h3⟩
    · rintro ⟨⟨h, h2⟩, h3⟩; exact ⟨h, h2, h3⟩
theorem lt_of_take_lt {k : Nat} {x y : List Nat} (h : x.take k < y.take k) : x < y := by
  have h2 := (take_lt_iff k (x.length + y.length) x y).2 (.inl h)
  rwa [List.take_of_length_le (by omega), List.take_of_length_le (by omega)] at h2
/-- So many numbers of an end. -/
def keyK (t : List Nat) (k p : Nat) : List Nat := (t.drop p).take k
theorem keyK_two (t : List Nat) (k p q : Nat) : (keyK t (k + k) p < keyK t (k + k) q ↔ keyK t k p < keyK t k q ∨ (keyK t k p = keyK t k q ∧ keyK t k (p + k) < keyK t k (q + k))) ∧ (keyK t (k + k) p = keyK t (k + k) q ↔ keyK t k p = keyK t k q ∧ keyK t k (p + k) = keyK t k (q + k)) := by
  unfold keyK
  rw [take_lt_iff, take_eq_iff, List.drop_drop, List.drop_drop]
  exact ⟨Iff.rfl, Iff.rfl⟩
/-- Ranks tell the order by so many numbers. -/
structure RankOk (t : List Nat) (k many : Nat) (rk : Nat → Nat) : Prop where
  lt : ∀ p q, p < t.length → q < t.length → (rk p < rk q ↔ keyK t k p < keyK t k q)
  eq : ∀ p q, p < t.length → q < t.length → (rk p = rk q ↔ keyK t k p = keyK t k q)
  bd : ∀ p, p < t.length → 1 ≤ rk p ∧ rk p < many
def secR (t : List Nat) (k : Nat) (rk : Nat → Nat) (p : Nat) : Nat := if t.length ≤ p + k then 0 else rk (p + k)
theorem secR_bd {t : List Nat} {k many : Nat} {rk : Nat → Nat} (h : RankOk t k many rk) (p : Nat) (hp : p < t.length) : secR t k rk p < many := by
  unfold secR
  split
  · have := h.bd p hp; omega
  · exact (h.bd (p + k) (by omega)).2
theorem keyK_nil {t : List Nat} {k p : Nat} (h : t.length ≤ p) : keyK t k p = [] := by unfold keyK; rw [List.drop_eq_nil_of_le h]; simp
theorem keyK_ne {t : List Nat} {k p : Nat} (hk : 1 ≤ k) (h : p < t.length) : ∃ a l, keyK t k p = a :: l := by
  unfold keyK
  rw [drop_cons h]
  obtain ⟨k, rfl⟩ : ∃ k', k = k' + 1 := ⟨k - 1, by omega⟩
  exact ⟨_, _, rfl⟩
theorem secR_spec {t : List Nat} {k many : Nat} {rk : Nat → Nat} (h : RankOk t k many rk) (hk : 1 ≤ k) (p q : Nat) (hp : p < t.length) (hq : q < t.length) : (secR t k rk p < secR t k rk q ↔ keyK t k (p + k) < keyK t k (q + k)) ∧ (secR t k rk p = secR t k rk q ↔ keyK t k (p + k) = keyK t k (q + k)) := by
  unfold secR
  by_cases h1 : t.length ≤ p + k
  · rw [if_pos h1, keyK_nil h1]
    by_cases h2 : t.length ≤ q + k
    · rw [if_pos h2, keyK_nil h2]; simp
    · rw [if_neg h2]
      have := h.bd (q + k) (by omega)
      obtain ⟨a, l, e⟩ := keyK_ne (t := t) (p := q + k) hk (by omega)
      rw [e]
      refine ⟨⟨fun _ => List.nil_lt_cons _ _, fun _ => by omega⟩, ⟨fun q => by omega, fun q => by cases q⟩⟩
  · rw [if_neg h1]
    by_cases h2 : t.length ≤ q + k
    · rw [if_pos h2, keyK_nil h2]
      have := h.bd (p + k) (by omega)
      obtain ⟨a, l, e⟩ := keyK_ne (t := t) (p := p + k) hk (by omega)
      rw [e]
      refine ⟨⟨fun q => by omega, fun q => absurd q (by simp)⟩, ⟨fun q => by omega, fun q => by cases q⟩⟩
    · rw [if_neg h2]
      exact ⟨h.lt _ _ (by omega) (by omega), h.eq _ _ (by omega) (by omega)⟩
/-- Pairs of ranks. -/
def pairLt (f g : Nat → Nat) (x y : Nat) : Prop := f x < f y ∨ (f x = f y ∧ g x < g y)
def pairLe (f g : Nat → Nat) (x y : Nat) : Prop := f x < f y ∨ (f x = f y ∧ g x ≤ g y)
theorem keyK_pair {t : List Nat} {k many : Nat} {rk : Nat → Nat} (h : RankOk t k many rk) (hk : 1 ≤ k) (p q : Nat) (hp : p < t.length) (hq : q < t.length) : (pairLt rk (secR t k rk) p q ↔ keyK t (k + k) p < keyK t (k + k) q) ∧ ((rk p = rk q ∧ secR t k rk p = secR t k rk q) ↔ keyK t (k + k) p = keyK t (k + k) q) := by
  have a := keyK_two t k p q
  have b := secR_spec h hk p q hp hq
  unfold pairLt
  rw [a.1, a.2, h.lt p q hp hq, h.eq p q hp hq, b.1, b.2]
  exact ⟨Iff.rfl, Iff.rfl⟩
/-- How often neighbours differ, ahead of a place. -/
def cntM (f g : Nat → Nat) (a : List Nat) : Nat → Nat
  | 0 => 1
  | i + 1 => if i = 0 ∨ f (a.getD i 0) ≠ f (a.getD (i - 1) 0) ∨ g (a.getD i 0) ≠ g (a.getD (i - 1) 0) then cntM f g a i + 1 else cntM f g a i
theorem cntM_succ (f g : Nat → Nat) (a : List Nat) (i : Nat) : cntM f g a (i + 1) = if i = 0 ∨ f (a.getD i 0) ≠ f (a.getD (i - 1) 0) ∨ g (a.getD i 0) ≠ g (a.getD (i - 1) 0) then cntM f g a i + 1 else cntM f g a i := rfl
theorem cntM_step (f g : Nat → Nat) (a : List Nat) (i : Nat) : cntM f g a i ≤ cntM f g a (i + 1) ∧ cntM f g a (i + 1) ≤ cntM f g a i + 1 := by
  rw [cntM]; split <;> omega
theorem cntM_mono (f g : Nat → Nat) (a : List Nat) (i : Nat) : ∀ d, cntM f g a i ≤ cntM f g a (i + d) ∧ cntM f g a (i + d) ≤ cntM f g a i + d
  | 0 => ⟨Nat.le_refl _, Nat.le_refl _⟩
  | d + 1 => by
    have h1 := cntM_mono f g a i d
    have h2 := cntM_step f g a (i + d)
    rw [show i + (d + 1) = i + d + 1 by omega]
    omega
theorem cntM_two (f g : Nat → Nat) (a : List Nat) (i : Nat) : 2 ≤ cntM f g a (i + 1) := by
  have h := cntM_mono f g a 1 i
  rw [show 1 + i = i + 1 by omega] at h
  have : cntM f g a 1 = 2 := by rw [cntM, if_pos (.inl rfl)]; rfl
  omega
theorem pairwise_getD {R : Nat → Nat → Prop} {a : List Nat} (h : a.Pairwise R) {x y : Nat} (hxy : x < y) (hy : y < a.length) : R (a.getD x 0) (a.getD y 0) := by
  rw [List.getD_eq_getElem?_getD, List.getD_eq_getElem?_getD, List.getElem?_eq_getElem (by omega), List.getElem?_eq_getElem hy]
  exact List.pairwise_iff_getElem.1 h x y (by omega) hy hxy
theorem cntM_spec {f g : Nat → Nat} {a : List Nat} (h : a.Pairwise (pairLe f g)) (x : Nat) : ∀ d, x + d < a.length → (pairLt f g (a.getD x 0) (a.getD (x + d) 0) ↔ cntM f g a (x + 1) < cntM f g a (x + d + 1)) ∧ ((f (a.getD x 0) = f (a.getD (x + d) 0) ∧ g (a.getD x 0) = g (a.getD (x + d) 0)) ↔ cntM f g a (x + 1) = cntM f g a (x + d + 1))
  | 0, _ => by
    refine ⟨⟨fun h => ?_, fun h => ?_⟩, ⟨fun _ => rfl, fun _ => ⟨rfl, rfl⟩⟩⟩
    · unfold pairLt at h
      rw [Nat.add_zero] at h
      omega
    · rw [Nat.add_zero] at h
      omega
  | d + 1, hd => by
    have ih := cntM_spec h x d (by omega)
    have hle := pairwise_getD h (x := x + d) (y := x + (d + 1)) (by omega) hd
    have hl0 : d = 0 ∨ pairLe f g (a.getD x 0) (a.getD (x + d) 0) := by
      by_cases q : d = 0
      · exact .inl q
      · exact .inr (pairwise_getD h (by omega) (by omega))
    have hm := cntM_mono f g a (x + 1) d
    rw [show x + 1 + d = x + d + 1 by omega] at hm
    rw [show x + (d + 1) = x + d + 1 by omega] at *
    rw [cntM_succ f g a (x + d + 1)]
    rw [show x + d + 1 - 1 = x + d by omega]
    unfold pairLt pairLe at *
    by_cases hc : f (a.getD (x + d + 1) 0) ≠ f (a.getD (x + d) 0) ∨ g (a.getD (x + d + 1) 0) ≠ g (a.getD (x + d) 0)
    · rw [if_pos (.inr hc)]
      rcases hl0 with rfl | hl0
      · simp only [Nat.add_zero] at *
        omega
      · omega
    · have c1 : f (a.getD (x + d + 1) 0) = f (a.getD (x + d) 0) := Classical.byContradiction fun q => hc (.inl q)
      have c2 : g (a.getD (x + d + 1) 0) = g (a.getD (x + d) 0) := Classical.byContradiction fun q => hc (.inr q)
      rw [if_neg (by omega), c1, c2]
      clear hc c1 c2 hle
      rcases hl0 with rfl | hl0
      · simp only [Nat.add_zero] at *
        omega
      · omega
/-- A round: the ranks by twice as many. -/
theorem rank_round {t : List Nat} {k many : Nat} {rk : Nat → Nat} (h : RankOk t k many rk) (hk : 1 ≤ k) {a : List Nat} (hp : a.Perm (List.range t.length)) (hs : a.Pairwise (pairLe rk (secR t k rk))) {rk' : Nat → Nat} (hr : ∀ x, x < a.length → rk' (a.getD x 0) = cntM rk (secR t k rk) a (x + 1) - 1) :
    RankOk t (k + k) (cntM rk (secR t k rk) a a.length) rk' ∧ a.Pairwise (fun x y => rk' x ≤ rk' y) := by
  have hlen : a.length = t.length := by rw [hp.length_eq, List.length_range]
  have hidx : ∀ p, p < t.length → ∃ x, x < a.length ∧ a.getD x 0 = p := fun p hpt => by
    have hm : p ∈ a := hp.mem_iff.2 (List.mem_range.2 hpt)
    obtain ⟨x, hx, e⟩ := List.getElem_of_mem hm
    exact ⟨x, hx, by rw [List.getD_eq_getElem?_getD, List.getElem?_eq_getElem hx]; exact e⟩
  have hmem : ∀ x, x < a.length → a.getD x 0 < t.length := fun x hx => by
    rw [List.getD_eq_getElem?_getD, List.getElem?_eq_getElem hx]
    exact List.mem_range.1 (hp.mem_iff.1 (List.getElem_mem hx))
  have key : ∀ x y, x ≤ y → y < a.length → (rk' (a.getD x 0) < rk' (a.getD y 0) ↔ keyK t (k + k) (a.getD x 0) < keyK t (k + k) (a.getD y 0)) ∧ (rk' (a.getD x 0) = rk' (a.getD y 0) ↔ keyK t (k + k) (a.getD x 0) = keyK t (k + k) (a.getD y 0)) ∧ rk' (a.getD x 0) ≤ rk' (a.getD y 0) := fun x y hxy hy => by
    obtain ⟨d, rfl⟩ : ∃ d, y = x + d := ⟨y - x, by omega⟩
    have h1 := cntM_spec hs x d hy
    have h2 := keyK_pair h hk _ _ (hmem x (by omega)) (hmem (x + d) hy)
    have h3 := cntM_two rk (secR t k rk) a x
    have h4 := cntM_mono rk (secR t k rk) a (x + 1) d
    rw [show x + 1 + d = x + d + 1 by omega] at h4
    rw [hr x (by omega), hr (x + d) hy, ← h2.1, ← h2.2, h1.1, h1.2]
    omega
  refine ⟨⟨fun p q hp' hq' => ?_, fun p q hp' hq' => ?_, fun p hp' => ?_⟩, List.pairwise_iff_getElem.2 fun x y hx hy hxy => ?_⟩
  · obtain ⟨x, hx, rfl⟩ := hidx p hp'
    obtain ⟨y, hy, rfl⟩ := hidx q hq'
    rcases Nat.le_total x y with q | q
    · exact (key x y q hy).1
    · have k1 := key y x q hx
      constructor
      · intro g; omega
      · intro g
        rcases Nat.lt_or_ge (rk' (a.getD y 0)) (rk' (a.getD x 0)) with c | c
        · exact absurd g (List.lt_asymm (k1.1.1 c))
        · have e := k1.2.1.1 (by omega)
          rw [e] at g
          exact absurd g (List.lt_irrefl _)
  · obtain ⟨x, hx, rfl⟩ := hidx p hp'
    obtain ⟨y, hy, rfl⟩ := hidx q hq'
    rcases Nat.le_total x y with q | q
    · exact (key x y q hy).2.1
    · have k1 := (key y x q hx).2.1
      exact ⟨fun g => (k1.1 g.symm).symm, fun g => (k1.2 g.symm).symm⟩
  · obtain ⟨x, hx, rfl⟩ := hidx p hp'
    rw [hr x hx]
    have h3 := cntM_two rk (secR t k rk) a x
    have h4 := cntM_mono rk (secR t k rk) a (x + 1) (a.length - (x + 1))
    rw [show x + 1 + (a.length - (x + 1)) = a.length by omega] at h4
    omega
  · have := (key x y (by omega) hy).2.2
    rwa [List.getD_eq_getElem?_getD, List.getD_eq_getElem?_getD, List.getElem?_eq_getElem (by omega), List.getElem?_eq_getElem hy] at this
/-- The end: all differ. -/
theorem rank_done {t : List Nat} {k many : Nat} {rk : Nat → Nat} (h : RankOk t k many rk) (hk : 1 ≤ k) {a : List Nat} (hp : a.Perm (List.range t.length)) (hs : a.Pairwise (pairLe rk (secR t k rk))) (he : t.length < cntM rk (secR t k rk) a a.length ∨ t.length ≤ k) : IsSA t a := by
  have hlen : a.length = t.length := by rw [hp.length_eq, List.length_range]
  have hmem : ∀ x, x < a.length → a.getD x 0 < t.length := fun x hx => by
    rw [List.getD_eq_getElem?_getD, List.getElem?_eq_getElem hx]
    exact List.mem_range.1 (hp.mem_iff.1 (List.getElem_mem hx))
  have hnd : a.Nodup := hp.nodup_iff.2 List.nodup_range
  refine ⟨hp, List.pairwise_iff_getElem.2 fun x y hx hy hxy => ?_⟩
  have gx : a.getD x 0 = a[x] := by rw [List.getD_eq_getElem?_getD, List.getElem?_eq_getElem hx]; rfl
  have gy : a.getD y 0 = a[y] := by rw [List.getD_eq_getElem?_getD, List.getElem?_eq_getElem hy]; rfl
  have hle := pairwise_getD hs hxy hy
  rw [← gx, ← gy]
  rcases he with he | he
  · obtain ⟨d, rfl⟩ : ∃ d, y = x + d := ⟨y - x, by omega⟩
    have h0 : cntM rk (secR t k rk) a 0 = 1 := rfl
    have h1 := cntM_mono rk (secR t k rk) a 0 (x + 1)
    have h2 := cntM_mono rk (secR t k rk) a (x + d + 1) (a.length - (x + d + 1))
    rw [show x + d + 1 + (a.length - (x + d + 1)) = a.length by omega] at h2
    rw [Nat.zero_add] at h1
    have h5 := (cntM_spec hs x d hy).1.2 (by omega)
    exact lt_of_take_lt ((keyK_pair h hk _ _ (hmem x (by omega)) (hmem (x + d) hy)).1.1 h5)
  · have hne : rk (a.getD x 0) ≠ rk (a.getD y 0) := fun e => by
      have e2 := (h.eq _ _ (hmem x (by omega)) (hmem y hy)).1 e
      unfold keyK at e2
      rw [List.take_of_length_le (by rw [List.length_drop]; omega), List.take_of_length_le (by rw [List.length_drop]; omega)] at e2
      have e3 := drop_inj (by have := hmem x (by omega); omega) (by have := hmem y hy; omega) e2
      rw [gx, gy] at e3
      have := (List.getElem_inj hnd).1 e3
      omega
    unfold pairLe at hle
    exact lt_of_take_lt ((h.lt _ _ (hmem x (by omega)) (hmem y hy)).1 (by omega))
/-- The first ranks. -/
theorem rank_first (t : List Nat) (ht : ∀ x ∈ t, x ≤ 255) : RankOk t 1 257 (fun p => t.getD p 0 + 1) := by
  have hk : ∀ p, p < t.length → keyK t 1 p = [t.getD p 0] := fun p hp => by unfold keyK; rw [drop_cons hp]; rfl
  refine ⟨fun p q hp hq => ?_, fun p q hp hq => ?_, fun p hp => ?_⟩
  · rw [hk p hp, hk q hq, List.cons_lt_cons_iff]
    simp
  · rw [hk p hp, hk q hq]
    simp
  · have : t.getD p 0 ≤ 255 := by
      rw [List.getD_eq_getElem?_getD, List.getElem?_eq_getElem hp]
      exact ht _ (List.getElem_mem hp)
    omega
theorem sort_pairs {t : List Nat} {k many : Nat} {rk : Nat → Nat} (h : RankOk t k many rk) {a : List Nat} (hp : a.Perm (List.range t.length)) : (cntS many rk (cntS many (secR t k rk) a)).Perm (List.range t.length) ∧ (cntS many rk (cntS many (secR t k rk) a)).Pairwise (pairLe rk (secR t k rk)) := by
  have hb : ∀ p ∈ a, p < t.length := fun p hpa => List.mem_range.1 (hp.mem_iff.1 hpa)
  have h1 : (cntS many (secR t k rk) a).Perm a := cntS_all (fun p hpa => secR_bd h p (hb p hpa))
  have h2 : (cntS many rk (cntS many (secR t k rk) a)).Perm (cntS many (secR t k rk) a) := cntS_all (fun p hpa => (h.bd p (hb p (h1.mem_iff.1 hpa))).2)
  refine ⟨h2.trans (h1.trans hp), ?_⟩
  have h3 : (cntS many (secR t k rk) a).Pairwise (fun x y => secR t k rk x ≤ secR t k rk y) := (cntS_sorted (R := fun _ _ => True) (List.pairwise_of_forall (fun _ _ => trivial))).imp (fun h => by omega)
  exact cntS_sorted h3
/-- Where a round sorts nothing, all ends differ already. -/
theorem pairs_whole {t : List Nat} {k many : Nat} {rk : Nat → Nat} (h : RankOk t k many rk) {a : List Nat} (hp : a.Perm (List.range t.length)) (hs : a.Pairwise (fun x y => rk x ≤ rk y)) (hk : t.length ≤ k) : a.Pairwise (pairLe rk (secR t k rk)) := by
  refine hs.imp (fun {x y} hxy => ?_)
  unfold pairLe secR
  rw [if_pos (by omega), if_pos (by omega)]
  omega
end Go.Proofs.Ytbalodhgbpagfaa
