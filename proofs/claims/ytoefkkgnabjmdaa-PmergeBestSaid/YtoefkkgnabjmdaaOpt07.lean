/- Chapter 07 (pmerge): nothing costs less: neither than package-merge within its limit, nor than the best lengths of all. -/
import Derived.Test.YtoefkkgnabjmdaaPlain07
set_option linter.unusedSimpArgs false
set_option linter.unusedVariables false
set_option maxRecDepth 100000
namespace Go.Proofs.Ytoefkkgnabjmdaa

/-! Nothing costs less than package-merge. -/
def csum : List Coin → Int
  | [] => 0
  | p :: l => p.1 + csum l
theorem csum_append : ∀ a b, csum (a ++ b) = csum a + csum b
  | [], b => by simp [csum]
  | p :: a, b => by simp only [List.cons_append, csum, csum_append a b]; omega
theorem csum_perm {a b : List Coin} (p : a.Perm b) : csum a = csum b := by
  induction p with
  | nil => rfl
  | cons x _ ih => simp only [csum, ih]
  | swap x y l => simp only [csum]; omega
  | trans _ _ ih1 ih2 => exact ih1.trans ih2
theorem csum_take_succ (l : List Coin) (k : Nat) (x : Coin) (h : l[k]? = some x) : csum (l.take (k + 1)) = csum (l.take k) + x.1 := by
  rw [List.take_add_one, h, csum_append]; simp [csum]
theorem up_first {x : Coin} {a : List Coin} (h : Up (x :: a)) (k : Nat) (y : Coin) (hy : (x :: a)[k]? = some y) : x.1 ≤ y.1 := by
  cases k with
  | zero => simp only [List.getElem?_cons_zero, Option.some.injEq] at hy; subst hy; exact Int.le_refl _
  | succ k => exact (List.pairwise_cons.1 h).1 y (List.mem_of_getElem? (by simpa using hy))
/-- The first of two rows that were merged cost no more than as many of both. -/
theorem merge_min : ∀ (c : Nat) (a b : List Coin) (k m : Nat), k + m = c → k ≤ a.length → m ≤ b.length → Up a → Up b → csum ((mergeK a b).take c) ≤ csum (a.take k) + csum (b.take m)
  | 0, a, b, k, m, h, hk, hm, ha, hb => by
    obtain rfl : k = 0 := by omega
    obtain rfl : m = 0 := by omega
    simp [csum]
  | c + 1, [], b, k, m, h, hk, hm, ha, hb => by
    obtain rfl : k = 0 := by simpa using hk
    obtain rfl : m = c + 1 := by omega
    simp [mergeK, csum]
  | c + 1, x :: a, [], k, m, h, hk, hm, ha, hb => by
    obtain rfl : m = 0 := by simpa using hm
    obtain rfl : k = c + 1 := by omega
    have ih := merge_min c a [] c 0 (by omega) (by simpa using hk) (by simp) (List.pairwise_cons.1 ha).2 hb
    simp only [mergeK, mergeIn, List.take_succ_cons, csum] at ih ⊢
    simp [csum] at ih ⊢
    omega
  | c + 1, x :: a, y :: b, k, m, h, hk, hm, ha, hb => by
    have ha' := List.pairwise_cons.1 ha
    have hb' := List.pairwise_cons.1 hb
    have e : mergeK (x :: a) (y :: b) = if y.1 < x.1 then y :: mergeK (x :: a) b else x :: mergeK a (y :: b) := rfl
    rw [e]
    by_cases hy : y.1 < x.1
    · rw [if_pos hy, List.take_succ_cons]
      simp only [csum]
      cases m with
      | succ m =>
        have ih := merge_min c (x :: a) b k m (by omega) hk (by simpa using hm) ha hb'.2
        simp only [List.take_succ_cons, csum]
        omega
      | zero =>
        obtain ⟨k, rfl⟩ : ∃ k', k = k' + 1 := ⟨k - 1, by omega⟩
        have ih := merge_min c (x :: a) b k 0 (by omega) (by omega) (by simp) ha hb'.2
        have hg : (x :: a)[k]? = some (x :: a)[k] := List.getElem?_eq_getElem (by omega)
        rw [csum_take_succ _ _ _ hg]
        have := up_first ha k _ hg
        simp only [List.take_zero, csum] at ih ⊢
        omega
    · rw [if_neg hy, List.take_succ_cons]
      simp only [csum]
      cases k with
      | succ k =>
        have ih := merge_min c a (y :: b) k m (by omega) (by simpa using hk) hm ha'.2 hb
        simp only [List.take_succ_cons, csum]
        omega
      | zero =>
        obtain ⟨m, rfl⟩ : ∃ m', m = m' + 1 := ⟨m - 1, by omega⟩
        have ih := merge_min c a (y :: b) 0 m (by omega) (by simp) (by omega) ha'.2 hb
        have hg : (y :: b)[m]? = some (y :: b)[m] := List.getElem?_eq_getElem (by omega)
        rw [csum_take_succ _ _ _ hg]
        have := up_first hb m _ hg
        simp only [List.take_zero, csum] at ih ⊢
        omega
theorem csum_pairs : ∀ (l : List Coin) (m : Nat), 2 * m ≤ l.length → csum ((pairK l).take m) = csum (l.take (2 * m))
  | l, 0, _ => by simp [csum]
  | [], m + 1, h => by simp at h
  | [a], m + 1, h => by simp at h; omega
  | a :: b :: r, m + 1, h => by
    have ih := csum_pairs r m (by simp at h; omega)
    rw [show 2 * (m + 1) = 2 * m + 1 + 1 by omega]
    simp only [pairK, List.take_succ_cons, csum, ih]
    omega
def sumK (g : Nat → Int) : List Nat → Int
  | [] => 0
  | k :: r => g k + sumK g r
/-- What is taken costs what its coins do. -/
theorem taken_cost (first : List Coin) : ∀ (j c : Nat), c ≤ (levelK first j).length → csum ((levelK first j).take c) = sumK (fun k => csum (first.take k)) (ksOf first j c)
  | 0, c, h => by simp [levelK, ksOf, sumK]
  | j + 1, c, h => by
    unfold levelK at h
    rw [mergeK_length] at h
    obtain ⟨h1, h2, h3, h4⟩ := merge_take c first (pairK (levelK first j)) h
    have hL := pairK_length (levelK first j)
    have ih := taken_cost first j (2 * (c - coinsOf first (pairK (levelK first j)) c)) (by omega)
    simp only [ksOf, levelK, sumK]
    rw [csum_perm h1, csum_append, csum_pairs _ _ (by omega), ih]
theorem wsum_le (n : Nat) : ∀ ks : List Nat, (∀ k ∈ ks, k ≤ n) → wsum ks + n ≤ n * 2 ^ ks.length
  | [], _ => by simp [wsum]
  | k :: r, h => by
    have ih := wsum_le n r (fun q hq => h q (by simp [hq]))
    have hk := h k (by simp)
    have := Nat.mul_le_mul_right (2 ^ r.length) hk
    simp only [wsum, List.length_cons, Nat.pow_succ]
    rw [← Nat.mul_assoc]
    omega
theorem counts_fit (first : List Coin) (j c : Nat) (ks : List Nat) (hl : ks.length = j + 1) (hk : ∀ k ∈ ks, k ≤ first.length) (hw : wsum ks = c * 2 ^ j) : c ≤ (levelK first j).length := by
  have h1 := wsum_le first.length ks hk
  obtain ⟨h2, h3⟩ := levelK_length first j
  rw [hw, hl, Nat.pow_succ] at h1
  have hp : 0 < 2 ^ j := Nat.pow_pos (by decide)
  generalize 2 ^ j = p at *
  generalize (levelK first j).length = L at *
  generalize first.length = n at *
  have h4 : (n + (p - 1)) / p ≤ 2 * n - c := by
    rw [Nat.div_le_iff_le_mul hp]
    have e : (2 * n - c) * p = 2 * n * p - c * p := Nat.sub_mul ..
    have e2 : n * (p * 2) = 2 * n * p := by rw [Nat.mul_comm p 2, ← Nat.mul_assoc, Nat.mul_comm n 2]
    rw [e]
    omega
  have h5 : c ≤ 2 * n := by
    have : c * p ≤ 2 * n * p := by
      have e2 : n * (p * 2) = 2 * n * p := by rw [Nat.mul_comm p 2, ← Nat.mul_assoc, Nat.mul_comm n 2]
      omega
    exact Nat.le_of_mul_le_mul_right this hp
  omega
/-- Whatever coins are taken of each level, of as great weight: they cost no less. -/
theorem pm_least (first : List Coin) (hup : Up first) : ∀ (j c : Nat) (ks : List Nat), ks.length = j + 1 → (∀ k ∈ ks, k ≤ first.length) → wsum ks = c * 2 ^ j → csum ((levelK first j).take c) ≤ sumK (fun k => csum (first.take k)) ks
  | 0, c, ks, hl, hk, hw => by
    obtain ⟨k, rfl⟩ := List.length_eq_one_iff.1 hl
    simp [wsum] at hw
    subst hw
    simp [levelK, sumK]
  | j + 1, c, ks, hl, hk, hw => by
    match ks, hl with
    | k :: r, hl =>
      have hl' : r.length = j + 1 := by simpa using hl
      simp only [wsum, hl'] at hw
      have hkc : k ≤ c := by
        have hp : 0 < 2 ^ (j + 1) := Nat.pow_pos (by decide)
        have : k * 2 ^ (j + 1) ≤ c * 2 ^ (j + 1) := by omega
        exact Nat.le_of_mul_le_mul_right this hp
      have hw' : wsum r = (2 * (c - k)) * 2 ^ j := by
        obtain ⟨m, rfl⟩ : ∃ m, c = k + m := ⟨c - k, by omega⟩
        rw [show k + m - k = m by omega]
        rw [Nat.add_mul, Nat.pow_succ] at hw
        rw [Nat.mul_comm 2 m, Nat.mul_assoc, Nat.mul_comm 2]
        omega
      have ih := pm_least first hup j (2 * (c - k)) r hl' (fun q hq => hk q (by simp [hq])) hw'
      have hfit := counts_fit first j (2 * (c - k)) r hl' (fun q hq => hk q (by simp [hq])) hw'
      have hpl := pairK_length (levelK first j)
      have hm := merge_min c first (pairK (levelK first j)) k (c - k) (by omega) (hk k (by simp)) (by omega) hup (pairK_up _ (levelK_up first hup j))
      rw [csum_pairs _ _ hfit] at hm
      simp only [levelK, sumK]
      omega
/-! Any lengths, by ranks. -/
def isum (g : Nat → Int) : Nat → Int
  | 0 => 0
  | n + 1 => isum g n + g n
theorem isum_congr {f g : Nat → Int} : ∀ n, (∀ r, r < n → f r = g r) → isum f n = isum g n
  | 0, _ => rfl
  | n + 1, h => by simp only [isum]; rw [isum_congr n (fun r hr => h r (by omega)), h n (by omega)]
theorem isum_add (f g : Nat → Int) : ∀ n, isum (fun r => f r + g r) n = isum f n + isum g n
  | 0 => rfl
  | n + 1 => by simp only [isum, isum_add f g n]; omega
theorem isum_zero : ∀ n, isum (fun _ => 0) n = 0
  | 0 => rfl
  | n + 1 => by simp only [isum, isum_zero n]; rfl
/-- So many levels have at least so many coins. -/
def cntL (L : Nat → Nat) (d : Nat) : Nat → Nat
  | 0 => 0
  | n + 1 => cntL L d n + if d < L n then 1 else 0
theorem cntL_le (L : Nat → Nat) (d : Nat) : ∀ n, cntL L d n ≤ n
  | 0 => Nat.le_refl _
  | n + 1 => by have := cntL_le L d n; simp only [cntL]; split <;> omega
/-- As many of those that cost least cost no more. -/
theorem few_least (first : List Coin) (hup : Up first) (L : Nat → Nat) (d : Nat) : ∀ n, n ≤ first.length → csum (first.take (cntL L d n)) ≤ isum (fun r => if d < L r then (first.getD r (0, [])).1 else 0) n
  | 0, _ => by simp [cntL, csum, isum]
  | n + 1, hn => by
    have ih := few_least first hup L d n (by omega)
    simp only [cntL, isum]
    split
    · have hle := cntL_le L d n
      have hg : first[cntL L d n]? = some first[cntL L d n] := List.getElem?_eq_getElem (by omega)
      rw [csum_take_succ _ _ _ hg]
      have hx : (first.getD n (0, [])).1 = first[n].1 := by rw [List.getD_eq_getElem?_getD, List.getElem?_eq_getElem (by omega)]; rfl
      rw [hx]
      have : first[cntL L d n].1 ≤ first[n].1 := by
        by_cases e : cntL L d n = n
        · simp only [e]; exact Int.le_refl _
        · exact List.pairwise_iff_getElem.1 hup _ _ _ _ (by omega)
      omega
    · simpa using ih
/-- The levels' counts, the last level first: j of them, from a level on. -/
def cntAll (L : Nat → Nat) (n : Nat) : Nat → Nat → List Nat
  | _, 0 => []
  | d, j + 1 => cntL L d n :: cntAll L n (d + 1) j
theorem cntAll_length (L : Nat → Nat) (n : Nat) : ∀ d j, (cntAll L n d j).length = j
  | _, 0 => rfl
  | d, j + 1 => by simp [cntAll, cntAll_length L n (d + 1) j]
theorem cntAll_le (L : Nat → Nat) (n : Nat) : ∀ d j, ∀ k ∈ cntAll L n d j, k ≤ n
  | _, 0, k, h => by cases h
  | d, j + 1, k, h => by
    simp only [cntAll, List.mem_cons] at h
    rcases h with rfl | h
    · exact cntL_le L d n
    · exact cntAll_le L n (d + 1) j k h
theorem sumTo_addf (f g : Nat → Nat) : ∀ n, sumTo (fun r => f r + g r) n = sumTo f n + sumTo g n
  | 0 => rfl
  | n + 1 => by simp only [sumTo, sumTo_addf f g n]; omega
theorem cntL_sum (L : Nat → Nat) (d p : Nat) : ∀ n, cntL L d n * p = sumTo (fun r => if d < L r then p else 0) n
  | 0 => by simp [cntL, sumTo]
  | n + 1 => by
    simp only [cntL, sumTo, ← cntL_sum L d p n, Nat.add_mul]
    split <;> simp
/-- By weights they are all that is left of 1. -/
theorem cntAll_wsum (L : Nat → Nat) (n : Nat) : ∀ (j d : Nat), (∀ r, r < n → L r ≤ d + j) → wsum (cntAll L n d j) + sumTo (fun r => 2 ^ (j - (L r - d))) n = n * 2 ^ j
  | 0, d, h => by
    have : sumTo (fun r => 2 ^ (0 - (L r - d))) n = n := by
      have e := sumTo_congr (f := fun r => 2 ^ (0 - (L r - d))) (g := fun _ => 1) n (fun r _ => by simp)
      rw [e]
      have h1 : ∀ m, sumTo (fun _ => 1) m = m := fun m => by induction m with | zero => rfl | succ m ih => simp only [sumTo, ih]
      exact h1 n
    rw [this]
    simp [cntAll, wsum]
  | j + 1, d, h => by
    have ih := cntAll_wsum L n j (d + 1) (fun r hr => by have := h r hr; omega)
    simp only [cntAll, wsum, cntAll_length]
    rw [cntL_sum L d (2 ^ j) n]
    have e := sumTo_congr (f := fun r => 2 ^ (j + 1 - (L r - d)) + (if d < L r then 2 ^ j else 0)) (g := fun r => 2 ^ (j - (L r - (d + 1))) + 2 ^ j) n (fun r hr => by
      have := h r hr
      by_cases hd : d < L r
      · rw [if_pos hd, show j + 1 - (L r - d) = j - (L r - (d + 1)) by omega]
      · rw [if_neg hd, show L r - d = 0 by omega, show L r - (d + 1) = 0 by omega]
        simp only [Nat.sub_zero, Nat.pow_succ]
        omega)
    rw [sumTo_addf, sumTo_addf] at e
    have hc : sumTo (fun _ => 2 ^ j) n = n * 2 ^ j := by
      have h1 : ∀ m, sumTo (fun _ => 2 ^ j) m = m * 2 ^ j := fun m => by
        induction m with
        | zero => simp [sumTo]
        | succ m ih => simp only [sumTo, ih, Nat.add_mul]; omega
      exact h1 n
    rw [hc] at e
    have e3 : n * 2 ^ (j + 1) = n * 2 ^ j + n * 2 ^ j := by rw [Nat.pow_succ, ← Nat.mul_assoc]; omega
    omega
/-- What lengths cost, level by level. -/
theorem cntAll_cost (first : List Coin) (hup : Up first) (L : Nat → Nat) : ∀ (j d : Nat), (∀ r, r < first.length → L r ≤ d + j) →
    sumK (fun k => csum (first.take k)) (cntAll L first.length d j) ≤ isum (fun r => (first.getD r (0, [])).1 * ((L r - d : Nat) : Int)) first.length
  | 0, d, h => by
    have e := isum_congr (f := fun r => (first.getD r (0, [])).1 * ((L r - d : Nat) : Int)) (g := fun _ => 0) first.length (fun r hr => by
      have := h r hr
      rw [show L r - d = 0 by omega]; simp)
    rw [e, isum_zero]
    simp [cntAll, sumK]
  | j + 1, d, h => by
    have ih := cntAll_cost first hup L j (d + 1) (fun r hr => by have := h r hr; omega)
    have hf := few_least first hup L d first.length (Nat.le_refl _)
    simp only [cntAll, sumK]
    have e := isum_congr (f := fun r => (first.getD r (0, [])).1 * ((L r - d : Nat) : Int)) (g := fun r => (if d < L r then (first.getD r (0, [])).1 else 0) + (first.getD r (0, [])).1 * ((L r - (d + 1) : Nat) : Int)) first.length (fun r hr => by
      by_cases hd : d < L r
      · rw [if_pos hd, show ((L r - d : Nat) : Int) = 1 + ((L r - (d + 1) : Nat) : Int) by omega, Int.mul_add, Int.mul_one]
      · rw [if_neg hd, show L r - d = 0 by omega, show L r - (d + 1) = 0 by omega]; simp)
    rw [e, isum_add]
    omega
/-- What the coins of falling numbers cost, by ranks. -/
theorem ks_cost (first : List Coin) : ∀ ks : List Nat, (∀ k ∈ ks, k ≤ first.length) → isum (fun r => (first.getD r (0, [])).1 * ((lenOf ks r : Nat) : Int)) first.length = sumK (fun k => csum (first.take k)) ks
  | [], _ => by
    have e := isum_congr (f := fun r => (first.getD r (0, [])).1 * ((lenOf [] r : Nat) : Int)) (g := fun _ => 0) first.length (fun r _ => by simp [lenOf])
    rw [e, isum_zero]; rfl
  | k :: ks, h => by
    have ih := ks_cost first ks (fun q hq => h q (by simp [hq]))
    have hk := h k (by simp)
    have e := isum_congr (f := fun r => (first.getD r (0, [])).1 * ((lenOf (k :: ks) r : Nat) : Int)) (g := fun r => (if r < k then (first.getD r (0, [])).1 else 0) + (first.getD r (0, [])).1 * ((lenOf ks r : Nat) : Int)) first.length (fun r hr => by
      unfold lenOf
      rw [List.countP_cons]
      by_cases hr2 : r < k
      · simp only [hr2, decide_true, if_true]
        push_cast
        rw [Int.mul_add, Int.mul_one]; omega
      · simp only [hr2, decide_false]
        simp)
    have hc : ∀ m, isum (fun r => if r < k then (first.getD r (0, [])).1 else 0) m = csum (first.take (min m k)) := fun m => by
      induction m with
      | zero => simp [isum, csum]
      | succ m ih2 =>
        simp only [isum, ih2]
        by_cases hmk : m < k
        · rw [if_pos hmk, show min (m + 1) k = m + 1 by omega, show min m k = m by omega]
          by_cases hm : m < first.length
          · rw [csum_take_succ _ _ first[m] (List.getElem?_eq_getElem hm), List.getD_eq_getElem?_getD, List.getElem?_eq_getElem hm]; rfl
          · rw [List.take_of_length_le (by omega), List.take_of_length_le (by omega), List.getD_eq_getElem?_getD, List.getElem?_eq_none (by omega)]; simp
        · rw [if_neg hmk, show min (m + 1) k = k by omega, show min m k = k by omega]; simp
    rw [e, isum_add, ih, hc, show min first.length k = k by omega]
    rfl
/-- Package-merge: no lengths within the limit that leave nothing cost less. -/
theorem pm_opt (first : List Coin) (hup : Up first) (j : Nat) (hn : 2 ≤ first.length) (hen : first.length ≤ 2 ^ (j + 1)) (L : Nat → Nat) (hL : ∀ r, r < first.length → L r ≤ j + 1) (hk : sumTo (fun r => 2 ^ (j + 1 - L r)) first.length = 2 ^ (j + 1)) :
    isum (fun r => (first.getD r (0, [])).1 * ((lenOf (ksOf first j (2 * first.length - 2)) r : Nat) : Int)) first.length ≤ isum (fun r => (first.getD r (0, [])).1 * ((L r : Nat) : Int)) first.length := by
  have hle := level_enough first j hen
  have h0 := taken_cost first j (2 * first.length - 2) hle
  have hw := cntAll_wsum L first.length (j + 1) 0 (fun r hr => by have := hL r hr; omega)
  simp only [Nat.sub_zero] at hw
  rw [hk] at hw
  have hw2 : wsum (cntAll L first.length 0 (j + 1)) = (2 * first.length - 2) * 2 ^ j := by
    obtain ⟨m, hm⟩ : ∃ m, first.length = m + 2 := ⟨first.length - 2, by omega⟩
    rw [hm] at hw ⊢
    rw [Nat.pow_succ] at hw
    rw [show 2 * (m + 2) - 2 = (m + 1) * 2 by omega, Nat.mul_assoc, Nat.mul_comm 2]
    rw [show m + 2 = (m + 1) + 1 by omega, Nat.add_mul (m + 1) 1] at hw
    rw [show m + 1 + 1 = m + 2 by omega] at hw
    omega
  have h1 := pm_least first hup j (2 * first.length - 2) _ (cntAll_length L _ 0 (j + 1)) (cntAll_le L _ 0 (j + 1)) hw2
  have h2 := cntAll_cost first hup L (j + 1) 0 (fun r hr => by have := hL r hr; omega)
  simp only [Nat.sub_zero] at h2
  have hkle : ∀ k ∈ ksOf first j (2 * first.length - 2), k ≤ first.length := by
    intro k hk'
    have key : ∀ (j c : Nat), c ≤ (levelK first j).length → ∀ k ∈ ksOf first j c, k ≤ first.length := by
      intro j
      induction j with
      | zero => intro c h k hk; simp [ksOf] at hk; subst hk; exact h
      | succ j ih =>
        intro c h k hk
        unfold levelK at h
        rw [mergeK_length] at h
        obtain ⟨q1, q2, q3, q4⟩ := merge_take c first (pairK (levelK first j)) h
        have hLL := pairK_length (levelK first j)
        simp only [ksOf, List.mem_cons] at hk
        rcases hk with rfl | hk
        · exact q3
        · exact ih _ (by omega) k hk
    exact key j _ hle k hk'
  rw [ks_cost first _ hkle, ← h0]
  omega

/-! Nothing costs less than putting the two cheapest together, again and again. -/
def insI (x : Int) : List Int → List Int
  | [] => [x]
  | y :: r => if y < x then y :: insI x r else x :: y :: r
abbrev SrtI (l : List Int) : Prop := l.Pairwise (· ≤ ·)
theorem insI_perm (x : Int) : ∀ l, (insI x l).Perm (x :: l)
  | [] => List.Perm.refl _
  | y :: r => by
    unfold insI
    split
    · exact ((insI_perm x r).cons y).trans (List.Perm.swap x y r)
    · exact List.Perm.refl _
theorem insI_srt (x : Int) : ∀ l, SrtI l → SrtI (insI x l)
  | [], _ => by simp [insI]
  | y :: r, h => by
    have h' := List.pairwise_cons.1 h
    unfold insI
    split
    · refine List.pairwise_cons.2 ⟨fun z hz => ?_, insI_srt x r h'.2⟩
      rcases List.mem_cons.1 ((insI_perm x r).mem_iff.1 hz) with rfl | hz
      · omega
      · exact h'.1 z hz
    · refine List.pairwise_cons.2 ⟨fun z hz => ?_, h⟩
      rcases List.mem_cons.1 hz with rfl | hz
      · omega
      · have := h'.1 z hz; omega
theorem srtI_unique : ∀ (a b : List Int), SrtI a → SrtI b → a.Perm b → a = b
  | [], b, _, _, h => h.nil_eq
  | x :: a, [], _, _, h => by have := h.length_eq; simp at this
  | x :: a, y :: b, ha, hb, h => by
    have ha' := List.pairwise_cons.1 ha
    have hb' := List.pairwise_cons.1 hb
    have hxy : x = y := by
      have h1 := h.mem_iff.1 (List.mem_cons_self : x ∈ x :: a)
      have h2 := h.mem_iff.2 (List.mem_cons_self : y ∈ y :: b)
      rcases List.mem_cons.1 h1 with e | h1
      · exact e
      · rcases List.mem_cons.1 h2 with e | h2
        · exact e.symm
        · have k1 := hb'.1 x h1
          have k2 := ha'.1 y h2
          omega
    subst hxy
    rw [srtI_unique a b ha'.2 hb'.2 (List.Perm.cons_inv h)]
/-- What it costs to put all together, the two cheapest first. -/
def hsum : Nat → List Int → Int
  | f + 1, a :: b :: r => (a + b) + hsum f (insI (a + b) r)
  | _, _ => 0
/-- A weight and its length: what they cost, and what they take of 2^M. -/
def pcost : List (Int × Nat) → Int
  | [] => 0
  | p :: l => p.1 * (p.2 : Int) + pcost l
def pkr (M : Nat) : List (Int × Nat) → Nat
  | [] => 0
  | p :: l => 2 ^ (M - p.2) + pkr M l
theorem pcost_perm {a b : List (Int × Nat)} (p : a.Perm b) : pcost a = pcost b := by
  induction p with
  | nil => rfl
  | cons x _ ih => simp only [pcost, ih]
  | swap x y l => simp only [pcost]; omega
  | trans _ _ ih1 ih2 => exact ih1.trans ih2
theorem pkr_perm (M : Nat) {a b : List (Int × Nat)} (p : a.Perm b) : pkr M a = pkr M b := by
  induction p with
  | nil => rfl
  | cons x _ ih => simp only [pkr, ih]
  | swap x y l => simp only [pkr]; omega
  | trans _ _ ih1 ih2 => exact ih1.trans ih2
/-- How many have just so great a length. -/
def nmax (M : Nat) : List (Int × Nat) → Nat
  | [] => 0
  | p :: l => (if p.2 = M then 1 else 0) + nmax M l
theorem nmax_perm (M : Nat) {a b : List (Int × Nat)} (p : a.Perm b) : nmax M a = nmax M b := by
  induction p with
  | nil => rfl
  | cons x _ ih => simp only [nmax, ih]
  | swap x y l => simp only [nmax]; omega
  | trans _ _ ih1 ih2 => exact ih1.trans ih2
/-- If one has it, one stands first in another order. -/
theorem nmax_pick (M : Nat) : ∀ l : List (Int × Nat), 0 < nmax M l → ∃ c r, l.Perm ((c, M) :: r)
  | [], h => by simp [nmax] at h
  | p :: l, h => by
    by_cases hp : p.2 = M
    · exact ⟨p.1, l, by rw [← hp]⟩
    · simp only [nmax, hp, if_false, Nat.zero_add] at h
      obtain ⟨c, r, hr⟩ := nmax_pick M l h
      exact ⟨c, p :: r, (hr.cons p).trans (List.Perm.swap _ _ _)⟩
/-- By two it is as many as have the greatest length. -/
theorem pkr_parity (M : Nat) : ∀ l : List (Int × Nat), (∀ p ∈ l, p.2 ≤ M) → pkr M l % 2 = nmax M l % 2
  | [], _ => rfl
  | p :: l, h => by
    have ih := pkr_parity M l (fun q hq => h q (by simp [hq]))
    have hp := h p (by simp)
    simp only [pkr, nmax]
    by_cases e : p.2 = M
    · rw [if_pos e, e, Nat.sub_self, Nat.pow_zero]; omega
    · rw [if_neg e]
      obtain ⟨k, hk⟩ : ∃ k, M - p.2 = k + 1 := ⟨M - p.2 - 1, by omega⟩
      rw [hk, Nat.pow_succ]
      omega
theorem pkr_less (M : Nat) : ∀ l : List (Int × Nat), (∀ p ∈ l, p.2 ≤ M) → pkr (M + 1) l = 2 * pkr M l
  | [], _ => rfl
  | p :: l, h => by
    have ih := pkr_less M l (fun q hq => h q (by simp [hq]))
    have hp := h p (by simp)
    simp only [pkr, ih]
    rw [show M + 1 - p.2 = (M - p.2) + 1 by omega, Nat.pow_succ]
    omega
theorem nmax_zero (M : Nat) : ∀ l : List (Int × Nat), nmax M l = 0 → ∀ p ∈ l, p.2 ≠ M
  | [], _, p, hp => by cases hp
  | q :: l, h, p, hp => by
    simp only [nmax] at h
    rcases List.mem_cons.1 hp with rfl | hp
    · intro e; rw [if_pos e] at h; omega
    · exact nmax_zero M l (by omega) p hp
/-- One that costs least has a greatest length, at no more cost. -/
theorem swap_in (M : Nat) (a : Int) (la : Nat) (R : List (Int × Nat)) (hla : la ≤ M) (hR : ∀ p ∈ R, p.2 ≤ M) (ha : ∀ p ∈ R, a ≤ p.1) (h : la = M ∨ 0 < nmax M R) :
    ∃ R', (R'.map (·.1)).Perm (R.map (·.1)) ∧ (∀ p ∈ R', p.2 ≤ M) ∧ pkr M ((a, M) :: R') = pkr M ((a, la) :: R) ∧ pcost ((a, M) :: R') ≤ pcost ((a, la) :: R) ∧ nmax M ((a, M) :: R') = nmax M ((a, la) :: R) := by
  by_cases e : la = M
  · subst e; exact ⟨R, List.Perm.refl _, hR, rfl, Int.le_refl _, rfl⟩
  · obtain ⟨c, r, hr⟩ := nmax_pick M R (by omega)
    have hac : a ≤ c := ha (c, M) (hr.mem_iff.2 (by simp))
    refine ⟨(c, la) :: r, ?_, ?_, ?_, ?_, ?_⟩
    · exact (hr.map (·.1)).symm
    · intro p hp
      rcases List.mem_cons.1 hp with rfl | hp
      · exact hla
      · exact hR p (hr.mem_iff.2 (by simp [hp]))
    · simp only [pkr, pkr_perm M hr]; omega
    · simp only [pcost, pcost_perm hr]
      have : (c - a) * ((M : Int) - (la : Int)) ≥ 0 := Int.mul_nonneg (by omega) (by omega)
      have e2 : (c - a) * ((M : Int) - (la : Int)) = c * M - c * la - (a * M - a * la) := by rw [Int.sub_mul, Int.mul_sub, Int.mul_sub]
      omega
    · simp only [nmax, nmax_perm M hr]; omega
theorem pick_two {a b : Int} {r : List Int} {X : List (Int × Nat)} (h : (X.map (·.1)).Perm (a :: b :: r)) : ∃ la lb R, X.Perm ((a, la) :: (b, lb) :: R) ∧ (R.map (·.1)).Perm r := by
  have key : ∀ (x : Int) (s : List Int) (Y : List (Int × Nat)), (Y.map (·.1)).Perm (x :: s) → ∃ l R, Y.Perm ((x, l) :: R) ∧ (R.map (·.1)).Perm s := by
    intro x s Y hY
    obtain ⟨p, hp, e⟩ := List.mem_map.1 (hY.mem_iff.2 (List.mem_cons_self : x ∈ x :: s))
    obtain ⟨Y1, Y2, rfl⟩ := List.append_of_mem hp
    have h1 : (Y1 ++ p :: Y2).Perm (p :: (Y1 ++ Y2)) := List.perm_middle
    refine ⟨p.2, Y1 ++ Y2, by rw [← e]; exact h1, ?_⟩
    have h2 := (h1.map (·.1)).symm.trans hY
    rw [List.map_cons, e] at h2
    exact List.Perm.cons_inv h2
  obtain ⟨la, R1, h1, h2⟩ := key a (b :: r) X h
  obtain ⟨lb, R, h3, h4⟩ := key b r R1 h2
  exact ⟨la, lb, R, h1.trans (h3.cons _), h4⟩
theorem pkr_pos (M : Nat) (p : Int × Nat) (l : List (Int × Nat)) : 0 < pkr M (p :: l) := by
  have : 0 < 2 ^ (M - p.2) := Nat.pow_pos (by decide)
  simp only [pkr]; omega
/-- Whatever lengths leave nothing: they cost no less. -/
theorem hsum_least : ∀ (n : Nat) (ws : List Int) (X : List (Int × Nat)) (M : Nat), ws.length = n → SrtI ws → (X.map (·.1)).Perm ws → (∀ p ∈ X, p.2 ≤ M) → pkr M X = 2 ^ M → hsum n ws ≤ pcost X := by
  intro n
  induction n with
  | zero =>
    intro ws X M hn _ hp _ hk
    obtain rfl := List.length_eq_zero_iff.1 hn
    obtain rfl : X = [] := by simpa using hp.eq_nil
    simp [hsum, pcost]
  | succ n ih =>
    intro ws X M hn hs hp hM hk
    match ws, hn with
    | [a], hn =>
      obtain ⟨p, rfl⟩ : ∃ p, X = [p] := List.length_eq_one_iff.1 (by have := hp.length_eq; simpa using this)
      have hpM := hM p (by simp)
      simp only [pkr, Nat.add_zero] at hk
      have e : M - p.2 = M := (Nat.pow_right_inj (by decide)).1 hk
      have : p.2 = 0 ∨ M = 0 := by omega
      have h0 : p.2 = 0 := by omega
      simp [hsum, pcost, h0]
    | a :: b :: r, hn =>
      -- the greatest length that occurs
      have keyM : ∀ m, (∀ p ∈ X, p.2 ≤ m) → pkr m X = 2 ^ m → ∃ m', (∀ p ∈ X, p.2 ≤ m') ∧ pkr m' X = 2 ^ m' ∧ 0 < nmax m' X := by
        intro m
        induction m with
        | zero =>
          intro h1 h2
          obtain ⟨p, X', rfl⟩ : ∃ p X', X = p :: X' := by
            cases X with
            | nil => have := hp.length_eq; simp at this
            | cons p X' => exact ⟨p, X', rfl⟩
          refine ⟨0, h1, h2, ?_⟩
          have := h1 p (by simp)
          simp only [nmax]
          rw [if_pos (by omega)]; omega
        | succ m ihm =>
          intro h1 h2
          by_cases h0 : nmax (m + 1) X = 0
          · have h3 := nmax_zero (m + 1) X h0
            have h4 : ∀ p ∈ X, p.2 ≤ m := fun p hp' => by have := h1 p hp'; have := h3 p hp'; omega
            have h5 := pkr_less m X h4
            rw [h2, Nat.pow_succ] at h5
            exact ihm h4 (by omega)
          · exact ⟨m + 1, h1, h2, by omega⟩
      obtain ⟨M', hM', hk', hm'⟩ := keyM M hM hk
      obtain ⟨la, lb, R, hX, hR⟩ := pick_two hp
      have hs1 := List.pairwise_cons.1 hs
      have hs2 := List.pairwise_cons.1 hs1.2
      have hla : la ≤ M' := hM' (a, la) (hX.mem_iff.2 (by simp))
      have hlb : lb ≤ M' := hM' (b, lb) (hX.mem_iff.2 (by simp))
      have hRM : ∀ p ∈ R, p.2 ≤ M' := fun p hp' => hM' p (hX.mem_iff.2 (by simp [hp']))
      rw [pkr_perm M' hX] at hk'
      have hM1 : 1 ≤ M' := by
        rcases Nat.eq_zero_or_pos M' with h0 | h0
        · exfalso
          subst h0
          have h1 := pkr_pos 0 (b, lb) R
          have h2 : 0 < 2 ^ (0 - la) := Nat.pow_pos (by decide)
          simp only [pkr] at hk' h1
          omega
        · exact h0
      have hpar := pkr_parity M' ((a, la) :: (b, lb) :: R) (fun p hp' => hM' p (hX.mem_iff.2 hp'))
      rw [hk', ← nmax_perm M' hX] at hpar
      have h2M : 2 ^ M' % 2 = 0 := by
        obtain ⟨k, hk⟩ : ∃ k, M' = k + 1 := ⟨M' - 1, by omega⟩
        rw [hk, Nat.pow_succ]; omega
      have hm2 : 2 ≤ nmax M' X := by omega
      rw [nmax_perm M' hX] at hm2
      -- first a, then b
      have haR : ∀ p ∈ (b, lb) :: R, a ≤ p.1 := fun p hp' => by
        rcases List.mem_cons.1 hp' with rfl | hp'
        · exact hs1.1 b (by simp)
        · exact hs1.1 p.1 (by simp; exact .inr (hR.mem_iff.1 (List.mem_map_of_mem hp')))
      have hbR : ∀ p ∈ R, b ≤ p.1 := fun p hp' => hs2.1 p.1 (hR.mem_iff.1 (List.mem_map_of_mem hp'))
      have step : ∃ lb' R', (R'.map (·.1)).Perm r ∧ lb' ≤ M' ∧ (∀ p ∈ R', p.2 ≤ M') ∧ pkr M' ((a, M') :: (b, lb') :: R') = 2 ^ M' ∧ pcost ((a, M') :: (b, lb') :: R') ≤ pcost X ∧ 2 ≤ nmax M' ((a, M') :: (b, lb') :: R') := by
        by_cases e : la = M'
        · subst e
          exact ⟨lb, R, hR, hlb, hRM, hk', by rw [pcost_perm hX]; exact Int.le_refl _, hm2⟩
        · -- one of R, if one of R has it; else b alone would
          have hnR : 0 < nmax M' R := by
            simp only [nmax] at hm2
            rw [if_neg e] at hm2
            by_cases e2 : lb = M'
            · rw [if_pos e2] at hm2; omega
            · rw [if_neg e2] at hm2; omega
          obtain ⟨R', q1, q2, q3, q4, q5⟩ := swap_in M' a la R hla hRM (fun p hp' => haR p (by simp [hp'])) (.inr hnR)
          refine ⟨lb, R', q1.trans hR, hlb, q2, ?_, ?_, ?_⟩
          · simp only [pkr] at q3 hk' ⊢; omega
          · rw [pcost_perm hX]; simp only [pcost] at q4 ⊢; omega
          · simp only [nmax] at q5 hm2 ⊢; omega
      obtain ⟨lb', R1, r1, r2, r3, r4, r5, r6⟩ := step
      have hbR1 : ∀ p ∈ R1, b ≤ p.1 := fun p hp' => hs2.1 p.1 (r1.mem_iff.1 (List.mem_map_of_mem hp'))
      obtain ⟨R2, q1, q2, q3, q4, q5⟩ := swap_in M' b lb' R1 r2 r3 hbR1 (by
        simp only [nmax, if_true] at r6
        by_cases e2 : lb' = M'
        · exact .inl e2
        · rw [if_neg e2] at r6; exact .inr (by omega))
      -- the two are one
      have hY : pkr M' ((a + b, M' - 1) :: R2) = 2 ^ M' := by
        simp only [pkr] at r4 q3 ⊢
        rw [show M' - (M' - 1) = 1 by omega]
        rw [Nat.sub_self] at q3 r4
        omega
      have hc : pcost ((a + b, M' - 1) :: R2) + (a + b) ≤ pcost X := by
        simp only [pcost] at r5 q4 ⊢
        have e : ((M' - 1 : Nat) : Int) = (M' : Int) - 1 := by omega
        rw [e, Int.mul_sub, Int.add_mul, Int.mul_one]
        omega
      have := ih (insI (a + b) r) ((a + b, M' - 1) :: R2) M' (by rw [(insI_perm _ _).length_eq]; simpa using hn) (insI_srt _ _ hs2.2)
        (((q1.trans r1).cons (a + b)).trans (insI_perm (a + b) r).symm) (fun p hp' => by
          rcases List.mem_cons.1 hp' with rfl | hp'
          · simp
          · exact q2 p hp') hY
      simp only [hsum]
      omega
    | [], hn => simp at hn

/-! The two rows give the two cheapest. -/
def restL (n : Nat) (costs : List Int) (leaf : Nat) : List Int := (costs.take n).drop leaf
def restM (costs : List Int) (made : Nat) : List Int := costs.drop made
theorem restL_cons {n : Nat} {costs : List Int} {leaf : Nat} (h1 : leaf < n) (h2 : n ≤ costs.length) : restL n costs leaf = costs.getD leaf 0 :: restL n costs (leaf + 1) := by
  unfold restL
  rw [List.drop_eq_getElem_cons (by simp; omega), List.getElem_take, List.getD_eq_getElem?_getD, List.getElem?_eq_getElem (by omega)]
  rfl
theorem restM_cons {costs : List Int} {made : Nat} (h : made < costs.length) : restM costs made = costs.getD made 0 :: restM costs (made + 1) := by
  unfold restM
  rw [List.drop_eq_getElem_cons h, List.getD_eq_getElem?_getD, List.getElem?_eq_getElem h]
  rfl
theorem pick_ok {n : Nat} {costs : List Int} {leaf made : Nat} (h1 : leaf ≤ n) (h2 : n ≤ costs.length) (h3 : leaf = n → made < costs.length) (sL : SrtI (restL n costs leaf)) (sM : SrtI (restM costs made)) :
    let p := leastH n costs leaf made
    (restL n costs leaf ++ restM costs made).Perm (costs.getD p.1 0 :: (restL n costs p.2.1 ++ restM costs p.2.2)) ∧ (∀ y ∈ restL n costs p.2.1 ++ restM costs p.2.2, costs.getD p.1 0 ≤ y) ∧
      SrtI (restL n costs p.2.1) ∧ SrtI (restM costs p.2.2) ∧ (∀ y ∈ restM costs p.2.2, y ∈ restM costs made) ∧ costs.getD p.1 0 ∈ restL n costs leaf ++ restM costs made := by
  intro p
  by_cases hc : leaf < n ∧ (costs.length ≤ made ∨ costs.getD leaf 0 ≤ costs.getD made 0)
  · have hp : p = (leaf, leaf + 1, made) := if_pos hc
    rw [hp]
    have e := restL_cons hc.1 h2
    rw [e] at sL ⊢
    have sL' := List.pairwise_cons.1 sL
    refine ⟨by simp, fun y hy => ?_, sL'.2, sM, fun y hy => hy, by simp⟩
    rcases List.mem_append.1 hy with hy | hy
    · exact sL'.1 y hy
    · simp only at hy
      by_cases hm : made < costs.length
      · rw [restM_cons hm] at sM hy
        have sM' := List.pairwise_cons.1 sM
        rcases List.mem_cons.1 hy with rfl | hy
        · rcases hc.2 with h | h
          · omega
          · exact h
        · have := sM'.1 y hy
          rcases hc.2 with h | h
          · omega
          · simp only; omega
      · unfold restM at hy
        rw [List.drop_eq_nil_of_le (by omega)] at hy
        simp at hy
  · have hp : p = (made, leaf, made + 1) := if_neg hc
    have hm : made < costs.length := by
      by_cases hl : leaf = n
      · exact h3 hl
      · have : ¬ (costs.length ≤ made ∨ costs.getD leaf 0 ≤ costs.getD made 0) := fun h => hc ⟨by omega, h⟩
        omega
    rw [hp]
    have e := restM_cons hm
    rw [e] at sM ⊢
    have sM' := List.pairwise_cons.1 sM
    refine ⟨List.perm_middle, fun y hy => ?_, sL, sM'.2, fun y hy => by simp [hy], by simp⟩
    rcases List.mem_append.1 hy with hy | hy
    · by_cases hl : leaf < n
      · rw [restL_cons hl h2] at sL hy
        have sL' := List.pairwise_cons.1 sL
        have hlt : costs.getD made 0 < costs.getD leaf 0 := by
          have : ¬ (costs.length ≤ made ∨ costs.getD leaf 0 ≤ costs.getD made 0) := fun h => hc ⟨hl, h⟩
          omega
        rcases List.mem_cons.1 hy with rfl | hy
        · simp only; omega
        · have := sL'.1 y hy; simp only; omega
      · unfold restL at hy
        rw [List.drop_eq_nil_of_le (by simp; omega)] at hy
        simp at hy
    · exact sM'.1 y hy
/-- What is known of what is left. -/
structure RestOk (n : Nat) (s : HS) (W : List Int) : Prop where
  sL : SrtI (restL n s.costs s.leaf)
  sM : SrtI (restM s.costs s.made)
  low : ∃ p : Int, 0 ≤ p ∧ (∀ x ∈ restL n s.costs s.leaf ++ restM s.costs s.made, p ≤ x) ∧ ∀ y ∈ restM s.costs s.made, y ≤ 2 * p
  srt : SrtI W
  perm : W.Perm (restL n s.costs s.leaf ++ restM s.costs s.made)
theorem head_of {W R : List Int} {x : Int} (hs : SrtI W) (hp : W.Perm (x :: R)) (hx : ∀ y ∈ R, x ≤ y) : ∃ W', W = x :: W' ∧ W'.Perm R ∧ SrtI W' := by
  cases W with
  | nil => have := hp.length_eq; simp at this
  | cons w W' =>
    have hs' := List.pairwise_cons.1 hs
    have e : w = x := by
      have h1 := hp.mem_iff.1 (List.mem_cons_self : w ∈ w :: W')
      have h2 := hp.mem_iff.2 (List.mem_cons_self : x ∈ x :: R)
      rcases List.mem_cons.1 h1 with e | h1
      · exact e
      · rcases List.mem_cons.1 h2 with e | h2
        · exact e.symm
        · have := hx w h1; have := hs'.1 x h2; omega
    subst e
    exact ⟨W', rfl, List.Perm.cons_inv hp, hs'.2⟩
theorem rest_step {n t : Nat} {s : HS} {W : List Int} (g : GoodH n t s) (h : RestOk n s W) (ht : t + 1 < n) :
    ∃ r, W = s.costs.getD (leastH n s.costs s.leaf s.made).1 0 :: s.costs.getD (leastH n s.costs (leastH n s.costs s.leaf s.made).2.1 (leastH n s.costs s.leaf s.made).2.2).1 0 :: r ∧
      RestOk n (stepH n s) (insI (s.costs.getD (leastH n s.costs s.leaf s.made).1 0 + s.costs.getD (leastH n s.costs (leastH n s.costs s.leaf s.made).2.1 (leastH n s.costs s.leaf s.made).2.2).1 0) r) := by
  obtain ⟨h1, h2, h3, h4, h5, h6, h7, h8⟩ := g
  obtain ⟨sL, sM, ⟨lo, lo0, lo1, lo2⟩, srt, perm⟩ := h
  have A := leastH_ok n s.costs s.leaf s.made h2 h3 (by omega)
  have PA := pick_ok h2 (by omega) (by omega) sL sM
  have e0 : stepH n s = ⟨s.costs ++ [s.costs.getD (leastH n s.costs s.leaf s.made).1 0 + s.costs.getD (leastH n s.costs (leastH n s.costs s.leaf s.made).2.1 (leastH n s.costs s.leaf s.made).2.2).1 0],
    (leastH n s.costs (leastH n s.costs s.leaf s.made).2.1 (leastH n s.costs s.leaf s.made).2.2).2.1, (leastH n s.costs (leastH n s.costs s.leaf s.made).2.1 (leastH n s.costs s.leaf s.made).2.2).2.2,
    (s.par.set (leastH n s.costs s.leaf s.made).1 s.costs.length).set (leastH n s.costs (leastH n s.costs s.leaf s.made).2.1 (leastH n s.costs s.leaf s.made).2.2).1 s.costs.length⟩ := rfl
  rw [e0]
  clear e0
  dsimp only at PA
  generalize leastH n s.costs s.leaf s.made = p at *
  obtain ⟨a1, a2, a3, a4, a5, a7, a8, a9, a10, a11⟩ := A
  obtain ⟨pa1, pa2, pa3, pa4, pa5, pa6⟩ := PA
  have B := leastH_ok n s.costs p.2.1 p.2.2 a1 a2 (by omega)
  have PB := pick_ok (costs := s.costs) a1 (by omega) (by omega) pa3 pa4
  dsimp only at PB
  generalize leastH n s.costs p.2.1 p.2.2 = q at *
  obtain ⟨b1, b2, b3, b4, b5, b7, b8, b9, b10, b11⟩ := B
  obtain ⟨pb1, pb2, pb3, pb4, pb5, pb6⟩ := PB
  obtain ⟨W1, rfl, w1, w2⟩ := head_of srt (perm.trans pa1) pa2
  obtain ⟨W2, rfl, w3, w4⟩ := head_of w2 (w1.trans pb1) pb2
  have hlo : lo ≤ s.costs.getD p.1 0 := lo1 _ pa6
  have hab : s.costs.getD p.1 0 ≤ s.costs.getD q.1 0 := pa2 _ pb6
  generalize s.costs.getD p.1 0 = a at *
  generalize s.costs.getD q.1 0 = b at *
  have eL : restL n (s.costs ++ [a + b]) q.2.1 = restL n s.costs q.2.1 := by unfold restL; rw [List.take_append_of_le_length (by omega)]
  have eM : restM (s.costs ++ [a + b]) q.2.2 = restM s.costs q.2.2 ++ [a + b] := by unfold restM; rw [List.drop_append_of_le_length (by omega)]
  refine ⟨W2, rfl, by rw [eL]; exact pb3, ?_, ⟨b, by omega, ?_, ?_⟩, insI_srt _ _ w4, ?_⟩
  · rw [eM]
    refine List.pairwise_append.2 ⟨pb4, by simp, fun y hy z hz => ?_⟩
    rw [List.mem_singleton] at hz
    have := lo2 y (pa5 y (pb5 y hy))
    omega
  · rw [eL, eM]
    intro x hx
    rw [← List.append_assoc] at hx
    rcases List.mem_append.1 hx with hx | hx
    · exact pb2 x hx
    · rw [List.mem_singleton] at hx; omega
  · rw [eM]
    intro y hy
    rcases List.mem_append.1 hy with hy | hy
    · have := lo2 y (pa5 y (pb5 y hy)); omega
    · rw [List.mem_singleton] at hy; omega
  · rw [eL, eM, ← List.append_assoc]
    exact (insI_perm _ _).trans ((w3.cons _).trans (List.perm_append_singleton _ _).symm)
/-- All that is put together costs what is least. -/
theorem made_sum (costs : List Int) (hn : 2 ≤ costs.length) (hs : SrtI costs) (h0 : ∀ x ∈ costs, 0 ≤ x) : ∀ t, t < costs.length →
    ∃ W, RestOk costs.length (runH costs t) W ∧ W.length = costs.length - t ∧ hsum costs.length costs = isum (fun k => (runH costs t).costs.getD (costs.length + k) 0) t + hsum (costs.length - t) W
  | 0, _ => by
    refine ⟨costs, ⟨?_, ?_, ⟨0, Int.le_refl _, ?_, ?_⟩, hs, ?_⟩, rfl, by simp [isum]⟩
    · simpa [restL, runH, startH] using hs
    · simp [restM, runH, startH]
    · intro x hx; exact h0 x (by simpa [restL, restM, runH, startH] using hx)
    · intro y hy; simp [restM, runH, startH] at hy
    · simp [restL, restM, runH, startH]
  | t + 1, ht => by
    obtain ⟨W, hW, hl, hsum_eq⟩ := made_sum costs hn hs h0 t (by omega)
    have g := goodH costs hn t (by omega)
    obtain ⟨r, rfl, hr⟩ := rest_step g hW ht
    refine ⟨_, hr, ?_, ?_⟩
    · rw [(insI_perm _ _).length_eq]; simp at hl ⊢; omega
    · rw [hsum_eq]
      obtain ⟨m, hm⟩ : ∃ m, costs.length - t = m + 1 := ⟨costs.length - t - 1, by omega⟩
      rw [hm, show costs.length - (t + 1) = m by omega]
      simp only [hsum, isum]
      have hlen : (runH costs t).costs.length = costs.length + t := g.len
      have e1 : ∀ i, i < costs.length + t → (runH costs (t + 1)).costs.getD i 0 = (runH costs t).costs.getD i 0 := fun i hi => by
        show ((runH costs t).costs ++ [_]).getD i 0 = _
        rw [getD_app, if_neg (by omega)]
      have e2 : (runH costs (t + 1)).costs.getD (costs.length + t) 0 = (runH costs t).costs.getD (leastH costs.length (runH costs t).costs (runH costs t).leaf (runH costs t).made).1 0 + (runH costs t).costs.getD (leastH costs.length (runH costs t).costs (leastH costs.length (runH costs t).costs (runH costs t).leaf (runH costs t).made).2.1 (leastH costs.length (runH costs t).costs (runH costs t).leaf (runH costs t).made).2.2).1 0 := by
        show ((runH costs t).costs ++ [_]).getD _ 0 = _
        rw [getD_app, if_pos hlen.symm]
      rw [e2, isum_congr (g := fun k => (runH costs t).costs.getD (costs.length + k) 0) t (fun k hk => e1 _ (by omega))]
      omega
theorem least_isum (n : Nat) (costs : List Int) (leaf made : Nat) (h2 : n ≤ made) (g : Nat → Int) :
    isum g (leastH n costs leaf made).2.1 + isum (fun i => g (n + i)) ((leastH n costs leaf made).2.2 - n) = isum g leaf + isum (fun i => g (n + i)) (made - n) + g (leastH n costs leaf made).1 := by
  unfold leastH
  split
  · simp only [isum]; omega
  · simp only
    rw [show made + 1 - n = (made - n) + 1 by omega]
    simp only [isum]
    rw [show n + (made - n) = made by omega]
    omega
/-- What was picked costs, by depths, what was made, and once more. -/
theorem depth_sum (costs : List Int) (hn : 2 ≤ costs.length) : ∀ t, t < costs.length → ∀ D : Nat → Nat, (∀ i, Picked costs.length (runH costs t).leaf (runH costs t).made i → D i = D ((runH costs t).par.getD i 0) + 1) →
    isum (fun i => (runH costs t).costs.getD i 0 * (D i : Int)) (runH costs t).leaf + isum (fun i => (runH costs t).costs.getD (costs.length + i) 0 * (D (costs.length + i) : Int)) ((runH costs t).made - costs.length) =
      isum (fun k => (runH costs t).costs.getD (costs.length + k) 0 * ((D (costs.length + k) : Int) + 1)) t
  | 0, _, D, _ => by simp [runH, startH, isum]
  | t + 1, ht, D, hD => by
    have ih := depth_sum costs hn t (by omega) D
    have g := goodH costs hn t (by omega)
    have g' := goodH costs hn (t + 1) ht
    have hrun : runH costs (t + 1) = stepH costs.length (runH costs t) := rfl
    rw [hrun] at hD g' ⊢
    generalize runH costs t = s at *
    generalize hnn : costs.length = n at *
    obtain ⟨h1, h2, h3, h4, h5, h6, h7, h8⟩ := g
    have A := leastH_ok n s.costs s.leaf s.made h2 h3 (by omega)
    have e0 : stepH n s = ⟨s.costs ++ [s.costs.getD (leastH n s.costs s.leaf s.made).1 0 + s.costs.getD (leastH n s.costs (leastH n s.costs s.leaf s.made).2.1 (leastH n s.costs s.leaf s.made).2.2).1 0],
      (leastH n s.costs (leastH n s.costs s.leaf s.made).2.1 (leastH n s.costs s.leaf s.made).2.2).2.1, (leastH n s.costs (leastH n s.costs s.leaf s.made).2.1 (leastH n s.costs s.leaf s.made).2.2).2.2,
      (s.par.set (leastH n s.costs s.leaf s.made).1 s.costs.length).set (leastH n s.costs (leastH n s.costs s.leaf s.made).2.1 (leastH n s.costs s.leaf s.made).2.2).1 s.costs.length⟩ := rfl
    rw [e0] at hD ⊢
    clear e0 g'
    have iA := least_isum n s.costs s.leaf s.made h3 (fun i => s.costs.getD i 0 * (D i : Int))
    generalize leastH n s.costs s.leaf s.made = p at *
    obtain ⟨a1, a2, a3, a4, a5, a7, a8, a9, a10, a11⟩ := A
    have B := leastH_ok n s.costs p.2.1 p.2.2 a1 a2 (by omega)
    have iB := least_isum n s.costs p.2.1 p.2.2 a2 (fun i => s.costs.getD i 0 * (D i : Int))
    generalize leastH n s.costs p.2.1 p.2.2 = q at *
    obtain ⟨b1, b2, b3, b4, b5, b7, b8, b9, b10, b11⟩ := B
    simp only at hD ⊢
    have hpl : p.1 < s.par.length := by omega
    have hql : q.1 < s.par.length := by omega
    have hpq : p.1 ≠ q.1 := fun e => b7 ((a8 q.1).2 (.inr e.symm))
    have dp : D p.1 = D (n + t) + 1 := by
      have := hD p.1 ((b8 _).2 (.inl ((a8 _).2 (.inr rfl))))
      rw [getD_set2, if_pos ⟨hpl, .inl rfl⟩, h1] at this
      exact this
    have dq : D q.1 = D (n + t) + 1 := by
      have := hD q.1 ((b8 _).2 (.inr rfl))
      rw [getD_set2, if_pos ⟨hql, .inr rfl⟩, h1] at this
      exact this
    have ih' := ih (fun i hi => by
      have h9 := hD i ((b8 _).2 (.inl ((a8 _).2 (.inl hi))))
      rw [getD_set2, if_neg ?_] at h9
      · exact h9
      · rintro ⟨_, rfl | rfl⟩
        · exact a7 hi
        · exact b7 ((a8 _).2 (.inl hi)))
    generalize hv : s.costs.getD p.1 0 + s.costs.getD q.1 0 = v at *
    have f1 := isum_congr (f := fun i => (s.costs ++ [v]).getD i 0 * (D i : Int)) (g := fun i => s.costs.getD i 0 * (D i : Int)) q.2.1 (fun i hi => by
      have e : (s.costs ++ [v]).getD i 0 = s.costs.getD i 0 := by rw [getD_app, if_neg (by omega)]
      simp only [e])
    have f2 := isum_congr (f := fun i => (s.costs ++ [v]).getD (n + i) 0 * (D (n + i) : Int)) (g := fun i => s.costs.getD (n + i) 0 * (D (n + i) : Int)) (q.2.2 - n) (fun i hi => by
      have e : (s.costs ++ [v]).getD (n + i) 0 = s.costs.getD (n + i) 0 := by rw [getD_app, if_neg (by omega)]
      simp only [e])
    have f3 := isum_congr (f := fun k => (s.costs ++ [v]).getD (n + k) 0 * ((D (n + k) : Int) + 1)) (g := fun k => s.costs.getD (n + k) 0 * ((D (n + k) : Int) + 1)) t (fun k hk => by
      have e : (s.costs ++ [v]).getD (n + k) 0 = s.costs.getD (n + k) 0 := by rw [getD_app, if_neg (by omega)]
      simp only [e])
    rw [f1, f2]
    simp only [isum]
    rw [f3, getD_app, if_pos h1.symm]
    rw [dp] at iA
    rw [dq] at iB
    have e9 : v * ((D (n + t) : Int) + 1) = s.costs.getD p.1 0 * ((D (n + t) + 1 : Nat) : Int) + s.costs.getD q.1 0 * ((D (n + t) + 1 : Nat) : Int) := by
      rw [← hv]; push_cast; rw [Int.add_mul]
    omega
/-- What the best lengths of all cost. -/
theorem huff_cost (costs : List Int) (hn : 2 ≤ costs.length) (hs : SrtI costs) (h0 : ∀ x ∈ costs, 0 ≤ x) :
    isum (fun i => costs.getD i 0 * (((depthsH costs).getD i 0 : Nat) : Int)) costs.length = hsum costs.length costs := by
  obtain ⟨W, hW, hl, hsm⟩ := made_sum costs hn hs h0 (costs.length - 1) (by omega)
  have h1 := goodH costs hn (costs.length - 1) (by omega)
  have hd := depth_sum costs hn (costs.length - 1) (by omega) (fun i => (depthsH costs).getD i 0)
  have hpar := fun i (hi : i < 2 * costs.length - 2) => h1.par i (by have := h1.leaf; have := h1.made; have := h1.sum; have := h1.top; unfold Picked; omega)
  have hlf : (runH costs (costs.length - 1)).leaf = costs.length := by have := h1.leaf; have := h1.made; have := h1.sum; have := h1.top; omega
  have hmd : (runH costs (costs.length - 1)).made = 2 * costs.length - 2 := by have := h1.leaf; have := h1.made; have := h1.sum; have := h1.top; omega
  have hdd : depthsH costs = downH (runH costs (costs.length - 1)).par (2 * costs.length - 2) (List.replicate (2 * costs.length - 1) 0) := rfl
  have hat : ∀ k, k < 2 * costs.length - 2 → (depthsH costs).getD k 0 = (depthsH costs).getD ((runH costs (costs.length - 1)).par.getD k 0) 0 + 1 := fun k hk => by
    rw [hdd]
    exact downH_at _ _ _ k (by simp; omega) hk (fun j hj => (hpar j hj).1)
  have htop : (depthsH costs).getD (2 * costs.length - 2) 0 = 0 := by
    rw [hdd, downH_high _ _ _ _ (Nat.le_refl _)]
    simp only [List.getD_eq_getElem?_getD, List.getElem?_replicate]
    split <;> rfl
  have hd' := hd (fun i hi => hat i (by rw [hlf, hmd] at hi; unfold Picked at hi; omega))
  rw [hlf, hmd] at hd'
  have hW1 : hsum (costs.length - (costs.length - 1)) W = 0 := by
    have : costs.length - (costs.length - 1) = 1 := by omega
    rw [this]
    rw [this] at hl
    obtain ⟨x, rfl⟩ := List.length_eq_one_iff.1 hl
    rfl
  rw [hW1, Int.add_zero] at hsm
  have hpre : ∀ i, i < costs.length → (runH costs (costs.length - 1)).costs.getD i 0 = costs.getD i 0 := fun i hi => by
    have key : ∀ t, t < costs.length → (runH costs t).costs.getD i 0 = costs.getD i 0 := by
      intro t
      induction t with
      | zero => intro _; rfl
      | succ t ih =>
        intro ht
        have hl2 := (goodH costs hn t (by omega)).len
        show ((runH costs t).costs ++ [_]).getD i 0 = _
        rw [getD_app, if_neg (by omega), ih (by omega)]
    exact key _ (by omega)
  rw [isum_congr (g := fun i => costs.getD i 0 * (((depthsH costs).getD i 0 : Nat) : Int)) costs.length (fun i hi => by simp only [hpre i hi])] at hd'
  obtain ⟨m, hm⟩ : ∃ m, costs.length = m + 2 := ⟨costs.length - 2, by omega⟩
  rw [show costs.length - 1 = m + 1 by omega] at *
  rw [show 2 * costs.length - 2 - costs.length = m by omega] at hd'
  simp only [isum] at hd' hsm
  have e1 : ((depthsH costs).getD (costs.length + m) 0 : Nat) = 0 := by rw [show costs.length + m = 2 * costs.length - 2 by omega]; exact htop
  rw [e1] at hd'
  have e2 : ∀ j, isum (fun k => (runH costs (m + 1)).costs.getD (costs.length + k) 0 * ((((depthsH costs).getD (costs.length + k) 0 : Nat) : Int) + 1)) j =
      isum (fun k => (runH costs (m + 1)).costs.getD (costs.length + k) 0 * (((depthsH costs).getD (costs.length + k) 0 : Nat) : Int)) j + isum (fun k => (runH costs (m + 1)).costs.getD (costs.length + k) 0) j := by
    intro j
    induction j with
    | zero => rfl
    | succ j ih => simp only [isum]; rw [ih, Int.mul_add, Int.mul_one]; omega
  rw [e2, show (((0 : Nat) : Int) + 1) = 1 from rfl, Int.mul_one] at hd'
  omega

end Go.Proofs.Ytoefkkgnabjmdaa
