/- Chapter 07 (pmerge): the plain part: coins put together by twos, level by level, and the best lengths of all: both leave nothing. -/
import Derived.Test.YtoefkkgnabjmdaaLib
set_option linter.unusedSimpArgs false
set_option linter.unusedVariables false
namespace Go.Proofs.Ytoefkkgnabjmdaa

abbrev Coin := Int × List Int
/-- Two lists that rise, put together; what is alike comes from the first one first. -/
def mergeIn (x : Coin) (rest : List Coin → List Coin) : List Coin → List Coin
  | [] => x :: rest []
  | y :: b => if y.1 < x.1 then y :: mergeIn x rest b else x :: rest (y :: b)
def mergeK : List Coin → List Coin → List Coin
  | [] => id
  | x :: a => mergeIn x (mergeK a)
def pairK : List Coin → List Coin
  | a :: b :: r => (a.1 + b.1, a.2 ++ b.2) :: pairK r
  | _ => []
def levelK (first : List Coin) : Nat → List Coin
  | 0 => first
  | j + 1 => mergeK first (pairK (levelK first j))

theorem mergeIn_length (x : Coin) (a : List Coin) (ih : ∀ b, (mergeK a b).length = a.length + b.length) : ∀ b, (mergeIn x (mergeK a) b).length = a.length + 1 + b.length
  | [] => by simp [mergeIn, ih]
  | y :: b => by
    unfold mergeIn
    split
    · have := mergeIn_length x a ih b
      simp [this]; omega
    · simp [ih]; omega
theorem mergeK_length : ∀ (a b : List Coin), (mergeK a b).length = a.length + b.length
  | [], b => by simp [mergeK]
  | x :: a, b => by
    show (mergeIn x (mergeK a) b).length = _
    rw [mergeIn_length x a (mergeK_length a)]; simp
theorem pairK_length : ∀ (l : List Coin), (pairK l).length = l.length / 2
  | [] => rfl
  | [a] => by simp [pairK]
  | a :: b :: r => by simp only [pairK, List.length_cons, pairK_length r]; omega
/-- So many items are there on a level. -/
theorem levelK_length (first : List Coin) : ∀ j, 2 * first.length - (levelK first j).length = (first.length + (2 ^ j - 1)) / 2 ^ j ∧ (levelK first j).length ≤ 2 * first.length
  | 0 => by simp [levelK]; omega
  | j + 1 => by
    obtain ⟨h1, h2⟩ := levelK_length first j
    unfold levelK
    rw [mergeK_length, pairK_length]
    generalize (levelK first j).length = L at *
    generalize first.length = n at *
    have hp : 0 < 2 ^ j := Nat.pow_pos (by decide)
    refine ⟨?_, by omega⟩
    have e : 2 * n - (n + L / 2) = (2 * n - L + 1) / 2 := by omega
    rw [e, h1, Nat.pow_succ]
    generalize 2 ^ j = p at *
    rw [show (n + (p - 1)) / p + 1 = (n + (p - 1) + p) / p by rw [Nat.add_div_right _ hp], Nat.div_div_eq_div_mul]
    congr 1
    omega
theorem level_enough (first : List Coin) (j : Nat) (h : first.length ≤ 2 ^ (j + 1)) : 2 * first.length - 2 ≤ (levelK first j).length := by
  obtain ⟨h1, h2⟩ := levelK_length first j
  have hp : 0 < 2 ^ j := Nat.pow_pos (by decide)
  rw [Nat.pow_succ] at h
  have : (first.length + (2 ^ j - 1)) / 2 ^ j ≤ 2 := by
    generalize 2 ^ j = p at *
    rw [Nat.div_le_iff_le_mul hp]
    omega
  omega

/-! A prefix of a level: so many coins, so many packages. -/
/-- How many of the first c are coins. -/
def coinsOf : List Coin → List Coin → Nat → Nat
  | [], _, _ => 0
  | _ :: _, _, 0 => 0
  | x :: a, [], c + 1 => coinsOf a [] c + 1
  | x :: a, y :: b, c + 1 => if y.1 < x.1 then coinsOf (x :: a) b c else coinsOf a (y :: b) c + 1
theorem merge_take : ∀ (c : Nat) (a b : List Coin), c ≤ a.length + b.length → List.Perm ((mergeK a b).take c) (a.take (coinsOf a b c) ++ b.take (c - coinsOf a b c)) ∧ coinsOf a b c ≤ c ∧ coinsOf a b c ≤ a.length ∧ c - coinsOf a b c ≤ b.length := by
  intro c
  induction c with
  | zero => intro a b _; cases a <;> simp [coinsOf]
  | succ c ih =>
    intro a b h
    match a, b with
    | [], b => simp [mergeK, coinsOf] at h ⊢; exact h
    | x :: a, [] =>
      obtain ⟨h1, h2, h3, h4⟩ := ih a [] (by simp at h ⊢; omega)
      simp only [mergeK, mergeIn, coinsOf, List.take_succ_cons]
      simp at h1 ⊢
      exact ⟨h1, by omega, h3, by simp at h4; omega⟩
    | x :: a, y :: b =>
      simp only [mergeK, mergeIn, coinsOf]
      by_cases hy : y.1 < x.1
      · simp only [if_pos hy]
        obtain ⟨h1, h2, h3, h4⟩ := ih (x :: a) b (by simp at h ⊢; omega)
        rw [show c + 1 - coinsOf (x :: a) b c = (c - coinsOf (x :: a) b c) + 1 by omega]
        simp only [List.take_succ_cons]
        refine ⟨?_, by omega, h3, by simp; omega⟩
        refine List.Perm.trans ?_ List.perm_middle.symm
        exact List.Perm.cons _ h1
      · simp only [if_neg hy]
        obtain ⟨h1, h2, h3, h4⟩ := ih a (y :: b) (by simp at h ⊢; omega)
        rw [show c + 1 - (coinsOf a (y :: b) c + 1) = c - coinsOf a (y :: b) c by omega]
        simp only [List.take_succ_cons, List.cons_append]
        exact ⟨List.Perm.cons _ h1, by omega, by simp; omega, h4⟩

/-- Costs that do not fall. -/
def Up (l : List Coin) : Prop := l.Pairwise (fun x y => x.1 ≤ y.1)
/-- A coin that costs no more than a package that is taken is taken too. -/
theorem coins_before : ∀ (c : Nat) (a b : List Coin), c ≤ a.length + b.length → Up a → ∀ (i m : Nat) (x y : Coin), c - coinsOf a b c = m + 1 → a[i]? = some x → b[m]? = some y → x.1 ≤ y.1 → i < coinsOf a b c := by
  intro c
  induction c with
  | zero => intro a b _ _ i m x y h; omega
  | succ c ih =>
    intro a b h ha i m x y hm hx hy hxy
    match a, b with
    | [], b => simp at hx
    | z :: a, [] => simp at hy
    | z :: a, u :: b =>
      simp only [coinsOf] at hm ⊢
      have ha' := List.pairwise_cons.1 ha
      by_cases hu : u.1 < z.1
      · simp only [if_pos hu] at hm ⊢
        have h2 := (merge_take c (z :: a) b (by simp at h ⊢; omega)).2.1
        cases m with
        | zero =>
          simp only [List.getElem?_cons_zero, Option.some.injEq] at hy
          subst hy
          exfalso
          cases i with
          | zero => simp only [List.getElem?_cons_zero, Option.some.injEq] at hx; subst hx; omega
          | succ i =>
            simp only [List.getElem?_cons_succ] at hx
            have := ha'.1 x (List.mem_of_getElem? hx)
            omega
        | succ m => exact ih (z :: a) b (by simp at h ⊢; omega) ha i m x y (by omega) hx (by simpa using hy) hxy
      · simp only [if_neg hu] at hm ⊢
        cases i with
        | zero => omega
        | succ i =>
          have := ih a (u :: b) (by simp at h ⊢; omega) ha'.2 i m x y (by omega) (by simpa using hx) hy hxy
          omega

theorem mergeK_perm (a b : List Coin) : List.Perm (mergeK a b) (a ++ b) := by
  have h := merge_take (a.length + b.length) a b (Nat.le_refl _)
  obtain ⟨h1, h2, h3, h4⟩ := h
  rw [List.take_of_length_le (by rw [mergeK_length]; exact Nat.le_refl _)] at h1
  rw [List.take_of_length_le (l := b) (by omega), List.take_of_length_le (l := a) (by omega)] at h1
  exact h1
theorem mergeIn_up (x : Coin) (a : List Coin) (ih : ∀ b, Up a → Up b → Up (mergeK a b)) : ∀ b, Up (x :: a) → Up b → Up (mergeIn x (mergeK a) b)
  | [], ha, hb => by
    unfold mergeIn
    have ha' := List.pairwise_cons.1 ha
    refine List.pairwise_cons.2 ⟨fun z hz => ?_, ih [] ha'.2 hb⟩
    have := (mergeK_perm a []).mem_iff.1 hz
    exact ha'.1 z (by simpa using this)
  | y :: b, ha, hb => by
    unfold mergeIn
    have ha' := List.pairwise_cons.1 ha
    have hb' := List.pairwise_cons.1 hb
    split
    · rename_i hy
      refine List.pairwise_cons.2 ⟨fun z hz => ?_, mergeIn_up x a ih b ha hb'.2⟩
      have : z ∈ x :: a ++ b := (mergeK_perm (x :: a) b).mem_iff.1 hz
      simp only [List.cons_append, List.mem_cons, List.mem_append] at this
      rcases this with rfl | h | h
      · omega
      · have := ha'.1 z h; omega
      · exact hb'.1 z h
    · rename_i hy
      refine List.pairwise_cons.2 ⟨fun z hz => ?_, ih (y :: b) ha'.2 hb⟩
      have : z ∈ a ++ (y :: b) := (mergeK_perm a (y :: b)).mem_iff.1 hz
      simp only [List.mem_append, List.mem_cons] at this
      rcases this with h | rfl | h
      · exact ha'.1 z h
      · omega
      · have := hb'.1 z h; omega
theorem mergeK_up : ∀ (a b : List Coin), Up a → Up b → Up (mergeK a b)
  | [], b, _, hb => hb
  | x :: a, b, ha, hb => mergeIn_up x a (mergeK_up a) b ha hb
theorem pairK_mem : ∀ (l : List Coin) (z : Coin), z ∈ pairK l → ∃ x y, x ∈ l ∧ y ∈ l ∧ z.1 = x.1 + y.1
  | [], z, h => by simp [pairK] at h
  | [a], z, h => by simp [pairK] at h
  | a :: b :: r, z, h => by
    simp only [pairK, List.mem_cons] at h
    rcases h with rfl | h
    · exact ⟨a, b, by simp, by simp, rfl⟩
    · obtain ⟨x, y, hx, hy, e⟩ := pairK_mem r z h
      exact ⟨x, y, by simp [hx], by simp [hy], e⟩
theorem pairK_up : ∀ (l : List Coin), Up l → Up (pairK l)
  | [], _ => List.Pairwise.nil
  | [a], _ => List.Pairwise.nil
  | a :: b :: r, h => by
    have h1 := List.pairwise_cons.1 h
    have h2 := List.pairwise_cons.1 h1.2
    refine List.pairwise_cons.2 ⟨fun z hz => ?_, pairK_up r h2.2⟩
    obtain ⟨x, y, hx, hy, e⟩ := pairK_mem r z hz
    have p1 := h1.1 x (by simp [hx])
    have p2 := h2.1 y hy
    simp only
    omega
theorem levelK_up (first : List Coin) (h : Up first) : ∀ j, Up (levelK first j)
  | 0 => h
  | j + 1 => mergeK_up _ _ h (pairK_up _ (levelK_up first h j))
theorem levelK_pos (first : List Coin) (h : ∀ x ∈ first, 0 ≤ x.1) : ∀ j, ∀ x ∈ levelK first j, 0 ≤ x.1
  | 0 => h
  | j + 1 => by
    intro x hx
    have := (mergeK_perm first (pairK (levelK first j))).mem_iff.1 hx
    rw [List.mem_append] at this
    rcases this with h1 | h1
    · exact h x h1
    · obtain ⟨y, z, hy, hz, e⟩ := pairK_mem _ x h1
      have := levelK_pos first h j y hy
      have := levelK_pos first h j z hz
      omega

/-- How many coins of each level are among the first c, the last level first. -/
def ksOf (first : List Coin) : Nat → Nat → List Nat
  | 0, c => [c]
  | j + 1, c => coinsOf first (pairK (levelK first j)) c :: ksOf first j (2 * (c - coinsOf first (pairK (levelK first j)) c))
theorem pairK_get : ∀ (l : List Coin) (m : Nat), 2 * m + 1 < l.length → ∃ x y, l[2 * m]? = some x ∧ l[2 * m + 1]? = some y ∧ (pairK l)[m]? = some (x.1 + y.1, x.2 ++ y.2)
  | [], m, h => by simp at h
  | [a], m, h => by simp at h
  | a :: b :: r, 0, h => ⟨a, b, rfl, rfl, rfl⟩
  | a :: b :: r, m + 1, h => by
    obtain ⟨x, y, h1, h2, h3⟩ := pairK_get r m (by simp at h; omega)
    exact ⟨x, y, by rw [show 2 * (m + 1) = 2 * m + 1 + 1 by omega]; simpa using h1, by rw [show 2 * (m + 1) + 1 = 2 * m + 1 + 1 + 1 by omega]; simpa using h2, by simpa [pairK] using h3⟩
theorem ksOf_length (first : List Coin) : ∀ j c, (ksOf first j c).length = j + 1
  | 0, _ => rfl
  | j + 1, c => by simp [ksOf, ksOf_length first j]
/-- All that the numbers of coins have: none is more than there are; they fall; by weights they are what was taken. -/
theorem ksOf_ok (first : List Coin) (hup : Up first) (hpos : ∀ x ∈ first, 0 ≤ x.1) : ∀ (j c : Nat), c ≤ (levelK first j).length →
    (∀ k ∈ ksOf first j c, k ≤ first.length) ∧ (ksOf first j c).Pairwise (fun x y => y ≤ x) ∧
    (∀ i x, i < (ksOf first j c).headD 0 → first[i]? = some x → x ∈ (levelK first j).take c)
  | 0, c, h => by
    refine ⟨by simp [ksOf]; exact h, by simp [ksOf], fun i x hi hx => ?_⟩
    simp only [ksOf, List.headD_cons] at hi
    simp only [levelK]
    rw [List.mem_iff_getElem?]
    exact ⟨i, by rw [List.getElem?_take, if_pos hi]; exact hx⟩
  | j + 1, c, h => by
    unfold levelK at h
    rw [mergeK_length] at h
    obtain ⟨h1, h2, h3, h4⟩ := merge_take c first (pairK (levelK first j)) h
    have hL := pairK_length (levelK first j)
    have hc' : 2 * (c - coinsOf first (pairK (levelK first j)) c) ≤ (levelK first j).length := by omega
    obtain ⟨k1, k2, k3⟩ := ksOf_ok first hup hpos j _ hc'
    have hcb := coins_before c first (pairK (levelK first j)) h hup
    have hkk := h2
    simp only [ksOf]
    generalize hk : coinsOf first (pairK (levelK first j)) c = k at *
    have key : ∀ q ∈ ksOf first j (2 * (c - k)), q ≤ k := by
      have hhead : (ksOf first j (2 * (c - k))).headD 0 ≤ k := by
        generalize hq : (ksOf first j (2 * (c - k))).headD 0 = q at *
        rcases Nat.eq_zero_or_pos q with h0 | h0
        · omega
        · have hqn : q ≤ first.length := by
            cases hks : ksOf first j (2 * (c - k)) with
            | nil => rw [hks] at hq; simp at hq; omega
            | cons z r => rw [hks] at hq; simp at hq; exact k1 q (by rw [hks, hq]; simp)
          have hx : first[q - 1]? = some first[q - 1] := List.getElem?_eq_getElem (by omega)
          have hmem := k3 (q - 1) _ (by omega) hx
          rcases Nat.eq_zero_or_pos (c - k) with hm | hm
          · rw [hm] at hmem; simp at hmem
          · obtain ⟨x, y, g1, g2, g3⟩ := pairK_get (levelK first j) (c - k - 1) (by omega)
            have hy : first[q - 1].1 ≤ y.1 := by
              obtain ⟨i, hi⟩ := List.mem_iff_getElem?.1 hmem
              rw [List.getElem?_take] at hi
              split at hi
              · rename_i hlt
                by_cases he : i = 2 * (c - k - 1) + 1
                · subst he; rw [g2] at hi; simp only [Option.some.injEq] at hi; rw [← hi]; omega
                · have hup' := levelK_up first hup j
                  have hi1 := (List.getElem?_eq_some_iff.1 hi)
                  have hi2 := (List.getElem?_eq_some_iff.1 g2)
                  obtain ⟨b1, e1⟩ := hi1
                  obtain ⟨b2, e2⟩ := hi2
                  have := List.pairwise_iff_getElem.1 hup' i (2 * (c - k - 1) + 1) b1 b2 (by omega)
                  rw [e1, e2] at this
                  exact this
              · cases hi
            have hxp : 0 ≤ x.1 := levelK_pos first hpos j x (List.mem_of_getElem? g1)
            have := hcb (q - 1) (c - k - 1) _ _ (by omega) hx g3 (by simp only; omega)
            omega
      intro q hq
      cases hks : ksOf first j (2 * (c - k)) with
      | nil => rw [hks] at hq; cases hq
      | cons z r =>
        rw [hks] at hq hhead k2
        simp at hhead
        rcases List.mem_cons.1 hq with rfl | hq
        · exact hhead
        · have := (List.pairwise_cons.1 k2).1 q hq; omega
    refine ⟨?_, List.pairwise_cons.2 ⟨key, k2⟩, ?_⟩
    · intro q hq
      rcases List.mem_cons.1 hq with rfl | hq
      · exact h3
      · exact k1 q hq
    · intro i x hi hx
      simp only [List.headD_cons] at hi
      unfold levelK
      refine h1.mem_iff.2 (List.mem_append.2 (.inl ?_))
      rw [List.mem_iff_getElem?]
      exact ⟨i, by rw [List.getElem?_take, if_pos hi]; exact hx⟩

/-- Weights: of the last level one has half of all. -/
def wsum : List Nat → Nat
  | [] => 0
  | k :: r => k * 2 ^ r.length + wsum r
theorem ksOf_wsum (first : List Coin) : ∀ (j c : Nat), c ≤ (levelK first j).length → wsum (ksOf first j c) = c * 2 ^ j
  | 0, c, _ => by simp [ksOf, wsum]
  | j + 1, c, h => by
    unfold levelK at h
    rw [mergeK_length] at h
    obtain ⟨h1, h2, h3, h4⟩ := merge_take c first (pairK (levelK first j)) h
    have hL := pairK_length (levelK first j)
    have ih := ksOf_wsum first j (2 * (c - coinsOf first (pairK (levelK first j)) c)) (by omega)
    simp only [ksOf, wsum]
    rw [ih, ksOf_length]
    generalize coinsOf first (pairK (levelK first j)) c = k at *
    obtain ⟨m, rfl⟩ : ∃ m, c = k + m := ⟨c - k, by omega⟩
    rw [show k + m - k = m by omega, Nat.pow_succ, Nat.add_mul]
    congr 1
    rw [Nat.mul_comm 2 m, Nat.mul_assoc, Nat.mul_comm 2]

def sumTo (f : Nat → Nat) : Nat → Nat
  | 0 => 0
  | n + 1 => sumTo f n + f n
theorem sumTo_congr {f g : Nat → Nat} : ∀ n, (∀ r, r < n → f r = g r) → sumTo f n = sumTo g n
  | 0, _ => rfl
  | n + 1, h => by simp only [sumTo]; rw [sumTo_congr n (fun r hr => h r (by omega)), h n (by omega)]
theorem sumTo_split {c : Nat} (f : Nat → Nat) (k : Nat) : ∀ n, k ≤ n → (∀ r, k ≤ r → r < n → f r = c) → sumTo f n = sumTo f k + (n - k) * c
  | 0, h, _ => by
    have : k = 0 := by omega
    subst this
    simp
  | n + 1, h, hc => by
    by_cases hk : k = n + 1
    · subst hk; simp
    · simp only [sumTo]
      rw [sumTo_split f k n (by omega) (fun r h1 h2 => hc r h1 (by omega)), hc n (by omega) (by omega), show n + 1 - k = (n - k) + 1 by omega, Nat.add_mul]
      omega
/-- Of how many levels a symbol's coin is taken, by its rank. -/
def lenOf (ks : List Nat) (r : Nat) : Nat := ks.countP (fun k => decide (r < k))
theorem lenOf_le (ks : List Nat) (r : Nat) : lenOf ks r ≤ ks.length := List.countP_le_length
theorem kraft_ks : ∀ (ks : List Nat) (n : Nat), (∀ k ∈ ks, k ≤ n) → ks.Pairwise (fun x y => y ≤ x) → sumTo (fun r => 2 ^ (ks.length - lenOf ks r)) n + wsum ks = n * 2 ^ ks.length
  | [], n, _, _ => by
    have h := sumTo_split (c := 1) (fun r => 2 ^ (([] : List Nat).length - lenOf [] r)) 0 n (by omega) (fun r _ _ => by simp)
    rw [h]
    simp [wsum, sumTo]
  | k :: ks, n, h, hp => by
    have hp' := List.pairwise_cons.1 hp
    have hk : k ≤ n := h k (by simp)
    have ih := kraft_ks ks k hp'.1 hp'.2
    have h1 := sumTo_split (c := 2 ^ (ks.length + 1)) (fun r => 2 ^ ((k :: ks).length - lenOf (k :: ks) r)) k n hk (fun r h1 h2 => by
      have : lenOf (k :: ks) r = 0 := by
        unfold lenOf
        rw [List.countP_eq_zero]
        intro q hq
        have : q ≤ k := by
          rcases List.mem_cons.1 hq with rfl | hq
          · exact Nat.le_refl _
          · exact hp'.1 q hq
        simp; omega
      rw [this]; simp)
    have h2 := sumTo_congr (f := fun r => 2 ^ ((k :: ks).length - lenOf (k :: ks) r)) (g := fun r => 2 ^ (ks.length - lenOf ks r)) k (fun r hr => by
      have : lenOf (k :: ks) r = lenOf ks r + 1 := by
        unfold lenOf
        rw [List.countP_cons_of_pos (by simpa using hr)]
      simp only [this, List.length_cons]
      congr 1
      omega)
    rw [h1, h2]
    simp only [wsum, List.length_cons]
    obtain ⟨m, rfl⟩ : ∃ m, n = k + m := ⟨n - k, by omega⟩
    rw [show k + m - k = m by omega, Nat.add_mul, Nat.pow_succ]
    have e : k * (2 ^ ks.length * 2) = k * 2 ^ ks.length + k * 2 ^ ks.length := by rw [← Nat.mul_assoc]; omega
    rw [e]
    omega

/-! The best lengths of all, whatever limit there is. -/
structure HS where
  costs : List Int
  leaf : Nat
  made : Nat
  par : List Nat
/-- The cheapest of the symbols, and of what was put together. -/
def leastH (n : Nat) (costs : List Int) (leaf made : Nat) : Nat × Nat × Nat :=
  if leaf < n ∧ (costs.length ≤ made ∨ costs.getD leaf 0 ≤ costs.getD made 0) then (leaf, leaf + 1, made) else (made, leaf, made + 1)
def stepH (n : Nat) (s : HS) : HS :=
  let p := leastH n s.costs s.leaf s.made
  let q := leastH n s.costs p.2.1 p.2.2
  ⟨s.costs ++ [s.costs.getD p.1 0 + s.costs.getD q.1 0], q.2.1, q.2.2, (s.par.set p.1 s.costs.length).set q.1 s.costs.length⟩
def startH (costs : List Int) : HS := ⟨costs, 0, costs.length, List.replicate (2 * costs.length - 1) 0⟩
def runH (costs : List Int) : Nat → HS
  | 0 => startH costs
  | t + 1 => stepH costs.length (runH costs t)

/-- i was picked. -/
def Picked (n : Nat) (leaf made i : Nat) : Prop := i < leaf ∨ (n ≤ i ∧ i < made)
theorem leastH_ok (n : Nat) (costs : List Int) (leaf made : Nat) (h1 : leaf ≤ n) (h2 : n ≤ made) (h3 : leaf = n → made < costs.length) :
    let p := leastH n costs leaf made
    p.2.1 ≤ n ∧ n ≤ p.2.2 ∧ p.2.1 + p.2.2 = leaf + made + 1 ∧ leaf ≤ p.2.1 ∧ made ≤ p.2.2 ∧ ¬ Picked n leaf made p.1 ∧ (∀ i, Picked n p.2.1 p.2.2 i ↔ Picked n leaf made i ∨ i = p.1) ∧ (p.2.2 ≤ costs.length ∨ p.2.2 = made) ∧ (p.1 < n ∨ p.1 < costs.length) ∧
    (∀ w : Nat → Nat, sumTo w p.2.1 + sumTo (fun i => w (n + i)) (p.2.2 - n) = sumTo w leaf + sumTo (fun i => w (n + i)) (made - n) + w p.1) := by
  intro p
  by_cases hc : leaf < n ∧ (costs.length ≤ made ∨ costs.getD leaf 0 ≤ costs.getD made 0)
  · have hp : p = (leaf, leaf + 1, made) := if_pos hc
    rw [hp]
    refine ⟨by simp; omega, by simp; omega, by simp; omega, by simp, by simp, by simp [Picked]; omega, fun i => by simp [Picked]; omega, .inr rfl, .inl (by simp; omega), fun w => by simp [sumTo]; omega⟩
  · have hp : p = (made, leaf, made + 1) := if_neg hc
    have hm : made < costs.length := by
      by_cases hl : leaf = n
      · exact h3 hl
      · have : ¬ (costs.length ≤ made ∨ costs.getD leaf 0 ≤ costs.getD made 0) := fun h => hc ⟨by omega, h⟩
        omega
    rw [hp]
    refine ⟨by simp; omega, by simp; omega, by simp; omega, by simp, by simp, by simp [Picked]; omega, fun i => by simp [Picked]; omega, .inl (by simp; omega), .inr (by simp; omega), fun w => ?_⟩
    simp only
    rw [show made + 1 - n = (made - n) + 1 by omega]
    simp only [sumTo]
    rw [show n + (made - n) = made by omega]
    omega
structure GoodH (n t : Nat) (s : HS) : Prop where
  len : s.costs.length = n + t
  leaf : s.leaf ≤ n
  made : n ≤ s.made
  sum : s.leaf + s.made = n + 2 * t
  top : s.made ≤ n + t - 1 ∨ t = 0
  plen : s.par.length = 2 * n - 1
  par : ∀ i, Picked n s.leaf s.made i → i < s.par.getD i 0 ∧ s.par.getD i 0 < n + t
  weigh : ∀ w : Nat → Nat, (∀ i, Picked n s.leaf s.made i → 2 * w i = w (s.par.getD i 0)) → sumTo w s.leaf + sumTo (fun i => w (n + i)) (s.made - n) = sumTo (fun k => w (n + k)) t
theorem getD_set2 (l : List Nat) (a b v i : Nat) : ((l.set a v).set b v).getD i 0 = if i < l.length ∧ (i = a ∨ i = b) then v else l.getD i 0 := by
  simp only [List.getD_eq_getElem?_getD, List.getElem?_set, List.length_set]
  by_cases h3 : i < l.length
  · by_cases h1 : b = i
    · rw [if_pos h1, if_pos (by omega), if_pos ⟨h3, .inr h1.symm⟩]; rfl
    · rw [if_neg h1]
      by_cases h2 : a = i
      · rw [if_pos h2, if_pos (by omega), if_pos ⟨h3, .inl h2.symm⟩]; rfl
      · rw [if_neg h2, if_neg (by omega)]
  · rw [if_neg (c := i < l.length ∧ (i = a ∨ i = b)) (fun h => h3 h.1)]
    have e : l[i]? = none := List.getElem?_eq_none (by omega)
    by_cases h1 : b = i
    · rw [if_pos h1, if_neg (by omega), e]
    · rw [if_neg h1]
      by_cases h2 : a = i
      · rw [if_pos h2, if_neg (by omega), e]
      · rw [if_neg h2]
theorem goodH_start (costs : List Int) (hn : 2 ≤ costs.length) : GoodH costs.length 0 (startH costs) := by
  refine ⟨rfl, Nat.zero_le _, Nat.le_refl _, by simp [startH], .inr rfl, by simp [startH], fun i h => ?_, fun w _ => ?_⟩
  · simp [Picked, startH] at h; omega
  · simp [startH, sumTo]
theorem goodH_step {n t : Nat} {s : HS} (h : GoodH n t s) (ht : t + 1 < n) : GoodH n (t + 1) (stepH n s) := by
  obtain ⟨h1, h2, h3, h4, h5, h6, h7, h8⟩ := h
  have A := leastH_ok n s.costs s.leaf s.made h2 h3 (by omega)
  have e0 : stepH n s = ⟨s.costs ++ [s.costs.getD (leastH n s.costs s.leaf s.made).1 0 + s.costs.getD (leastH n s.costs (leastH n s.costs s.leaf s.made).2.1 (leastH n s.costs s.leaf s.made).2.2).1 0],
    (leastH n s.costs (leastH n s.costs s.leaf s.made).2.1 (leastH n s.costs s.leaf s.made).2.2).2.1, (leastH n s.costs (leastH n s.costs s.leaf s.made).2.1 (leastH n s.costs s.leaf s.made).2.2).2.2,
    (s.par.set (leastH n s.costs s.leaf s.made).1 s.costs.length).set (leastH n s.costs (leastH n s.costs s.leaf s.made).2.1 (leastH n s.costs s.leaf s.made).2.2).1 s.costs.length⟩ := rfl
  rw [e0]
  clear e0
  generalize leastH n s.costs s.leaf s.made = p at *
  obtain ⟨a1, a2, a3, a4, a5, a7, a8, a9, a10, a11⟩ := A
  have B := leastH_ok n s.costs p.2.1 p.2.2 a1 a2 (by omega)
  generalize leastH n s.costs p.2.1 p.2.2 = q at *
  obtain ⟨b1, b2, b3, b4, b5, b7, b8, b9, b10, b11⟩ := B
  have hpl : p.1 < s.par.length := by omega
  have hql : q.1 < s.par.length := by omega
  have hpq : p.1 ≠ q.1 := fun e => b7 ((a8 q.1).2 (.inr e.symm))
  refine ⟨by simp; omega, b1, b2, by simp only; omega, .inl (by simp only; omega), by simp; omega, fun i hi => ?_, fun w hw => ?_⟩
  · simp only at hi ⊢
    rw [b8, a8] at hi
    rw [getD_set2]
    by_cases hc : i < s.par.length ∧ (i = p.1 ∨ i = q.1)
    · rw [if_pos hc]
      obtain ⟨_, rfl | rfl⟩ := hc <;> omega
    · rw [if_neg hc]
      have : Picked n s.leaf s.made i := by
        rcases hi with (hi | hi) | hi
        · exact hi
        · exact absurd ⟨by omega, .inl hi⟩ hc
        · exact absurd ⟨by omega, .inr hi⟩ hc
      have := h7 i this
      omega
  · simp only at hw ⊢
    rw [b11 w, a11 w]
    have hp2 : 2 * w p.1 = w (n + t) := by
      have := hw p.1 ((b8 _).2 (.inl ((a8 _).2 (.inr rfl))))
      rw [getD_set2, if_pos ⟨hpl, .inl rfl⟩, h1] at this
      exact this
    have hq2 : 2 * w q.1 = w (n + t) := by
      have := hw q.1 ((b8 _).2 (.inr rfl))
      rw [getD_set2, if_pos ⟨hql, .inr rfl⟩, h1] at this
      exact this
    rw [h8 w ?_]
    · simp only [sumTo]; omega
    · intro i hi
      have h9 := hw i ((b8 _).2 (.inl ((a8 _).2 (.inl hi))))
      rw [getD_set2, if_neg ?_] at h9
      · exact h9
      · rintro ⟨_, rfl | rfl⟩
        · exact a7 hi
        · exact b7 ((a8 _).2 (.inl hi))
theorem goodH (costs : List Int) (hn : 2 ≤ costs.length) : ∀ t, t < costs.length → GoodH costs.length t (runH costs t)
  | 0, _ => goodH_start costs hn
  | t + 1, ht => goodH_step (goodH costs hn t (by omega)) ht

theorem sumTo_mono (f : Nat → Nat) : ∀ (m n : Nat), m ≤ n → sumTo f m ≤ sumTo f n
  | m, 0, h => by rw [show m = 0 by omega]; exact Nat.le_refl _
  | m, n + 1, h => by
    by_cases e : m = n + 1
    · rw [e]; exact Nat.le_refl _
    · have := sumTo_mono f m n (by omega); simp only [sumTo]; omega
theorem sumTo_add (f : Nat → Nat) (n : Nat) : ∀ m, sumTo f (n + m) = sumTo f n + sumTo (fun i => f (n + i)) m
  | 0 => by simp [sumTo]
  | m + 1 => by rw [← Nat.add_assoc]; simp only [sumTo]; rw [sumTo_add f n m]; omega
/-- What is put together costs what all that is left costs at most. -/
structure CostH (n t T : Nat) (s : HS) : Prop where
  pos : ∀ i, 0 ≤ s.costs.getD i 0
  sum : sumTo (fun i => (s.costs.getD i 0).toNat) (n + t) = T + (sumTo (fun i => (s.costs.getD i 0).toNat) s.leaf + sumTo (fun i => (s.costs.getD (n + i) 0).toNat) (s.made - n))
theorem getD_app (l : List Int) (x : Int) (i : Nat) : (l ++ [x]).getD i 0 = if i = l.length then x else l.getD i 0 := by
  simp only [List.getD_eq_getElem?_getD]
  by_cases h : i < l.length
  · rw [List.getElem?_append_left h, if_neg (by omega)]
  · rw [List.getElem?_append_right (by omega)]
    by_cases e : i = l.length
    · rw [if_pos e, e, Nat.sub_self]; rfl
    · rw [if_neg e, List.getElem?_eq_none (by simp; omega), List.getElem?_eq_none (by omega)]
theorem costH_le {n t T : Nat} {s : HS} (g : GoodH n t s) (h : CostH n t T s) (ht : t + 1 < n) :
    let p := leastH n s.costs s.leaf s.made
    let q := leastH n s.costs p.2.1 p.2.2
    0 ≤ s.costs.getD p.1 0 + s.costs.getD q.1 0 ∧ s.costs.getD p.1 0 + s.costs.getD q.1 0 ≤ T := by
  intro p q
  obtain ⟨h1, h2, h3, h4, h5, h6, h7, h8⟩ := g
  obtain ⟨c1, c2⟩ := h
  have A := leastH_ok n s.costs s.leaf s.made h2 h3 (by omega)
  have hp : leastH n s.costs s.leaf s.made = p := rfl
  rw [hp] at A
  obtain ⟨a1, a2, a3, a4, a5, a7, a8, a9, a10, a11⟩ := A
  have B := leastH_ok n s.costs p.2.1 p.2.2 a1 a2 (by omega)
  have hq : leastH n s.costs p.2.1 p.2.2 = q := rfl
  rw [hq] at B
  obtain ⟨b1, b2, b3, b4, b5, b7, b8, b9, b10, b11⟩ := B
  have e1 := a11 (fun i => (s.costs.getD i 0).toNat)
  have e2 := b11 (fun i => (s.costs.getD i 0).toNat)
  have m1 := sumTo_mono (fun i => (s.costs.getD i 0).toNat) q.2.1 n b1
  have m2 := sumTo_mono (fun i => (s.costs.getD (n + i) 0).toNat) (q.2.2 - n) t (by omega)
  have m3 := sumTo_add (fun i => (s.costs.getD i 0).toNat) n t
  have x1 := c1 p.1
  have x2 := c1 q.1
  omega
theorem costH_step {n t T : Nat} {s : HS} (g : GoodH n t s) (h : CostH n t T s) (ht : t + 1 < n) : CostH n (t + 1) T (stepH n s) := by
  have hle := costH_le g h ht
  dsimp only at hle
  obtain ⟨h1, h2, h3, h4, h5, h6, h7, h8⟩ := g
  obtain ⟨c1, c2⟩ := h
  have A := leastH_ok n s.costs s.leaf s.made h2 h3 (by omega)
  have e0 : stepH n s = ⟨s.costs ++ [s.costs.getD (leastH n s.costs s.leaf s.made).1 0 + s.costs.getD (leastH n s.costs (leastH n s.costs s.leaf s.made).2.1 (leastH n s.costs s.leaf s.made).2.2).1 0],
    (leastH n s.costs (leastH n s.costs s.leaf s.made).2.1 (leastH n s.costs s.leaf s.made).2.2).2.1, (leastH n s.costs (leastH n s.costs s.leaf s.made).2.1 (leastH n s.costs s.leaf s.made).2.2).2.2,
    (s.par.set (leastH n s.costs s.leaf s.made).1 s.costs.length).set (leastH n s.costs (leastH n s.costs s.leaf s.made).2.1 (leastH n s.costs s.leaf s.made).2.2).1 s.costs.length⟩ := rfl
  rw [e0]
  clear e0
  generalize leastH n s.costs s.leaf s.made = p at *
  obtain ⟨a1, a2, a3, a4, a5, a7, a8, a9, a10, a11⟩ := A
  have B := leastH_ok n s.costs p.2.1 p.2.2 a1 a2 (by omega)
  generalize leastH n s.costs p.2.1 p.2.2 = q at *
  obtain ⟨b1, b2, b3, b4, b5, b7, b8, b9, b10, b11⟩ := B
  refine ⟨fun i => ?_, ?_⟩
  · simp only
    rw [getD_app]
    split
    · exact hle.1
    · exact c1 i
  · simp only
    have f1 : ∀ m, m ≤ n + t → sumTo (fun i => ((s.costs ++ [s.costs.getD p.1 0 + s.costs.getD q.1 0]).getD i 0).toNat) m = sumTo (fun i => (s.costs.getD i 0).toNat) m := fun m hm => sumTo_congr m (fun r hr => by rw [getD_app, if_neg (by omega)])
    have f2 : ∀ m, m ≤ t → sumTo (fun i => ((s.costs ++ [s.costs.getD p.1 0 + s.costs.getD q.1 0]).getD (n + i) 0).toNat) m = sumTo (fun i => (s.costs.getD (n + i) 0).toNat) m := fun m hm => sumTo_congr m (fun r hr => by rw [getD_app, if_neg (by omega)])
    rw [f1 q.2.1 (by omega), f2 (q.2.2 - n) (by omega), show n + (t + 1) = (n + t) + 1 by omega]
    simp only [sumTo]
    rw [f1 (n + t) (Nat.le_refl _), getD_app, if_pos h1.symm]
    have e1 := a11 (fun i => (s.costs.getD i 0).toNat)
    have e2 := b11 (fun i => (s.costs.getD i 0).toNat)
    have x1 := c1 p.1
    have x2 := c1 q.1
    omega
theorem costH (costs : List Int) (hn : 2 ≤ costs.length) (h0 : ∀ i, 0 ≤ costs.getD i 0) : ∀ t, t < costs.length → CostH costs.length t (sumTo (fun i => (costs.getD i 0).toNat) costs.length) (runH costs t)
  | 0, _ => ⟨h0, by simp [runH, startH, sumTo]⟩
  | t + 1, ht => costH_step (goodH costs hn t (by omega)) (costH costs hn h0 t (by omega)) ht
theorem sumTo_le (f : Nat → Nat) (c : Nat) : ∀ n, (∀ i, i < n → f i ≤ c) → sumTo f n ≤ n * c
  | 0, _ => by simp [sumTo]
  | n + 1, h => by
    have h1 := sumTo_le f c n (fun i hi => h i (by omega))
    have h2 := h n (by omega)
    simp only [sumTo]
    rw [Nat.add_mul]
    omega

/-- Depths, from the last one down. -/
def downH (par : List Nat) : Nat → List Nat → List Nat
  | 0, d => d
  | i + 1, d => downH par i (d.set i (d.getD (par.getD i 0) 0 + 1))
theorem downH_length (par : List Nat) : ∀ i d, (downH par i d).length = d.length
  | 0, _ => rfl
  | i + 1, d => by unfold downH; rw [downH_length par i]; simp
theorem downH_high (par : List Nat) : ∀ (i : Nat) (d : List Nat) (k : Nat), i ≤ k → (downH par i d).getD k 0 = d.getD k 0
  | 0, _, _, _ => rfl
  | i + 1, d, k, h => by
    unfold downH
    rw [downH_high par i _ k (by omega)]
    simp only [List.getD_eq_getElem?_getD, List.getElem?_set]
    rw [if_neg (by omega)]
theorem downH_at (par : List Nat) : ∀ (i : Nat) (d : List Nat) (k : Nat), i ≤ d.length → k < i → (∀ j, j < i → j < par.getD j 0) → (downH par i d).getD k 0 = (downH par i d).getD (par.getD k 0) 0 + 1
  | 0, _, _, _, h, _ => by omega
  | i + 1, d, k, hd, h, hp => by
    have hi := hp i (by omega)
    unfold downH
    by_cases hk : k = i
    · subst hk
      rw [downH_high par k _ k (Nat.le_refl _), downH_high par k _ _ (by omega)]
      simp only [List.getD_eq_getElem?_getD, List.getElem?_set]
      rw [if_pos trivial, if_pos (by omega), if_neg (by simp only [List.getD_eq_getElem?_getD] at hi; omega)]
      simp
    · exact downH_at par i _ k (by simp; omega) (by omega) (fun j hj => hp j (by omega))
/-- The depths of all. -/
def depthsH (costs : List Int) : List Nat := downH (runH costs (costs.length - 1)).par (2 * costs.length - 2) (List.replicate (2 * costs.length - 1) 0)
theorem sumTo_mul (c : Nat) (f : Nat → Nat) : ∀ n, sumTo (fun r => f r * c) n = sumTo f n * c
  | 0 => by simp [sumTo]
  | n + 1 => by simp only [sumTo]; rw [sumTo_mul c f n, Nat.add_mul]
theorem depthsH_length (costs : List Int) : (depthsH costs).length = 2 * costs.length - 1 := by unfold depthsH; rw [downH_length]; simp
/-- The best lengths leave nothing. -/
theorem depthsH_ok (costs : List Int) (hn : 2 ≤ costs.length) :
    (∀ i, i < costs.length → 1 ≤ (depthsH costs).getD i 0 ∧ (depthsH costs).getD i 0 ≤ 2 * costs.length) ∧
    ∀ L, (∀ i, i < costs.length → (depthsH costs).getD i 0 ≤ L) → sumTo (fun i => 2 ^ (L - (depthsH costs).getD i 0)) costs.length = 2 ^ L := by
  obtain ⟨h1, h2, h3, h4, h5, h6, h7, h8⟩ := goodH costs hn (costs.length - 1) (by omega)
  have hpk : ∀ i, i < 2 * costs.length - 2 → Picked costs.length (runH costs (costs.length - 1)).leaf (runH costs (costs.length - 1)).made i := fun i hi => by
    unfold Picked; omega
  have hlf : (runH costs (costs.length - 1)).leaf = costs.length := by omega
  have hmd : (runH costs (costs.length - 1)).made = 2 * costs.length - 2 := by omega
  have hpar := fun i hi => h7 i (hpk i hi)
  have hd : depthsH costs = downH (runH costs (costs.length - 1)).par (2 * costs.length - 2) (List.replicate (2 * costs.length - 1) 0) := rfl
  have hat : ∀ k, k < 2 * costs.length - 2 → (depthsH costs).getD k 0 = (depthsH costs).getD ((runH costs (costs.length - 1)).par.getD k 0) 0 + 1 := fun k hk => by
    rw [hd]
    exact downH_at _ _ _ k (by simp; omega) hk (fun j hj => (hpar j hj).1)
  have htop : (depthsH costs).getD (2 * costs.length - 2) 0 = 0 := by
    rw [hd, downH_high _ _ _ _ (Nat.le_refl _)]
    simp only [List.getD_eq_getElem?_getD, List.getElem?_replicate]
    split <;> rfl
  generalize (runH costs (costs.length - 1)).par = par at *
  generalize depthsH costs = D at *
  generalize hnn : costs.length = n at *
  have hle : ∀ m i, i + m = 2 * n - 2 → D.getD i 0 ≤ m := by
    intro m
    induction m using Nat.strongRecOn with
    | _ m ih =>
      intro i hi
      by_cases h0 : m = 0
      · have : i = 2 * n - 2 := by omega
        rw [this, htop]; omega
      · have := hat i (by omega)
        have hp := hpar i (by omega)
        have := ih (2 * n - 2 - par.getD i 0) (by omega) (par.getD i 0) (by omega)
        omega
  refine ⟨fun i hi => ⟨?_, ?_⟩, fun L hL => ?_⟩
  · have := hat i (by omega); omega
  · have := hle (2 * n - 2 - i) i (by omega); omega
  · have key := h8 (fun i => 2 ^ (L + 2 * n - D.getD i 0)) (fun i hi => by
      have hi2 : i < 2 * n - 2 := by unfold Picked at hi; omega
      have e := hat i hi2
      have := hle (2 * n - 2 - i) i (by omega)
      rw [e] at this ⊢
      generalize D.getD (par.getD i 0) 0 = x at *
      rw [show L + 2 * n - x = (L + 2 * n - (x + 1)) + 1 by omega, Nat.pow_succ]
      omega)
    rw [hlf, hmd, show 2 * n - 2 - n = n - 2 by omega, show n - 1 = (n - 2) + 1 by omega] at key
    simp only [sumTo] at key
    have key2 : sumTo (fun i => 2 ^ (L + 2 * n - D.getD i 0)) n = 2 ^ (L + 2 * n) := by
      have : D.getD (n + (n - 2)) 0 = 0 := by rw [show n + (n - 2) = 2 * n - 2 by omega]; exact htop
      rw [this] at key
      simp only [Nat.sub_zero] at key
      omega
    have key3 : sumTo (fun i => 2 ^ (L + 2 * n - D.getD i 0)) n = sumTo (fun i => 2 ^ (L - D.getD i 0) * 2 ^ (2 * n)) n := sumTo_congr n (fun i hi => by
      have := hL i hi
      rw [← Nat.pow_add]
      congr 1
      omega)
    rw [key3, sumTo_mul, Nat.pow_add] at key2
    exact Nat.eq_of_mul_eq_mul_right (Nat.pow_pos (by decide)) key2

end Go.Proofs.Ytoefkkgnabjmdaa
