/- The library's stable sort of things that have a cost: what it gives is in order, and what is alike stays as it was. -/
import Derived.Test.YtoefkkgnabjmdaaSortB
import Derived.Test.YtoefkkgnabjmdaaLens1
import Derived.Test.YtoefkkgnabjmdaaPlain07
set_option linter.unusedSimpArgs false
set_option linter.unusedVariables false
set_option maxRecDepth 100000
namespace Go.Proofs.Ytoefkkgnabjmdaa

def ix (p : Pe) : Int := p.syms.headD 0
/-- By the cost, then by the symbol. -/
def lex (x y : Pe) : Prop := x.cost < y.cost ∨ (x.cost = y.cost ∧ ix x < ix y)
theorem lex.trans {x y z : Pe} (h : lex x y) (k : lex y z) : lex x z := by unfold lex at *; omega
theorem lex.cost {x y : Pe} (h : lex x y) : x.cost ≤ y.cost := by unfold lex at h; omega
abbrev Srt (l : List Pe) : Prop := l.Pairwise lex
abbrev Crs (a b : List Pe) : Prop := ∀ x ∈ a, ∀ y ∈ b, ix x < ix y
theorem gt_mid (P Q : List Pe) (x : Pe) : gt (P ++ x :: Q) P.length = x := by
  simp [gt, List.getD_eq_getElem?_getD]
theorem gt_at (P Q : List Pe) (x : Pe) {i : Nat} (h : i = P.length) : gt (P ++ x :: Q) i = x := by subst h; exact gt_mid P Q x
theorem swp_mid (P M Q : List Pe) (x y : Pe) (i j : Nat) (hi : i = P.length) (hj : j = P.length + 1 + M.length) : swp (P ++ x :: (M ++ y :: Q)) i j = P ++ y :: (M ++ x :: Q) := by
  subst hi; subst hj
  have e1 : gt (P ++ x :: (M ++ y :: Q)) P.length = x := gt_mid _ _ _
  have e2 : gt (P ++ x :: (M ++ y :: Q)) (P.length + 1 + M.length) = y := by
    have : P ++ x :: (M ++ y :: Q) = (P ++ x :: M) ++ y :: Q := by simp
    rw [this]
    exact gt_at _ _ _ (by simp; omega)
  unfold swp
  rw [e1, e2, List.set_append_right _ _ (Nat.le_refl _), Nat.sub_self, List.set_cons_zero, List.set_append_right _ _ (by omega), show P.length + 1 + M.length - P.length = M.length + 1 by omega, List.set_cons_succ, List.set_append_right _ _ (Nat.le_refl _), Nat.sub_self, List.set_cons_zero]

theorem sink_ok (P : List Pe) (x : Pe) : ∀ (n : Nat) (S Q : List Pe), S.length = n → Srt S → (∀ y ∈ S, ix y < ix x) → ∃ T, sink P.length (P.length + n) (P ++ S ++ x :: Q) = P ++ T ++ Q ∧ T.Perm (S ++ [x]) ∧ Srt T
  | 0, S, Q, hn, hS, hx => by
    obtain rfl := List.length_eq_zero_iff.1 hn
    refine ⟨[x], ?_, by simp, by simp⟩
    rw [Nat.add_zero]
    have h0 : ∀ j, sink j j (P ++ [] ++ x :: Q) = P ++ [] ++ x :: Q := fun j => by
      cases j with
      | zero => rfl
      | succ j => unfold sink; rw [if_neg (by omega)]
    rw [h0]; simp
  | n + 1, S, Q, hn, hS, hx => by
    obtain ⟨S', y, rfl⟩ : ∃ S' y, S = S' ++ [y] := ⟨S.dropLast, S.getLast (by intro h; subst h; simp at hn), (List.dropLast_concat_getLast _).symm⟩
    have hl : S'.length = n := by simpa using hn
    have hS' := List.pairwise_append.1 hS
    have e1 : gt (P ++ (S' ++ [y]) ++ x :: Q) (P.length + n + 1) = x := gt_at _ _ _ (by simp; omega)
    have e2 : gt (P ++ (S' ++ [y]) ++ x :: Q) (P.length + n) = y := by
      have : P ++ (S' ++ [y]) ++ x :: Q = (P ++ S') ++ y :: (x :: Q) := by simp
      rw [this]; exact gt_at _ _ _ (by simp; omega)
    rw [show P.length + (n + 1) = (P.length + n) + 1 by omega]
    unfold sink
    by_cases hc : x.cost < y.cost
    · rw [if_pos ⟨by omega, by rw [e1, e2]; exact hc⟩, swp_comm]
      have e3 : P ++ (S' ++ [y]) ++ x :: Q = (P ++ S') ++ y :: ([] ++ x :: Q) := by simp
      rw [e3, swp_mid _ _ _ _ _ _ _ (by simp; omega) (by simp; omega)]
      obtain ⟨T, h1, h2, h3⟩ := sink_ok P x n S' (y :: Q) hl hS'.1 (fun z hz => hx z (by simp [hz]))
      refine ⟨T ++ [y], ?_, ?_, ?_⟩
      · simp only [List.nil_append]
        rw [h1]; simp
      · have := h2.append_right [y]
        refine this.trans ?_
        rw [List.append_assoc, List.append_assoc]
        exact List.Perm.append_left _ (by simpa using List.Perm.swap y x [])
      · refine List.pairwise_append.2 ⟨h3, by simp, fun z hz u hu => ?_⟩
        rw [List.mem_singleton] at hu
        subst hu
        have := h2.mem_iff.1 hz
        rcases List.mem_append.1 this with h | h
        · exact hS'.2.2 z h u (by simp)
        · rw [List.mem_singleton] at h; subst h; exact .inl hc
    · rw [if_neg (fun h => hc (by rw [e1, e2] at h; exact h.2))]
      refine ⟨S' ++ [y] ++ [x], by simp, List.Perm.refl _, ?_⟩
      refine List.pairwise_append.2 ⟨hS, by simp, fun z hz u hu => ?_⟩
      rw [List.mem_singleton] at hu
      subst hu
      have hyx : lex y u := by
        have := hx y (by simp)
        unfold lex; omega
      rcases List.mem_append.1 hz with h | h
      · exact (hS'.2.2 z h y (by simp)).trans hyx
      · rw [List.mem_singleton] at h; subst h; exact hyx
theorem insr_ok (P : List Pe) : ∀ (R S Q : List Pe), Srt S → R.Pairwise (fun x y => ix x < ix y) → Crs S R → ∃ T, insr P.length R.length (P.length + S.length) (P ++ S ++ (R ++ Q)) = P ++ T ++ Q ∧ T.Perm (S ++ R) ∧ Srt T
  | [], S, Q, hS, _, _ => ⟨S, by simp [insr], by simp, hS⟩
  | x :: R, S, Q, hS, hR, hc => by
    have hR' := List.pairwise_cons.1 hR
    obtain ⟨T, h1, h2, h3⟩ := sink_ok P x S.length S (R ++ Q) rfl hS (fun y hy => hc y hy x (by simp))
    have hlen : P.length + S.length + 1 = P.length + T.length := by rw [h2.length_eq]; simp; omega
    obtain ⟨T2, k1, k2, k3⟩ := insr_ok P R T Q h3 hR'.2 (fun u hu y hy => by
      rcases List.mem_append.1 (h2.mem_iff.1 hu) with h | h
      · exact hc u h y (by simp [hy])
      · rw [List.mem_singleton] at h; subst h; exact hR'.1 y hy)
    refine ⟨T2, ?_, ?_, k3⟩
    · simp only [List.length_cons, insr, List.cons_append]
      rw [h1, hlen]
      exact k1
    · exact k2.trans ((h2.append_right R).trans (by simp))
theorem insertion_ok (P R Q : List Pe) (hR : R.Pairwise (fun x y => ix x < ix y)) (b : Nat) (hb : b = P.length + R.length) : ∃ T, insertion (P ++ (R ++ Q)) P.length b = P ++ T ++ Q ∧ T.Perm R ∧ Srt T := by
  subst hb
  cases R with
  | nil => exact ⟨[], by simp [insertion, insr], List.Perm.refl _, List.Pairwise.nil⟩
  | cons x R =>
    have hR' := List.pairwise_cons.1 hR
    obtain ⟨T, h1, h2, h3⟩ := insr_ok P R [x] Q (by simp) hR'.2 (fun u hu y hy => by rw [List.mem_singleton] at hu; subst hu; exact hR'.1 y hy)
    refine ⟨T, ?_, h2, h3⟩
    unfold insertion
    rw [show P.length + (x :: R).length - (P.length + 1) = R.length by simp; omega]
    simpa using h1

/-! Exchange and rotation. -/
theorem swr_ok : ∀ (n : Nat) (P X M Y Q : List Pe), X.length = n → Y.length = n → swr P.length (P.length + n + M.length) n (P ++ X ++ M ++ Y ++ Q) = P ++ Y ++ M ++ X ++ Q
  | 0, P, X, M, Y, Q, hX, hY => by
    obtain rfl := List.length_eq_zero_iff.1 hX
    obtain rfl := List.length_eq_zero_iff.1 hY
    rfl
  | n + 1, P, X, M, Y, Q, hX, hY => by
    obtain ⟨X', x, rfl⟩ : ∃ X' x, X = X' ++ [x] := ⟨X.dropLast, X.getLast (by intro h; subst h; simp at hX), (List.dropLast_concat_getLast _).symm⟩
    obtain ⟨Y', y, rfl⟩ : ∃ Y' y, Y = Y' ++ [y] := ⟨Y.dropLast, Y.getLast (by intro h; subst h; simp at hY), (List.dropLast_concat_getLast _).symm⟩
    have h := swr_ok n P X' (x :: M) Y' (y :: Q) (by simpa using hX) (by simpa using hY)
    unfold swr
    have e1 : P ++ (X' ++ [x]) ++ M ++ (Y' ++ [y]) ++ Q = P ++ X' ++ (x :: M) ++ Y' ++ (y :: Q) := by simp
    rw [e1, show P.length + (n + 1) + M.length = P.length + n + (x :: M).length by simp; omega, h]
    have e2 : P ++ Y' ++ (x :: M) ++ X' ++ (y :: Q) = (P ++ Y') ++ x :: ((M ++ X') ++ y :: Q) := by simp
    have hX' : X'.length = n := by simpa using hX
    have hY' : Y'.length = n := by simpa using hY
    rw [e2, swp_mid _ _ _ _ _ _ _ (by simp; omega) (by simp; omega)]
    simp
theorem rot_ok : ∀ (k : Nat) (P A B Q : List Pe), A.length + B.length ≤ k → 1 ≤ A.length → 1 ≤ B.length → rot (P.length + A.length) A.length B.length (P ++ A ++ B ++ Q) = P ++ B ++ A ++ Q
  | 0, P, A, B, Q, hk, hA, hB => by omega
  | k + 1, P, A, B, Q, hk, hA, hB => by
    unfold rot
    have e0 : P.length + A.length - A.length = P.length := by omega
    by_cases h : A.length = B.length
    · rw [dif_pos (.inl h), e0]
      have := swr_ok A.length P A [] B Q rfl h.symm
      simpa using this
    · rw [dif_neg (by omega)]
      by_cases h2 : B.length < A.length
      · rw [if_pos h2, e0]
        obtain ⟨A1, A2, rfl, h3⟩ : ∃ A1 A2, A = A1 ++ A2 ∧ A1.length = B.length := ⟨A.take B.length, A.drop B.length, (List.take_append_drop _ _).symm, by simp; omega⟩
        have h4 := swr_ok B.length P A1 A2 B Q h3 rfl
        have e1 : P.length + (A1 ++ A2).length = P.length + B.length + A2.length := by simp; omega
        have e2 : P ++ (A1 ++ A2) ++ B ++ Q = P ++ A1 ++ A2 ++ B ++ Q := by simp
        rw [e1, e2, h4]
        have h5 := rot_ok k (P ++ B) A2 A1 Q (by simp at hk; omega) (by simp at h2; omega) (by omega)
        have e3 : (A1 ++ A2).length - B.length = A2.length := by simp; omega
        rw [e3, show P.length + B.length + A2.length = (P ++ B).length + A2.length by simp, ← h3]
        rw [h5]
        simp
      · rw [if_neg h2, e0]
        obtain ⟨B1, B2, rfl, h3⟩ : ∃ B1 B2, B = B1 ++ B2 ∧ B2.length = A.length := ⟨B.take (B.length - A.length), B.drop (B.length - A.length), (List.take_append_drop _ _).symm, by simp; omega⟩
        have h4 := swr_ok A.length P A B1 B2 Q rfl h3
        have e1 : P.length + A.length + (B1 ++ B2).length - A.length = P.length + A.length + B1.length := by simp; omega
        have e2 : P ++ A ++ (B1 ++ B2) ++ Q = P ++ A ++ B1 ++ B2 ++ Q := by simp
        rw [e1, e2, h4]
        have h5 := rot_ok k P B2 B1 (A ++ Q) (by simp at hk; omega) (by omega) (by simp at h h2; omega)
        have e3 : (B1 ++ B2).length - A.length = B1.length := by simp; omega
        have e4 : P ++ B2 ++ B1 ++ A ++ Q = P ++ B2 ++ B1 ++ (A ++ Q) := by simp
        rw [e3, e4, ← h3, h5]
        simp

/-! The searches: what stands at their end. -/
theorem bs1_fin (l : List Pe) (c : Int) : ∀ (n i j i0 j0 : Nat), j - i ≤ n → i ≤ j → i0 ≤ i → j ≤ j0 → (i = i0 ∨ (gt l (i - 1)).cost < c) → (j = j0 ∨ ¬ (gt l j).cost < c) →
    (bs1 l c i j = i0 ∨ (gt l (bs1 l c i j - 1)).cost < c) ∧ (bs1 l c i j = j0 ∨ ¬ (gt l (bs1 l c i j)).cost < c)
  | n, i, j, i0, j0, hn, hij, h0, h1, h2, h3 => by
    unfold bs1
    split
    · rename_i h
      match n, hn with
      | 0, hn => omega
      | n + 1, hn =>
        split
        · rename_i hc
          exact bs1_fin l c n _ j i0 j0 (by omega) (by omega) (by omega) h1 (.inr (by simpa using hc)) h3
        · rename_i hc
          exact bs1_fin l c n i _ i0 j0 (by omega) (by omega) h0 (by omega) h2 (.inr hc)
    · obtain rfl : i = j := by omega
      exact ⟨h2, h3⟩
theorem bs2_fin (l : List Pe) (c : Int) : ∀ (n i j i0 j0 : Nat), j - i ≤ n → i ≤ j → i0 ≤ i → j ≤ j0 → (i = i0 ∨ ¬ c < (gt l (i - 1)).cost) → (j = j0 ∨ c < (gt l j).cost) →
    (bs2 l c i j = i0 ∨ ¬ c < (gt l (bs2 l c i j - 1)).cost) ∧ (bs2 l c i j = j0 ∨ c < (gt l (bs2 l c i j)).cost)
  | n, i, j, i0, j0, hn, hij, h0, h1, h2, h3 => by
    unfold bs2
    split
    · rename_i h
      match n, hn with
      | 0, hn => omega
      | n + 1, hn =>
        split
        · rename_i hc
          exact bs2_fin l c n _ j i0 j0 (by omega) (by omega) (by omega) h1 (.inr (by simpa using hc)) h3
        · rename_i hc
          exact bs2_fin l c n i _ i0 j0 (by omega) (by omega) h0 (by omega) h2 (.inr (by simpa using hc))
    · obtain rfl : i = j := by omega
      exact ⟨h2, h3⟩
theorem bs3_fin (l : List Pe) (p : Nat) : ∀ (n i j i0 j0 : Nat), j - i ≤ n → i ≤ j → i0 ≤ i → j ≤ j0 → (i = i0 ∨ ¬ (gt l (p - (i - 1))).cost < (gt l (i - 1)).cost) → (j = j0 ∨ (gt l (p - j)).cost < (gt l j).cost) →
    (bs3 l p i j = i0 ∨ ¬ (gt l (p - (bs3 l p i j - 1))).cost < (gt l (bs3 l p i j - 1)).cost) ∧ (bs3 l p i j = j0 ∨ (gt l (p - bs3 l p i j)).cost < (gt l (bs3 l p i j)).cost)
  | n, i, j, i0, j0, hn, hij, h0, h1, h2, h3 => by
    unfold bs3
    split
    · rename_i h
      match n, hn with
      | 0, hn => omega
      | n + 1, hn =>
        split
        · rename_i hc
          exact bs3_fin l p n _ j i0 j0 (by omega) (by omega) (by omega) h1 (.inr (by simpa using hc)) h3
        · rename_i hc
          exact bs3_fin l p n i _ i0 j0 (by omega) (by omega) h0 (by omega) h2 (.inr (by simpa using hc))
    · obtain rfl : i = j := by omega
      exact ⟨h2, h3⟩

theorem mvUp_ok : ∀ (n : Nat) (P Y Q : List Pe) (x : Pe), Y.length = n → mvUp P.length n (P ++ x :: (Y ++ Q)) = P ++ Y ++ x :: Q
  | 0, P, Y, Q, x, h => by obtain rfl := List.length_eq_zero_iff.1 h; simp [mvUp]
  | n + 1, P, Y, Q, x, h => by
    obtain ⟨Y', y, rfl⟩ : ∃ Y' y, Y = Y' ++ [y] := ⟨Y.dropLast, Y.getLast (by intro h'; subst h'; simp at h), (List.dropLast_concat_getLast _).symm⟩
    have h' : Y'.length = n := by simpa using h
    have ih := mvUp_ok n P Y' (y :: Q) x h'
    unfold mvUp
    have e1 : P ++ x :: (Y' ++ [y] ++ Q) = P ++ x :: (Y' ++ y :: Q) := by simp
    rw [e1, ih]
    have e2 : P ++ Y' ++ x :: (y :: Q) = (P ++ Y') ++ x :: ([] ++ y :: Q) := by simp
    rw [e2, swp_mid _ _ _ _ _ _ _ (by simp; omega) (by simp; omega)]
    simp
theorem mvDn_ok : ∀ (n : Nat) (P X Q : List Pe) (y : Pe), X.length = n → mvDn (P.length + n) n (P ++ X ++ y :: Q) = P ++ y :: (X ++ Q)
  | 0, P, X, Q, y, h => by obtain rfl := List.length_eq_zero_iff.1 h; simp [mvDn]
  | n + 1, P, X, Q, y, h => by
    match X, h with
    | x :: X', h =>
    have h' : X'.length = n := by simpa using h
    have ih := mvDn_ok n (P ++ [x]) X' Q y h'
    unfold mvDn
    have e1 : P ++ x :: X' ++ y :: Q = P ++ [x] ++ X' ++ y :: Q := by simp
    have e2 : P.length + (n + 1) = (P ++ [x]).length + n := by simp; omega
    rw [e1, e2, ih, swp_comm]
    have e3 : P ++ [x] ++ y :: (X' ++ Q) = P ++ x :: ([] ++ y :: (X' ++ Q)) := by simp
    rw [e3, swp_mid _ _ _ _ _ _ _ (by simp) (by simp)]
    simp

theorem split_at {l : List Pe} {k : Nat} (h : k ≤ l.length) : ∃ a b, l = a ++ b ∧ a.length = k := ⟨l.take k, l.drop k, (List.take_append_drop _ _).symm, by simp; omega⟩
theorem gt_split (P a Q : List Pe) (x : Pe) (i : Nat) (h : i = P.length + a.length) : gt (P ++ (a ++ x :: Q)) i = x := by
  rw [← List.append_assoc]; exact gt_at _ _ _ (by simp; omega)
theorem snoc_of {l : List Pe} (h : l ≠ []) : ∃ a x, l = a ++ [x] := ⟨l.dropLast, l.getLast h, (List.dropLast_concat_getLast h).symm⟩
theorem srt_last {a : List Pe} {x : Pe} (h : Srt (a ++ [x])) : ∀ z ∈ a ++ [x], z.cost ≤ x.cost := by
  intro z hz
  rcases List.mem_append.1 hz with h1 | h1
  · exact ((List.pairwise_append.1 h).2.2 z h1 x (by simp)).cost
  · rw [List.mem_singleton] at h1; subst h1; exact Int.le_refl _
theorem srt_first {a : List Pe} {x : Pe} (h : Srt (x :: a)) : ∀ z ∈ x :: a, x.cost ≤ z.cost := by
  intro z hz
  rcases List.mem_cons.1 hz with rfl | h1
  · exact Int.le_refl _
  · exact ((List.pairwise_cons.1 h).1 z h1).cost
theorem crs_lex {a b : List Pe} (hc : Crs a b) (h : ∀ x ∈ a, ∀ y ∈ b, x.cost ≤ y.cost) : ∀ x ∈ a, ∀ y ∈ b, lex x y := fun x hx y hy => by
  have h1 := hc x hx y hy
  have h2 := h x hx y hy
  unfold lex; omega
/-- Where the great search ends. -/
theorem symStart_ok (l : List Pe) (a m b : Nat) (h1 : a < m) (h2 : m < b) : a ≤ symStart l a m b ∧ symStart l a m b ≤ m ∧ m ≤ symEnd l a m b ∧ symEnd l a m b ≤ b ∧ symStart l a m b + symEnd l a m b = (a + b) / 2 + m ∧ symStart l a m b ≤ (a + b) / 2 ∧ (a + b) / 2 ≤ symEnd l a m b ∧
    (symStart l a m b = a ∨ symEnd l a m b = b ∨ ¬ (gt l (symEnd l a m b)).cost < (gt l (symStart l a m b - 1)).cost) ∧ (symStart l a m b = m ∨ symEnd l a m b = m ∨ (gt l (symEnd l a m b - 1)).cost < (gt l (symStart l a m b)).cost) := by
  have hb := bs3_bd l ((a + b) / 2 + m - 1) (symTo a m b - symFrom a m b) (symFrom a m b) (symTo a m b) (Nat.le_refl _) (by unfold symFrom symTo; split <;> omega)
  have he := bs3_fin l ((a + b) / 2 + m - 1) (symTo a m b - symFrom a m b) (symFrom a m b) (symTo a m b) (symFrom a m b) (symTo a m b) (Nat.le_refl _) (by unfold symFrom symTo; split <;> omega) (Nat.le_refl _) (Nat.le_refl _) (.inl rfl) (.inl rfl)
  have hs : bs3 l ((a + b) / 2 + m - 1) (symFrom a m b) (symTo a m b) = symStart l a m b := rfl
  rw [hs] at hb he
  have hE : symEnd l a m b = (a + b) / 2 + m - symStart l a m b := rfl
  generalize symEnd l a m b = e at *
  generalize symStart l a m b = s at *
  have hft : (symFrom a m b = a ∨ symFrom a m b + b = (a + b) / 2 + m) ∧ (symTo a m b = m ∨ symTo a m b = (a + b) / 2) ∧ a ≤ symFrom a m b ∧ (a + b) / 2 + m ≤ symFrom a m b + b ∧ symTo a m b ≤ m ∧ symTo a m b ≤ (a + b) / 2 := by
    unfold symFrom symTo
    split <;> omega
  generalize symFrom a m b = lo at *
  generalize symTo a m b = hi at *
  refine ⟨by omega, by omega, by omega, by omega, by omega, by omega, by omega, ?_, ?_⟩
  · rcases he.1 with h | h
    · rcases hft.1 with h3 | h3
      · exact .inl (by omega)
      · exact .inr (.inl (by omega))
    · by_cases h0 : s = a
      · exact .inl h0
      · refine .inr (.inr ?_)
        rwa [show (a + b) / 2 + m - 1 - (s - 1) = e by omega] at h
  · rcases he.2 with h | h
    · rcases hft.2.1 with h3 | h3
      · exact .inl (by omega)
      · exact .inr (.inl (by omega))
    · refine .inr (.inr ?_)
      rwa [show (a + b) / 2 + m - 1 - s = e - 1 by omega] at h
theorem symM_ok : ∀ (f : Nat) (P X Y Q : List Pe), X.length + Y.length ≤ f → 1 ≤ X.length → 1 ≤ Y.length → Srt X → Srt Y → Crs X Y →
    ∃ T, symM f (P ++ (X ++ (Y ++ Q))) P.length (P.length + X.length) (P.length + X.length + Y.length) = P ++ (T ++ Q) ∧ T.Perm (X ++ Y) ∧ Srt T
  | 0, P, X, Y, Q, hf, hX, hY, _, _, _ => by omega
  | f + 1, P, X, Y, Q, hf, hX, hY, sX, sY, hc => by
    unfold symM
    by_cases h1 : P.length + X.length - P.length = 1
    · rw [if_pos h1]
      obtain ⟨x, rfl⟩ : ∃ x, X = [x] := List.length_eq_one_iff.1 (by omega)
      have e1 : gt (P ++ ([x] ++ (Y ++ Q))) P.length = x := gt_mid _ _ _
      rw [e1]
      have hb := bs1_bd (P ++ ([x] ++ (Y ++ Q))) x.cost (Y.length) (P.length + 1) (P.length + 1 + Y.length) (by omega) (by omega)
      have he := bs1_fin (P ++ ([x] ++ (Y ++ Q))) x.cost (Y.length) (P.length + 1) (P.length + 1 + Y.length) (P.length + 1) (P.length + 1 + Y.length) (by omega) (by omega) (by omega) (by omega) (.inl rfl) (.inl rfl)
      simp only [List.length_singleton] at hb he ⊢
      generalize bs1 (P ++ ([x] ++ (Y ++ Q))) x.cost (P.length + 1) (P.length + 1 + Y.length) = i at *
      obtain ⟨Y1, Y2, rfl, hy1⟩ := split_at (l := Y) (k := i - 1 - P.length) (by omega)
      have hm := mvUp_ok (i - 1 - P.length) P Y1 (Y2 ++ Q) x hy1
      have e2 : P ++ ([x] ++ (Y1 ++ Y2 ++ Q)) = P ++ x :: (Y1 ++ (Y2 ++ Q)) := by simp
      rw [e2] at he ⊢
      rw [hm]
      have sY' := List.pairwise_append.1 sY
      refine ⟨Y1 ++ x :: Y2, by simp, ?_, ?_⟩
      · exact List.perm_middle.trans (by simp)
      · have c1 : ∀ z ∈ Y1, lex z x := by
          intro z hz
          obtain ⟨a, u, rfl⟩ := snoc_of (List.ne_nil_of_mem hz)
          have hlast := srt_last sY'.1 z hz
          rcases he.1 with h | h
          · simp at hy1; omega
          · have e3 : P ++ x :: (a ++ [u] ++ (Y2 ++ Q)) = P ++ ((x :: a) ++ u :: (Y2 ++ Q)) := by simp
            rw [e3, gt_split _ _ _ _ _ (by simp at hy1 ⊢; omega)] at h
            exact .inl (by omega)
        have c2 : ∀ z ∈ Y2, lex x z := by
          intro z hz
          have hcx : ix x < ix z := hc x (by simp) z (by simp [hz])
          match Y2, hz with
          | u :: Y2', hz =>
            have hfirst := srt_first sY'.2.1 z hz
            rcases he.2 with h | h
            · simp at h hy1 hb; omega
            · have e3 : P ++ x :: (Y1 ++ (u :: Y2' ++ Q)) = P ++ ((x :: Y1) ++ u :: (Y2' ++ Q)) := by simp
              rw [e3, gt_split _ _ _ _ _ (by simp; omega)] at h
              unfold lex; omega
        refine List.pairwise_append.2 ⟨sY'.1, List.pairwise_cons.2 ⟨c2, sY'.2.1⟩, fun z hz u hu => ?_⟩
        rcases List.mem_cons.1 hu with rfl | hu
        · exact c1 z hz
        · exact sY'.2.2 z hz u hu
    · rw [if_neg h1]
      by_cases h2 : P.length + X.length + Y.length - (P.length + X.length) = 1
      · rw [if_pos h2]
        obtain ⟨y, rfl⟩ : ∃ y, Y = [y] := List.length_eq_one_iff.1 (by omega)
        have e1 : gt (P ++ (X ++ ([y] ++ Q))) (P.length + X.length) = y := gt_split _ _ _ _ _ rfl
        rw [e1]
        have hb := bs2_bd (P ++ (X ++ ([y] ++ Q))) y.cost (X.length) P.length (P.length + X.length) (by omega) (by omega)
        have he := bs2_fin (P ++ (X ++ ([y] ++ Q))) y.cost (X.length) P.length (P.length + X.length) P.length (P.length + X.length) (by omega) (by omega) (by omega) (by omega) (.inl rfl) (.inl rfl)
        generalize bs2 (P ++ (X ++ ([y] ++ Q))) y.cost P.length (P.length + X.length) = i at *
        obtain ⟨X1, X2, rfl, hx1⟩ := split_at (l := X) (k := i - P.length) (by omega)
        have hm := mvDn_ok X2.length (P ++ X1) X2 Q y rfl
        have e2 : P ++ (X1 ++ X2 ++ ([y] ++ Q)) = P ++ X1 ++ X2 ++ y :: Q := by simp
        have e4 : P.length + (X1 ++ X2).length = (P ++ X1).length + X2.length := by simp; omega
        have e5 : P.length + (X1 ++ X2).length - i = X2.length := by simp; omega
        rw [e5, e4, e2, hm]
        rw [e2] at he
        have sX' := List.pairwise_append.1 sX
        refine ⟨X1 ++ y :: X2, by simp, ?_, ?_⟩
        · rw [List.append_assoc]
          exact List.Perm.append_left _ (by simpa using (List.perm_append_singleton y X2).symm)
        · have c1 : ∀ z ∈ X1, lex z y := by
            intro z hz
            have hcz := hc z (by simp [hz]) y (by simp)
            obtain ⟨a, u, rfl⟩ := snoc_of (List.ne_nil_of_mem hz)
            have hlast := srt_last sX'.1 z hz
            rcases he.1 with h | h
            · simp at hx1 h; omega
            · have e3 : P ++ (a ++ [u]) ++ X2 ++ y :: Q = P ++ (a ++ u :: (X2 ++ y :: Q)) := by simp
              rw [e3, gt_split _ _ _ _ _ (by simp at hx1 ⊢; omega)] at h
              unfold lex; omega
          have c2 : ∀ z ∈ X2, lex y z := by
            intro z hz
            match X2, hz with
            | u :: X2', hz =>
              have hfirst := srt_first sX'.2.1 z hz
              rcases he.2 with h | h
              · simp at h hx1 hb; omega
              · have e3 : P ++ X1 ++ (u :: X2') ++ y :: Q = P ++ (X1 ++ u :: (X2' ++ y :: Q)) := by simp
                rw [e3, gt_split _ _ _ _ _ (by omega)] at h
                exact .inl (by omega)
          refine List.pairwise_append.2 ⟨sX'.1, List.pairwise_cons.2 ⟨c2, sX'.2.1⟩, fun z hz u hu => ?_⟩
          rcases List.mem_cons.1 hu with rfl | hu
          · exact c1 z hz
          · exact sX'.2.2 z hz u hu
      · rw [if_neg h2]
        simp only
        generalize hl : P ++ (X ++ (Y ++ Q)) = l
        have hstart := symStart_ok l P.length (P.length + X.length) (P.length + X.length + Y.length) (by omega) (by omega)
        have hrot : symRot l P.length (P.length + X.length) (P.length + X.length + Y.length) = if symStart l P.length (P.length + X.length) (P.length + X.length + Y.length) < P.length + X.length ∧ P.length + X.length < symEnd l P.length (P.length + X.length) (P.length + X.length + Y.length) then rot (P.length + X.length) (P.length + X.length - symStart l P.length (P.length + X.length) (P.length + X.length + Y.length)) (symEnd l P.length (P.length + X.length) (P.length + X.length + Y.length) - (P.length + X.length)) l else l := rfl
        generalize symRot l P.length (P.length + X.length) (P.length + X.length + Y.length) = l1 at *
        generalize symStart l P.length (P.length + X.length) (P.length + X.length + Y.length) = s at *
        generalize symEnd l P.length (P.length + X.length) (P.length + X.length + Y.length) = e at *
        generalize hmid : (P.length + (P.length + X.length + Y.length)) / 2 = mid at *
        obtain ⟨g1, g2, g3, g4, g5, g6, g7, g8, g9⟩ := hstart
        obtain ⟨X1, X2, rfl, hx1⟩ := split_at (l := X) (k := s - P.length) (by omega)
        obtain ⟨Y1, Y2, rfl, hy1⟩ := split_at (l := Y) (k := e - (P.length + (X1 ++ X2).length)) (by omega)
        have sX' := List.pairwise_append.1 sX
        have sY' := List.pairwise_append.1 sY
        have hl1 : l1 = P ++ (X1 ++ (Y1 ++ (X2 ++ (Y2 ++ Q)))) := by
          rw [hrot]
          split
          · rename_i hh
            have h3 := rot_ok (X2.length + Y1.length) (P ++ X1) X2 Y1 (Y2 ++ Q) (by omega) (by simp at hh hx1 ⊢; omega) (by simp at hh hy1 ⊢; omega)
            have e1 : P.length + (X1 ++ X2).length = (P ++ X1).length + X2.length := by simp; omega
            have e2 : P.length + (X1 ++ X2).length - s = X2.length := by simp; omega
            rw [e2, ← hy1, e1, ← hl]
            have e3 : P ++ (X1 ++ X2 ++ (Y1 ++ Y2 ++ Q)) = P ++ X1 ++ X2 ++ Y1 ++ (Y2 ++ Q) := by simp
            rw [e3, h3]
            simp
          · rename_i hh
            rw [← hl]
            by_cases hc0 : s < P.length + (X1 ++ X2).length
            · have : Y1 = [] := List.length_eq_zero_iff.1 (by omega)
              subst this; simp
            · have : X2 = [] := List.length_eq_zero_iff.1 (by simp at hc0; omega)
              subst this; simp
        -- each half
        have half : ∀ (P' A B R : List Pe) (a m b : Nat) (L : List Pe), L = P' ++ (A ++ (B ++ R)) → a = P'.length → m = P'.length + A.length → b = P'.length + A.length + B.length → A.length + B.length ≤ f → Srt A → Srt B → Crs A B →
            ∃ T, (if a < m ∧ m < b then symM f L a m b else L) = P' ++ (T ++ R) ∧ T.Perm (A ++ B) ∧ Srt T := by
          intro P' A B R a m b L hL ha hm hb hAB sA sB cAB
          subst hL; subst ha; subst hm; subst hb
          split
          · rename_i hh
            exact symM_ok f P' A B R hAB (by omega) (by omega) sA sB cAB
          · rename_i hh
            refine ⟨A ++ B, by simp, List.Perm.refl _, ?_⟩
            rcases Nat.eq_zero_or_pos A.length with h0 | h0
            · obtain rfl := List.length_eq_zero_iff.1 h0; simpa using sB
            · obtain rfl := List.length_eq_zero_iff.1 (show B.length = 0 by omega); simpa using sA
        have hlens : X1.length + Y1.length = mid - P.length ∧ X2.length + Y2.length = (P.length + (X1 ++ X2).length + (Y1 ++ Y2).length) - mid ∧ mid = P.length + X1.length + Y1.length ∧ e = mid + X2.length ∧ s = P.length + X1.length := by
          simp at hx1 hy1 g1 g2 g3 g4 g5 hf ⊢; omega
        obtain ⟨k1, k2, k3, k4, k5⟩ := hlens
        obtain ⟨T1, t1, t2, t3⟩ := half P X1 Y1 (X2 ++ (Y2 ++ Q)) P.length s mid l1 hl1 rfl k5 k3 (by simp at hf h1 h2 hX hY; omega) sX'.1 sY'.1 (fun x hx y hy => hc x (by simp [hx]) y (by simp [hy]))
        rw [t1]
        obtain ⟨T2, u1, u2, u3⟩ := half (P ++ T1) X2 Y2 Q mid e (P.length + (X1 ++ X2).length + (Y1 ++ Y2).length) (P ++ (T1 ++ (X2 ++ (Y2 ++ Q)))) (by simp) (by simp [t2.length_eq]; omega) (by simp [t2.length_eq]; omega) (by simp [t2.length_eq]; omega) (by simp at hf h1 h2 hX hY; omega) sX'.2.1 sY'.2.1 (fun x hx y hy => hc x (by simp [hx]) y (by simp [hy]))
        rw [u1]
        refine ⟨T1 ++ T2, by simp, ?_, ?_⟩
        · refine (t2.append u2).trans ?_
          simp only [List.append_assoc]
          refine List.Perm.append_left _ ?_
          rw [← List.append_assoc, ← List.append_assoc]
          exact List.Perm.append_right _ List.perm_append_comm
        · refine List.pairwise_append.2 ⟨t3, u3, fun z hz u hu => ?_⟩
          have hz' := t2.mem_iff.1 hz
          have hu' := u2.mem_iff.1 hu
          rcases List.mem_append.1 hz' with hz1 | hz1 <;> rcases List.mem_append.1 hu' with hu1 | hu1
          · exact sX'.2.2 z hz1 u hu1
          · -- the left of the left, the right of the right
            have hidx := hc z (by simp [hz1]) u (by simp [hu1])
            obtain ⟨a, v, rfl⟩ := snoc_of (List.ne_nil_of_mem hz1)
            match Y2, hu1 with
            | w :: Y2', hu1 =>
              have c1 := srt_last sX'.1 z hz1
              have c2 := srt_first sY'.2.1 u hu1
              rcases g8 with h | h | h
              · simp at k5; omega
              · simp at h k4 k3 g4; omega
              · have e1 : l = P ++ ((a ++ [v] ++ X2 ++ Y1) ++ w :: (Y2' ++ Q)) := by rw [← hl]; simp
                have e2 : l = P ++ (a ++ v :: (X2 ++ (Y1 ++ (w :: Y2' ++ Q)))) := by rw [← hl]; simp
                have q1 : gt l e = w := by rw [e1]; exact gt_split _ _ _ _ _ (by simp at k3 k4 ⊢; omega)
                have q2 : gt l (s - 1) = v := by rw [e2]; exact gt_split _ _ _ _ _ (by simp at k5; omega)
                rw [q1, q2] at h
                unfold lex; omega
          · -- the right's left, the left's right
            obtain ⟨a, v, rfl⟩ := snoc_of (List.ne_nil_of_mem hz1)
            match X2, hu1 with
            | w :: X2', hu1 =>
              have c1 := srt_last sY'.1 z hz1
              have c2 := srt_first sX'.2.1 u hu1
              rcases g9 with h | h | h
              · simp at h k5; omega
              · simp at h k4 k3; omega
              · have e1 : l = P ++ (X1 ++ w :: (X2' ++ (a ++ [v] ++ Y2 ++ Q))) := by rw [← hl]; simp
                have e2 : l = P ++ ((X1 ++ (w :: X2') ++ a) ++ v :: (Y2 ++ Q)) := by rw [← hl]; simp
                have q1 : gt l s = w := by rw [e1]; exact gt_split _ _ _ _ _ k5
                have q2 : gt l (e - 1) = v := by rw [e2]; exact gt_split _ _ _ _ _ (by simp at k3 k4 ⊢; omega)
                rw [q1, q2] at h
                exact .inl (by omega)
          · exact sY'.2.2 z hz1 u hu1


/-! All of it. -/
abbrev Inc (l : List Pe) : Prop := l.Pairwise (fun x y => ix x < ix y)
/-- Rows of so many, each in order, one behind the other. -/
inductive Chunks (k : Nat) : List Pe → Prop
  | last (S : List Pe) : S.length ≤ k → Srt S → Chunks k S
  | cons (S R : List Pe) : S.length = k → Srt S → Crs S R → Chunks k R → Chunks k (S ++ R)
theorem Chunks.short {k : Nat} {l : List Pe} (h : Chunks k l) (hl : l.length ≤ k) : Srt l := by
  cases h with
  | last _ _ h => exact h
  | cons S R h1 h2 h3 h4 =>
    have : R = [] := List.length_eq_zero_iff.1 (by simp at hl; omega)
    subst this
    simpa using h2
theorem Chunks.cut {k : Nat} {l : List Pe} (h : Chunks k l) (hl : k < l.length) : ∃ S R, l = S ++ R ∧ S.length = k ∧ Srt S ∧ Crs S R ∧ Chunks k R := by
  cases h with
  | last _ h _ => omega
  | cons S R h1 h2 h3 h4 => exact ⟨S, R, rfl, h1, h2, h3, h4⟩
/-- A whole row is there. -/
theorem Chunks.head {k : Nat} {l : List Pe} (h : Chunks k l) (hl : k ≤ l.length) : ∃ S R, l = S ++ R ∧ S.length = k ∧ Srt S ∧ Crs S R ∧ Chunks k R := by
  by_cases he : l.length = k
  · exact ⟨l, [], by simp, he, h.short (by omega), fun x _ y hy => by simp at hy, .last [] (by simp) List.Pairwise.nil⟩
  · exact h.cut (by omega)
theorem perm_crs {a b a' b' : List Pe} (h : Crs a b) (ha : a'.Perm a) (hb : b'.Perm b) : Crs a' b' := fun x hx y hy => h x (ha.mem_iff.1 hx) y (hb.mem_iff.1 hy)
theorem rows20_ok : ∀ (f : Nat) (P R : List Pe), R.length < f → Inc R → ∃ T, rows20 (P.length + R.length) f P.length (P ++ R) = P ++ T ∧ T.Perm R ∧ Chunks 20 T
  | 0, P, R, hf, _ => by omega
  | f + 1, P, R, hf, hi => by
    unfold rows20
    split
    · rename_i h
      obtain ⟨R1, R2, rfl, h1⟩ := split_at (l := R) (k := 20) (by omega)
      have hi' := List.pairwise_append.1 hi
      obtain ⟨T1, t1, t2, t3⟩ := insertion_ok P R1 R2 hi'.1 (P.length + 20) (by omega)
      have e1 : P ++ (R1 ++ R2) = P ++ (R1 ++ R2) := rfl
      rw [t1]
      have hlen : P.length + 20 = (P ++ T1).length := by simp [t2.length_eq]; omega
      have hn : P.length + (R1 ++ R2).length = (P ++ T1).length + R2.length := by simp [t2.length_eq]; omega
      rw [hlen, hn]
      obtain ⟨T2, u1, u2, u3⟩ := rows20_ok f (P ++ T1) R2 (by simp at hf; omega) hi'.2.1
      refine ⟨T1 ++ T2, by rw [u1]; simp, t2.append u2, .cons T1 T2 (by rw [t2.length_eq, h1]) t3 (perm_crs (fun x hx y hy => hi'.2.2 x hx y hy) t2 u2) u3⟩
    · rename_i h
      obtain ⟨T, t1, t2, t3⟩ := insertion_ok P R [] hi (P.length + R.length) rfl
      refine ⟨T, by simpa using t1, t2, .last T (by rw [t2.length_eq]; omega) t3⟩
theorem mergeRow_ok (k : Nat) (hk : 1 ≤ k) : ∀ (f : Nat) (P R : List Pe), R.length < f → Chunks k R → ∃ T, mergeRow (P.length + R.length) k f P.length (P ++ R) = P ++ T ∧ T.Perm R ∧ Chunks (2 * k) T
  | 0, P, R, hf, _ => by omega
  | f + 1, P, R, hf, hc => by
    unfold mergeRow
    split
    · rename_i h
      obtain ⟨S, R1, rfl, s1, s2, s3, s4⟩ := hc.head (by omega)
      obtain ⟨S2, R2, rfl, q1, q2, q3, q4⟩ := s4.head (by simp at h; omega)
      have hm := symM_ok (2 * k) P S S2 R2 (by omega) (by omega) (by omega) s2 q2 (fun x hx y hy => s3 x hx y (by simp [hy]))
      obtain ⟨T1, t1, t2, t3⟩ := hm
      have e1 : symMerge (P ++ (S ++ (S2 ++ R2))) P.length (P.length + k) (P.length + 2 * k) = P ++ (T1 ++ R2) := by
        unfold symMerge
        rw [show P.length + 2 * k - P.length = 2 * k by omega]
        have e : P.length + 2 * k = P.length + S.length + S2.length := by omega
        rw [e, ← s1]
        rw [← s1] at t1
        exact t1
      rw [e1]
      have hlen : P.length + 2 * k = (P ++ T1).length := by simp [t2.length_eq]; omega
      have hn : P.length + (S ++ (S2 ++ R2)).length = (P ++ T1).length + R2.length := by simp [t2.length_eq]; omega
      rw [hlen, hn, ← List.append_assoc]
      obtain ⟨T2, u1, u2, u3⟩ := mergeRow_ok k hk f (P ++ T1) R2 (by simp at hf; omega) q4
      refine ⟨T1 ++ T2, by rw [u1]; simp, ?_, .cons T1 T2 (by rw [t2.length_eq]; simp; omega) t3 ?_ u3⟩
      · rw [← List.append_assoc]; exact t2.append u2
      · refine perm_crs (fun x hx y hy => ?_) t2 u2
        rcases List.mem_append.1 hx with hx | hx
        · exact s3 x hx y (by simp [hy])
        · exact q3 x hx y hy
    · rename_i h
      split
      · rename_i h2
        obtain ⟨S, R1, rfl, s1, s2, s3, s4⟩ := hc.head (by omega)
        have s5 := s4.short (by simp at h; omega)
        obtain ⟨T1, t1, t2, t3⟩ := symM_ok (S.length + R1.length) P S R1 [] (by omega) (by omega) (by simp at h2; omega) s2 s5 s3
        refine ⟨T1, ?_, t2, .last T1 (by rw [t2.length_eq]; simp at h ⊢; omega) t3⟩
        unfold symMerge
        have e : P.length + (S ++ R1).length = P.length + S.length + R1.length := by simp; omega
        rw [e, show P.length + S.length + R1.length - P.length = S.length + R1.length by omega]
        rw [← s1]
        simpa using t1
      · rename_i h2
        exact ⟨R, rfl, List.Perm.refl _, .last R (by omega) (hc.short (by omega))⟩
theorem mergeAll_ok : ∀ (f k : Nat) (l : List Pe), 1 ≤ k → l.length ≤ k + f → Chunks k l → (mergeAll l.length f k l).Perm l ∧ Srt (mergeAll l.length f k l)
  | 0, k, l, hk, hf, hc => ⟨List.Perm.refl _, hc.short (by omega)⟩
  | f + 1, k, l, hk, hf, hc => by
    unfold mergeAll
    split
    · obtain ⟨T, t1, t2, t3⟩ := mergeRow_ok k hk (l.length + 1) [] l (by omega) hc
      have t1' : mergeRow l.length k (l.length + 1) 0 l = T := by simpa using t1
      rw [t1', ← t2.length_eq]
      have := mergeAll_ok f (2 * k) T (by omega) (by rw [t2.length_eq]; omega) t3
      exact ⟨this.1.trans t2, this.2⟩
    · exact ⟨List.Perm.refl _, hc.short (by omega)⟩
/-- The stable sort. -/
theorem stableL_ok (l : List Pe) (h : Inc l) : (stableL l).Perm l ∧ Srt (stableL l) := by
  obtain ⟨T, t1, t2, t3⟩ := rows20_ok (l.length + 1) [] l (by omega) h
  have t1' : rows20 l.length (l.length + 1) 0 l = T := by simpa using t1
  unfold stableL
  rw [t1', ← t2.length_eq]
  have := mergeAll_ok (T.length + 1) 20 T (by omega) (by omega) t3
  exact ⟨this.1.trans t2, this.2⟩

/-! The same by insertion. -/
def insK (x : Coin) : List Coin → List Coin
  | [] => [x]
  | y :: r => if y.1 < x.1 then y :: insK x r else x :: y :: r
def sortK : List Coin → List Coin
  | [] => []
  | x :: l => insK x (sortK l)
def lexK (x y : Coin) : Prop := x.1 < y.1 ∨ (x.1 = y.1 ∧ x.2.headD 0 < y.2.headD 0)
theorem insK_perm (x : Coin) : ∀ l, (insK x l).Perm (x :: l)
  | [] => List.Perm.refl _
  | y :: r => by
    unfold insK
    split
    · exact ((insK_perm x r).cons y).trans (List.Perm.swap x y r)
    · exact List.Perm.refl _
theorem sortK_perm : ∀ l, (sortK l).Perm l
  | [] => List.Perm.refl _
  | x :: l => (insK_perm x _).trans ((sortK_perm l).cons x)
theorem insK_srt (x : Coin) : ∀ l : List Coin, l.Pairwise lexK → (∀ y ∈ l, x.2.headD 0 < y.2.headD 0) → (insK x l).Pairwise lexK
  | [], _, _ => by simp [insK]
  | y :: r, h, hx => by
    have h' := List.pairwise_cons.1 h
    unfold insK
    split
    · rename_i hc
      refine List.pairwise_cons.2 ⟨fun z hz => ?_, insK_srt x r h'.2 (fun y hy => hx y (by simp [hy]))⟩
      rcases List.mem_cons.1 ((insK_perm x r).mem_iff.1 hz) with rfl | hz
      · exact .inl hc
      · exact h'.1 z hz
    · rename_i hc
      refine List.pairwise_cons.2 ⟨fun z hz => ?_, h⟩
      have h1 := hx z hz
      have : y.1 ≤ z.1 := by
        rcases List.mem_cons.1 hz with rfl | hz
        · exact Int.le_refl _
        · have := h'.1 z hz; unfold lexK at this; omega
      unfold lexK; omega
theorem sortK_srt : ∀ l : List Coin, l.Pairwise (fun x y => x.2.headD 0 < y.2.headD 0) → (sortK l).Pairwise lexK
  | [], _ => List.Pairwise.nil
  | x :: l, h => by
    have h' := List.pairwise_cons.1 h
    exact insK_srt x _ (sortK_srt l h'.2) (fun y hy => h'.1 y ((sortK_perm l).mem_iff.1 hy))
theorem srt_unique : ∀ (a b : List Coin), a.Pairwise lexK → b.Pairwise lexK → a.Perm b → a = b
  | [], b, _, _, h => h.nil_eq
  | x :: a, [], _, _, h => by have := h.length_eq; simp at this
  | x :: a, y :: b, ha, hb, h => by
    have ha' := List.pairwise_cons.1 ha
    have hb' := List.pairwise_cons.1 hb
    have hxy : x = y := by
      have h1 := h.mem_iff.1 (List.mem_cons_self : x ∈ x :: a)
      have h2 := h.mem_iff.2 (List.mem_cons_self : y ∈ y :: b)
      rcases List.mem_cons.1 h1 with e | h1
      · exact e
      · rcases List.mem_cons.1 h2 with e | h2
        · exact e.symm
        · have k1 := hb'.1 x h1
          have k2 := ha'.1 y h2
          unfold lexK at k1 k2
          omega
    subst hxy
    rw [srt_unique a b ha'.2 hb'.2 (List.Perm.cons_inv h)]
/-- Of coins the stable sort gives the same as insertion. -/
theorem stable_keys (l : List Pe) (h : (l.map Pe.key).Pairwise (fun x y => x.2.headD 0 < y.2.headD 0)) : (stableL l).map Pe.key = sortK (l.map Pe.key) := by
  have hi : Inc l := by
    have := List.pairwise_map.1 h
    exact this
  obtain ⟨h1, h2⟩ := stableL_ok l hi
  refine srt_unique _ _ ?_ (sortK_srt _ h) ((h1.map Pe.key).trans (sortK_perm _).symm)
  exact List.pairwise_map.2 h2
theorem coinKeys_inc : ∀ (s : Nat) (f : List Int), (coinKeys s f).Pairwise (fun x y => x.2.headD 0 < y.2.headD 0)
  | s, [] => List.Pairwise.nil
  | s, f :: l => by
    unfold coinKeys
    split
    · refine List.pairwise_cons.2 ⟨fun y hy => ?_, coinKeys_inc (s + 1) l⟩
      obtain ⟨i, _, rfl⟩ := coinKeys_mem (s + 1) l y hy
      simp only [List.headD_cons]
      omega
    · exact coinKeys_inc (s + 1) l

end Go.Proofs.Ytoefkkgnabjmdaa
