/- Chapter 26 (best): how many wait at most: the plain part. -/
import Derived.Test.YtndkgjoaljcijaaBsEnd
set_option linter.unusedSimpArgs false
set_option linter.unusedVariables false
namespace Go.Proofs.Ytndkgjoaljcijaa

/-- How many can come of one that waits with n bytes left: (of n, one more than of n - 1, the sum of those behind a copy). -/
def bT : Nat → Nat × Nat × Nat
  | 0 => (1, 0, 0)
  | n + 1 => (1 + ((bT n).1 + 1) + 28 * ((bT n).2.2 + (bT n).2.1), (bT n).1 + 1, (bT n).2.2 + (bT n).2.1)
def bB (n : Nat) : Nat := (bT n).1
def bS (n : Nat) : Nat := (bT n).2.2
theorem bB_succ (n : Nat) : bB (n + 1) = 1 + (bB n + 1) + 28 * bS (n + 1) := rfl
theorem bS_succ (n : Nat) : bS (n + 2) = bS (n + 1) + (bB n + 1) := rfl
theorem bB_pos : ∀ n, 1 ≤ bB n
  | 0 => Nat.le_refl _
  | n + 1 => by rw [bB_succ]; omega
theorem bB_mono (n : Nat) : bB n ≤ bB (n + 1) := by rw [bB_succ]; omega
theorem bB_le : ∀ (m n : Nat), n ≤ m → bB n ≤ bB m
  | 0, n, h => by have : n = 0 := by omega
                  subst this; exact Nat.le_refl _
  | m + 1, n, h => by
    by_cases e : n = m + 1
    · subst e; exact Nat.le_refl _
    · exact Nat.le_trans (bB_le m n (by omega)) (bB_mono m)
theorem bB_12 : bB 12 ≤ 100000000000 := by decide +kernel
theorem sumN_perm {a b : List Nat} (h : a.Perm b) : sumN a = sumN b := by
  induction h with
  | nil => rfl
  | cons x _ ih => simp only [sumN, List.foldr_cons] at *; omega
  | swap x y l => simp only [sumN, List.foldr_cons]; omega
  | trans _ _ ih1 ih2 => omega
theorem sumN_append (a b : List Nat) : sumN (a ++ b) = sumN a + sumN b := by
  induction a with
  | nil => simp [sumN]
  | cons x a ih => simp only [sumN, List.cons_append, List.foldr_cons] at *; omega
def rem (E : Env) (s : St) : Nat := E.s.length - s.at_
def phiB (E : Env) (L : List Wt) : Nat := sumN (L.map fun w => bB (rem E w.s))
theorem phiB_len (E : Env) : ∀ L : List Wt, L.length ≤ phiB E L
  | [] => Nat.le_refl _
  | w :: L => by
    have := phiB_len E L
    have := bB_pos (rem E w.s)
    simp only [phiB, sumN, List.map_cons, List.foldr_cons, List.length_cons] at *
    omega
theorem phiB_push (E : Env) (L : List Wt) (x : Wt) : phiB E (pushW L x) = bB (rem E x.s) + phiB E L := sumN_perm ((pushW_perm L x).map _)
theorem phiB_pop (E : Env) {L : List Wt} (h : 0 < L.length) : phiB E L = bB (rem E (gw L 0).s) + phiB E (popW L) := sumN_perm ((popW_perm h).symm.map _)
/-- What the tokens can still give. -/
def tokB (E : Env) (cur : St) (ts : List Tok) : Nat := sumN (ts.map fun t => bB (rem E (nxt cur t)) + 1)
theorem reach_bound (E : Env) (cur : St) (c : Int) (p : PS) (t : Tok) : (phiB E (reachF E cur c p t).L : Int) + (reachF E cur c p t).came ≤ (phiB E p.L : Int) + p.came + (bB (rem E (nxt cur t)) + 1 : Nat) ∧ p.came ≤ (reachF E cur c p t).came := by
  unfold reachF
  split
  · omega
  · split
    · omega
    · simp only
      rw [phiB_push]
      simp only
      omega
theorem downB (E : Env) (cur : St) (mk : Nat → Tok) : ∀ (s : Nat), s ≤ rem E cur → (∀ k, 2 ≤ k → k ≤ s → rem E (nxt cur (mk k)) = rem E cur - k) → 1 ≤ s → tokB E cur ((downL s).map mk) + bS (rem E cur - s + 1) = bS (rem E cur)
  | 0, h, hm, h1 => by omega
  | 1, h, hm, h1 => by
    have : rem E cur - 1 + 1 = rem E cur := by omega
    rw [this]
    simp [downL, tokB, sumN]
  | s + 2, h, hm, h1 => by
    have ih := downB E cur mk (s + 1) (by omega) (fun k a b => hm k a (by omega)) (by omega)
    have e := hm (s + 2) (by omega) (by omega)
    have e1 : rem E cur - (s + 1) + 1 = (rem E cur - (s + 2)) + 2 := by omega
    rw [e1, bS_succ] at ih
    have e2 : tokB E cur ((downL (s + 2)).map mk) = (bB (rem E (nxt cur (mk (s + 2)))) + 1) + tokB E cur ((downL (s + 1)).map mk) := rfl
    rw [e2, e]
    omega
theorem downB_le (E : Env) (cur : St) (mk : Nat → Tok) (s : Nat) (h : s ≤ rem E cur) (hm : ∀ k, 2 ≤ k → k ≤ s → rem E (nxt cur (mk k)) = rem E cur - k) : tokB E cur ((downL s).map mk) ≤ bS (rem E cur) := by
  by_cases h0 : s = 0
  · subst h0; simp [downL, tokB, sumN]
  · have := downB E cur mk s h hm (by omega)
    omega
theorem tokB_append (E : Env) (cur : St) (a b : List Tok) : tokB E cur (a ++ b) = tokB E cur a + tokB E cur b := by
  unfold tokB
  rw [List.map_append, sumN_append]
theorem tokB_flat (E : Env) (cur : St) {α : Type} (f : α → List Tok) (B : Nat) : ∀ l : List α, (∀ x ∈ l, tokB E cur (f x) ≤ B) → tokB E cur (l.flatMap f) ≤ l.length * B
  | [], _ => by simp [tokB, sumN]
  | x :: l, h => by
    have h1 := h x (List.mem_cons_self ..)
    have h2 := tokB_flat E cur f B l (fun y hy => h y (List.mem_cons_of_mem _ hy))
    rw [List.flatMap_cons, tokB_append, List.length_cons, Nat.add_mul, Nat.one_mul]
    omega
theorem toks_bound {E : Env} (hE : EnvOk E) {cur : St} (hl : cur.at_ < E.s.length) (h24 : E.s.length ≤ 24) : tokB E cur (toks E cur) + 1 ≤ bB (rem E cur) := by
  have hrem : rem E cur = (rem E cur - 1) + 1 := by unfold rem; omega
  have hsz : ∀ t, okTok E cur t → ∀ k : Nat, (tokSize t).toNat = k → rem E (nxt cur t) = rem E cur - k := fun t ht k hk => by
    unfold rem nxt
    simp only
    rw [hk]; omega
  have hlit : rem E (nxt cur (litT E cur.at_)) = rem E cur - 1 := by
    have ht : okTok E cur (litT E cur.at_) := .inl rfl
    refine hsz _ ht 1 ?_
    unfold tokSize
    rw [if_pos (okTok_ok hE.win2 ht), if_pos (show (litT E cur.at_).kind = 0 from rfl)]; rfl
  have hR : ∀ k ∈ List.range 4, tokB E cur (toksR E cur k) ≤ bS (rem E cur) := fun k hk => by
    have hroom := shr_room E cur.at_ (cur.r.get k) (by omega)
    refine downB_le E cur _ _ (by unfold rem; omega) (fun n h2 hn => ?_)
    have ht : okTok E cur (repT n k) := .inr (.inl ⟨n, k, List.mem_range.1 hk, h2, hn, rfl⟩)
    refine hsz _ ht n ?_
    unfold tokSize
    rw [if_pos (okTok_ok hE.win2 ht), if_neg (by simp [repT])]
    simp [repT]
  have hC : ∀ x ∈ List.range' 1 (farC E cur.at_), tokB E cur (toksC E cur.at_ x) ≤ bS (rem E cur) := fun x hx => by
    have hroom := shr_room E cur.at_ x (by omega)
    refine downB_le E cur _ _ (by unfold rem; omega) (fun n h2 hn => ?_)
    have ht : okTok E cur (copyT n x) := .inr (.inr ⟨n, x, h2, hn, rfl⟩)
    refine hsz _ ht n ?_
    unfold tokSize
    rw [if_pos (okTok_ok hE.win2 ht), if_neg (by simp [copyT])]
    simp [copyT]
  have h1 := tokB_flat E cur (toksR E cur) _ _ hR
  have h2 := tokB_flat E cur (toksC E cur.at_) _ _ hC
  rw [List.length_range] at h1
  rw [List.length_range'] at h2
  have hfar : farC E cur.at_ ≤ 24 := by unfold farC; split <;> omega
  have h3 : farC E cur.at_ * bS (rem E cur) ≤ 24 * bS (rem E cur) := Nat.mul_le_mul_right _ hfar
  have e : tokB E cur (toks E cur) = (bB (rem E (nxt cur (litT E cur.at_))) + 1) + (tokB E cur ((List.range 4).flatMap (toksR E cur)) + tokB E cur ((List.range' 1 (farC E cur.at_)).flatMap (toksC E cur.at_))) := by
    rw [← tokB_append]; rfl
  rw [e, hlit]
  have hb := bB_succ (rem E cur - 1)
  rw [← hrem] at hb
  rw [hb]
  omega
end Go.Proofs.Ytndkgjoaljcijaa
