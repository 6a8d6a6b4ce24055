/- Chapter 43 (grams): rows of bytes, how often each occurs, and in which order: the plain part. -/
import Derived.Test.YtoefkkgnabjmdaaPGramsCountx0
import Derived.Sort.Walk0
set_option linter.unusedSimpArgs false
set_option linter.unusedVariables false
namespace Go.Proofs.Ytoefkkgnabjmdaa
open PGramsCount

def T (s : ByteArray) : List UInt8 := s.data.toList
theorem T_inj {a b : ByteArray} (h : T a = T b) : a = b := by
  cases a; cases b
  simp only [T] at h
  rw [Array.toList_inj.1 h]
theorem T_size (s : ByteArray) : (T s).length = s.size := by unfold T ByteArray.size; exact Array.length_toList
def gramsOf (s : List UInt8) (n : Nat) : List (List UInt8) := (List.range (s.length + 1 - n)).map (fun i => (s.drop i).take n)
def rowsK (l : List ByteArray) (n : Nat) : List (List UInt8) := l.flatMap (fun s => gramsOf (T s) n)
def aheadP (a b : S64) : Prop := b.f1 < a.f1 ∨ (a.f1 = b.f1 ∧ T a.f0 < T b.f0)
instance (a b : S64) : Decidable (aheadP a b) := by unfold aheadP; infer_instance
theorem aheadP_irrefl (a : S64) : ¬ aheadP a a := fun h => by
  rcases h with h | ⟨_, h⟩
  · omega
  · exact List.lt_irrefl _ h
theorem aheadP_trans {a b c : S64} (h : aheadP a b) (k : aheadP b c) : aheadP a c := by
  unfold aheadP at *
  rcases h with h | ⟨h, h'⟩ <;> rcases k with k | ⟨k, k'⟩
  · left; omega
  · left; omega
  · left; omega
  · right; exact ⟨h.trans k, List.lt_trans h' k'⟩
theorem aheadP_total {a b : S64} (h : ¬ aheadP a b) (hne : T a.f0 ≠ T b.f0) : aheadP b a := by
  unfold aheadP at *
  rcases Int.lt_trichotomy a.f1 b.f1 with q | q | q
  · left; exact q
  · right
    refine ⟨q.symm, ?_⟩
    have h1 : ¬ T a.f0 < T b.f0 := fun x => h (.inr ⟨q, x⟩)
    rcases List.le_iff_lt_or_eq.1 (List.not_lt.1 h1) with x | x
    · exact x
    · exact absurd x.symm hne
  · exact absurd (.inl q) h
def GoodG (l : List ByteArray) (n : Nat) (out : List S64) : Prop := out.Pairwise aheadP ∧ ∀ g : S64, g ∈ out ↔ (T g.f0 ∈ rowsK l n ∧ g.f1 = ((rowsK l n).count (T g.f0) : Nat))
theorem pw_ext {α : Type} {r : α → α → Prop} (hi : ∀ x, ¬ r x x) (ht : ∀ x y z, r x y → r y z → r x z) : ∀ (a b : List α), a.Pairwise r → b.Pairwise r → (∀ x, x ∈ a ↔ x ∈ b) → a = b
  | [], [], _, _, _ => rfl
  | [], y :: b, _, _, h => absurd ((h y).2 (by simp)) (by simp)
  | x :: a, [], _, _, h => absurd ((h x).1 (by simp)) (by simp)
  | x :: a, y :: b, ha, hb, h => by
    have ha' := List.pairwise_cons.1 ha
    have hb' := List.pairwise_cons.1 hb
    have e : x = y := by
      rcases List.mem_cons.1 ((h x).1 (by simp)) with e | e
      · exact e
      · rcases List.mem_cons.1 ((h y).2 (by simp)) with e2 | e2
        · exact e2.symm
        · exact absurd (ht _ _ _ (ha'.1 y e2) (hb'.1 x e)) (hi x)
    subst e
    rw [pw_ext hi ht a b ha'.2 hb'.2 (fun z => ?_)]
    constructor
    · intro hz
      rcases List.mem_cons.1 ((h z).1 (by simp [hz])) with e | e
      · subst e; exact absurd (ha'.1 z hz) (hi z)
      · exact e
    · intro hz
      rcases List.mem_cons.1 ((h z).2 (by simp [hz])) with e | e
      · subst e; exact absurd (hb'.1 z hz) (hi z)
      · exact e
theorem GoodG.unique {l : List ByteArray} {n : Nat} {a b : List S64} (ha : GoodG l n a) (hb : GoodG l n b) : a = b :=
  pw_ext aheadP_irrefl (fun _ _ _ => aheadP_trans) a b ha.1 hb.1 (fun x => (ha.2 x).trans (hb.2 x).symm)

/-! One more where it belongs. -/
def insAt (g : S64) (out : List S64) : Nat → Nat
  | 0 => 0
  | p + 1 => if aheadP g (out.getD p z64) then insAt g out p else p + 1
def insG (g : S64) (out : List S64) : List S64 := out.take (insAt g out out.length) ++ [g] ++ out.drop (insAt g out out.length)
theorem insAt_ok (g : S64) (out : List S64) : ∀ p, insAt g out p ≤ p ∧ (∀ j, insAt g out p ≤ j → j < p → aheadP g (out.getD j z64)) ∧ (0 < insAt g out p → ¬ aheadP g (out.getD (insAt g out p - 1) z64))
  | 0 => ⟨Nat.le_refl _, fun j h1 h2 => by omega, fun h => by simp [insAt] at h⟩
  | p + 1 => by
    obtain ⟨h1, h2, h3⟩ := insAt_ok g out p
    unfold insAt
    by_cases h : aheadP g (out.getD p z64)
    · rw [if_pos h]
      refine ⟨by omega, fun j q1 q2 => ?_, h3⟩
      by_cases e : j = p
      · subst e; exact h
      · exact h2 j q1 (by omega)
    · rw [if_neg h]
      exact ⟨Nat.le_refl _, fun j q1 q2 => by omega, fun _ => by simpa using h⟩
theorem insG_perm (g : S64) (out : List S64) : (insG g out).Perm (g :: out) := by
  unfold insG
  generalize insAt g out out.length = k
  have : out.take k ++ [g] ++ out.drop k = out.take k ++ g :: out.drop k := by simp
  rw [this]
  have q := List.perm_middle (a := g) (l₁ := out.take k) (l₂ := out.drop k)
  rwa [List.take_append_drop] at q
theorem insG_srt (g : S64) (out : List S64) (h : out.Pairwise aheadP) (hne : ∀ x ∈ out, T g.f0 ≠ T x.f0) : (insG g out).Pairwise aheadP := by
  obtain ⟨h1, h2, h3⟩ := insAt_ok g out out.length
  unfold insG
  generalize insAt g out out.length = k at *
  have hsp : out = out.take k ++ out.drop k := (List.take_append_drop k out).symm
  have h' := h
  rw [hsp] at h'
  have hp := List.pairwise_append.1 h'
  have getD_of : ∀ j (hj : j < out.length), out.getD j z64 = out[j] := fun j hj => by rw [List.getD_eq_getElem?_getD, List.getElem?_eq_getElem hj]; rfl
  have hlow : ∀ y ∈ out.take k, aheadP y g := fun y hy => by
    obtain ⟨j, hj, rfl⟩ := List.mem_iff_getElem.1 hy
    have hjk : j < k := by rw [List.length_take] at hj; omega
    have hlast := h3 (by omega)
    rw [getD_of (k - 1) (by omega)] at hlast
    have hl2 := aheadP_total hlast (hne _ (List.getElem_mem _))
    rw [List.getElem_take]
    by_cases e : j = k - 1
    · subst e; exact hl2
    · exact aheadP_trans (List.pairwise_iff_getElem.1 h j (k - 1) (by omega) (by omega) (by omega)) hl2
  have hhigh : ∀ y ∈ out.drop k, aheadP g y := fun y hy => by
    obtain ⟨j, hj, rfl⟩ := List.mem_iff_getElem.1 hy
    rw [List.length_drop] at hj
    have := h2 (k + j) (by omega) (by omega)
    rw [getD_of (k + j) (by omega)] at this
    rw [List.getElem_drop]
    exact this
  refine List.pairwise_append.2 ⟨List.pairwise_append.2 ⟨hp.1, by simp, fun y hy z hz => ?_⟩, hp.2.1, fun y hy z hz => ?_⟩
  · rw [List.mem_singleton] at hz; subst hz; exact hlow y hy
  · rcases List.mem_append.1 hy with hy | hy
    · exact hp.2.2 y hy z hz
    · rw [List.mem_singleton] at hy; subst hy; exact hhigh z hz

end Go.Proofs.Ytoefkkgnabjmdaa
