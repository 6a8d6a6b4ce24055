/- Plain mathematics of chapter 18 (denote): copies from back. -/
import Derived.Test.YtndkgjoaljcijaaPlain15
namespace Go.Proofs.Ytndkgjoaljcijaa

/-- n bytes, one by one, each from d back. -/
def cpy (d : Nat) : Nat → List UInt8 → List UInt8
  | 0, h => h
  | n + 1, h => cpy d n (h ++ [h.getD (h.length - d) 0])

theorem cpy_length (d : Nat) : ∀ (n : Nat) (h : List UInt8), (cpy d n h).length = h.length + n
  | 0, _ => rfl
  | n + 1, h => by rw [cpy, cpy_length d n]; simp; omega
theorem cpy_add (d : Nat) : ∀ (a b : Nat) (h : List UInt8), cpy d (a + b) h = cpy d b (cpy d a h)
  | 0, b, h => by rw [Nat.zero_add]; rfl
  | a + 1, b, h => by rw [show a + 1 + b = (a + b) + 1 by omega, cpy, cpy_add d a b]; rfl
theorem cpy_snoc (d k : Nat) (h : List UInt8) : cpy d (k + 1) h = cpy d k h ++ [(cpy d k h).getD ((cpy d k h).length - d) 0] := by rw [cpy_add d k 1]; rfl
/-- No more than what is there: a piece of it. -/
theorem cpy_take (d : Nat) : ∀ (k : Nat) (h : List UInt8), k ≤ d → d ≤ h.length → cpy d k h = h ++ (h.drop (h.length - d)).take k
  | 0, h, _, _ => by simp [cpy]
  | k + 1, h, hk, hd => by
    rw [cpy_add d k 1, cpy_take d k h (by omega) hd]
    show (h ++ (h.drop (h.length - d)).take k) ++ [_] = _
    rw [List.append_assoc]
    congr 1
    have hl : (h ++ (h.drop (h.length - d)).take k).length = h.length + k := by simp; omega
    rw [hl]
    rw [List.take_succ_eq_append_getElem (by simp; omega)]
    congr 2
    rw [List.getD_eq_getElem?_getD]
    rcases Nat.eq_zero_or_pos k with rfl | hk0
    · rw [List.getElem?_append_left (by omega), List.getElem?_eq_getElem (by omega)]
      simp
    · rw [List.getElem?_append_left (by omega), List.getElem?_eq_getElem (by omega)]
      simp only [Option.getD_some, List.getElem_drop]
      congr 1
      omega
/-- The last 2d bytes are twice the same. -/
def Twice (d : Nat) (h : List UInt8) : Prop := 2 * d ≤ h.length ∧ ∀ i, h.length - d ≤ i → i < h.length → h[i]? = h[i - d]?
theorem Twice.step {d : Nat} {h : List UInt8} (hd : 0 < d) (t : Twice d h) : Twice d (h ++ [h.getD (h.length - d) 0]) := by
  obtain ⟨h1, h2⟩ := t
  refine ⟨by simp; omega, fun i a b => ?_⟩
  simp only [List.length_append, List.length_singleton] at a b
  rcases Nat.lt_or_ge i h.length with hi | hi
  · rw [List.getElem?_append_left hi, List.getElem?_append_left (by omega)]
    exact h2 i (by omega) hi
  · obtain rfl : i = h.length := by omega
    rw [List.getElem?_append_right (Nat.le_refl _), List.getElem?_append_left (by omega), Nat.sub_self]
    simp only [List.getElem?_cons_zero, List.getD_eq_getElem?_getD]
    rw [List.getElem?_eq_getElem (by omega)]
    rfl
theorem cpy_twice (d : Nat) (hd : 0 < d) : ∀ (m : Nat) (h : List UInt8), Twice d h → cpy d m h = cpy (2 * d) m h
  | 0, _, _ => rfl
  | m + 1, h, t => by
    have e : h.getD (h.length - 2 * d) 0 = h.getD (h.length - d) 0 := by
      obtain ⟨h1, h2⟩ := t
      have := h2 (h.length - d) (Nat.le_refl _) (by omega)
      rw [List.getD_eq_getElem?_getD, List.getD_eq_getElem?_getD, this]
      congr 2
      omega
    rw [cpy, cpy, e]
    exact cpy_twice d hd m _ (t.step hd)
/-- One step of the way that doubles. -/
theorem cpy_double {d n : Nat} {h : List UInt8} (hd : 0 < d) (hl : d ≤ h.length) :
    cpy d n h = cpy (d + min n d) (n - min n d) (h ++ (h.drop (h.length - d)).take (min n d)) := by
  rcases Nat.lt_or_ge n d with hn | hn
  · rw [Nat.min_eq_left (by omega), Nat.sub_self]
    show _ = h ++ _
    exact cpy_take d n h (by omega) hl
  · rw [Nat.min_eq_right hn]
    rw [show n = d + (n - d) by omega, cpy_add, cpy_take d d h (Nat.le_refl _) hl]
    rw [show d + (n - d) - d = n - d by omega, show d + d = 2 * d by omega]
    apply cpy_twice d hd
    have hld : (h.drop (h.length - d)).length = d := by simp; omega
    rw [List.take_of_length_le (by omega)]
    refine ⟨by simp; omega, fun i a b => ?_⟩
    simp only [List.length_append, hld] at a b
    rw [List.getElem?_append_right (by omega), List.getElem?_append_left (by omega), List.getElem?_drop]
    congr 1
    omega

/-! The call Copy. -/
def copyE (have_ : Int) (n d window : Int) : Int :=
  if n < 0 ∨ 258 < n ∨ window < 1 ∨ 67108864 < window then 1 else if d < 1 ∨ window < d ∨ have_ < d then 10 else 0
/-- What Copy gives. -/
def copyB (h : List UInt8) (n d window : Int) : List UInt8 := if copyE h.length n d window = 0 then cpy d.toNat n.toNat h else []
theorem copyE_zero {x n d window : Int} (h : copyE x n d window = 0) : 0 ≤ n ∧ n ≤ 258 ∧ 1 ≤ window ∧ window ≤ 67108864 ∧ 1 ≤ d ∧ d ≤ window ∧ d ≤ x := by
  unfold copyE at h
  split at h
  · cases h
  · split at h
    · cases h
    · omega

theorem copyE_range (x n d window : Int) : copyE x n d window = 0 ∨ copyE x n d window = 1 ∨ copyE x n d window = 10 := by
  unfold copyE; split
  · exact .inr (.inl rfl)
  · split
    · exact .inr (.inr rfl)
    · exact .inl rfl

end Go.Proofs.Ytndkgjoaljcijaa
