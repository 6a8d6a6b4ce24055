/- Chapter 23 (price): the plain part: which prices may be; what tokens cost. -/
import Derived.Test.YtndkgjoaljcijaaPlain15
set_option linter.unusedSimpArgs false
set_option linter.unusedVariables false
namespace Go.Proofs.Ytndkgjoaljcijaa

def priceBad (z : Int) : Bool := decide (z < 1 ∨ 1048576 < z)
def pricesOk (l : List Int) : Prop := ∀ z ∈ l, 1 ≤ z ∧ z ≤ 1048576
/-- The first place of a number that is no price; -1: there is none. -/
def badAt (l : List Int) : Int := if l.any priceBad then (l.findIdx priceBad : Int) else -1
theorem any_bad (l : List Int) : l.any priceBad = false ↔ pricesOk l := by
  simp only [pricesOk, List.any_eq_false, priceBad, decide_eq_true_eq]
  exact ⟨fun h z hz => by have := h z hz; omega, fun h z hz => by have := h z hz; omega⟩
open Classical in
noncomputable def chkE (m d : List Int) : Int := if m.length ≠ 401 ∨ d.length ≠ 52 then 4 else if pricesOk m ∧ pricesOk d then 0 else 2
theorem chkE_zero {m d : List Int} (h : chkE m d = 0) : m.length = 401 ∧ d.length = 52 ∧ pricesOk m ∧ pricesOk d := by
  unfold chkE at h
  split at h
  · omega
  · rename_i h1
    split at h
    · rename_i h2
      exact ⟨by omega, by omega, h2.1, h2.2⟩
    · omega
def flatP (n : Int) : Int := if n < 1 then 1 else if 1048576 < n then 1048576 else n
theorem flatP_bd (n : Int) : 1 ≤ flatP n ∧ flatP n ≤ 1048576 := by unfold flatP; split <;> (try split) <;> omega
theorem pricesOk_replicate (n : Nat) (z : Int) (h : 1 ≤ z ∧ z ≤ 1048576) : pricesOk (List.replicate n z) := fun x hx => by rw [List.eq_of_mem_replicate hx]; exact h
theorem chkE_flat (a b : Int) : chkE (List.replicate 401 (flatP a)) (List.replicate 52 (flatP b)) = 0 := by
  unfold chkE
  rw [if_neg (by rw [List.length_replicate, List.length_replicate]; omega), if_pos ⟨pricesOk_replicate _ _ (flatP_bd a), pricesOk_replicate _ _ (flatP_bd b)⟩]

/-- What a token that may be costs, by prices that may be. -/
def cost (m d : List Int) (t : Tok) : Int :=
  m.getD (tokSym t).toNat 0 + (if t.kind = 0 then 0 else lenX t.len) + (if t.kind = 1 then d.getD (distS t.dist).toNat 0 + distX t.dist else 0)
def costs (m d : List Int) (l : List Tok) : Int := (l.map (cost m d)).foldr (· + ·) 0
open Classical in
/-- The first token's error. -/
noncomputable def tokErr : List Tok → Int
  | [] => 0
  | t :: l => if tokCheck t = 0 then tokErr l else tokCheck t

def sumI (l : List Int) : Int := l.foldr (· + ·) 0
theorem sumI_snoc (l : List Int) (x : Int) : sumI (l ++ [x]) = sumI l + x := by
  induction l with
  | nil => simp [sumI]
  | cons a l ih => simp only [sumI, List.cons_append, List.foldr_cons] at *; omega
theorem sumI_bd (B : Int) : ∀ (l : List Int), (∀ x ∈ l, 0 ≤ x ∧ x ≤ B) → 0 ≤ sumI l ∧ sumI l ≤ B * l.length
  | [], _ => by simp [sumI]
  | x :: l, h => by
    have h1 := sumI_bd B l (fun y hy => h y (List.mem_cons_of_mem _ hy))
    have h2 := h x (List.mem_cons_self ..)
    have e : B * ((x :: l).length : Int) = B * l.length + B := by rw [List.length_cons]; push_cast; rw [Int.mul_add, Int.mul_one]
    simp only [sumI, List.foldr_cons] at *
    omega

end Go.Proofs.Ytndkgjoaljcijaa
