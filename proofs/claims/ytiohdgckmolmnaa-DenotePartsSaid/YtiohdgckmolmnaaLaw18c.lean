/- Chapter 18's laws two and three: the ways on which little is asked; the plain part of the third. -/
import Derived.Test.YtiohdgckmolmnaaLaw18b
set_option linter.unusedSimpArgs false
set_option linter.unusedVariables false
namespace Go.Proofs.Ytiohdgckmolmnaa
open Go.RowKit

theorem law_DenoteApplies (h : List UInt8) (r : Rp) (T : Option Addr) (c2 : Nat) (l : List Tok) (window : Int) (b : List UInt8) (w : World) (hT : ReadsT w T l) :
    Calls Try.prog 11 #[.agg #[.string (str h), .int .i64 r.a, .int .i64 r.b, .int .i64 r.c, .int .i64 r.d, .slice T l.length c2, .int .i64 window], .string (str b)] w fun e w' => e = .returned (.bool true) ∧ Below w.heap.size w w' := by
  by_cases h1 : h.length ≤ 500
  · by_cases h2 : l.length ≤ 60
    · by_cases h3 : b.length ≤ 3000
      · exact law_DenoteApplies_small h r T c2 l window b w hT h1 h2 h3
      · obtain ⟨ra, rb, rc, rd⟩ := r
        have l1 : (str h).size ≤ 500 := h1
        have l3 : 3000 < (str b).size := Nat.lt_of_not_le h3
        clear h1 h3 hT
        go_enter Try.func11, Try.ntmps11
        go_wp2_with fail
        refine (awake18 _).mono ?_
        rintro e w1 ⟨rfl, hb1⟩
        go_wp2
        go_ret
        exact ⟨rfl, bl_then (bl_alloc (Below.refl _ _) _) (by simp) hb1⟩
    · obtain ⟨ra, rb, rc, rd⟩ := r
      have l1 : (str h).size ≤ 500 := h1
      have l2 : 60 < l.length := by omega
      clear h1 h2 hT
      go_enter Try.func11, Try.ntmps11
      go_wp2_with fail
      refine (awake18 _).mono ?_
      rintro e w1 ⟨rfl, hb1⟩
      go_wp2
      go_ret
      exact ⟨rfl, bl_then (bl_alloc (Below.refl _ _) _) (by simp) hb1⟩
  · obtain ⟨ra, rb, rc, rd⟩ := r
    have l1 : 500 < (str h).size := Nat.lt_of_not_le h1
    clear h1 hT
    go_enter Try.func11, Try.ntmps11
    go_wp2_with fail
    refine (awake18 _).mono ?_
    rintro e w1 ⟨rfl, hb1⟩
    go_wp2
    go_ret
    exact ⟨rfl, bl_then (bl_alloc (Below.refl _ _) _) (by simp) hb1⟩

/-! The plain part: tokens in two parts. -/
theorem applyT_err (window : Int) : ∀ (l : List Tok) (h : List UInt8) (r : Rp), (applyT window l h r).err ≠ 0 → applyT window l h r = badRes (applyT window l h r).err
  | [], h, r, he => absurd rfl he
  | t :: l, h, r, he => by
    unfold applyT at he ⊢
    split
    · rfl
    · rename_i h1
      rw [if_neg h1] at he
      split
      · rename_i h2
        rw [if_pos h2] at he
        exact applyT_err window l _ _ he
      · rename_i h2
        rw [if_neg h2] at he
        split
        · rfl
        · rename_i h3
          rw [if_neg h3] at he
          exact applyT_err window l _ _ he
theorem applyT_append (window : Int) : ∀ (l1 l2 : List Tok) (h : List UInt8) (r : Rp), applyT window (l1 ++ l2) h r = if (applyT window l1 h r).err ≠ 0 then badRes (applyT window l1 h r).err else applyT window l2 (applyT window l1 h r).bytes (applyT window l1 h r).reps
  | [], l2, h, r => by simp [applyT]
  | t :: l1, l2, h, r => by
    rw [List.cons_append]
    by_cases h1 : useE r t ≠ 0
    · have e : ∀ l, applyT window (t :: l) h r = badRes (useE r t) := fun l => by simp only [applyT]; rw [if_pos h1]
      rw [e, e, if_pos (by exact h1)]
      rfl
    · by_cases h2 : t.kind = 0
      · have e : ∀ l, applyT window (t :: l) h r = applyT window l (h ++ [UInt8.ofNat t.byte.toNat]) (useR r t) := fun l => by simp only [applyT]; rw [if_neg h1, if_pos h2]
        rw [e, e]
        exact applyT_append window l1 l2 _ _
      · by_cases h3 : copyE h.length t.len (useD r t) window ≠ 0
        · have e : ∀ l, applyT window (t :: l) h r = badRes (copyE h.length t.len (useD r t) window) := fun l => by simp only [applyT]; rw [if_neg h1, if_neg h2, if_pos h3]
          rw [e, e, if_pos (by exact h3)]
          rfl
        · have e : ∀ l, applyT window (t :: l) h r = applyT window l (cpy (useD r t).toNat t.len.toNat h) (useR r t) := fun l => by simp only [applyT]; rw [if_neg h1, if_neg h2, if_neg h3]
          rw [e, e]
          exact applyT_append window l1 l2 _ _
def sizes (l : List Tok) : Int := (l.map tokSize).foldr (· + ·) 0
theorem sizes_snoc (l : List Tok) (t : Tok) : sizes (l ++ [t]) = sizes l + tokSize t := by
  induction l with
  | nil => simp [sizes]
  | cons a l ih => simp only [sizes, List.cons_append, List.map_cons, List.foldr_cons] at *; omega
theorem applyT_length (window : Int) : ∀ (l : List Tok) (h : List UInt8) (r : Rp), (applyT window l h r).err = 0 → ((applyT window l h r).bytes.length : Int) = h.length + sizes l
  | [], h, r, _ => by simp [applyT, sizes]
  | t :: l, h, r, he => by
    unfold applyT at he ⊢
    split
    · rename_i h1
      rw [if_pos h1] at he
      exact absurd he h1
    · rename_i h1
      rw [if_neg h1] at he
      have hok := useOk_tok (useE_zero (Decidable.byContradiction h1))
      split
      · rename_i h2
        rw [if_pos h2] at he
        rw [applyT_length window l _ _ he]
        have : tokSize t = 1 := by unfold tokSize; rw [if_pos hok, if_pos h2]
        simp only [sizes, List.map_cons, List.foldr_cons, List.length_append, List.length_singleton, this]
        omega
      · rename_i h2
        rw [if_neg h2] at he
        split
        · rename_i h3
          rw [if_pos h3] at he
          exact absurd he h3
        · rename_i h3
          rw [if_neg h3] at he
          rw [applyT_length window l _ _ he, cpy_length]
          have hc := copyE_zero (Decidable.byContradiction h3)
          have : tokSize t = t.len := by unfold tokSize; rw [if_pos hok, if_neg h2]
          simp only [sizes, List.map_cons, List.foldr_cons, this]
          omega
theorem sizes_bd : ∀ (l : List Tok), 0 ≤ sizes l ∧ sizes l ≤ 258 * l.length
  | [] => by simp [sizes]
  | t :: l => by
    have h1 := sizes_bd l
    have h2 : 0 ≤ tokSize t ∧ tokSize t ≤ 258 := by
      unfold tokSize
      split
      · rename_i h
        split
        · omega
        · rename_i hk
          unfold tokOk at h
          omega
      · omega
    simp only [sizes, List.map_cons, List.foldr_cons, List.length_cons] at *
    omega

end Go.Proofs.Ytiohdgckmolmnaa
