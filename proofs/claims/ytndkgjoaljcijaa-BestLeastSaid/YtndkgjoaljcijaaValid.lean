/- Chapter 18 (denote): Valid, both sides, and the example: what they give, by walks. -/
import Derived.Test.YtndkgjoaljcijaaApplyR
set_option linter.unusedSimpArgs false
set_option linter.unusedVariables false
namespace Go.Proofs.Ytndkgjoaljcijaa
open Go.RowKit

def validT (window : Int) (h : List UInt8) (r : Rp) (l : List Tok) (b : List UInt8) : Bool := decide ((applyT window l h r).err = 0 ∧ (applyT window l h r).bytes = h ++ b)
theorem str_eq (x y : List UInt8) : ((str x).toList == (str y).toList) = decide (x = y) := by
  rw [← beq_toListBytes]
  show (x.toArray == y.toArray) = decide (x = y)
  rw [Bool.eq_iff_iff, beq_iff_eq, decide_eq_true_eq]
  constructor
  · intro h; simpa using h
  · rintro rfl; rfl
theorem validT_no {window : Int} {h : List UInt8} {r : Rp} {l : List Tok} {b : List UInt8} (he : (applyT window l h r).err ≠ 0) : validT window h r l b = false := decide_eq_false fun x => he x.1
theorem validT_yes {window : Int} {h : List UInt8} {r : Rp} {l : List Tok} {b : List UInt8} (he : (applyT window l h r).err = 0) : validT window h r l b = decide ((applyT window l h r).bytes = h ++ b) := by
  unfold validT; simp [he]
theorem hadd_of (x y : List UInt8) (h : x.length + y.length ≤ 9223372036854775807) (W : World) : (Op.stringOp .add (str x) (str y)).run Try.prog W = .ok (.string (str (x ++ y))) W := by
  rw [run_string_add_sum W _ _ (by rw [str_size, str_size]; exact h), str_append]

set_option maxHeartbeats 1000000 in
set_option maxRecDepth 100000 in
theorem r_Valid (h : List UInt8) (r : Rp) (T : Option Addr) (c2 : Nat) (l : List Tok) (window : Int) (b : List UInt8) (w : World) (hT : ReadsT w T l) (hl : l.length ≤ 1000000000) (hlen : h.length + 258 * l.length ≤ 1000000000000) (hbl : b.length ≤ 1000000000000) :
    Calls Try.prog 13 #[.string (str h), rpV r, .slice T l.length c2, .int .i64 window, .string (str b)] w fun e w' => e = .returned (.bool (validT window h r l b)) ∧ Below w.heap.size w w' := by
  obtain ⟨ra, rb, rc, rd⟩ := r
  have hadd := hadd_of h b (by omega)
  have hasz : (str h).size + (str b).size ≤ 9223372036854775807 := by rw [str_size, str_size]; omega
  unfold rpV
  go_enter Try.func13, Try.ntmps13
  go_wp2_with fail
  refine (r_Apply h ⟨ra, rb, rc, rd⟩ T c2 l window _ (hT.below ((Below.refl _ _).alloc (Nat.le_refl _) _)) hl hlen).mono ?_
  rintro e w2 ⟨rfl, hb2⟩
  have hBel : Below w.heap.size w w2 := bl_then (bl_alloc (Below.refl _ _) _) (by simp) hb2
  have HV := Lib.hid (fun he => validT_no (window := window) (h := h) (r := ⟨ra, rb, rc, rd⟩) (l := l) (b := b) he)
  have HW := Lib.hid (fun he => validT_yes (window := window) (h := h) (r := ⟨ra, rb, rc, rd⟩) (l := l) (b := b) he)
  generalize applyT window l h ⟨ra, rb, rc, rd⟩ = R at *
  obtain ⟨rb1, ⟨u0, u1, u2, u3⟩, re⟩ := R
  unfold rpV
  by_cases he : re = 0
  · have hv := HW.out he
    have HVV := Lib.hid hv
    subst he
    clear hv HV HW
    go_wp2
    go_ret
    rw [str_eq]
    exact ⟨ret_bool HVV.out.symm, bl_alloc hBel _⟩
  · have hv := HV.out he
    have HVV := Lib.hid hv
    have he' : (re == 0) = false := by rw [beq_eq_false_iff_ne]; exact he
    clear hv HV HW he
    go_wp2
    go_ret
    exact ⟨ret_bool HVV.out.symm, bl_alloc hBel _⟩

end Go.Proofs.Ytndkgjoaljcijaa
