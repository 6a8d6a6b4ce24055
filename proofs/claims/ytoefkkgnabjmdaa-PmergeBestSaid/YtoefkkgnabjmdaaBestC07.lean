/- Chapter 07 (pmerge): Best of the reference: by a walk. -/
import Derived.Test.YtoefkkgnabjmdaaLeast07
import Derived.Test.YtoefkkgnabjmdaaBestPure
set_option linter.unusedSimpArgs false
set_option linter.unusedVariables false
set_option maxRecDepth 100000
namespace Go.Proofs.Ytoefkkgnabjmdaa
open Go.RowKit

set_option maxHeartbeats 4000000 in
theorem r_Best (A : Option Addr) (c : Nat) (f : List Int) (limit : Nat) (hl1 : 1 ≤ limit) (hl8 : limit ≤ 8) (w : World) (h : ReadsI w A f) (hl : f.length ≤ 100000) (hf : ∀ x ∈ f, 0 ≤ x ∧ x ≤ 4294967296) :
    Calls Try.prog 19 #[.slice A f.length c, .int .i64 limit] w (LeastOk w (.int .i64 (bestP f limit))) := by
  have hfp : ∀ x ∈ fallP f, 0 ≤ x ∧ x ≤ 4294967296 := fun x hx => hf x (by have := (fallP_ok f).2.mem_iff.1 hx; exact (List.mem_filter.1 this).1)
  have hlen := Nat.le_trans (fallP_length f) hl
  obtain ⟨P, hP⟩ : ∃ P, P = 2 ^ limit := ⟨_, rfl⟩
  have hp : P ≤ 256 := by rw [hP]; exact Nat.le_trans (Nat.pow_le_pow_right (by decide) hl8) (by decide)
  have hw : wrap64 ((2 : Int) ^ limit) = (P : Int) := by
    have : (2 : Int) ^ limit = ((2 ^ limit : Nat) : Int) := by simp
    rw [this, ← hP]
    unfold wrap64; omega
  have HB : Hid (bestP f limit = if (fallP f).length = 1 then (fallP f).getD 0 0 else leastP limit (fallP f) 1 P) := Lib.hid (by rw [hP]; rfl)
  clear hP hf
  go_enter Try.func19, Try.ntmps19
  go_wp2_with fail
  refine (r_falling A c f w h hl).mono ?_
  rintro e w1 ⟨v, rfl, hrow, hb⟩
  generalize fallP f = l at *
  obtain ⟨B, c2, rfl, hc2, hr⟩ := RowI.slice hrow
  obtain ⟨n, hn⟩ : ∃ n, n = l.length := ⟨_, rfl⟩
  by_cases h1 : l.length = 1
  · obtain ⟨x, rfl⟩ := List.length_eq_one_iff.1 h1
    obtain ⟨ad, rfl, had, a0⟩ := hr.at_ 0 (by simp)
    have HB2 : Hid (bestP f limit = x) := Lib.hid (by rw [HB.out, if_pos h1]; rfl)
    have hrd : ad.add 0 = ad := by cases ad; simp [Addr.add]
    have a1 := a0
    rw [hrd] at a1
    have hlen1 : [x].length = 1 := rfl
    have hcc : 1 ≤ c2 := hc2
    clear h1 hrow HB hfp hlen hn
    go_wp2
    go_ret
    exact ⟨by rw [HB2.out]; rfl, hb⟩
  · have HB2 := Lib.hid (HB.out.trans (if_neg h1))
    have hne : ((n : Int) == 1) = false := by rw [beq_eq_false_iff_ne]; omega
    have hn2 : n ≤ c2 := by omega
    have hcall := r_least limit hl1 hl8 l hfp hlen B n c2 1 P w1 hn hn2 hr hl1 hp
    have HC := Lib.hid hcall
    clear hcall h1 hrow HB hfp hlen hc2 hr
    rw [← hn]
    clear hn
    have hP1 : (P : Int) ≤ 256 := by clear hw; omega
    go_wp2_with fail
    refine HC.out.mono ?_
    rintro e w2 ⟨rfl, hb2⟩
    have HB3 := Lib.hid (bl_then hb hb.size hb2)
    clear hb hb2 hw
    go_wp2
    go_ret
    exact ⟨by rw [HB2.out]; rfl, HB3.out⟩

end Go.Proofs.Ytoefkkgnabjmdaa
