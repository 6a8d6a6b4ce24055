/- Chapter 23 (price): Flat; sum, one, Token, All: what they give, by walks. -/
import Derived.Test.YtoefkkgnabjmdaaPrice2
import Derived.Test.YtoefkkgnabjmdaaToks
import Derived.Deep.RegionHeld3
set_option linter.unusedSimpArgs false
set_option linter.unusedVariables false
namespace Go.Proofs.Ytoefkkgnabjmdaa
open Go.RowKit

def FlatDone (a b : Int) (w : World) (e : Ending) (w' : World) : Prop :=
  ∃ b1 b2, e = .returned (.agg #[.slice (some ⟨b1, 0, none⟩) 401 401, .slice (some ⟨b2, 0, none⟩) 52 52]) ∧ Blk w' b1 3 (ivals (List.replicate 401 (flatP a))).toArray ∧ Blk w' b2 3 (ivals (List.replicate 52 (flatP b))).toArray ∧ w.heap.size ≤ b1 ∧ w.heap.size ≤ b2 ∧ Below w.heap.size w w'
theorem p_Repeat401 (A : Option Addr) (c : Nat) (v : Int) (w : World) (h : ReadsI w A [v]) : Calls Try.prog 90 #[.slice A 1 c, .int .i64 401] w (RepeatDone w 401 v) := p_Repeat A c v 401 (by omega) (by omega) w h p_Mul401
theorem p_Repeat52 (A : Option Addr) (c : Nat) (v : Int) (w : World) (h : ReadsI w A [v]) : Calls Try.prog 90 #[.slice A 1 c, .int .i64 52] w (RepeatDone w 52 v) := p_Repeat A c v 52 (by omega) (by omega) w h p_Mul52

theorem tokSym_bd {t : Tok} (h : tokOk t) : 0 ≤ tokSym t ∧ tokSym t ≤ 400 := by
  unfold tokSym
  rw [if_pos h]
  have h1 := lenS_bd t.len
  unfold tokOk at h
  split
  · omega
  · split <;> omega
theorem lenX_bd (n : Int) : 0 ≤ lenX n ∧ lenX n ≤ 5 := by
  unfold lenX
  split
  · rename_i h
    have h3 := (lenSlot_spec n h).2.2
    have := lenBits_le (lenSlot n) h3
    omega
  · omega
theorem lenX_pos (n : Int) : 0 ≤ lenX n := (lenX_bd n).1
theorem distX_bd (n : Int) : 0 ≤ distX n ∧ distX n ≤ 24 := by
  unfold distX
  split
  · rename_i h
    have h3 := (distSlot_spec n h).2.2
    have := distBits_le (distSlot n) h3
    omega
  · omega
def one23 (m d : List Int) (t : Tok) : Int := if tokCheck t = 0 then cost m d t else 0

end Go.Proofs.Ytoefkkgnabjmdaa
