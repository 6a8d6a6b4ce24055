/- Chapter 24 (count): the lengths and the tables that its example asks for: by walks. -/
import Derived.Test.YtoefkkgnabjmdaaLens1
import Derived.Test.YtoefkkgnabjmdaaCount2
import Derived.Test.YtoefkkgnabjmdaaLaw23
set_option linter.unusedSimpArgs false
set_option linter.unusedVariables false
set_option maxRecDepth 100000
namespace Go.Proofs.Ytoefkkgnabjmdaa
open Go.RowKit

theorem p_cl_none (A : Option Addr) (c : Nat) (f : List Int) (w : World) (h : ReadsI w A f) (hl : f.length ≤ 1024) (hc : chkPm f 15 ≠ 0) :
    Calls Try.prog 61 #[.slice A f.length c] w (FilledDone w f.length (zeros f.length)) := by
  have hmk := fun w => run_zeros w f.length (by omega)
  have hne : (chkPm f 15 != 0) = true := by rw [bne_iff_ne]; exact hc
  have HD : Hid (FilledDone w f.length (zeros f.length) (.returned (.slice (some ⟨w.heap.size, 0, none⟩) f.length f.length)) (w.alloc (.cells (ivals (zeros f.length)).toArray 3))) := Lib.hid ⟨w.heap.size, rfl, Nat.le_refl _, Blk.new w _ _, bl_alloc (Below.refl _ _) _⟩
  go_enter Try.func61, Try.ntmps61
  go_wp2_with fail
  refine (p_Lengths_err A c f 15 w h (by omega) hc).mono ?_
  rintro e w' ⟨rfl, rfl⟩
  clear hc
  generalize chkPm f 15 = E at *
  go_wp2
  go_ret
  exact HD.out

theorem p_cl_one (A : Option Addr) (c : Nat) (f : List Int) (w : World) (h : ReadsI w A f) (hl : f.length ≤ 1024) (hc : chkPm f 15 = 0) (x : Int × List Int) (hx : coinKeys 0 f = [x]) :
    Calls Try.prog 61 #[.slice A f.length c] w (FilledDone w f.length (oneLens f x)) := by
  go_enter Try.func61, Try.ntmps61
  go_wp2_with fail
  refine (p_Lengths_one A c f 15 w h hl hc x hx).mono ?_
  rintro e w' ⟨b, rfl, hk, hz, hb⟩
  have HD : Hid (FilledDone w f.length (oneLens f x) (.returned (.slice (some ⟨b, 0, none⟩) f.length f.length)) w') := Lib.hid ⟨b, rfl, hz, hk, hb⟩
  clear hk hz hb hx hc
  go_wp2
  go_ret
  exact HD.out

def t24 : Tok := ⟨0, 97, 0, 0, 0⟩
def l24 : List Tok := [t24, t24, t24]
def m24 : List Int := (zeros 401).set 97 3
def one24 : List Int := (zeros 401).set 97 1
theorem m24_len : m24.length = 401 := by unfold m24; rw [List.length_set, zeros_length]
theorem one24_len : one24.length = 401 := by unfold one24; rw [List.length_set, zeros_length]
theorem cnM24 : cnM l24 = m24 := by
  have e : (tokSym t24).toNat = 97 := by decide
  have h : bump (bump (bump (zeros 401) 97) 97) 97 = m24 := by kernel_rfl
  rw [← h]
  show bump (bump (bump (zeros 401) (tokSym t24).toNat) (tokSym t24).toNat) (tokSym t24).toNat = _
  rw [e]
theorem cnD24 : cnD l24 = zeros 52 := by
  unfold cnD l24
  simp only [List.foldl_cons, List.foldl_nil]
  rw [if_neg (show ¬ t24.kind = 1 by decide)]
  rfl
theorem tokErr24 : tokErr l24 = 0 := by
  have h1 : tokCheck t24 = 0 := by decide
  simp only [l24, tokErr, h1, if_true]
theorem keys24 : coinKeys 0 m24 = [(3, [97])] := by kernel_rfl
theorem chk24 : chkPm m24 15 = 0 := by kernel_rfl
theorem chk24d : chkPm (zeros 52) 15 ≠ 0 := by
  have : chkPm (zeros 52) 15 = 7 := by kernel_rfl
  rw [this]; decide
theorem one24_eq : oneLens m24 (3, [97]) = one24 := by unfold oneLens; rw [m24_len]; rfl

def TabDone (w : World) (e : Ending) (w' : World) : Prop :=
  ∃ b1 b2, e = .returned (.tuple #[.slice (some ⟨b1, 0, none⟩) 401 401, .slice (some ⟨b2, 0, none⟩) 52 52, .int .i64 0]) ∧ ReadsI w' (some ⟨b1, 0, none⟩) one24 ∧ Below w.heap.size w w'
set_option maxHeartbeats 1000000 in
theorem p_Tables24 (T : Option Addr) (c : Nat) (w : World) (hT : ReadsT w T l24) : Calls Try.prog 29 #[.slice T 3 c] w (TabDone w) := by
  have h24 : Calls Try.prog 24 #[.slice T 3 c] w (Counted w l24) := p_Freqs T c l24 w hT (by decide)
  go_enter Try.func29, Try.ntmps29
  go_wp2_with fail
  refine h24.mono ?_
  rintro e w1 hh
  rcases hh with ⟨_, b1, b2, rfl, k1, k2, _, hb1⟩ | ⟨h, _⟩
  · rw [cnM24] at k1
    rw [cnD24] at k2
    have hc1 := p_cl_one (some ⟨b1, 0, none⟩) 401 m24 w1 (reads_ints k1) (by rw [m24_len]; omega) chk24 (3, [97]) keys24
    rw [m24_len, one24_eq] at hc1
    have hc2 := fun w h => p_cl_none (some ⟨b2, 0, none⟩) 52 (zeros 52) w h (by rw [zeros_length]; omega) chk24d
    rw [zeros_length] at hc2
    go_wp2_with fail
    refine hc1.mono ?_
    rintro e w2 ⟨b3, rfl, hz3, k3, hb2⟩
    have k4 := k2.below hb2 k2.lt
    have HB2 := Lib.hid (bl_then hb1 hb1.size hb2)
    clear k1 k2 hb1 hb2 hz3 hc1
    go_wp2_with fail
    refine (hc2 _ (reads_ints k4)).mono ?_
    rintro e w3 ⟨b4, rfl, hz4, k5, hb3⟩
    have HB3 := Lib.hid (bl_then HB2.out HB2.out.size hb3)
    have k6 := Lib.hid (reads_ints (k3.below hb3 k3.lt))
    clear k3 k4 k5 hb3 hz4 hc2
    go_wp2
    go_ret3
    exact ⟨b3, b4, rfl, k6.out, HB3.out⟩
  · exact absurd tokErr24 h

end Go.Proofs.Ytoefkkgnabjmdaa
