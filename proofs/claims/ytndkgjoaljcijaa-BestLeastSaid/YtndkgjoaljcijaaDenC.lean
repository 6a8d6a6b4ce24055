/- Chapter 18 (denote): Copy, the program's and the reference's: what they give, by walks. -/
import Derived.Test.YtndkgjoaljcijaaDen
set_option linter.unusedSimpArgs false
set_option linter.unusedVariables false
namespace Go.Proofs.Ytndkgjoaljcijaa
open Go.RowKit

/-- A call gives bytes of its own, and an error's number. -/
def GivesBE (w : World) (base : Nat) (xs : List UInt8) (er : Int) (e : Ending) (w' : World) : Prop := ∃ v, e = .returned (.tuple #[v, .int .i64 er]) ∧ RowB w' base v xs ∧ Below base w w' ∧ w.heap.size ≤ w'.heap.size

set_option maxHeartbeats 1000000 in
set_option maxRecDepth 100000 in
theorem r_Copy_yes (s : ByteArray) (n d : Nat) (window : Int) (w : World) (hlen : s.size ≤ 1000000000000) (h1 : n ≤ 258) (h3 : 1 ≤ window) (h4 : window ≤ 67108864) (h5 : 1 ≤ d) (h6 : (d : Int) ≤ window) (h7 : d ≤ s.size) :
    Calls Try.prog 29 #[.string s, .int .i64 n, .int .i64 d, .int .i64 window] w fun e w' => e = .returned (.tuple #[.string (str (cpy d n s.data.toList)), .int .i64 0]) ∧ Below w.heap.size w w' := by
  have hconv := fun W => Lib.run_convert_string_bytes (P := Try.prog) W 9 78 5 s Try.underlying9 Try.underlying78 Try.underlying5
  have k1 : decide ((n : Int) < 0) = false := decide_eq_false (by omega)
  have k2 : decide (258 < (n : Int)) = false := decide_eq_false (by omega)
  have k3 : decide (window < 1) = false := decide_eq_false (by omega)
  have k4 : decide (67108864 < window) = false := decide_eq_false (by omega)
  have k5 : decide ((d : Int) < 1) = false := decide_eq_false (by omega)
  have k6 : decide (window < (d : Int)) = false := decide_eq_false (by omega)
  have k7 : decide (s.size < d) = false := decide_eq_false (by omega)
  go_enter Try.func29, Try.ntmps29
  go_wp2
  have hst := Row.of_string w w.heap.size 5 s (Nat.le_refl _) (by simp only [maxLen]; omega)
  have hbw := bytesWorld_below w 5 s
  generalize Lib.bytesWorld w 5 s = w1 at *
  generalize Value.slice (some ⟨w.heap.size, 0, none⟩) s.size (grownCap w s.size 0 5) = v0 at *
  go_loopw [10, 11] (fun v i wr => ∃ (k : Nat), k ≤ n ∧ i = .int .i64 k ∧ RowB wr w.heap.size v (cpy d k s.data.toList) ∧ Below w.heap.size w wr) (fun _ i _ => n - (intOf i).toNat)
  case atStart => exact ⟨0, Nat.zero_le _, rfl, hst, hbw⟩
  case round =>
    obtain ⟨k, hk, rfl, hrv, hbv⟩ := hrel
    have HN := Lib.hid (cpy_snoc d k s.data.toList)
    have hcl := cpy_length d k s.data.toList
    have hsd : s.data.toList.length = s.size := rfl
    rw [hsd] at hcl
    generalize hys : cpy d k s.data.toList = ys at *
    have HY := Lib.hid hys
    have hl1 : ys.length ≤ 1000000000258 := by omega
    have hl2 : d ≤ ys.length := by omega
    clear hys hcl hsd
    obtain ⟨A, c, rfl, hc, hrd⟩ := hrv.slice
    by_cases hkn : k < n
    · obtain ⟨ad, rfl, had, hcell⟩ := hrd.at_ (ys.length - d) (by omega)
      unfold bval at hcell
      have hyy : ys.getD (ys.length - d) 0 = ys[ys.length - d] := by rw [List.getD_eq_getElem?_getD, List.getElem?_eq_getElem (by omega)]; rfl
      rw [hyy] at HN
      clear hyy
      generalize ys[ys.length - d] = y at *
      go_wp2_with (at_builtin; go_must (refine wpList_append_bytes rfl (.tmp 46) (.tmp 54) rfl w.heap.size (.slice (some ad) ys.length c) ys rfl (hrv.alloc _) (some ⟨wr.heap.size, 0, none⟩) 1 1 [y] rfl rfl (reads_one wr y _) ?_ ?_ ?_); (simp; omega); (have := hbv.size; simp; omega); intro v1 w2 hr1 hg1 ho1)
      go_roundw
      case rel =>
        have hb2 : Below w.heap.size w w2 := (hbv.alloc hbv.size _).grown hg1 (by have := hbv.size; simp; omega) (fun j hj => (hrv.lt j hj).1)
        have hr2 : RowB w2 w.heap.size v1 (cpy d (k + 1) s.data.toList) := by rw [HN.out]; exact hr1
        first | exact ⟨k + 1, by omega, by go_num, hr2, hb2⟩ | ((repeat apply Exists.intro); exact ⟨⟨k + 1, by omega, by go_num, hr2, hb2⟩, rfl⟩)
      case measure => simp [intOf]; omega
    · obtain rfl : k = n := by omega
      have hs := fun W B h => run_str W B A ys.length c ys h
      have hs' := hs wr wr.heap.size hrd
      clear hs
      go_wp2
      go_ret2
      exact ⟨by rw [HY.out]; rfl, hbv⟩

set_option maxRecDepth 100000 in
theorem r_Copy_no (s : ByteArray) (n d window : Int) (er : Int) (he : er = copyE s.size n d window) (h0 : er ≠ 0) (w : World) :
    Calls Try.prog 29 #[.string s, .int .i64 n, .int .i64 d, .int .i64 window] w fun e w' => e = .returned (.tuple #[.string (str []), .int .i64 er]) ∧ w = w' := by
  have H1 := Lib.hid (fun (h : n < 0 ∨ 258 < n ∨ window < 1 ∨ 67108864 < window) => (show er = 1 from he.trans (if_pos h)))
  have H2 := Lib.hid (fun (h : ¬ (n < 0 ∨ 258 < n ∨ window < 1 ∨ 67108864 < window)) (h2 : d < 1 ∨ window < d ∨ (s.size : Int) < d) => (show er = 10 from he.trans ((if_neg h).trans (if_pos h2))))
  have H3 := Lib.hid (fun (h : ¬ (n < 0 ∨ 258 < n ∨ window < 1 ∨ 67108864 < window)) (h2 : ¬ (d < 1 ∨ window < d ∨ (s.size : Int) < d)) => h0 (he.trans ((if_neg h).trans (if_neg h2))))
  clear he h0
  by_cases c1 : n < 0 ∨ 258 < n ∨ window < 1 ∨ 67108864 < window
  · have HE := Lib.hid (H1.out c1)
    rw [HE.out]
    clear H1 H2 H3 HE
    by_cases d1 : n < 0
    · go_enter Try.func29, Try.ntmps29
      go_wp2
      go_ret2
      exact ⟨rfl, rfl⟩
    by_cases d2 : 258 < n
    · go_enter Try.func29, Try.ntmps29
      go_wp2
      go_ret2
      exact ⟨rfl, rfl⟩
    by_cases d3 : window < 1
    · go_enter Try.func29, Try.ntmps29
      go_wp2
      go_ret2
      exact ⟨rfl, rfl⟩
    · have d4 : 67108864 < window := by omega
      clear c1
      go_enter Try.func29, Try.ntmps29
      go_wp2
      go_ret2
      exact ⟨rfl, rfl⟩
  · by_cases c2 : d < 1 ∨ window < d ∨ (s.size : Int) < d
    · have HE := Lib.hid (H2.out c1 c2)
      rw [HE.out]
      clear H1 H2 H3 HE
      have d1 : 0 ≤ n := by omega
      have d2 : n ≤ 258 := by omega
      have d3 : 1 ≤ window := by omega
      have d4 : window ≤ 67108864 := by omega
      clear c1
      by_cases e1 : d < 1
      · go_enter Try.func29, Try.ntmps29
        go_wp2
        go_ret2
        exact ⟨rfl, rfl⟩
      by_cases e2 : window < d
      · go_enter Try.func29, Try.ntmps29
        go_wp2
        go_ret2
        exact ⟨rfl, rfl⟩
      · have e3 : (s.size : Int) < d := by omega
        have e4 : 1 ≤ d := by omega
        clear c2
        go_enter Try.func29, Try.ntmps29
        go_wp2
        go_ret2
        exact ⟨rfl, rfl⟩
    · exact absurd c2 (fun h => H3.out c1 h)

theorem r_Copy (s : ByteArray) (n d window : Int) (w : World) (hlen : s.size ≤ 1000000000000) :
    Calls Try.prog 29 #[.string s, .int .i64 n, .int .i64 d, .int .i64 window] w fun e w' => e = .returned (.tuple #[.string (str (copyB s.data.toList n d window)), .int .i64 (copyE s.size n d window)]) ∧ Below w.heap.size w w' := by
  by_cases h : copyE s.size n d window = 0
  · have hb : copyB s.data.toList n d window = cpy d.toNat n.toNat s.data.toList := if_pos h
    rw [hb, h]
    obtain ⟨h1, h2, h3, h4, h5, h6, h7⟩ := copyE_zero h
    obtain ⟨n, rfl⟩ := Int.eq_ofNat_of_zero_le h1
    obtain ⟨d, rfl⟩ := Int.eq_ofNat_of_zero_le (show 0 ≤ d by omega)
    exact r_Copy_yes s n d window w hlen (by omega) h3 h4 (by omega) h6 (by omega)
  · have hb : copyB s.data.toList n d window = [] := if_neg h
    rw [hb]
    exact (r_Copy_no s n d window _ rfl h w).mono fun e w' ⟨he, hw⟩ => ⟨he, hw ▸ Below.refl _ _⟩

end Go.Proofs.Ytndkgjoaljcijaa
