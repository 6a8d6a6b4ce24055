/- Chapter 43 (grams): which gram comes first: order, cmp.Or, cmp.Compare at strings: by walks. -/
import Derived.Test.YtoefkkgnabjmdaaGrRef3
import Derived.Test.YtoefkkgnabjmdaaSh43
import Derived.Test.YtoefkkgnabjmdaaSh43s
import Derived.Test.YtoefkkgnabjmdaaMem
import Derived.Deep.RegionHeld3
import Derived.Deep.AppendLies
import Derived.Deep.CutBlock
import Derived.BigQuiet
set_option linter.unusedSimpArgs false
set_option linter.unusedVariables false
set_option maxRecDepth 100000
namespace Go.Proofs.Ytoefkkgnabjmdaa
open Go.RowKit PGramsCount Go.Sort

theorem p_isNaNs (x : ByteArray) (w : World) : Calls Try.prog 118 #[.string x] w fun e w' => e = .returned (.bool false) ∧ w = w' := by
  go_enter Try.func118, Try.ntmps118
  go_wp2
  go_ret
  exact ⟨by simp, rfl⟩
def cmpS (x y : ByteArray) : Int := if T x < T y then -1 else if T y < T x then 1 else 0
theorem p_cmpStr (x y : ByteArray) (w : World) : Calls Try.prog 95 #[.string x, .string y] w fun e w' => e = .returned (.int .i64 (cmpS x y)) ∧ w = w' := by
  have hx : ∀ a : ByteArray, a.toList = T a := tl
  by_cases h1 : T x < T y
  · have d1 : Op.bytesLess x.toList y.toList = true := by rw [tl, tl, bytesLess_eq]; exact decide_eq_true h1
    have HE := Lib.hid (show cmpS x y = -1 from if_pos h1)
    clear h1 hx
    go_enter Try.func95, Try.ntmps95
    go_wp2_with fail
    refine (p_isNaNs x _).mono ?_
    rintro e w' ⟨rfl, rfl⟩
    go_wp2_with fail
    refine (p_isNaNs y _).mono ?_
    rintro e w' ⟨rfl, rfl⟩
    go_wp2
    go_ret
    exact ⟨by rw [HE.out]; rfl, rfl⟩
  · have d1 : Op.bytesLess x.toList y.toList = false := by rw [tl, tl, bytesLess_eq]; exact decide_eq_false h1
    by_cases h2 : T y < T x
    · have d2 : (x.toList == y.toList) = false := by
        rw [tl, tl, beq_eq_false_iff_ne]; intro e; rw [e] at h2; exact List.lt_irrefl _ h2
      have d3 : ¬ x.toList = y.toList := by simpa using d2
      have HE := Lib.hid (show cmpS x y = 1 from (if_neg h1).trans (if_pos h2))
      clear h1 hx h2
      go_enter Try.func95, Try.ntmps95
      go_wp2_with fail
      refine (p_isNaNs x _).mono ?_
      rintro e w' ⟨rfl, rfl⟩
      go_wp2_with fail
      refine (p_isNaNs y _).mono ?_
      rintro e w' ⟨rfl, rfl⟩
      go_wp2
      go_ret
      exact ⟨by rw [HE.out]; rfl, rfl⟩
    · obtain rfl : x = y := by
        rcases List.le_iff_lt_or_eq.1 (List.not_lt.1 h1) with q | q
        · exact absurd q h2
        · exact (T_inj q).symm
      have HE := Lib.hid (show cmpS x x = 0 from (if_neg h1).trans (if_neg h2))
      clear h1 hx h2
      go_enter Try.func95, Try.ntmps95
      go_wp2_with fail
      refine (p_isNaNs x _).mono ?_
      rintro e w' ⟨rfl, rfl⟩
      go_wp2_with fail
      refine (p_isNaNs x _).mono ?_
      rintro e w' ⟨rfl, rfl⟩
      go_wp2
      go_ret
      exact ⟨by rw [HE.out]; rfl, rfl⟩
theorem p_or2 (x y : Int) (b : Nat) (w : World) (c0 : w.cell? ⟨b, 0, none⟩ = some (.int .i64 x)) (c1 : w.cell? ⟨b, 1, none⟩ = some (.int .i64 y)) :
    Calls Try.prog 94 #[.slice (some ⟨b, 0, none⟩) 2 2] w fun e w' => e = .returned (.int .i64 (if x = 0 then y else x)) ∧ w = w' := by
  by_cases hx : x = 0
  · rw [if_pos hx]
    subst hx
    by_cases hy : y = 0
    · subst hy
      go_enter Try.func94, Try.ntmps94
      go_wp2_with fail
      refine wp_loop_rounds 3 ?_
      rw [rounds_succ]
      go_wp2_with fail
      rw [rounds_succ]
      go_wp2_with fail
      rw [rounds_succ]
      go_wp2_with fail
      go_ret
      exact ⟨rfl, rfl⟩
    · have d : (y != 0) = true := by rw [bne_iff_ne]; exact hy
      have d2 : ¬ y = 0 := hy
      go_enter Try.func94, Try.ntmps94
      go_wp2_with fail
      refine wp_loop_rounds 2 ?_
      rw [rounds_succ]
      go_wp2_with fail
      rw [rounds_succ]
      go_wp2_with fail
      go_ret
      exact ⟨rfl, rfl⟩
  · rw [if_neg hx]
    have d : (x != 0) = true := by rw [bne_iff_ne]; exact hx
    go_enter Try.func94, Try.ntmps94
    go_wp2_with fail
    refine wp_loop_rounds 1 ?_
    rw [rounds_succ]
    go_wp2_with fail
    go_ret
    exact ⟨rfl, rfl⟩
def cfG (a b : S64) : Int := if Lib.compareInt b.f1 a.f1 = 0 then cmpS a.f0 b.f0 else Lib.compareInt b.f1 a.f1
theorem ltG (a b : S64) : ltOf cfG a b = decide (aheadP a b) := by
  unfold ltOf cfG
  rw [decide_eq_decide]
  unfold aheadP Lib.compareInt cmpS
  by_cases h1 : b.f1 < a.f1
  · simp [h1]
  · by_cases h2 : a.f1 < b.f1
    · simp [h1, h2]; omega
    · have h3 : a.f1 = b.f1 := by omega
      simp only [h3, Int.lt_irrefl, if_false, if_true]
      by_cases h4 : T a.f0 < T b.f0
      · simp [h4]
      · by_cases h5 : T b.f0 < T a.f0 <;> simp [h4, h5]
def encG (g : S64) : List Value := [.string g.f0, .int .i64 g.f1]
theorem grow3 (W : World) (a b c : Obj) : (((W.alloc a).alloc b).alloc c).drew = grow (W.drewN 1) #[a, b, c] := by
  rw [alloc_eq_grow, alloc_eq_grow, alloc_eq_grow, grow_grow, grow_grow]; rfl
def OrderOk (a b : S64) (W : World) : Ending → World → Prop := fun e w' => e = .returned (.int .i64 (cfG a b)) ∧ ∃ q os', w' = grow (W.drewN q) os'
set_option maxHeartbeats 2000000 in
theorem p_order (a b : S64) (W : World) : Calls Try.prog 64 #[.agg #[.string a.f0, .int .i64 a.f1], .agg #[.string b.f0, .int .i64 b.f1]] W (OrderOk a b W) := by
  obtain ⟨s, n⟩ := a
  obtain ⟨t, m⟩ := b
  have HC := Lib.hid (show cfG ⟨s, n⟩ ⟨t, m⟩ = if Lib.compareInt m n = 0 then cmpS s t else Lib.compareInt m n from rfl)
  generalize hR : cfG ⟨s, n⟩ ⟨t, m⟩ = R at *
  have HR := Lib.hid hR
  clear hR
  have k1 := fun W => Try.cmp_Compare_int m n W
  generalize Lib.compareInt m n = p at *
  have k2 := fun W => p_cmpStr s t W
  generalize cmpS s t = q at *
  have c0 := Blk.cell (Blk.new ((W.alloc (.cells #[.string s, .int .i64 n] 64)).alloc (.cells #[.string t, .int .i64 m] 64)) 3 #[.int .i64 p, .int .i64 q]) 0
  have c1 := Blk.cell (Blk.new ((W.alloc (.cells #[.string s, .int .i64 n] 64)).alloc (.cells #[.string t, .int .i64 m] 64)) 3 #[.int .i64 p, .int .i64 q]) 1
  have k3 : ∀ b W, W.cell? ⟨b, 0, none⟩ = some (.int .i64 p) → W.cell? ⟨b, 1, none⟩ = some (.int .i64 q) → Calls Try.prog 94 #[.slice (some ⟨b, 0, none⟩) 2 2] W fun e w' => e = .returned (.int .i64 R) ∧ W = w' := fun b W h0 h1 => by rw [HC.out]; exact p_or2 p q b W h0 h1
  have C0 := Lib.hid c0
  have K3 := Lib.hid k3
  clear k3
  have C1 := Lib.hid c1
  clear c0 c1
  go_enter Try.func64, Try.ntmps64
  go_wp2_with fail
  go_region_law (first | (go_simp; go_at_call 73; refine (k1 _).mono ?_; rintro e w1 ⟨rfl, rfl⟩) | (go_simp; go_at_call 95; refine (k2 _).mono ?_; rintro e w1 ⟨rfl, rfl⟩) | (go_simp; go_at_call 94; refine (K3.out _ _ (by simpa using C0.out) (by simpa using C1.out)).mono ?_; rintro e w1 ⟨rfl, rfl⟩))
  all_goals
    go_simp
    go_wp2
    go_ret
    exact ⟨by rw [HR.out]; rfl, 1, _, grow3 _ _ _ _⟩

end Go.Proofs.Ytoefkkgnabjmdaa
