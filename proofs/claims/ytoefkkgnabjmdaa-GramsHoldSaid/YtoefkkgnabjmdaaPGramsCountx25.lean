-- PRINTED BY print.sh 35421559b90ae4d0a3588c463048766b98c2df88dd9212a6774a882060cdf62d: not written by this session
import Derived.Test.YtoefkkgnabjmdaaPGramsCountx0
import Derived.Test.YtoefkkgnabjmdaaPGramsCountx20
import Derived.Test.YtoefkkgnabjmdaaPGramsCountx22
import Derived.Test.YtoefkkgnabjmdaaPGramsCountx24
namespace Go.Proofs.Ytoefkkgnabjmdaa.PGramsCount
open Go.RowKit Go.Proofs.YtoefkkgnabjmdaaW.PrintWords Go.Proofs.YtoefkkgnabjmdaaW.PrintLast Go.Proofs.YtoefkkgnabjmdaaW.PrintMore
attribute [local go_sem] max2_int min2_int max_two min_two max_three min_three max_four min_four   -- for this text's walks alone
set_option linter.unusedVariables false
set_option linter.unusedSimpArgs false

/-! ### gladstoneref43_Count: function 37 -/
mutual
def gladstoneref43_Count.j0 : Nat → List ByteArray → Int → Bool → Option ((List (S64)))
  | 0, _, _, _ => none
  | k + 1, x0, x1, x14 => if x14 = true then (some ([] : List (S64))) else (gladstoneref43_Count.l0 k x0 x1 ([] : List (S64)) 0)
def gladstoneref43_Count.l0 : Nat → List ByteArray → Int → List (S64) → Int → Option ((List (S64)))
  | 0, _, _, _, _ => none
  | k + 1, x0, x1, x5, x6 => if x6 < (x0.length : Int) then (gladstoneref43_Count.l1 k x0 x1 x5 x6 0) else (some x5)
def gladstoneref43_Count.l1 : Nat → List ByteArray → Int → List (S64) → Int → Int → Option ((List (S64)))
  | 0, _, _, _, _, _ => none
  | k + 1, x0, x1, x5, x6, x7 => if 0 ≤ x6 then (if x6 < (x0.length : Int) then (if (wrap64 (x7 + x1)) ≤ ((rdOf ByteArray.empty x0 x6).size : Int) then (if 0 ≤ x7 then (if x7 ≤ (wrap64 (x7 + x1)) then ((gladstoneref43_met.f k x5 ((rdOf ByteArray.empty x0 x6).extract (x7 : Int).toNat ((wrap64 (x7 + x1)) : Int).toNat)).bind fun t173 => (if t173 = true then (gladstoneref43_Count.l1 k x0 x1 x5 x6 (wrap64 (x7 + 1))) else ((gladstoneref43_many.f k x0 ((rdOf ByteArray.empty x0 x6).extract (x7 : Int).toNat ((wrap64 (x7 + x1)) : Int).toNat)).bind fun t174 => ((gladstoneref43_put.f k x5 ((rdOf ByteArray.empty x0 x6).extract (x7 : Int).toNat ((wrap64 (x7 + x1)) : Int).toNat) t174).bind fun t175 => (gladstoneref43_Count.l1 k x0 x1 t175 x6 (wrap64 (x7 + 1))))))) else (none)) else (none)) else (gladstoneref43_Count.l0 k x0 x1 x5 (wrap64 (x6 + 1)))) else (none)) else (none)
end
def gladstoneref43_Count.f (k : Nat) (l0 : List ByteArray) (a1 : Int) : Option ((List (S64))) := if a1 < 1 then (gladstoneref43_Count.j0 k l0 a1 true) else (gladstoneref43_Count.j0 k l0 a1 (decide (a1 > 16)))
theorem gladstoneref43_Count.mono_l : ∀ k, (∀ y0 y1 y2, LeO (gladstoneref43_Count.j0 k y0 y1 y2) (gladstoneref43_Count.j0 (k + 1) y0 y1 y2)) ∧ (∀ y0 y1 y2 y3, LeO (gladstoneref43_Count.l0 k y0 y1 y2 y3) (gladstoneref43_Count.l0 (k + 1) y0 y1 y2 y3)) ∧ (∀ y0 y1 y2 y3 y4, LeO (gladstoneref43_Count.l1 k y0 y1 y2 y3 y4) (gladstoneref43_Count.l1 (k + 1) y0 y1 y2 y3 y4))
  | 0 => ⟨fun _ _ _ r h => by simp [gladstoneref43_Count.j0] at h, fun _ _ _ _ r h => by simp [gladstoneref43_Count.l0] at h, fun _ _ _ _ _ r h => by simp [gladstoneref43_Count.l1] at h⟩
  | k + 1 => by
    obtain ⟨ih0, ih1, ih2⟩ := gladstoneref43_Count.mono_l k
    refine ⟨?_, ?_, ?_⟩
    · intro y0 y1 y2
      unfold gladstoneref43_Count.j0
      repeat' first
      | (with_reducible exact ih0 _ _ _)
      | (with_reducible exact ih1 _ _ _ _)
      | (with_reducible exact ih2 _ _ _ _ _)
      | (with_reducible exact gladstoneref43_many.mono _ _ _)
      | (with_reducible exact gladstoneref43_met.mono _ _ _)
      | (with_reducible exact gladstoneref43_put.mono _ _ _ _)
      | (with_reducible exact LeO.refl _)
      | (with_reducible exact LeO.none _)
      | (with_reducible refine LeO.ite ?_ ?_)
      | (with_reducible refine LeO.bind ?_ (fun _ => ?_))
      | exact ih0 _ _ _
      | exact ih1 _ _ _ _
      | exact ih2 _ _ _ _ _
      | exact gladstoneref43_many.mono _ _ _
      | exact gladstoneref43_met.mono _ _ _
      | exact gladstoneref43_put.mono _ _ _ _
      | exact LeO.none _
      | refine LeO.ite ?_ ?_
      | refine LeO.bind ?_ (fun _ => ?_)
    · intro y0 y1 y2 y3
      unfold gladstoneref43_Count.l0
      repeat' first
      | (with_reducible exact ih0 _ _ _)
      | (with_reducible exact ih1 _ _ _ _)
      | (with_reducible exact ih2 _ _ _ _ _)
      | (with_reducible exact gladstoneref43_many.mono _ _ _)
      | (with_reducible exact gladstoneref43_met.mono _ _ _)
      | (with_reducible exact gladstoneref43_put.mono _ _ _ _)
      | (with_reducible exact LeO.refl _)
      | (with_reducible exact LeO.none _)
      | (with_reducible refine LeO.ite ?_ ?_)
      | (with_reducible refine LeO.bind ?_ (fun _ => ?_))
      | exact ih0 _ _ _
      | exact ih1 _ _ _ _
      | exact ih2 _ _ _ _ _
      | exact gladstoneref43_many.mono _ _ _
      | exact gladstoneref43_met.mono _ _ _
      | exact gladstoneref43_put.mono _ _ _ _
      | exact LeO.none _
      | refine LeO.ite ?_ ?_
      | refine LeO.bind ?_ (fun _ => ?_)
    · intro y0 y1 y2 y3 y4
      unfold gladstoneref43_Count.l1
      repeat' first
      | (with_reducible exact ih0 _ _ _)
      | (with_reducible exact ih1 _ _ _ _)
      | (with_reducible exact ih2 _ _ _ _ _)
      | (with_reducible exact gladstoneref43_many.mono _ _ _)
      | (with_reducible exact gladstoneref43_met.mono _ _ _)
      | (with_reducible exact gladstoneref43_put.mono _ _ _ _)
      | (with_reducible exact LeO.refl _)
      | (with_reducible exact LeO.none _)
      | (with_reducible refine LeO.ite ?_ ?_)
      | (with_reducible refine LeO.bind ?_ (fun _ => ?_))
      | exact ih0 _ _ _
      | exact ih1 _ _ _ _
      | exact ih2 _ _ _ _ _
      | exact gladstoneref43_many.mono _ _ _
      | exact gladstoneref43_met.mono _ _ _
      | exact gladstoneref43_put.mono _ _ _ _
      | exact LeO.none _
      | refine LeO.ite ?_ ?_
      | refine LeO.bind ?_ (fun _ => ?_)
theorem gladstoneref43_Count.mono : ∀ a0 a1 k, LeO (gladstoneref43_Count.f k a0 a1) (gladstoneref43_Count.f (k + 1) a0 a1) := by
  intro a0 a1 k
  obtain ⟨ih0, ih1, ih2⟩ := gladstoneref43_Count.mono_l k
  unfold gladstoneref43_Count.f
  repeat' first
      | (with_reducible exact ih0 _ _ _)
      | (with_reducible exact ih1 _ _ _ _)
      | (with_reducible exact ih2 _ _ _ _ _)
      | (with_reducible exact gladstoneref43_many.mono _ _ _)
      | (with_reducible exact gladstoneref43_met.mono _ _ _)
      | (with_reducible exact gladstoneref43_put.mono _ _ _ _)
      | (with_reducible exact LeO.refl _)
      | (with_reducible exact LeO.none _)
      | (with_reducible refine LeO.ite ?_ ?_)
      | (with_reducible refine LeO.bind ?_ (fun _ => ?_))
      | exact ih0 _ _ _
      | exact ih1 _ _ _ _
      | exact ih2 _ _ _ _ _
      | exact gladstoneref43_many.mono _ _ _
      | exact gladstoneref43_met.mono _ _ _
      | exact gladstoneref43_put.mono _ _ _ _
      | exact LeO.none _
      | refine LeO.ite ?_ ?_
      | refine LeO.bind ?_ (fun _ => ?_)
set_option maxHeartbeats 8000000 in
set_option maxRecDepth 100000 in
theorem gladstoneref43_Count.calls (k : Nat) (A0 : Option Addr) (c0 : Nat) (l0 : List ByteArray) (a1 : Int) (r : List (S64)) (w : World) (hr0 : Kd.C Kd.string w A0 l0.length l0) (hc0 : l0.length ≤ c0) (h : gladstoneref43_Count.f k l0 a1 = some r) :
    Calls Try.prog 37 #[.slice A0 l0.length c0, .int .i64 a1] w fun e w' => ∃ v0_ : Value, e = .returned (v0_) ∧ Kd.R k64 64 w' w.heap.size (fun _ => True) v0_ r ∧ Below w.heap.size w w' := by
  have hu64 := Try.underlying64
  have HR0 := Aside0.mk hr0
  have HC0 := Aside0.mk hc0
  clear hr0 hc0
  have HB := Aside0.mk (Below.refl w.heap.size w)
  have H : (if a1 < 1 then (gladstoneref43_Count.j0 k l0 a1 true) else (gladstoneref43_Count.j0 k l0 a1 (decide (a1 > 16)))) = some r := h
  clear h
  have HC3 := Aside0.mk H
  clear H
  go_enter Try.func37, Try.ntmps37
  go_upto_region 1 with (fail)
  go_cut [14] (fun v14 wc => ∃ (kq : Nat) (x14_2 : Bool), v14 = .bool x14_2 ∧ Aside0 (gladstoneref43_Count.j0 kq l0 a1 x14_2 = some r) ∧ Aside0 (kq ≤ k) ∧ Aside0 (Below w.heap.size w wc))
  case first =>
    have H := HC3.out
    clear HC3
    by_cases c4 : a1 < 1
    · rw [if_pos c4] at H
      have c4b0 : decide (a1 < 1) = true := decide_eq_true c4
      clear c4
      (first | rw [c4b0] | (simp only [i64_w, i32_w]; rw [c4b0]) | skip)
      have H' := Aside0.mk H
      clear H
      go_wp2
      go_meet
      case rel => exact ⟨_, (true), (by first | rfl | (simp; done) | (simp [*]; done)), H', ⟨by first | omega | exact Nat.le_refl _⟩, ⟨by repeat (first | (with_reducible first | exact HB.out | apply below_alloc | apply pw_below_drewN | apply below_drew1) | exact HB.out)⟩⟩
    · rw [if_neg c4] at H
      have c4b0 : decide (a1 < 1) = false := decide_eq_false c4
      clear c4
      (first | rw [c4b0] | (simp only [i64_w, i32_w]; rw [c4b0]) | skip)
      have H' := Aside0.mk H
      clear H
      go_wp2
      go_meet
      case rel => exact ⟨_, (decide (a1 > 16)), (by first | rfl | (simp; done) | (simp [*]; done)), H', ⟨by first | omega | exact Nat.le_refl _⟩, ⟨by repeat (first | (with_reducible first | exact HB.out | apply below_alloc | apply pw_below_drewN | apply below_drew1) | exact HB.out)⟩⟩
  case rest =>
    clear HC3
    try clear p2
    try clear c3
    try clear c4
    try clear c4b0
    obtain ⟨kq, x14_2, rfl, HA, HJ2, HB⟩ := hcut
    cases kq with
    | zero => exact absurd HA.out (by simp [gladstoneref43_Count.j0])
    | succ kj2 =>
      have H := HA.out
      clear HA
      simp only [gladstoneref43_Count.j0] at H
      by_cases c5 : x14_2 = true
      · subst c5
        have H1 : (some ([] : List (S64))) = some r := by rw [if_pos rfl] at H; exact H
        clear H
        have H := H1
        clear H1
        obtain rfl := Option.some.inj H
        go_wp2
        go_ret
        exact ⟨_, by first | rfl | (simp [errW_none, errW_some] <;> rfl) | (simp [*, errW_none, errW_some] <;> rfl), by first | exact Kd.R_nil _ _ _ _ _ | exact Kd.N_nil _ _ _ _ _ | exact Kd.V_nil _ _ _ _ _ | exact Kd.Q_nil _ _ _ _ _ | exact Kd.S_nil _ _ _ _ _, by repeat (first | (with_reducible first | exact HB.out | apply below_alloc | apply pw_below_drewN | apply below_drew1) | exact HB.out)⟩
      · replace c5 := Bool.eq_false_iff.mpr c5
        subst c5
        have H1 : (gladstoneref43_Count.l0 kj2 l0 a1 ([] : List (S64)) 0) = some r := by rw [if_neg (show ¬ (false = true) by decide)] at H; exact H
        clear H
        have H := H1
        clear H1
        have H' := Aside0.mk H
        clear H
        go_wp2
        go_loopg [5, 6] kj2 (fun kq v5 v6 w' => ∃ (x5_2 : List (S64)) (x6_2 : Int), v6 = .int .i64 x6_2 ∧ Aside0 (gladstoneref43_Count.l0 kq l0 a1 x5_2 x6_2 = some r) ∧ Aside0 (kq ≤ kj2) ∧ Aside0 (Kd.R k64 64 w' w.heap.size (fun _ => True) v5 x5_2) ∧ Aside0 (Below w.heap.size w w'))
        case atStart => exact ⟨(([] : List (S64))), (0), (by first | rfl | (simp; done) | (simp [*]; done)), H', ⟨Nat.le_refl _⟩, ⟨by first | exact Kd.R_nil _ _ _ _ _ | exact Kd.N_nil _ _ _ _ _ | exact Kd.V_nil _ _ _ _ _ | exact Kd.Q_nil _ _ _ _ _ | exact Kd.S_nil _ _ _ _ _⟩, ⟨by repeat (first | (with_reducible first | exact HB.out | apply below_alloc | apply pw_below_drewN | apply below_drew1) | exact HB.out)⟩⟩
        case round =>
          clear H'
          try clear p2
          try clear c3
          try clear c4
          try clear c4b0
          try clear c5
          try clear p2
          obtain ⟨x5_2, x6_2, rfl, HA, HK2, HO_5, HB⟩ := hrel
          cases gk with
          | zero => exact absurd HA.out (by simp [gladstoneref43_Count.l0])
          | succ k2 =>
            have H := HA.out
            clear HA
            simp only [gladstoneref43_Count.l0] at H
            by_cases c6 : x6_2 < (l0.length : Int)
            · rw [if_pos c6] at H
              have c6b0 : decide (x6_2 < (l0.length : Int)) = true := decide_eq_true c6
              clear c6
              have H' := Aside0.mk H
              clear H
              go_wp2
              go_loopg [5, 7] k2 (fun kq v5 v7 w' => ∃ (x5_3 : List (S64)) (x7_3 : Int), v7 = .int .i64 x7_3 ∧ Aside0 (gladstoneref43_Count.l1 kq l0 a1 x5_3 x6_2 x7_3 = some r) ∧ Aside0 (kq ≤ k2) ∧ Aside0 (Kd.R k64 64 w' w.heap.size (fun _ => True) v5 x5_3) ∧ Aside0 (Below w.heap.size w w'))
              case atStart => exact ⟨(x5_2), (0), (by first | rfl | (simp; done) | (simp [*]; done)), H', ⟨Nat.le_refl _⟩, ⟨by (with_reducible repeat (first | apply Kd.R_alloc | apply Kd.R_drewN | apply Kd.R_drew)); exact HO_5.out⟩, ⟨by repeat (first | (with_reducible first | exact HB.out | apply below_alloc | apply pw_below_drewN | apply below_drew1) | exact HB.out)⟩⟩
              case round =>
                clear H'
                try clear p2
                try clear c3
                try clear c4
                try clear c4b0
                try clear c5
                try clear c6
                try clear c6b0
                try clear p2
                obtain ⟨x5_3, x7_3, rfl, HA, HK3, HO_5, HB⟩ := hrel
                cases gk with
                | zero => exact absurd HA.out (by simp [gladstoneref43_Count.l1])
                | succ k3 =>
                  have H := HA.out
                  clear HA
                  simp only [gladstoneref43_Count.l1] at H
                  by_cases c7 : 0 ≤ x6_2
                  · rw [if_pos c7] at H
                    have c7b0 : decide (0 ≤ x6_2) = true := decide_eq_true c7
                    clear c7
                    by_cases c8 : x6_2 < (l0.length : Int)
                    · rw [if_pos c8] at H
                      have c8b0 : decide (x6_2 < (l0.length : Int)) = true := decide_eq_true c8
                      clear c8
                      by_cases c9 : (wrap64 (x7_3 + a1)) ≤ ((rdOf ByteArray.empty l0 x6_2).size : Int)
                      · rw [if_pos c9] at H
                        have c9b0 : decide ((wrap64 (x7_3 + a1)) ≤ ((rdOf ByteArray.empty l0 x6_2).size : Int)) = true := decide_eq_true c9
                        clear c9
                        by_cases c10 : 0 ≤ x7_3
                        · rw [if_pos c10] at H
                          have c10b0 := eq_true c10
                          have c10b1 : decide (0 ≤ x7_3) = true := decide_eq_true c10
                          clear c10
                          by_cases c11 : x7_3 ≤ (wrap64 (x7_3 + a1))
                          · rw [if_pos c11] at H
                            have c11b0 := eq_true c11
                            have c11b1 : decide (x7_3 ≤ (wrap64 (x7_3 + a1))) = true := decide_eq_true c11
                            have c12b0 := eq_true (of_decide_eq_true (by first | (with_reducible assumption) | assumption) : (wrap64 (x7_3 + a1)) ≤ ((rdOf ByteArray.empty l0 x6_2).size : Int))
                            replace H := Option.bind_eq_some_iff.mp H
                            obtain ⟨t173, A130, H⟩ := H
                            replace H : (if t173 = true then (gladstoneref43_Count.l1 k3 l0 a1 x5_3 x6_2 (wrap64 (x7_3 + 1))) else ((gladstoneref43_many.f k3 l0 ((rdOf ByteArray.empty l0 x6_2).extract (x7_3 : Int).toNat ((wrap64 (x7_3 + a1)) : Int).toNat)).bind fun t174 => ((gladstoneref43_put.f k3 x5_3 ((rdOf ByteArray.empty l0 x6_2).extract (x7_3 : Int).toNat ((wrap64 (x7_3 + a1)) : Int).toNat) t174).bind fun t175 => (gladstoneref43_Count.l1 k3 l0 a1 t175 x6_2 (wrap64 (x7_3 + 1)))))) = some r := H
                            have A13 := Aside0.mk A130
                            clear A130
                            by_cases c14 : t173 = true
                            · subst c14
                              have H1 : (gladstoneref43_Count.l1 k3 l0 a1 x5_3 x6_2 (wrap64 (x7_3 + 1))) = some r := by rw [if_pos rfl] at H; exact H
                              clear H
                              have H := H1
                              clear H1
                              have H' := Aside0.mk H
                              clear H
                              have p171 : 0 ≤ (x6_2 : Int) := of_decide_eq_true (by first | (with_reducible assumption) | assumption)
                              have q171 : x6_2 < (l0.length : Int) := of_decide_eq_true (by first | (with_reducible assumption) | assumption)
                              obtain ⟨ad171, e171, hx171_0⟩ := Kd.at_string HR0.out x6_2 p171 q171
                              cases e171
                              replace hx171_0 := (HB.out.cell (World.block_lt_of_cell? w _ hx171_0)).trans hx171_0
                              replace p171 := eq_true p171
                              replace q171 := eq_true q171
                              have p172 : 0 ≤ (x6_2 : Int) := of_decide_eq_true (by first | (with_reducible assumption) | assumption)
                              have q172 : x6_2 < (l0.length : Int) := of_decide_eq_true (by first | (with_reducible assumption) | assumption)
                              obtain ⟨ad172, e172, hx172_0⟩ := Kd.at_string HR0.out x6_2 p172 q172
                              obtain rfl : ad171 = ad172 := (by injection e172)
                              replace hx172_0 := (HB.out.cell (World.block_lt_of_cell? w _ hx172_0)).trans hx172_0
                              replace p172 := eq_true p172
                              replace q172 := eq_true q172
                              obtain ⟨Ao15, co15, eo15⟩ := Kd.R_slice HO_5.out
                              subst eo15
                              go_wp2_with (first | ((with_reducible refine gate_callee (f := 65) rfl ?_); refine goesL_ (some 43) rfl rfl Try.func65 (by kernel_rfl) rfl #[.slice Ao15 x5_3.length co15, .string ((rdOf ByteArray.empty l0 x6_2).extract (x7_3 : Int).toNat ((wrap64 (x7_3 + a1)) : Int).toNat)] rfl (by (try simp only [List.map_toArray, List.map_cons, List.map_nil]); first | done | rfl | (simp only [List.length_drop, List.length_take]; rfl)) ?_; (with_reducible refine (gladstoneref43_met.calls k3 _ _ x5_3 ((rdOf ByteArray.empty l0 x6_2).extract (x7_3 : Int).toNat ((wrap64 (x7_3 + a1)) : Int).toNat) true _ ?side1 ?side2 A13.out).mono ?_); (case side1 => repeat (first | exact (Kd.R_reads' HO_5.out).2.2 | (with_reducible refine Kd.C_alloc ?_ _) | (with_reducible refine Kd.C_drewN ?_ _) | (with_reducible refine Kd.C_drew ?_))); (case side2 => exact (Kd.R_reads' HO_5.out).2.1); rintro e w' ⟨rfl, ⟨nd, rfl⟩⟩; refine ⟨_, rfl, ?_⟩))
                              go_roundg k3
                              case measure => have := HJ2.out; have := HK2.out; have := HK3.out; omega
                              case rel => exact ⟨(x5_3), (wrap64 (x7_3 + 1)), (by first | rfl | (simp; done) | (simp [*]; done)), H', ⟨by have := HJ2.out; have := HK2.out; have := HK3.out; omega⟩, ⟨by (with_reducible repeat (first | apply Kd.R_alloc | apply Kd.R_drewN | apply Kd.R_drew)); exact HO_5.out⟩, ⟨by repeat (first | (with_reducible first | exact HB.out | apply below_alloc | apply pw_below_drewN | apply below_drew1) | exact HB.out)⟩⟩
                            · replace c14 := Bool.eq_false_iff.mpr c14
                              subst c14
                              have H1 : ((gladstoneref43_many.f k3 l0 ((rdOf ByteArray.empty l0 x6_2).extract (x7_3 : Int).toNat ((wrap64 (x7_3 + a1)) : Int).toNat)).bind fun t174 => ((gladstoneref43_put.f k3 x5_3 ((rdOf ByteArray.empty l0 x6_2).extract (x7_3 : Int).toNat ((wrap64 (x7_3 + a1)) : Int).toNat) t174).bind fun t175 => (gladstoneref43_Count.l1 k3 l0 a1 t175 x6_2 (wrap64 (x7_3 + 1))))) = some r := by rw [if_neg (show ¬ (false = true) by decide)] at H; exact H
                              clear H
                              have H := H1
                              clear H1
                              replace H := Option.bind_eq_some_iff.mp H
                              obtain ⟨t174, A160, H⟩ := H
                              replace H : ((gladstoneref43_put.f k3 x5_3 ((rdOf ByteArray.empty l0 x6_2).extract (x7_3 : Int).toNat ((wrap64 (x7_3 + a1)) : Int).toNat) t174).bind fun t175 => (gladstoneref43_Count.l1 k3 l0 a1 t175 x6_2 (wrap64 (x7_3 + 1)))) = some r := H
                              have A16 := Aside0.mk A160
                              clear A160
                              replace H := Option.bind_eq_some_iff.mp H
                              obtain ⟨t175, A170, H⟩ := H
                              replace H : (gladstoneref43_Count.l1 k3 l0 a1 t175 x6_2 (wrap64 (x7_3 + 1))) = some r := H
                              have A17 := Aside0.mk A170
                              clear A170
                              have H' := Aside0.mk H
                              clear H
                              have p171 : 0 ≤ (x6_2 : Int) := of_decide_eq_true (by first | (with_reducible assumption) | assumption)
                              have q171 : x6_2 < (l0.length : Int) := of_decide_eq_true (by first | (with_reducible assumption) | assumption)
                              obtain ⟨ad171, e171, hx171_0⟩ := Kd.at_string HR0.out x6_2 p171 q171
                              cases e171
                              replace hx171_0 := (HB.out.cell (World.block_lt_of_cell? w _ hx171_0)).trans hx171_0
                              replace p171 := eq_true p171
                              replace q171 := eq_true q171
                              have p172 : 0 ≤ (x6_2 : Int) := of_decide_eq_true (by first | (with_reducible assumption) | assumption)
                              have q172 : x6_2 < (l0.length : Int) := of_decide_eq_true (by first | (with_reducible assumption) | assumption)
                              obtain ⟨ad172, e172, hx172_0⟩ := Kd.at_string HR0.out x6_2 p172 q172
                              obtain rfl : ad171 = ad172 := (by injection e172)
                              replace hx172_0 := (HB.out.cell (World.block_lt_of_cell? w _ hx172_0)).trans hx172_0
                              replace p172 := eq_true p172
                              replace q172 := eq_true q172
                              obtain ⟨Ao18, co18, eo18⟩ := Kd.R_slice HO_5.out
                              subst eo18
                              go_wp2_with (first | ((with_reducible refine gate_callee (f := 65) rfl ?_); refine goesL_ (some 43) rfl rfl Try.func65 (by kernel_rfl) rfl #[.slice Ao18 x5_3.length co18, .string ((rdOf ByteArray.empty l0 x6_2).extract (x7_3 : Int).toNat ((wrap64 (x7_3 + a1)) : Int).toNat)] rfl (by (try simp only [List.map_toArray, List.map_cons, List.map_nil]); first | done | rfl | (simp only [List.length_drop, List.length_take]; rfl)) ?_; (with_reducible refine (gladstoneref43_met.calls k3 _ _ x5_3 ((rdOf ByteArray.empty l0 x6_2).extract (x7_3 : Int).toNat ((wrap64 (x7_3 + a1)) : Int).toNat) false _ ?side1 ?side2 A13.out).mono ?_); (case side1 => repeat (first | exact (Kd.R_reads' HO_5.out).2.2 | (with_reducible refine Kd.C_alloc ?_ _) | (with_reducible refine Kd.C_drewN ?_ _) | (with_reducible refine Kd.C_drew ?_))); (case side2 => exact (Kd.R_reads' HO_5.out).2.1); rintro e w' ⟨rfl, ⟨nd, rfl⟩⟩; refine ⟨_, rfl, ?_⟩) | ((with_reducible refine gate_callee (f := 67) rfl ?_); refine goesL_ (some 49) rfl rfl Try.func67 (by kernel_rfl) rfl #[.slice (some ad171) l0.length c0, .string ((rdOf ByteArray.empty l0 x6_2).extract (x7_3 : Int).toNat ((wrap64 (x7_3 + a1)) : Int).toNat)] rfl (by (try simp only [List.map_toArray, List.map_cons, List.map_nil]); first | done | rfl | (simp only [List.length_drop, List.length_take]; rfl)) ?_; (with_reducible refine (gladstoneref43_many.calls k3 _ _ l0 ((rdOf ByteArray.empty l0 x6_2).extract (x7_3 : Int).toNat ((wrap64 (x7_3 + a1)) : Int).toNat) t174 _ ?side1 ?side2 A16.out).mono ?_); (case side1 => repeat (first | exact (Kd.C_below HR0.out (by repeat (first | (with_reducible first | exact HB.out | apply below_alloc | apply pw_below_drewN | apply below_drew1) | exact HB.out))) | (with_reducible refine Kd.C_alloc ?_ _) | (with_reducible refine Kd.C_drewN ?_ _) | (with_reducible refine Kd.C_drew ?_))); (case side2 => exact HC0.out); rintro e w19 ⟨rfl, hb⟩; refine ⟨_, rfl, ?_⟩; have n0_ := Aside0.mk (Kd.R_below (by (with_reducible repeat (first | apply Kd.R_alloc | apply Kd.R_drewN | apply Kd.R_drew)); exact HO_5.out) hb); have n1_ := Aside0.mk (below_step (by repeat (first | (with_reducible first | exact HB.out | apply below_alloc | apply pw_below_drewN | apply below_drew1) | exact HB.out)) hb); clear HO_5; clear HB; have HO_5 := n0_; have HB := n1_; clear n0_ n1_; (try clear hb); (try clear hb2); (try clear hk); (try clear hi)) | ((with_reducible refine gate_callee (f := 66) rfl ?_); refine goesL_ (some 51) rfl rfl Try.func66 (by kernel_rfl) rfl #[.slice Ao18 x5_3.length co18, .agg #[.string ((rdOf ByteArray.empty l0 x6_2).extract (x7_3 : Int).toNat ((wrap64 (x7_3 + a1)) : Int).toNat), .int .i64 t174]] rfl (by (try simp only [List.map_toArray, List.map_cons, List.map_nil]); first | done | rfl | (simp only [List.length_drop, List.length_take]; rfl)) ?_; (with_reducible refine (gladstoneref43_put.calls k3 _ _ x5_3 ((rdOf ByteArray.empty l0 x6_2).extract (x7_3 : Int).toNat ((wrap64 (x7_3 + a1)) : Int).toNat) t174 t175 _ ?side1 ?side2 A17.out).mono ?_); (case side1 => repeat (first | exact (Kd.R_reads' HO_5.out).2.2 | (with_reducible refine Kd.C_alloc ?_ _) | (with_reducible refine Kd.C_drewN ?_ _) | (with_reducible refine Kd.C_drew ?_))); (case side2 => exact (Kd.R_reads' HO_5.out).2.1); rintro e w20 ⟨v176, rfl, ho0, hb⟩; refine ⟨_, rfl, ?_⟩; have n0_ := Aside0.mk (Kd.R_elder' (by (with_reducible repeat (first | apply Kd.R_alloc | apply Kd.R_drewN | apply Kd.R_drew)); exact HO_5.out) (Kd.R_base ho0) hb); have n1_ := Aside0.mk (Kd.R_lower (Kd.R_new' ho0 (Kd.R_lt (by (with_reducible repeat (first | apply Kd.R_alloc | apply Kd.R_drewN | apply Kd.R_drew)); exact HO_5.out))) (below_size (by repeat (first | (with_reducible first | exact HB.out | apply below_alloc | apply pw_below_drewN | apply below_drew1) | exact HB.out)))); have n2_ := Aside0.mk (below_step (by repeat (first | (with_reducible first | exact HB.out | apply below_alloc | apply pw_below_drewN | apply below_drew1) | exact HB.out)) hb); clear HO_5; clear HB; have HO_5 := n0_; have HO177 := n1_; have HB := n2_; clear n0_ n1_ n2_; (try clear hb); (try clear hb2); (try clear hk); (try clear hi); (try clear ho0)))
                              go_roundg k3
                              case measure => have := HJ2.out; have := HK2.out; have := HK3.out; omega
                              case rel => exact ⟨(t175), (wrap64 (x7_3 + 1)), (by first | rfl | (simp; done) | (simp [*]; done)), H', ⟨by have := HJ2.out; have := HK2.out; have := HK3.out; omega⟩, ⟨by (with_reducible repeat (first | apply Kd.R_alloc | apply Kd.R_drewN | apply Kd.R_drew)); exact Kd.R_mono HO177.out (fun _ hk => trivial)⟩, ⟨by repeat (first | (with_reducible first | exact HB.out | apply below_alloc | apply pw_below_drewN | apply below_drew1) | exact HB.out)⟩⟩
                          · rw [if_neg c11] at H
                            exact absurd H (by simp)
                        · rw [if_neg c10] at H
                          exact absurd H (by simp)
                      · rw [if_neg c9] at H
                        have c9b0 : decide ((wrap64 (x7_3 + a1)) ≤ ((rdOf ByteArray.empty l0 x6_2).size : Int)) = false := decide_eq_false c9
                        clear c9
                        have H' := Aside0.mk H
                        clear H
                        have p171 : 0 ≤ (x6_2 : Int) := of_decide_eq_true (by first | (with_reducible assumption) | assumption)
                        have q171 : x6_2 < (l0.length : Int) := of_decide_eq_true (by first | (with_reducible assumption) | assumption)
                        obtain ⟨ad171, e171, hx171_0⟩ := Kd.at_string HR0.out x6_2 p171 q171
                        cases e171
                        replace hx171_0 := (HB.out.cell (World.block_lt_of_cell? w _ hx171_0)).trans hx171_0
                        replace p171 := eq_true p171
                        replace q171 := eq_true q171
                        go_wp2
                        go_roundg k3
                        case measure => have := HJ2.out; have := HK2.out; have := HK3.out; omega
                        case rel => exact ⟨(x5_3), (wrap64 (x6_2 + 1)), (by first | rfl | (simp; done) | (simp [*]; done)), H', ⟨by have := HJ2.out; have := HK2.out; have := HK3.out; omega⟩, ⟨by (with_reducible repeat (first | apply Kd.R_alloc | apply Kd.R_drewN | apply Kd.R_drew)); exact HO_5.out⟩, ⟨by repeat (first | (with_reducible first | exact HB.out | apply below_alloc | apply pw_below_drewN | apply below_drew1) | exact HB.out)⟩⟩
                    · rw [if_neg c8] at H
                      exact absurd H (by simp)
                  · rw [if_neg c7] at H
                    exact absurd H (by simp)
            · rw [if_neg c6] at H
              have c6b0 : decide (x6_2 < (l0.length : Int)) = false := decide_eq_false c6
              clear c6
              obtain rfl := Option.some.inj H
              go_wp2
              go_ret
              exact ⟨_, by first | rfl | (simp [errW_none, errW_some] <;> rfl) | (simp [*, errW_none, errW_some] <;> rfl), by (with_reducible repeat (first | apply Kd.R_alloc | apply Kd.R_drewN | apply Kd.R_drew)); exact HO_5.out, by repeat (first | (with_reducible first | exact HB.out | apply below_alloc | apply pw_below_drewN | apply below_drew1) | exact HB.out)⟩

end Go.Proofs.Ytoefkkgnabjmdaa.PGramsCount
