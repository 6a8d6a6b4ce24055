/- Chapter 57 (spread): the law SpreadQuantiles: by walks. -/
import Derived.Test.YtoefkkgnabjmdaaSprBL
import Derived.Test.YtoefkkgnabjmdaaInts08
set_option linter.unusedSimpArgs false
set_option linter.unusedVariables false
set_option maxRecDepth 100000
namespace Go.Proofs.Ytoefkkgnabjmdaa
open Go.RowKit

theorem reads_toks57 (w : World) (l : List Tok) (t : TypeId) : ReadsT (w.alloc (.cells (tvals l).toArray t)) (some ⟨w.heap.size, 0, none⟩) l :=
  ⟨by rw [tvals_length], fun hn => ⟨_, rfl, by simp, fun j u hu => by
    have e1 : ((⟨w.heap.size, 0, none⟩ : Addr).add j) = ⟨w.heap.size, j, none⟩ := by unfold Addr.add; split <;> simp_all
    rw [e1, Blk.cell (Blk.new w t _), List.getElem?_toArray]; exact hu⟩⟩
theorem quant_ex : qVal [3, 1, 2] 1 2 = 2 := (if_pos (by decide)).trans ((quant_at [3, 1, 2] (qAt 3 1 2) 2 (by decide)).2 (by decide))
theorem bkt_ex : bktL [0, 1, 2, 3, 4, -5] = [2, 1, 2, 1] ++ List.replicate 60 0 ∧ bktLast [0, 1, 2, 3, 4, -5] = 4 := by decide +kernel
theorem bkt_hyp : (∀ k, k ≤ [0, 1, 2, 3, 4, (-5 : Int)].length → ∀ j, 0 ≤ (bktL ([0, 1, 2, 3, 4, -5].take k)).getD j 0 ∧ (bktL ([0, 1, 2, 3, 4, -5].take k)).getD j 0 ≤ 1000000) ∧ ∀ k, k ≤ [0, 1, 2, 3, 4, (-5 : Int)].length → bktLast ([0, 1, 2, 3, 4, -5].take k) ≤ 64 := by
  have key : ∀ k : Fin 7, (∀ x ∈ bktL ([0, 1, 2, 3, 4, -5].take k.val), 0 ≤ x ∧ x ≤ 1000000) ∧ bktLast ([0, 1, 2, 3, 4, -5].take k.val) ≤ 64 := by decide +kernel
  refine ⟨fun k hk j => ?_, fun k hk => (key ⟨k, Nat.lt_succ_of_le hk⟩).2⟩
  have h := (key ⟨k, Nat.lt_succ_of_le hk⟩).1
  rw [List.getD_eq_getElem?_getD]
  cases hx : (bktL ([0, 1, 2, 3, 4, -5].take k))[j]? with
  | none => simp
  | some x => exact h x (List.mem_of_getElem? hx)
def l57 : List Tok := [⟨0, 1, 0, 0, 0⟩, ⟨1, 0, 9, 1, 0⟩, ⟨5, 0, 0, 0, 0⟩]
theorem lens_ex : lensT l57 = [9] := by decide
/-- The beginning of ints that read. -/
theorem ReadsI.front {w : World} {A : Option Addr} {xs ys : List Int} (h : ReadsI w A (xs ++ ys)) : ReadsI w A xs := by
  refine ⟨by rw [ivals_length, Nat.mul_one], fun hn => ?_⟩
  obtain ⟨ad, e1, e2, e3⟩ := h.2 (by rw [List.length_append]; omega)
  exact ⟨ad, e1, e2, fun j u hu => e3 j u (by rw [ivals_append, List.getElem?_append_left (List.getElem?_eq_some_iff.1 hu).1]; exact hu)⟩
set_option maxHeartbeats 4000000 in
theorem awake57 (w : World) : Calls Try.prog 20 #[] w fun e w' => e = .returned (.bool true) ∧ Below w.heap.size w w' := by
  have hB0 := bl_alloc (Below.refl w.heap.size w) (.cells (ivals [3, 1, 2]).toArray 3)
  have r0 := reads_ints (Blk.new w 3 (ivals [3, 1, 2]).toArray)
  go_enter Try.func20, Try.ntmps20
  go_wp2_with fail
  refine (p_Quantile (some ⟨w.heap.size, 0, none⟩) 3 [3, 1, 2] 1 2 _ r0 (by simp)).mono ?_
  rintro e w1 ⟨rfl, hb1⟩
  rw [quant_ex, show qErr [3, 1, 2] 1 2 = 0 by decide]
  have hB1 := bl_then hB0 hB0.size hb1
  clear r0 hB0 hb1
  go_wp2_with fail
  refine (p_Quantile none 0 [] 1 2 _ (ReadsI.nil _ _) (by simp)).mono ?_
  rintro e w2 ⟨rfl, hb2⟩
  rw [show qVal [] 1 2 = 0 from rfl, show qErr [] 1 2 = 7 by decide]
  have hB2 := bl_then hB1 hB1.size hb2
  clear hB1 hb2
  go_wp2_with fail
  have hA3 := bl_alloc (Below.refl w2.heap.size w2) (.cells (ivals [1]).toArray 3)
  have q3 := reads_ints (Blk.new w2 3 (ivals [1]).toArray)
  refine (p_Quantile (some ⟨w2.heap.size, 0, none⟩) 1 [1] 3 2 _ q3 (by simp)).mono ?_
  rintro e w3 ⟨rfl, hb3⟩
  rw [show qVal [1] 3 2 = 0 from rfl, show qErr [1] 3 2 = 1 by decide]
  have hB3 := bl_then hB2 hB2.size (bl_then hA3 hA3.size hb3)
  clear hB2 hA3 q3 hb3
  go_wp2_with fail
  have hA4 := bl_alloc (Below.refl w3.heap.size w3) (.cells (ivals [0, 1, 2, 3, 4, -5]).toArray 3)
  have q4 := reads_ints (Blk.new w3 3 (ivals [0, 1, 2, 3, 4, -5]).toArray)
  refine (p_Buckets (some ⟨w3.heap.size, 0, none⟩) 6 [0, 1, 2, 3, 4, -5] _ q4 (by simp) (by decide) bkt_hyp.1 bkt_hyp.2).mono ?_
  rintro e w4 ⟨b4, rfl, hk4, hlb4, hb4⟩
  rw [bkt_ex.2]
  rw [bkt_ex.1] at hk4
  have rb4 := ReadsI.front (reads_ints hk4)
  have hB4 := bl_then hB3 hB3.size (bl_then hA4 hA4.size hb4)
  clear hB3 hA4 q4 hb4 hk4 hlb4
  go_wp2_with fail
  have hA5 := bl_alloc (Below.refl w4.heap.size w4) (.cells (ivals [2, 1, 2, 1]).toArray 3)
  have q5 := reads_ints (Blk.new w4 3 (ivals [2, 1, 2, 1]).toArray)
  have rb5 := rb4.below hA5
  refine (r_Ints08b (some ⟨b4, 0, none⟩) (some ⟨w4.heap.size, 0, none⟩) [2, 1, 2, 1] [2, 1, 2, 1] 4 4 _ rb5 q5 (by simp) (by simp)).mono ?_
  rintro e w5 ⟨rfl, hb5⟩
  rw [decide_eq_true rfl]
  have hB5 := bl_then hB4 hB4.size (bl_then hA5 hA5.size hb5)
  clear hB4 hA5 q5 rb5 rb4 hb5
  go_wp2_with fail
  have hA6 := bl_alloc (Below.refl w5.heap.size w5) (.cells (tvals l57).toArray 83)
  have q6 := reads_toks57 w5 l57 83
  refine (p_Lens57 (some ⟨w5.heap.size, 0, none⟩) 3 l57 _ q6 (by decide)).mono ?_
  rintro e w6 ⟨v6, rfl, hr6, hb6⟩
  rw [lens_ex] at hr6
  obtain ⟨B6, c6, rfl, hc6, r6⟩ := RowI.slice hr6
  have hB6 := bl_then hB5 hB5.size (bl_then hA6 hA6.size hb6)
  clear hB5 hA6 q6 hb6 hr6
  go_wp2_with fail
  have hA7 := bl_alloc (Below.refl w6.heap.size w6) (.cells (ivals [9]).toArray 3)
  have q7 := reads_ints (Blk.new w6 3 (ivals [9]).toArray)
  refine (r_Ints08b B6 (some ⟨w6.heap.size, 0, none⟩) [9] [9] c6 1 _ (r6.below hA7) q7 (by simp) (by simp)).mono ?_
  rintro e w7 ⟨rfl, hb7⟩
  rw [decide_eq_true rfl]
  have HB := Lib.hid (bl_then hB6 hB6.size (bl_then hA7 hA7.size hb7))
  clear hB6 hA7 q7 hb7 r6
  go_wp2
  go_ret
  exact ⟨rfl, HB.out⟩

set_option maxHeartbeats 4000000 in
theorem law_SpreadQuantiles (A : Option Addr) (l : List Int) (c : Nat) (x y f : Int) (w : World) (hl : ReadsI w A l) :
    Calls Try.prog 7 #[.slice A l.length c, .agg #[.int .i64 x, .int .i64 y], .int .i64 f] w fun e w' => e = .returned (.bool true) ∧ Below w.heap.size w w' := by
  have hB0 := bl_alloc (Below.refl w.heap.size w) (.cells #[.int .i64 x, .int .i64 y] 36)
  have kb := Blk.new w 36 #[.int .i64 x, .int .i64 y]
  have h0 := hl.below hB0
  clear hl
  by_cases l0 : l.length ≤ 200
  · have HM := Lib.hid (show ∀ x y, qErr l x f = 0 → qErr l y f = 0 → x ≤ y → qVal l x f ≤ qVal l y f from fun x y => qVal_mono)
    go_enter Try.func7, Try.ntmps7
    go_wp2_with fail
    refine (p_Quantile A c l x f _ h0 (by omega)).mono ?_
    rintro e w1 ⟨rfl, hb1⟩
    have h1 := h0.below hb1
    have k1 := kb.below hb1 kb.lt
    have c1 := Blk.cell k1
    have hB1 := bl_then hB0 hB0.size hb1
    clear h0 kb hB0 hb1
    go_wp2_with fail
    refine (r_Quantile A c l x f _ h1 (by omega)).mono ?_
    rintro e w2 ⟨rfl, hb2⟩
    have h2 := h1.below hb2
    have k2 := k1.below hb2 k1.lt
    have c2 := Blk.cell k2
    have hB2 := bl_then hB1 hB1.size hb2
    clear h1 k1 c1 hB1 hb2
    go_wp2_with fail
    refine (p_Quantile A c l y f _ h2 (by omega)).mono ?_
    rintro e w3 ⟨rfl, hb3⟩
    have k3 := k2.below hb3 k2.lt
    have c3 := Blk.cell k3
    have HB3 := Lib.hid (bl_then hB2 hB2.size hb3)
    have m1 := HM.out x y
    have m2 := HM.out y x
    generalize qVal l x f = va at *
    generalize qVal l y f = vc at *
    generalize qErr l x f = ea at *
    generalize qErr l y f = ec at *
    have M1 := Lib.hid m1
    have M2 := Lib.hid m2
    clear h2 k2 c2 hB2 hb3 m1 m2 HM
    by_cases e1 : ea = 0
    · by_cases e2 : ec = 0
      · have d1 : (ea != 0) = false := by rw [bne_eq_false_iff_eq]; exact e1
        have d2 : (ec != 0) = false := by rw [bne_eq_false_iff_eq]; exact e2
        by_cases g1 : x ≤ y
        · have a1 := M1.out e1 e2 g1
          have d3 : decide (x ≤ y) = true := decide_eq_true g1
          have d4 : decide (va ≤ vc) = true := decide_eq_true a1
          by_cases g2 : y ≤ x
          · have a2 := M2.out e2 e1 g2
            have d5 : decide (y ≤ x) = true := decide_eq_true g2
            clear e1 e2 g1 g2 a1 a2
            go_wp2_with fail
            refine (awake57 _).mono ?_
            rintro e w5 ⟨rfl, hb5⟩
            go_wp2
            go_ret
            exact ⟨rfl, bl_then HB3.out HB3.out.size hb5⟩
          · have d5 : decide (y ≤ x) = false := decide_eq_false g2
            clear e1 e2 g1 g2 a1
            go_wp2_with fail
            refine (awake57 _).mono ?_
            rintro e w5 ⟨rfl, hb5⟩
            go_wp2
            go_ret
            exact ⟨rfl, bl_then HB3.out HB3.out.size hb5⟩
        · have g2 : y ≤ x := by omega
          have a2 := M2.out e2 e1 g2
          have d3 : decide (x ≤ y) = false := decide_eq_false g1
          have d4 : decide (vc ≤ va) = true := decide_eq_true a2
          have d5 : decide (y ≤ x) = true := decide_eq_true g2
          clear e1 e2 g1 g2 a2
          go_wp2_with fail
          refine (awake57 _).mono ?_
          rintro e w5 ⟨rfl, hb5⟩
          go_wp2
          go_ret
          exact ⟨rfl, bl_then HB3.out HB3.out.size hb5⟩
      · have d1 : (ea != 0) = false := by rw [bne_eq_false_iff_eq]; exact e1
        have d2 : (ec != 0) = true := by rw [bne_iff_ne]; exact e2
        clear e1 e2
        go_wp2_with fail
        refine (awake57 _).mono ?_
        rintro e w5 ⟨rfl, hb5⟩
        go_wp2
        go_ret
        exact ⟨rfl, bl_then HB3.out HB3.out.size hb5⟩
    · have d1 : (ea != 0) = true := by rw [bne_iff_ne]; exact e1
      clear e1
      go_wp2_with fail
      refine (awake57 _).mono ?_
      rintro e w5 ⟨rfl, hb5⟩
      go_wp2
      go_ret
      exact ⟨rfl, bl_then HB3.out HB3.out.size hb5⟩
  · clear kb h0
    go_enter Try.func7, Try.ntmps7
    go_wp2_with fail
    refine (awake57 _).mono ?_
    rintro e w5 ⟨rfl, hb5⟩
    go_wp2
    go_ret
    exact ⟨rfl, bl_then hB0 hB0.size hb5⟩

end Go.Proofs.Ytoefkkgnabjmdaa
