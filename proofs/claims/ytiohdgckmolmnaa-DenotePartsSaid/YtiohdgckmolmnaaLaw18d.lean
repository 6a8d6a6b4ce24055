/- Chapter 18's third law, by a walk. -/
import Derived.Test.YtiohdgckmolmnaaLaw18c
set_option linter.unusedSimpArgs false
set_option linter.unusedVariables false
namespace Go.Proofs.Ytiohdgckmolmnaa
open Go.RowKit

theorem reads_conv (h : List UInt8) (hs : h.length ≤ 1000000) (W : World) : ReadsB (Lib.bytesWorld W 5 (str h)) (some ⟨W.heap.size, 0, none⟩) h :=
  Row.reads (Row.of_string W 0 5 (str h) (Nat.zero_le _) (by simp only [maxLen, str_size]; omega)) rfl

theorem tokSize_bd (t : Tok) : 0 ≤ tokSize t ∧ tokSize t ≤ 258 := by
  unfold tokSize
  split
  · rename_i h
    split
    · omega
    · rename_i hk
      unfold tokOk at h
      omega
  · omega

theorem tvals_drop : ∀ (l : List Tok) (k : Nat), tvals (l.drop k) = (tvals l).drop (k * 5)
  | l, 0 => by simp
  | [], k + 1 => by simp [tvals]
  | t :: l, k + 1 => by
    rw [List.drop_succ_cons, tvals_drop l k, show (k + 1) * 5 = (tokCells t).length + k * 5 by simp [tokCells]; omega]
    simp only [tvals, List.flatMap_cons]
    rw [List.drop_append]
    simp

theorem rowB_put4n {w : World} {base g : Nat} {v : Value} {xs : List UInt8} (r : Rp) (h : RowB w base v xs) (hg : v.ownBlock ≠ some g) : RowB (put4 w g r) base v xs :=
  Row.same h fun k hk => put4_other r (fun he => hg (by rw [hk, he]))

set_option maxHeartbeats 4000000 in
set_option maxRecDepth 100000 in
theorem law_DenoteParts_small (h : List UInt8) (r : Rp) (T : Option Addr) (c2 : Nat) (l : List Tok) (window : Int) (at_ : Nat) (w : World) (hT : ReadsT w T l) (hc2 : l.length ≤ c2) (h1 : h.length ≤ 500) (h2 : l.length ≤ 60) (ha : at_ ≤ 255) :
    Calls Try.prog 12 #[.agg #[.string (str h), .int .i64 r.a, .int .i64 r.b, .int .i64 r.c, .int .i64 r.d, .slice T l.length c2, .int .i64 window], .int .u8 at_] w fun e w' => e = .returned (.bool true) ∧ Below w.heap.size w w' := by
  obtain ⟨ra, rb, rc, rd⟩ := r
  have l1 : (str h).size ≤ 500 := h1
  have hconv := fun W => Lib.run_convert_string_bytes (P := Try.prog) W 9 68 5 (str h) Try.underlying9 Try.underlying68 Try.underlying5
  have HRC := Lib.hid (reads_conv h (by omega))
  have hbox := bytesWorld_below (w.alloc (.cells #[.string (str h), .int .i64 ra, .int .i64 rb, .int .i64 rc, .int .i64 rd, .slice T l.length c2, .int .i64 window] 76)) 5 (str h)
  have hrd := HRC.out (w.alloc (.cells #[.string (str h), .int .i64 ra, .int .i64 rb, .int .i64 rc, .int .i64 rd, .slice T l.length c2, .int .i64 window] 76))
  have hblk := Blk.below (Blk.new w 76 #[.string (str h), .int .i64 ra, .int .i64 rb, .int .i64 rc, .int .i64 rd, .slice T l.length c2, .int .i64 window]) hbox (by simp)
  have hT1 := (hT.below ((Below.refl _ _).alloc (Nat.le_refl _) (.cells #[.string (str h), .int .i64 ra, .int .i64 rb, .int .i64 rc, .int .i64 rd, .slice T l.length c2, .int .i64 window] 76))).below hbox
  have hbs := hbox.size
  have B1 := bl_then (bl_alloc (Below.refl w.heap.size w) (.cells #[.string (str h), .int .i64 ra, .int .i64 rb, .int .i64 rc, .int .i64 rd, .slice T l.length c2, .int .i64 window] 76)) (by simp) hbox
  have hqr := fun W => eqReps W
  have hqm := eqRepsMark
  have hkm : (at_ : Int) % ((l.length : Int) + 1) = ((at_ % (l.length + 1) : Nat) : Int) := by simp
  have hkl : at_ % (l.length + 1) ≤ l.length := by have := Nat.mod_lt at_ (show 0 < l.length + 1 by omega); omega
  simp only [World.size_alloc] at hrd hbs
  have kc1 := Blk.cell hblk
  clear hbox
  go_enter Try.func12, Try.ntmps12
  go_wp2_with fail
  generalize at_ % (l.length + 1) = k at *
  generalize Lib.bytesWorld (w.alloc (.cells #[.string (str h), .int .i64 ra, .int .i64 rb, .int .i64 rc, .int .i64 rd, .slice T l.length c2, .int .i64 window] 76)) 5 (str h) = w1 at *
  refine (p_Apply _ _ h ⟨ra, rb, rc, rd⟩ T c2 l window _ hrd hT1 (by omega) (by omega)).mono ?_
  rintro e w2 ⟨v2, rfl, hr2, hb2, hs2⟩
  have k2 := hblk.below hb2 (by omega)
  have hT2 := hT1.below hb2
  have B2 := bl_then B1 (by omega) hb2
  have hz2 : w.heap.size < w2.heap.size := by omega
  clear hblk hrd B1 kc1 hb2 hs2 hbs hT1
  generalize hR : applyT window l h ⟨ra, rb, rc, rd⟩ = R at *
  have HR := Lib.hid hR
  clear hR
  obtain ⟨X, ⟨u0, u1, u2, u3⟩, er⟩ := R
  generalize hQ : applyT window (l.take k) h ⟨ra, rb, rc, rd⟩ = Q
  have HQ := Lib.hid hQ
  clear hQ
  obtain ⟨Y, ⟨q0, q1, q2, q3⟩, eq⟩ := Q
  unfold rpV
  obtain ⟨A1, c1, rfl, hcc1, hrd2⟩ := hr2.slice
  have k3 := k2.alloc (.cells #[.int .i64 u0, .int .i64 u1, .int .i64 u2, .int .i64 u3] 23)
  have m3 := Blk.new w2 23 #[.int .i64 u0, .int .i64 u1, .int .i64 u2, .int .i64 u3]
  have hT3 := hT2.below ((Below.refl _ _).alloc (Nat.le_refl _) (.cells #[.int .i64 u0, .int .i64 u1, .int .i64 u2, .int .i64 u3] 23))
  have hr3 := hr2.alloc (.cells #[.int .i64 u0, .int .i64 u1, .int .i64 u2, .int .i64 u3] 23)
  have HB3 := Lib.hid (bl_alloc B2 (.cells #[.int .i64 u0, .int .i64 u1, .int .i64 u2, .int .i64 u3] 23))
  have hs3 : w2.heap.size < (w2.alloc (.cells #[.int .i64 u0, .int .i64 u1, .int .i64 u2, .int .i64 u3] 23)).heap.size := by simp
  clear k2 hT2 hr2 hrd2 B2
  go_upto_region 5 with (fail)
  generalize w2.alloc (.cells #[.int .i64 u0, .int .i64 u1, .int .i64 u2, .int .i64 u3] 23) = w3 at *
  have hz3 : w.heap.size < w3.heap.size := by omega
  have kc3 := Blk.cell k3
  have HK : Hid (∀ w', Below w3.heap.size w3 w' → w'.cell? ⟨w.heap.size, 0, none⟩ = some (.string (str h)) ∧ w'.cell? ⟨w.heap.size, 1, none⟩ = some (.int .i64 ra) ∧ w'.cell? ⟨w.heap.size, 2, none⟩ = some (.int .i64 rb) ∧ w'.cell? ⟨w.heap.size, 3, none⟩ = some (.int .i64 rc) ∧ w'.cell? ⟨w.heap.size, 4, none⟩ = some (.int .i64 rd) ∧ w'.cell? ⟨w.heap.size, 5, none⟩ = some (.slice T l.length c2) ∧ w'.cell? ⟨w.heap.size, 6, none⟩ = some (.int .i64 window) ∧ Below w3.heap.size w3 w') := by
    intro w' hb
    have g0 := Blk.cell (k3.below hb hz3)
    exact ⟨g0 0, g0 1, g0 2, g0 3, g0 4, g0 5, g0 6, hb⟩
  have HTT : Hid (∀ w', Below w3.heap.size w3 w' → ReadsT w' T (l.take k)) := fun w' hb => by
    have hh := hT3.below hb
    refine ⟨tvals_length _, fun hn => ?_⟩
    obtain ⟨ad, e1, e2, e3⟩ := hh.2 (by rw [List.length_take] at hn; omega)
    refine ⟨ad, e1, e2, fun j u hu => e3 j u ?_⟩
    have hj := (List.getElem?_eq_some_iff.1 hu).1
    rw [tvals_length, List.length_take] at hj
    have e5 : j = j / 5 * 5 + j % 5 := by omega
    rw [e5] at hu ⊢
    rw [tvals_get _ _ _ (by rw [List.length_take]; omega) (by omega)] at hu
    rw [tvals_get _ _ _ (by omega) (by omega)]
    simpa using hu
  have hlk : (l.take k).length = k := by rw [List.length_take]; omega
  have HLK := Lib.hid hlk
  clear hlk
  go_cut [9, 10, 11] (fun v9 v10 v11 wc => ∃ g : Nat, v10 = .pointer (some ⟨g, 0, none⟩) ∧ v11 = .int .i64 eq ∧ Blk wc g 23 #[.int .i64 q0, .int .i64 q1, .int .i64 q2, .int .i64 q3] ∧ w3.heap.size ≤ g ∧ Below w3.heap.size w3 wc ∧ RowB wc w3.heap.size v9 Y)
  case first =>
    have hk0 : (0 : Int) ≤ (k : Int) := by omega
    have hk1 : (k : Int) ≤ (l.length : Int) := by omega
    have hk2 : (k : Int) ≤ (c2 : Int) := by omega
    have hd0 : Below w3.heap.size w3 w3.drew := (Below.refl _ _).drew
    have hd1 : Below w3.heap.size w3 (w3.alloc (.cells #[.int .i64 0, .int .i64 0, .int .i64 0, .int .i64 0] 23)).drew := ((Below.refl _ _).alloc (Nat.le_refl _) _).drew
    have hc0 := bl_then hd0 (Nat.le_refl _) (bytesWorld_below w3.drew 5 (str h))
    have hc1' := bl_then hd1 (by simp) (bytesWorld_below (w3.alloc (.cells #[.int .i64 0, .int .i64 0, .int .i64 0, .int .i64 0] 23)).drew 5 (str h))
    have kb0 := Blk.cell (k3.below hc0 hz3)
    have kb1 := Blk.cell (k3.below hc1' hz3)
    have kz := Blk.below (Blk.drew (Blk.new w3 23 (rpCells ⟨0, 0, 0, 0⟩))) (bytesWorld_below (w3.alloc (.cells #[.int .i64 0, .int .i64 0, .int .i64 0, .int .i64 0] 23)).drew 5 (str h)) (by simp)
    have hbsz : ∀ W, (Lib.bytesWorld W 5 (str h)).heap.size = W.heap.size + 1 := fun W => Lib.bytesWorld_size W _ _
    have HC0 := Lib.hid hc0
    have HC1 := Lib.hid hc1'
    have HKZ := Lib.hid kz
    clear hc0 hc1' hd0 hd1 kz
    have HAP : Hid (∀ (W : World) (A : Option Addr) (c : Nat), Below w3.heap.size w3 W → ReadsB W A h → Calls Try.prog 42 #[.slice A (str h).size c, .agg #[.int .i64 ra, .int .i64 rb, .int .i64 rc, .int .i64 rd], .slice T k c2, .int .i64 window] W (GivesA W W.heap.size ⟨Y, ⟨q0, q1, q2, q3⟩, eq⟩)) := by
      intro W A c hW hA
      have := p_Apply A c h ⟨ra, rb, rc, rd⟩ T c2 (l.take k) window W hA (HTT.out W hW) (by rw [HLK.out]; omega) (by rw [HLK.out]; omega)
      rw [HLK.out, HQ.out] at this
      exact this
    have R0 : Hid (ReadsB (Lib.bytesWorld w3.drew 5 (str h)) (some ⟨w3.heap.size, 0, none⟩) h) := HRC.out w3.drew
    have hh0 : w3.drew.cell? ⟨w.heap.size, 0, none⟩ = some (.string (str h)) ∧ w3.drew.cell? ⟨w.heap.size, 1, none⟩ = some (.int .i64 ra) ∧ w3.drew.cell? ⟨w.heap.size, 2, none⟩ = some (.int .i64 rb) ∧ w3.drew.cell? ⟨w.heap.size, 3, none⟩ = some (.int .i64 rc) ∧ w3.drew.cell? ⟨w.heap.size, 4, none⟩ = some (.int .i64 rd) ∧ w3.drew.cell? ⟨w.heap.size, 5, none⟩ = some (.slice T l.length c2) ∧ w3.drew.cell? ⟨w.heap.size, 6, none⟩ = some (.int .i64 window) ∧ Below w3.heap.size w3 w3.drew := HK.out _ (Below.refl _ _).drew
    refine wp_region_held_drew (S := fun w' => w'.cell? ⟨w.heap.size, 0, none⟩ = some (.string (str h)) ∧ w'.cell? ⟨w.heap.size, 1, none⟩ = some (.int .i64 ra) ∧ w'.cell? ⟨w.heap.size, 2, none⟩ = some (.int .i64 rb) ∧ w'.cell? ⟨w.heap.size, 3, none⟩ = some (.int .i64 rc) ∧ w'.cell? ⟨w.heap.size, 4, none⟩ = some (.int .i64 rd) ∧ w'.cell? ⟨w.heap.size, 5, none⟩ = some (.slice T l.length c2) ∧ w'.cell? ⟨w.heap.size, 6, none⟩ = some (.int .i64 window) ∧ Below w3.heap.size w3 w') (by kernel_rfl) hh0 (fun hHeld => ?_)
    refine wpAnyH_take (i := 0) (oi := _) (v := ?v0_19) rfl (by kernel_rfl) (by kernel_rfl) (by kernel_rfl) (fun _ _ _ h => h) (Or.inl ⟨by rfl, ?hy0_19⟩) (by assumption) ?rest0_19
    case hy0_19 =>
      intro w hSw
      (try dsimp only at hSw)
      go_simp
      (try with_reducible rfl)
    simp only [Act.put, List.setIfInBounds_toArray, List.set_cons_zero, List.set_cons_succ]
    refine wpAnyH_take (i := 1) (oi := _) (v := ?v1_20) rfl (by kernel_rfl) (by kernel_rfl) (by kernel_rfl) (fun _ _ _ h => h) (Or.inl ⟨by rfl, ?hy1_20⟩) (by assumption) ?rest1_20
    case hy1_20 =>
      intro w hSw
      (try dsimp only at hSw)
      go_simp
      (try with_reducible rfl)
    simp only [Act.put, List.setIfInBounds_toArray, List.set_cons_zero, List.set_cons_succ]
    refine wpAnyH_take (i := 3) (oi := _) (v := ?v3_21) rfl (by kernel_rfl) (by kernel_rfl) (by kernel_rfl) (fun _ _ _ h => h) (Or.inl ⟨by rfl, ?hy3_21⟩) (by assumption) ?rest3_21
    case hy3_21 =>
      intro w hSw
      (try dsimp only at hSw)
      go_simp
      (try with_reducible rfl)
    simp only [Act.put, List.setIfInBounds_toArray, List.set_cons_zero, List.set_cons_succ]
    refine wpAnyH_take (i := 4) (oi := _) (v := ?v4_22) rfl (by kernel_rfl) (by kernel_rfl) (by kernel_rfl) (fun _ _ _ h => h) (Or.inl ⟨by rfl, ?hy4_22⟩) (by assumption) ?rest4_22
    case hy4_22 =>
      intro w hSw
      (try dsimp only at hSw)
      go_simp
      (try with_reducible rfl)
    simp only [Act.put, List.setIfInBounds_toArray, List.set_cons_zero, List.set_cons_succ]
    refine wpAnyH_take (i := 5) (oi := _) (v := ?v5_23) rfl (by kernel_rfl) (by kernel_rfl) (by kernel_rfl) (fun _ _ _ h => h) (Or.inl ⟨by rfl, ?hy5_23⟩) (by assumption) ?rest5_23
    case hy5_23 =>
      intro w hSw
      (try dsimp only at hSw)
      go_simp
      (try with_reducible rfl)
    simp only [Act.put, List.setIfInBounds_toArray, List.set_cons_zero, List.set_cons_succ]
    refine wpAnyH_take (i := 6) (oi := _) (v := ?v6_24) rfl (by kernel_rfl) (by kernel_rfl) (by kernel_rfl) (fun _ _ _ h => h) (Or.inl ⟨by rfl, ?hy6_24⟩) (by assumption) ?rest6_24
    case hy6_24 =>
      intro w hSw
      (try dsimp only at hSw)
      go_simp
      (try with_reducible rfl)
    simp only [Act.put, List.setIfInBounds_toArray, List.set_cons_zero, List.set_cons_succ]
    refine wpAnyH_take (i := 7) (oi := _) (v := ?v7_25) rfl (by kernel_rfl) (by kernel_rfl) (by kernel_rfl) (fun _ _ _ h => h) (Or.inl ⟨by rfl, ?hy7_25⟩) (by assumption) ?rest7_25
    case hy7_25 =>
      intro w hSw
      (try dsimp only at hSw)
      go_simp
      (try with_reducible rfl)
    simp only [Act.put, List.setIfInBounds_toArray, List.set_cons_zero, List.set_cons_succ]
    refine wpAnyH_take (i := 8) (oi := _) (v := ?v8_26) rfl (by kernel_rfl) (by kernel_rfl) (by kernel_rfl) (fun _ _ _ h => h) (Or.inl ⟨by rfl, ?hy8_26⟩) (by assumption) ?rest8_26
    case hy8_26 =>
      intro w hSw
      (try dsimp only at hSw)
      go_simp
      (try with_reducible rfl)
    simp only [Act.put, List.setIfInBounds_toArray, List.set_cons_zero, List.set_cons_succ]
    refine wpAnyH_take (i := 9) (oi := _) (v := ?v9_27) rfl (by kernel_rfl) (by kernel_rfl) (by kernel_rfl) (fun _ _ _ h => h) (Or.inl ⟨by rfl, ?hy9_27⟩) (by assumption) ?rest9_27
    case hy9_27 =>
      intro w hSw
      (try dsimp only at hSw)
      go_simp
      (try with_reducible rfl)
    simp only [Act.put, List.setIfInBounds_toArray, List.set_cons_zero, List.set_cons_succ]
    refine wpAnyH_take (i := 10) (oi := _) (v := ?v10_28) rfl (by kernel_rfl) (by kernel_rfl) (by kernel_rfl) (fun _ _ _ h => h) (Or.inl ⟨by rfl, ?hy10_28⟩) (by assumption) ?rest10_28
    case hy10_28 =>
      intro w hSw
      (try dsimp only at hSw)
      go_simp
      (try with_reducible rfl)
    simp only [Act.put, List.setIfInBounds_toArray, List.set_cons_zero, List.set_cons_succ]
    refine wpAnyH_ready (rs := [2, 16]) (by kernel_rfl) (by simp) ?_
    refine AllReadyH.cons rfl (fun K hK => ?_) ?_
    · go_simp
      have hc_a : Below w3.heap.size w3 (Lib.bytesWorld (w3.drew) 5 (str h)) := bl_then (Below.refl w3.heap.size w3).drew ((Below.refl w3.heap.size w3).drew).size (bytesWorld_below (w3.drew) 5 (str h))
      have hx_a : ReadsB (Lib.bytesWorld (w3.drew) 5 (str h)) (some ⟨w3.heap.size, 0, none⟩) h := by
        have hq := HRC.out (w3.drew)
        have es : (w3.drew).heap.size = w3.heap.size := by simp
        rw [es] at hq
        exact hq
      refine hK.out _ _ (HK.out _ hc_a) (fun hHeld => ?_)
      clear hK K
      (try simp only [Act.put, List.setIfInBounds_toArray, List.set_cons_zero, List.set_cons_succ])
      refine wpAnyH_ready (rs := [11, 16]) (by kernel_rfl) (by simp) ?_
      refine AllReadyH.cons rfl (fun K hK => ?_) ?_
      · go_simp
        refine (HAP.out _ _ _ (hc_a) (hx_a)).mono ?_
        rintro e w5 ⟨v5, rfl, hr5, hb5, hs5⟩
        unfold rpV
        go_simp
        have hc5 : Below w3.heap.size w3 w5 := bl_then (hc_a) (hc_a).size hb5
        have hsz5 := hb5.size
        have hsz6 := (hc_a).size
        refine hK.out _ _ (HK.out _ hc5) (fun hHeld => ?_)
        clear hK K
        (try simp only [Act.put, List.setIfInBounds_toArray, List.set_cons_zero, List.set_cons_succ])
        refine wpAnyH_take (i := 12) (oi := _) (v := ?v12_1) rfl (by kernel_rfl) (by kernel_rfl) (by kernel_rfl) (fun _ _ _ h => h) (Or.inl ⟨by rfl, ?hy12_1⟩) (by assumption) ?rest12_1
        case hy12_1 =>
          intro w hSw
          (try dsimp only at hSw)
          go_simp
          (try with_reducible rfl)
        simp only [Act.put, List.setIfInBounds_toArray, List.set_cons_zero, List.set_cons_succ]
        refine wpAnyH_take (i := 13) (oi := _) (v := ?v13_2) rfl (by kernel_rfl) (by kernel_rfl) (by kernel_rfl) (fun _ _ _ h => h) (Or.inl ⟨by rfl, ?hy13_2⟩) (by assumption) ?rest13_2
        case hy13_2 =>
          intro w hSw
          (try dsimp only at hSw)
          go_simp
          (try with_reducible rfl)
        simp only [Act.put, List.setIfInBounds_toArray, List.set_cons_zero, List.set_cons_succ]
        refine wpAnyH_take (i := 14) (oi := _) (v := ?v14_3) rfl (by kernel_rfl) (by kernel_rfl) (by kernel_rfl) (fun _ _ _ h => h) (Or.inl ⟨by rfl, ?hy14_3⟩) (by assumption) ?rest14_3
        case hy14_3 =>
          intro w hSw
          (try dsimp only at hSw)
          go_simp
          (try with_reducible rfl)
        simp only [Act.put, List.setIfInBounds_toArray, List.set_cons_zero, List.set_cons_succ]
        refine wpAnyH_take (i := 15) (oi := _) (v := ?v15_4) rfl (by kernel_rfl) (by kernel_rfl) (by kernel_rfl) (fun _ _ _ h => h) (Or.inl ⟨by rfl, ?hy15_4⟩) (by assumption) ?rest15_4
        case hy15_4 =>
          intro w hSw
          (try dsimp only at hSw)
          go_simp
          (try with_reducible rfl)
        simp only [Act.put, List.setIfInBounds_toArray, List.set_cons_zero, List.set_cons_succ]
        refine wpAnyH_ready (rs := [16]) (by kernel_rfl) (by simp) ?_
        refine AllReadyH.cons rfl (fun K hK => ?_) ?_
        · go_simp
          refine hK.out _ _ (HK.out _ (hc5.alloc hc5.size (.cells #[.int .i64 0, .int .i64 0, .int .i64 0, .int .i64 0] 23))) (fun hHeld => ?_)
          clear hK K
          (try simp only [Act.put, List.setIfInBounds_toArray, List.set_cons_zero, List.set_cons_succ])
          have hbz : Blk (w5.alloc (.cells #[.int .i64 q0, .int .i64 q1, .int .i64 q2, .int .i64 q3] 23)) (w5.heap.size) 23 (rpCells ⟨q0, q1, q2, q3⟩) := Blk.new w5 23 (rpCells ⟨q0, q1, q2, q3⟩)
          have hbe := hc5.alloc hc5.size (.cells #[.int .i64 q0, .int .i64 q1, .int .i64 q2, .int .i64 q3] 23)
          refine wpAnyH_take (i := 17) (oi := _) (v := ?v17_5) rfl (by kernel_rfl) (by kernel_rfl) (by kernel_rfl) (fun _ _ _ h => h) (Or.inl ⟨by rfl, ?hy17_5⟩) (by assumption) ?rest17_5
          case hy17_5 =>
            intro w hSw
            (try dsimp only at hSw)
            go_simp
            (try with_reducible rfl)
          simp only [Act.put, List.setIfInBounds_toArray, List.set_cons_zero, List.set_cons_succ]
          refine wpAnyH_ready (rs := [18]) (by kernel_rfl) (by simp) ?_
          refine AllReadyH.cons rfl (fun K hK => ?_) AllReadyH.nil
          go_simp
          refine hK.out _ _ (HK.out _ hbe) (fun hHeld => ?_)
          clear hK K
          (try simp only [Act.put, List.setIfInBounds_toArray, List.set_cons_zero, List.set_cons_succ])
          refine wpAnyH_take (i := 19) (oi := _) (v := ?v19_6) rfl (by kernel_rfl) (by kernel_rfl) (by kernel_rfl) (fun _ _ _ h => h) (Or.inl ⟨by rfl, ?hy19_6⟩) (by assumption) ?rest19_6
          case hy19_6 =>
            intro w hSw
            (try dsimp only at hSw)
            go_simp
            (try with_reducible rfl)
          simp only [Act.put, List.setIfInBounds_toArray, List.set_cons_zero, List.set_cons_succ]
          refine wpAnyH_done (by kernel_rfl) ?_ _
          go_wp2_with fail
          go_meet
          case rel =>
            refine ⟨w5.heap.size, rfl, rfl, hbz, ?_, hbe, (hr5.alloc (.cells #[.int .i64 q0, .int .i64 q1, .int .i64 q2, .int .i64 q3] 23)).mono hsz6⟩
            all_goals first | exact hc5.size | exact Nat.le_refl _ | (simp; done) | (intro he; have hlt := (hr5.lt _ he).1; simp [hbsz] at hlt; omega)
        exact AllReadyH.nil
      refine AllReadyH.cons rfl (fun K hK => ?_) ?_
      · go_simp
        refine hK.out _ _ (HK.out _ (hc_a.alloc hc_a.size (.cells #[.int .i64 0, .int .i64 0, .int .i64 0, .int .i64 0] 23))) (fun hHeld => ?_)
        clear hK K
        (try simp only [Act.put, List.setIfInBounds_toArray, List.set_cons_zero, List.set_cons_succ])
        refine wpAnyH_ready (rs := [11]) (by kernel_rfl) (by simp) ?_
        refine AllReadyH.cons rfl (fun K hK => ?_) ?_
        · go_simp
          refine (HAP.out _ _ _ (hc_a.alloc hc_a.size (.cells #[.int .i64 0, .int .i64 0, .int .i64 0, .int .i64 0] 23)) (hx_a.alloc (.cells #[.int .i64 0, .int .i64 0, .int .i64 0, .int .i64 0] 23))).mono ?_
          rintro e w5 ⟨v5, rfl, hr5, hb5, hs5⟩
          unfold rpV
          go_simp
          have hc5 : Below w3.heap.size w3 w5 := bl_then (hc_a.alloc hc_a.size (.cells #[.int .i64 0, .int .i64 0, .int .i64 0, .int .i64 0] 23)) (hc_a.alloc hc_a.size (.cells #[.int .i64 0, .int .i64 0, .int .i64 0, .int .i64 0] 23)).size hb5
          have hsz5 := hb5.size
          have hsz6 := (hc_a.alloc hc_a.size (.cells #[.int .i64 0, .int .i64 0, .int .i64 0, .int .i64 0] 23)).size
          refine hK.out _ _ (HK.out _ hc5) (fun hHeld => ?_)
          clear hK K
          (try simp only [Act.put, List.setIfInBounds_toArray, List.set_cons_zero, List.set_cons_succ])
          refine wpAnyH_take (i := 12) (oi := _) (v := ?v12_7) rfl (by kernel_rfl) (by kernel_rfl) (by kernel_rfl) (fun _ _ _ h => h) (Or.inl ⟨by rfl, ?hy12_7⟩) (by assumption) ?rest12_7
          case hy12_7 =>
            intro w hSw
            (try dsimp only at hSw)
            go_simp
            (try with_reducible rfl)
          simp only [Act.put, List.setIfInBounds_toArray, List.set_cons_zero, List.set_cons_succ]
          refine wpAnyH_take (i := 13) (oi := _) (v := ?v13_8) rfl (by kernel_rfl) (by kernel_rfl) (by kernel_rfl) (fun _ _ _ h => h) (Or.inl ⟨by rfl, ?hy13_8⟩) (by assumption) ?rest13_8
          case hy13_8 =>
            intro w hSw
            (try dsimp only at hSw)
            go_simp
            (try with_reducible rfl)
          simp only [Act.put, List.setIfInBounds_toArray, List.set_cons_zero, List.set_cons_succ]
          refine wpAnyH_take (i := 14) (oi := _) (v := ?v14_9) rfl (by kernel_rfl) (by kernel_rfl) (by kernel_rfl) (fun _ _ _ h => h) (Or.inl ⟨by rfl, ?hy14_9⟩) (by assumption) ?rest14_9
          case hy14_9 =>
            intro w hSw
            (try dsimp only at hSw)
            go_simp
            (try with_reducible rfl)
          simp only [Act.put, List.setIfInBounds_toArray, List.set_cons_zero, List.set_cons_succ]
          refine wpAnyH_take (i := 15) (oi := _) (v := ?v15_10) rfl (by kernel_rfl) (by kernel_rfl) (by kernel_rfl) (fun _ _ _ h => h) (Or.inl ⟨by rfl, ?hy15_10⟩) (by assumption) ?rest15_10
          case hy15_10 =>
            intro w hSw
            (try dsimp only at hSw)
            go_simp
            (try with_reducible rfl)
          simp only [Act.put, List.setIfInBounds_toArray, List.set_cons_zero, List.set_cons_succ]
          have hbz : Blk w5 (w3.heap.size + 1) 23 (rpCells ⟨0, 0, 0, 0⟩) := by have hq := Blk.below (Blk.new (Lib.bytesWorld (w3.drew) 5 (str h)) 23 (rpCells ⟨0, 0, 0, 0⟩)) hb5 (by simp); rw [hbsz] at hq; exact hq
          have hbe := hc5
          have z0 : (w5).cell? ⟨w3.heap.size + 1, 0, none⟩ = some (.int .i64 0) := Blk.cell hbz 0
          have y0 : (w5).frozen? ⟨w3.heap.size + 1, 0, none⟩ = false := Blk.frozen hbz 0
          have z1 : (w5).cell? ⟨w3.heap.size + 1, 1, none⟩ = some (.int .i64 0) := Blk.cell hbz 1
          have y1 : (w5).frozen? ⟨w3.heap.size + 1, 1, none⟩ = false := Blk.frozen hbz 1
          have z2 : (w5).cell? ⟨w3.heap.size + 1, 2, none⟩ = some (.int .i64 0) := Blk.cell hbz 2
          have y2 : (w5).frozen? ⟨w3.heap.size + 1, 2, none⟩ = false := Blk.frozen hbz 2
          have z3 : (w5).cell? ⟨w3.heap.size + 1, 3, none⟩ = some (.int .i64 0) := Blk.cell hbz 3
          have y3 : (w5).frozen? ⟨w3.heap.size + 1, 3, none⟩ = false := Blk.frozen hbz 3
          refine wpAnyH_take (i := 17) (oi := _) (v := ?v17_11) rfl (by kernel_rfl) (by kernel_rfl) (by kernel_rfl) (fun _ _ _ h => h) (Or.inl ⟨by rfl, ?hy17_11⟩) (by assumption) ?rest17_11
          case hy17_11 =>
            intro w hSw
            (try dsimp only at hSw)
            go_simp
            (try with_reducible rfl)
          simp only [Act.put, List.setIfInBounds_toArray, List.set_cons_zero, List.set_cons_succ]
          refine wpAnyH_ready (rs := [18]) (by kernel_rfl) (by simp) ?_
          refine AllReadyH.cons rfl (fun K hK => ?_) AllReadyH.nil
          go_simp
          refine hK.out _ _ (HK.out _ (put4_below (g := w3.heap.size + 1) ⟨q0, q1, q2, q3⟩ hbe (by first | exact Nat.le_refl _ | assumption | (simp; done) | (simp; omega)))) (fun hHeld => ?_)
          clear hK K
          (try simp only [Act.put, List.setIfInBounds_toArray, List.set_cons_zero, List.set_cons_succ])
          refine wpAnyH_take (i := 19) (oi := _) (v := ?v19_12) rfl (by kernel_rfl) (by kernel_rfl) (by kernel_rfl) (fun _ _ _ h => h) (Or.inl ⟨by rfl, ?hy19_12⟩) (by assumption) ?rest19_12
          case hy19_12 =>
            intro w hSw
            (try dsimp only at hSw)
            go_simp
            (try with_reducible rfl)
          simp only [Act.put, List.setIfInBounds_toArray, List.set_cons_zero, List.set_cons_succ]
          refine wpAnyH_done (by kernel_rfl) ?_ _
          go_wp2_with fail
          go_meet
          case rel =>
            refine ⟨w3.heap.size + 1, rfl, rfl, put4_here ⟨q0, q1, q2, q3⟩ hbz, ?_, put4_below ⟨q0, q1, q2, q3⟩ hbe ?_, rowB_put4n ⟨q0, q1, q2, q3⟩ (hr5.mono hsz6) ?_⟩
            all_goals first | exact hc5.size | exact Nat.le_refl _ | (simp; done) | (intro he; have hlt := (hr5.lt _ he).1; simp [hbsz] at hlt; omega)
        exact AllReadyH.nil
      exact AllReadyH.nil
    refine AllReadyH.cons rfl (fun K hK => ?_) ?_
    · go_simp
      refine hK.out _ _ (HK.out _ ((Below.refl w3.heap.size w3).alloc (Nat.le_refl _) (.cells #[.int .i64 0, .int .i64 0, .int .i64 0, .int .i64 0] 23)).drew) (fun hHeld => ?_)
      clear hK K
      (try simp only [Act.put, List.setIfInBounds_toArray, List.set_cons_zero, List.set_cons_succ])
      refine wpAnyH_ready (rs := [2]) (by kernel_rfl) (by simp) ?_
      refine AllReadyH.cons rfl (fun K hK => ?_) ?_
      · go_simp
        have hc_b : Below w3.heap.size w3 (Lib.bytesWorld ((w3.alloc (.cells #[.int .i64 0, .int .i64 0, .int .i64 0, .int .i64 0] 23)).drew) 5 (str h)) := bl_then ((Below.refl w3.heap.size w3).alloc (Nat.le_refl _) (.cells #[.int .i64 0, .int .i64 0, .int .i64 0, .int .i64 0] 23)).drew (((Below.refl w3.heap.size w3).alloc (Nat.le_refl _) (.cells #[.int .i64 0, .int .i64 0, .int .i64 0, .int .i64 0] 23)).drew).size (bytesWorld_below ((w3.alloc (.cells #[.int .i64 0, .int .i64 0, .int .i64 0, .int .i64 0] 23)).drew) 5 (str h))
        have hx_b : ReadsB (Lib.bytesWorld ((w3.alloc (.cells #[.int .i64 0, .int .i64 0, .int .i64 0, .int .i64 0] 23)).drew) 5 (str h)) (some ⟨w3.heap.size + 1, 0, none⟩) h := by
          have hq := HRC.out ((w3.alloc (.cells #[.int .i64 0, .int .i64 0, .int .i64 0, .int .i64 0] 23)).drew)
          have es : ((w3.alloc (.cells #[.int .i64 0, .int .i64 0, .int .i64 0, .int .i64 0] 23)).drew).heap.size = w3.heap.size + 1 := by simp
          rw [es] at hq
          exact hq
        refine hK.out _ _ (HK.out _ hc_b) (fun hHeld => ?_)
        clear hK K
        (try simp only [Act.put, List.setIfInBounds_toArray, List.set_cons_zero, List.set_cons_succ])
        refine wpAnyH_ready (rs := [11]) (by kernel_rfl) (by simp) ?_
        refine AllReadyH.cons rfl (fun K hK => ?_) ?_
        · go_simp
          refine (HAP.out _ _ _ (hc_b) (hx_b)).mono ?_
          rintro e w5 ⟨v5, rfl, hr5, hb5, hs5⟩
          unfold rpV
          go_simp
          have hc5 : Below w3.heap.size w3 w5 := bl_then (hc_b) (hc_b).size hb5
          have hsz5 := hb5.size
          have hsz6 := (hc_b).size
          refine hK.out _ _ (HK.out _ hc5) (fun hHeld => ?_)
          clear hK K
          (try simp only [Act.put, List.setIfInBounds_toArray, List.set_cons_zero, List.set_cons_succ])
          refine wpAnyH_take (i := 12) (oi := _) (v := ?v12_13) rfl (by kernel_rfl) (by kernel_rfl) (by kernel_rfl) (fun _ _ _ h => h) (Or.inl ⟨by rfl, ?hy12_13⟩) (by assumption) ?rest12_13
          case hy12_13 =>
            intro w hSw
            (try dsimp only at hSw)
            go_simp
            (try with_reducible rfl)
          simp only [Act.put, List.setIfInBounds_toArray, List.set_cons_zero, List.set_cons_succ]
          refine wpAnyH_take (i := 13) (oi := _) (v := ?v13_14) rfl (by kernel_rfl) (by kernel_rfl) (by kernel_rfl) (fun _ _ _ h => h) (Or.inl ⟨by rfl, ?hy13_14⟩) (by assumption) ?rest13_14
          case hy13_14 =>
            intro w hSw
            (try dsimp only at hSw)
            go_simp
            (try with_reducible rfl)
          simp only [Act.put, List.setIfInBounds_toArray, List.set_cons_zero, List.set_cons_succ]
          refine wpAnyH_take (i := 14) (oi := _) (v := ?v14_15) rfl (by kernel_rfl) (by kernel_rfl) (by kernel_rfl) (fun _ _ _ h => h) (Or.inl ⟨by rfl, ?hy14_15⟩) (by assumption) ?rest14_15
          case hy14_15 =>
            intro w hSw
            (try dsimp only at hSw)
            go_simp
            (try with_reducible rfl)
          simp only [Act.put, List.setIfInBounds_toArray, List.set_cons_zero, List.set_cons_succ]
          refine wpAnyH_take (i := 15) (oi := _) (v := ?v15_16) rfl (by kernel_rfl) (by kernel_rfl) (by kernel_rfl) (fun _ _ _ h => h) (Or.inl ⟨by rfl, ?hy15_16⟩) (by assumption) ?rest15_16
          case hy15_16 =>
            intro w hSw
            (try dsimp only at hSw)
            go_simp
            (try with_reducible rfl)
          simp only [Act.put, List.setIfInBounds_toArray, List.set_cons_zero, List.set_cons_succ]
          have hbz : Blk w5 (w3.heap.size) 23 (rpCells ⟨0, 0, 0, 0⟩) := Blk.below (Blk.below (Blk.drew (Blk.new w3 23 (rpCells ⟨0, 0, 0, 0⟩))) (bytesWorld_below ((w3.alloc (.cells #[.int .i64 0, .int .i64 0, .int .i64 0, .int .i64 0] 23)).drew) 5 (str h)) (by simp)) hb5 (by simp [hbsz]; omega)
          have hbe := hc5
          have z0 : (w5).cell? ⟨w3.heap.size, 0, none⟩ = some (.int .i64 0) := Blk.cell hbz 0
          have y0 : (w5).frozen? ⟨w3.heap.size, 0, none⟩ = false := Blk.frozen hbz 0
          have z1 : (w5).cell? ⟨w3.heap.size, 1, none⟩ = some (.int .i64 0) := Blk.cell hbz 1
          have y1 : (w5).frozen? ⟨w3.heap.size, 1, none⟩ = false := Blk.frozen hbz 1
          have z2 : (w5).cell? ⟨w3.heap.size, 2, none⟩ = some (.int .i64 0) := Blk.cell hbz 2
          have y2 : (w5).frozen? ⟨w3.heap.size, 2, none⟩ = false := Blk.frozen hbz 2
          have z3 : (w5).cell? ⟨w3.heap.size, 3, none⟩ = some (.int .i64 0) := Blk.cell hbz 3
          have y3 : (w5).frozen? ⟨w3.heap.size, 3, none⟩ = false := Blk.frozen hbz 3
          refine wpAnyH_take (i := 17) (oi := _) (v := ?v17_17) rfl (by kernel_rfl) (by kernel_rfl) (by kernel_rfl) (fun _ _ _ h => h) (Or.inl ⟨by rfl, ?hy17_17⟩) (by assumption) ?rest17_17
          case hy17_17 =>
            intro w hSw
            (try dsimp only at hSw)
            go_simp
            (try with_reducible rfl)
          simp only [Act.put, List.setIfInBounds_toArray, List.set_cons_zero, List.set_cons_succ]
          refine wpAnyH_ready (rs := [18]) (by kernel_rfl) (by simp) ?_
          refine AllReadyH.cons rfl (fun K hK => ?_) AllReadyH.nil
          go_simp
          refine hK.out _ _ (HK.out _ (put4_below (g := w3.heap.size) ⟨q0, q1, q2, q3⟩ hbe (by first | exact Nat.le_refl _ | assumption | (simp; done) | (simp; omega)))) (fun hHeld => ?_)
          clear hK K
          (try simp only [Act.put, List.setIfInBounds_toArray, List.set_cons_zero, List.set_cons_succ])
          refine wpAnyH_take (i := 19) (oi := _) (v := ?v19_18) rfl (by kernel_rfl) (by kernel_rfl) (by kernel_rfl) (fun _ _ _ h => h) (Or.inl ⟨by rfl, ?hy19_18⟩) (by assumption) ?rest19_18
          case hy19_18 =>
            intro w hSw
            (try dsimp only at hSw)
            go_simp
            (try with_reducible rfl)
          simp only [Act.put, List.setIfInBounds_toArray, List.set_cons_zero, List.set_cons_succ]
          refine wpAnyH_done (by kernel_rfl) ?_ _
          go_wp2_with fail
          go_meet
          case rel =>
            refine ⟨w3.heap.size, rfl, rfl, put4_here ⟨q0, q1, q2, q3⟩ hbz, ?_, put4_below ⟨q0, q1, q2, q3⟩ hbe ?_, rowB_put4n ⟨q0, q1, q2, q3⟩ (hr5.mono hsz6) ?_⟩
            all_goals first | exact hc5.size | exact Nat.le_refl _ | (simp; done) | (intro he; have hlt := (hr5.lt _ he).1; simp [hbsz] at hlt; omega)
        exact AllReadyH.nil
      exact AllReadyH.nil
    exact AllReadyH.nil
  case rest =>
    obtain ⟨g, rfl, rfl, kg, hg, hbc, hrY⟩ := hcut
    obtain ⟨A2, cy, rfl, hcy, hrdY⟩ := hrY.slice
    have HBc := Lib.hid (bl_then HB3.out HB3.out.size hbc)
    have kw := k3.below hbc hz3
    have ku := m3.below hbc hs3
    have hTc := hT3.below hbc
    have hrX := hr3.below hbc
    have hzc := hbc.size
    have hw1 : w.heap.size < wc.heap.size := by omega
    have hw2 : w2.heap.size < wc.heap.size := by omega
    have hw3 : g < wc.heap.size := kg.lt
    clear k3 m3 hT3 hr3 hs3 hz3 kc3 HK HTT HB3 hbc hrY hz2 hg hconv HRC
    have kcw := Blk.cell kw
    have kcu := Blk.cell ku
    by_cases her : er = 0
    · subst her
      have heq0 : eq = 0 ∧ applyT window (l.drop k) Y ⟨q0, q1, q2, q3⟩ = ⟨X, ⟨u0, u1, u2, u3⟩, 0⟩ := by
        have hap := applyT_append window (l.take k) (l.drop k) h ⟨ra, rb, rc, rd⟩
        rw [List.take_append_drop, HR.out, HQ.out] at hap
        by_cases h0 : eq ≠ 0
        · rw [if_pos h0] at hap
          exact absurd (congrArg Res.err hap).symm h0
        · rw [if_neg h0] at hap
          exact ⟨Decidable.byContradiction h0, hap.symm⟩
      obtain ⟨rfl, hYX⟩ := heq0
      have HYX := Lib.hid hYX
      clear hYX
      have HLN : Hid ((X.length : Int) = h.length + sizes l) := by
        have := applyT_length window l h ⟨ra, rb, rc, rd⟩ (by rw [HR.out])
        rw [HR.out] at this
        exact Lib.hid this
      have HYL : Hid (Y.length ≤ 20000) := by
        have := applyT_length window (l.take k) h ⟨ra, rb, rc, rd⟩ (by rw [HQ.out])
        rw [HQ.out] at this
        have h60 := (sizes_bd (l.take k)).2
        rw [HLK.out] at h60
        simp only at this
        exact Lib.hid (by omega)
      have sb_all : Hid (0 ≤ sizes l ∧ sizes l ≤ 258 * l.length) := Lib.hid (sizes_bd l)
      have HSB := Lib.hid (fun j => sizes_bd (l.take j))
      go_wp2_with fail
      go_loopw [12, 13] (fun n i wr => ∃ j : Nat, j ≤ l.length ∧ i = .int .i64 j ∧ n = .int .i64 (h.length + sizes (l.take j)) ∧ Below wc.heap.size wc wr) (fun _ i _ => l.length - (intOf i).toNat)
      case atStart => exact ⟨0, Nat.zero_le _, rfl, by simp [sizes, str_size], Below.refl _ _⟩
      case round =>
        obtain ⟨j, hj, rfl, rfl, hbr⟩ := hrel
        have rw_ := kw.below hbr hw1
        have ru := ku.below hbr hw2
        have rg := kg.below hbr hw3
        have hTr := hTc.below hbr
        have hsr := hbr.size
        have rcw := Blk.cell rw_
        clear kcw kcu
        by_cases hjl : j < l.length
        · obtain ⟨ad, hAd, had, g0, g1, g2, g3, g4⟩ := hTr.five j hjl
          obtain ⟨sb0, sb1⟩ := HSB.out j
          have HSN : Hid (sizes (l.take (j + 1)) = sizes (l.take j) + tokSize l[j]) := by rw [List.take_succ_eq_append_getElem hjl, sizes_snoc]; exact Lib.hid rfl
          have hts := tokSize_bd l[j]
          have hlj : ((l.take j).length : Int) ≤ 60 := by rw [List.length_take]; omega
          have sb2 : sizes (l.take j) ≤ 20000 := by omega
          clear sb1 hlj
          subst hAd
          generalize l[j] = t at *
          obtain ⟨tk, tb, tl, td, ti⟩ := t
          generalize sizes (l.take j) = S0 at *
          go_wp2_with fail
          refine (r_Size ⟨tk, tb, tl, td, ti⟩ _).mono ?_
          rintro e w5 ⟨rfl, hb5⟩
          obtain ⟨hts0, hts1⟩ := hts
          generalize tokSize ⟨tk, tb, tl, td, ti⟩ = TS at *
          go_wp2_with fail
          go_roundw
          case rel => exact ⟨j + 1, by omega, by go_num, by rw [HSN.out]; congr 1; omega, bl_then hbr hbr.size hb5⟩
          case measure => simp [intOf]; omega
        · obtain rfl : j = l.length := by omega
          rw [List.take_length] at *
          have hSz := sb_all.out
          clear hTc hj hw1 hw2 kw ku kg
          have hk0 : (0 : Int) ≤ (k : Int) := by omega
          have hk1 : (k : Int) ≤ (l.length : Int) := by omega
          have hk2 : (l.length : Int) ≤ (c2 : Int) := by omega
          have hwr1 : w.heap.size < wr.heap.size := rw_.lt
          have hwr2 : w2.heap.size < wr.heap.size := ru.lt
          have hwr3 : g < wr.heap.size := rg.lt
          have hrdr := hrdY.below hbr
          have hrXr := hrX.below hbr
          clear hrdY hrX
          have HAP : Hid (∀ W, Below wr.heap.size wr W → Calls Try.prog 42 #[.slice A2 Y.length cy, .agg #[.int .i64 q0, .int .i64 q1, .int .i64 q2, .int .i64 q3], .slice (if c2 = k then T else T.map (·.add (k * 5))) (l.length - k) (c2 - k), .int .i64 window] W fun e w' => ∃ v, e = .returned (.tuple #[v, .agg #[.int .i64 u0, .int .i64 u1, .int .i64 u2, .int .i64 u3], .int .i64 0]) ∧ RowB w' W.heap.size v X ∧ Below W.heap.size W w' ∧ Below wr.heap.size wr w') := by
            intro W hW
            have hTW : ReadsT W (if c2 = k then T else T.map (·.add (k * 5))) (l.drop k) := by
              have h0 := Reads.cut (k := k) (cap := c2) (hTr.below hW) hkl hc2
              have e1 : tvals (l.drop k) = (tvals l).drop (k * 5) := tvals_drop l k
              unfold ReadsT
              rw [List.length_drop, e1]
              exact h0
            have := p_Apply A2 cy Y ⟨q0, q1, q2, q3⟩ _ (c2 - k) (l.drop k) window W (hrdr.below hW) hTW (by rw [List.length_drop]; omega) (by rw [List.length_drop]; have := HYL.out; omega)
            rw [HYX.out, List.length_drop] at this
            refine this.mono fun e w' ⟨v, e1, e2, e3, e4⟩ => ⟨v, e1, e2, e3, bl_then hW hW.size e3⟩
          have HK : Hid (∀ w', Below wr.heap.size wr w' → w'.cell? ⟨w.heap.size, 0, none⟩ = some (.string (str h)) ∧ w'.cell? ⟨w.heap.size, 1, none⟩ = some (.int .i64 ra) ∧ w'.cell? ⟨w.heap.size, 2, none⟩ = some (.int .i64 rb) ∧ w'.cell? ⟨w.heap.size, 3, none⟩ = some (.int .i64 rc) ∧ w'.cell? ⟨w.heap.size, 4, none⟩ = some (.int .i64 rd) ∧ w'.cell? ⟨w.heap.size, 5, none⟩ = some (.slice T l.length c2) ∧ w'.cell? ⟨w.heap.size, 6, none⟩ = some (.int .i64 window) ∧ w'.cell? ⟨g, 0, none⟩ = some (.int .i64 q0) ∧ w'.cell? ⟨g, 1, none⟩ = some (.int .i64 q1) ∧ w'.cell? ⟨g, 2, none⟩ = some (.int .i64 q2) ∧ w'.cell? ⟨g, 3, none⟩ = some (.int .i64 q3) ∧ Below wr.heap.size wr w') := by
            intro w' hb
            have g0 := Blk.cell (rw_.below hb hwr1)
            have g1 := Blk.cell (rg.below hb hwr3)
            exact ⟨g0 0, g0 1, g0 2, g0 3, g0 4, g0 5, g0 6, g1 0, g1 1, g1 2, g1 3, hb⟩
          have HT' : Hid (T = T) := Lib.hid rfl
          clear hTr hrdr rg
          rw [← HLN.out]
          go_upto_region 13 with (fail)
          clear rcw
          go_cut [14, 15, 16] (fun v14 v15 v16 wd => ∃ g3 : Nat, v15 = .pointer (some ⟨g3, 0, none⟩) ∧ v16 = .int .i64 0 ∧ Blk wd g3 23 #[.int .i64 u0, .int .i64 u1, .int .i64 u2, .int .i64 u3] ∧ wr.heap.size ≤ g3 ∧ Below wr.heap.size wr wd ∧ RowB wd wr.heap.size v14 X)
          case first =>
            by_cases hck : c2 = k
            rotate_left
            · rw [if_neg hck] at HAP
              go_region_held3 (fun w' => w'.cell? ⟨w.heap.size, 0, none⟩ = some (.string (str h)) ∧ w'.cell? ⟨w.heap.size, 1, none⟩ = some (.int .i64 ra) ∧ w'.cell? ⟨w.heap.size, 2, none⟩ = some (.int .i64 rb) ∧ w'.cell? ⟨w.heap.size, 3, none⟩ = some (.int .i64 rc) ∧ w'.cell? ⟨w.heap.size, 4, none⟩ = some (.int .i64 rd) ∧ w'.cell? ⟨w.heap.size, 5, none⟩ = some (.slice T l.length c2) ∧ w'.cell? ⟨w.heap.size, 6, none⟩ = some (.int .i64 window) ∧ w'.cell? ⟨g, 0, none⟩ = some (.int .i64 q0) ∧ w'.cell? ⟨g, 1, none⟩ = some (.int .i64 q1) ∧ w'.cell? ⟨g, 2, none⟩ = some (.int .i64 q2) ∧ w'.cell? ⟨g, 3, none⟩ = some (.int .i64 q3) ∧ Below wr.heap.size wr w')
                (exact HK.out _ (by repeat (first | with_reducible assumption | exact Below.refl _ _ | refine Below.drew ?_ | refine Below.alloc ?_ (by first | assumption | omega | (simp; done) | (simp; omega)) _ | refine Below.setCell ?_ (by first | assumption | omega | (simp; done) | (simp; omega)) _ | refine bl_then ?_ (by first | assumption | omega | (simp; done) | (simp; omega)) (bytesWorld_below _ _ _))))
                ((go_at_call 42; go_must (refine (HAP.out _ ?_).mono ?_); (first | with_reducible assumption | (repeat (first | exact Below.refl _ _ | refine Below.drew ?_ | refine Below.alloc ?_ (Nat.le_refl _) _))); go_must (rintro e w5 ⟨v5, rfl, hr5, hb5, hbw5⟩; have hs5 := hbw5.size; simp only [World.size_drew, World.size_alloc] at hr5; obtain ⟨hc5, hf5⟩ := bcell hb5)))
              all_goals
                go_wp2_with fail
                go_meet
                case rel =>
                  first
                    | exact ⟨w5.heap.size, rfl, rfl, Blk.new w5 23 (rpCells ⟨u0, u1, u2, u3⟩), hs5, hbw5.alloc hs5 _, RowB.mono (hr5.alloc _) (by first | exact Nat.le_refl _ | omega)⟩
                    | exact ⟨wr.heap.size, rfl, rfl, put4_here ⟨u0, u1, u2, u3⟩ (Blk.below (Blk.drew (Blk.new wr 23 (rpCells ⟨0, 0, 0, 0⟩))) hb5 (by simp)), Nat.le_refl _, put4_below ⟨u0, u1, u2, u3⟩ hbw5 (Nat.le_refl _), RowB.mono (rowB_put4n ⟨u0, u1, u2, u3⟩ hr5 (fun he => by have := (hr5.lt _ he).1; omega)) (by omega)⟩
            · subst hck
              rw [if_pos rfl, Nat.sub_self, show l.length - c2 = 0 by omega] at HAP
              go_region_held3 (fun w' => w'.cell? ⟨w.heap.size, 0, none⟩ = some (.string (str h)) ∧ w'.cell? ⟨w.heap.size, 1, none⟩ = some (.int .i64 ra) ∧ w'.cell? ⟨w.heap.size, 2, none⟩ = some (.int .i64 rb) ∧ w'.cell? ⟨w.heap.size, 3, none⟩ = some (.int .i64 rc) ∧ w'.cell? ⟨w.heap.size, 4, none⟩ = some (.int .i64 rd) ∧ w'.cell? ⟨w.heap.size, 5, none⟩ = some (.slice T l.length c2) ∧ w'.cell? ⟨w.heap.size, 6, none⟩ = some (.int .i64 window) ∧ w'.cell? ⟨g, 0, none⟩ = some (.int .i64 q0) ∧ w'.cell? ⟨g, 1, none⟩ = some (.int .i64 q1) ∧ w'.cell? ⟨g, 2, none⟩ = some (.int .i64 q2) ∧ w'.cell? ⟨g, 3, none⟩ = some (.int .i64 q3) ∧ Below wr.heap.size wr w')
                (exact HK.out _ (by repeat (first | with_reducible assumption | exact Below.refl _ _ | refine Below.drew ?_ | refine Below.alloc ?_ (by first | assumption | omega | (simp; done) | (simp; omega)) _ | refine Below.setCell ?_ (by first | assumption | omega | (simp; done) | (simp; omega)) _ | refine bl_then ?_ (by first | assumption | omega | (simp; done) | (simp; omega)) (bytesWorld_below _ _ _))))
                ((go_at_call 42; go_must (refine (HAP.out _ ?_).mono ?_); (first | with_reducible assumption | (repeat (first | exact Below.refl _ _ | refine Below.drew ?_ | refine Below.alloc ?_ (Nat.le_refl _) _))); go_must (rintro e w5 ⟨v5, rfl, hr5, hb5, hbw5⟩; have hs5 := hbw5.size; simp only [World.size_drew, World.size_alloc] at hr5; obtain ⟨hc5, hf5⟩ := bcell hb5)))
              all_goals
                go_wp2_with fail
                go_meet
                case rel =>
                  first
                    | exact ⟨w5.heap.size, rfl, rfl, Blk.new w5 23 (rpCells ⟨u0, u1, u2, u3⟩), hs5, hbw5.alloc hs5 _, RowB.mono (hr5.alloc _) (by first | exact Nat.le_refl _ | omega)⟩
                    | exact ⟨wr.heap.size, rfl, rfl, put4_here ⟨u0, u1, u2, u3⟩ (Blk.below (Blk.drew (Blk.new wr 23 (rpCells ⟨0, 0, 0, 0⟩))) hb5 (by simp)), Nat.le_refl _, put4_below ⟨u0, u1, u2, u3⟩ hbw5 (Nat.le_refl _), RowB.mono (rowB_put4n ⟨u0, u1, u2, u3⟩ hr5 (fun he => by have := (hr5.lt _ he).1; omega)) (by omega)⟩
          case rest =>
            obtain ⟨g3, rfl, rfl, k3, hg3, hbd, hr3⟩ := hcut
            obtain ⟨A3, c3, rfl, hcc3, hrd3⟩ := hr3.slice
            have hrd1 := hrXr.below hbd
            obtain ⟨A1', c1', hv1, hcc1', hrd1⟩ := hrd1.slice
            obtain ⟨rfl, -, rfl⟩ : A1 = A1' ∧ X.length = X.length ∧ c1 = c1' := by injection hv1 with x1 x2 x3; exact ⟨x1, x2, x3⟩
            have k2 := ru.below hbd hwr2
            have hl2 := k2.lt
            have hl3 := k3.lt
            have HBd := Lib.hid (bl_then (bl_then HBc.out HBc.out.size hbr) (bl_then HBc.out HBc.out.size hbr).size hbd)
            have HK2 : Hid (∀ w', Below wc.heap.size wc w' → (convert 68 9 (.slice A1 X.length c1)).run Try.prog w' = .ok (.string (str X)) w' ∧ (convert 68 9 (.slice A3 X.length c3)).run Try.prog w' = .ok (.string (str X)) w' ∧ w'.cell? ⟨w2.heap.size, 0, none⟩ = some (.int .i64 u0) ∧ w'.cell? ⟨w2.heap.size, 1, none⟩ = some (.int .i64 u1) ∧ w'.cell? ⟨w2.heap.size, 2, none⟩ = some (.int .i64 u2) ∧ w'.cell? ⟨w2.heap.size, 3, none⟩ = some (.int .i64 u3) ∧ w'.cell? ⟨g3, 0, none⟩ = some (.int .i64 u0) ∧ w'.cell? ⟨g3, 1, none⟩ = some (.int .i64 u1) ∧ w'.cell? ⟨g3, 2, none⟩ = some (.int .i64 u2) ∧ w'.cell? ⟨g3, 3, none⟩ = some (.int .i64 u3) ∧ Below wc.heap.size wc w') := by
              intro w' hb
              have g0 := Blk.cell (k2.below hb hl2)
              have g1 := Blk.cell (k3.below hb hl3)
              exact ⟨run_str w' _ A1 X.length c1 X (hrd1.below hb), run_str w' _ A3 X.length c3 X (hrd3.below hb), g0 0, g0 1, g0 2, g0 3, g1 0, g1 1, g1 2, g1 3, hb⟩
            have hse := str_eq X X
            simp only [decide_true] at hse
            clear hr3 hrd3 hrd1 hbd k2 k3 HK HAP rw_ ru hv1 hrXr hbr hwr1 hwr2 hwr3 hg3
            go_wp2_with fail
            go_region_held3 (fun w' => (convert 68 9 (.slice A1 X.length c1)).run Try.prog w' = .ok (.string (str X)) w' ∧ (convert 68 9 (.slice A3 X.length c3)).run Try.prog w' = .ok (.string (str X)) w' ∧ w'.cell? ⟨w2.heap.size, 0, none⟩ = some (.int .i64 u0) ∧ w'.cell? ⟨w2.heap.size, 1, none⟩ = some (.int .i64 u1) ∧ w'.cell? ⟨w2.heap.size, 2, none⟩ = some (.int .i64 u2) ∧ w'.cell? ⟨w2.heap.size, 3, none⟩ = some (.int .i64 u3) ∧ w'.cell? ⟨g3, 0, none⟩ = some (.int .i64 u0) ∧ w'.cell? ⟨g3, 1, none⟩ = some (.int .i64 u1) ∧ w'.cell? ⟨g3, 2, none⟩ = some (.int .i64 u2) ∧ w'.cell? ⟨g3, 3, none⟩ = some (.int .i64 u3) ∧ Below wc.heap.size wc w')
              (first | exact HK2.out _ (by with_reducible assumption) | exact HK2.out _ (Below.refl _ _).drew)
              (first | (go_at_call 17; refine (kcall (w2 := wc) ?_ (r_Find ⟨_, _, _, _⟩ _ _)).mono ?_; (first | with_reducible assumption | exact (Below.refl _ _).drew); rintro e w' ⟨rfl, hb⟩)
                     | (go_at_call 39; refine (kcall (w2 := wc) ?_ (awake18 _)).mono ?_; (first | with_reducible assumption | exact (Below.refl _ _).drew); rintro e w' ⟨rfl, hb⟩))
            all_goals
              go_wp2
              go_ret
              exact ⟨rfl, bl_then HBd.out HBd.out.size (by assumption)⟩
    · have hX := applyT_err window l h ⟨ra, rb, rc, rd⟩
      rw [HR.out] at hX
      have hX := hX her
      simp only [badRes, Res.mk.injEq, Rp.mk.injEq] at hX
      obtain ⟨rfl, ⟨rfl, rfl, rfl, rfl⟩, -⟩ := hX
      have hd : decide (er = 0) = false := by simp [her]
      have hd2 : (er != 0) = true := by simp [her]
      clear her
      go_wp2_with fail
      refine (awake18 _).mono ?_
      rintro e w5 ⟨rfl, hb5⟩
      go_wp2_with fail
      go_ret
      exact ⟨rfl, bl_then HBc.out HBc.out.size hb5⟩

theorem law_DenoteParts (h : List UInt8) (r : Rp) (T : Option Addr) (c2 : Nat) (l : List Tok) (window : Int) (at_ : Nat) (w : World) (hT : ReadsT w T l) (hc2 : l.length ≤ c2) (ha : at_ ≤ 255) :
    Calls Try.prog 12 #[.agg #[.string (str h), .int .i64 r.a, .int .i64 r.b, .int .i64 r.c, .int .i64 r.d, .slice T l.length c2, .int .i64 window], .int .u8 at_] w fun e w' => e = .returned (.bool true) ∧ Below w.heap.size w w' := by
  by_cases h1 : h.length ≤ 500
  · by_cases h2 : l.length ≤ 60
    · exact law_DenoteParts_small h r T c2 l window at_ w hT hc2 h1 h2 ha
    · obtain ⟨ra, rb, rc, rd⟩ := r
      have l1 : (str h).size ≤ 500 := h1
      have l2 : 60 < l.length := by omega
      clear h1 h2 hT
      go_enter Try.func12, Try.ntmps12
      go_wp2_with fail
      refine (awake18 _).mono ?_
      rintro e w1 ⟨rfl, hb1⟩
      go_wp2
      go_ret
      exact ⟨rfl, bl_then (bl_alloc (Below.refl _ _) _) (by simp) hb1⟩
  · obtain ⟨ra, rb, rc, rd⟩ := r
    have l1 : 500 < (str h).size := Nat.lt_of_not_le h1
    clear h1 hT
    go_enter Try.func12, Try.ntmps12
    go_wp2_with fail
    refine (awake18 _).mono ?_
    rintro e w1 ⟨rfl, hb1⟩
    go_wp2
    go_ret
    exact ⟨rfl, bl_then (bl_alloc (Below.refl _ _) _) (by simp) hb1⟩

end Go.Proofs.Ytiohdgckmolmnaa
