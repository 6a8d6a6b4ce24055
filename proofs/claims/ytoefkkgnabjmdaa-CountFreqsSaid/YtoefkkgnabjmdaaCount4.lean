/- Chapter 24 (count): Prices, the program's and the reference's, and the reference's comparison of ints: by walks. -/
import Derived.Test.YtoefkkgnabjmdaaCount3
set_option linter.unusedSimpArgs false
set_option linter.unusedVariables false
set_option maxRecDepth 100000
namespace Go.Proofs.Ytoefkkgnabjmdaa
open Go.RowKit

theorem p_Prices (M D : Option Addr) (m d : List Int) (c1 c2 : Nat) (w : World) (hm : ReadsI w M m) (hd : ReadsI w D d) (l1 : m.length ≤ 1000) (l2 : d.length ≤ 1000) :
    Calls Try.prog 26 #[.slice M m.length c1, .slice D d.length c2] w fun e w' => ∃ b1 b2, e = .returned (.agg #[.slice (some ⟨b1, 0, none⟩) 401 401, .slice (some ⟨b2, 0, none⟩) 52 52]) ∧
      ReadsI w' (some ⟨b1, 0, none⟩) (pricesOf m 401) ∧ ReadsI w' (some ⟨b2, 0, none⟩) (pricesOf d 52) ∧ Below w.heap.size w w' := by
  have hp1 := fun w h => p_filled M c1 m 401 (by omega) (by omega) w h l1 p_Mul401
  have hp2 := fun w h => p_filled D c2 d 52 (by omega) (by omega) w h l2 p_Mul52
  have hB0 := bl_alloc (Below.refl w.heap.size w) (.cells #[.slice none 0 0, .slice none 0 0] 48)
  have hk0 := Blk.new w 48 #[.slice none 0 0, .slice none 0 0]
  have hm0 := hm.below hB0
  have hd0 := hd.below hB0
  clear hm hd
  go_enter Try.func26, Try.ntmps26
  go_wp2_with fail
  refine Calls.mono (show Calls _ _ #[_, .int .i64 401, _, _] _ _ from hp1 _ hm0) ?_
  rintro e w1 ⟨b1, rfl, z1, k1, hb1⟩
  have hk1 := hk0.below hb1 hk0.lt
  have hd1 := hd0.below hb1
  have hB1 := bl_then hB0 hB0.size hb1
  clear hp1 hm0 hd0 hk0 hB0 hb1 z1
  go_wp2_with fail
  refine Calls.mono (show Calls _ _ #[_, .int .i64 52, _, _] _ _ from hp2 _ hd1) ?_
  rintro e w2 ⟨b2, rfl, z2, k2, hb2⟩
  have hk2 := hk1.below hb2 hk1.lt
  have k3 := k1.below hb2 k1.lt
  have hB2 := bl_then hB1 hB1.size hb2
  have hne1 : ¬ b1 = w.heap.size := Blk.ne_ k3 hk2 (by decide)
  have hne2 : ¬ b2 = w.heap.size := Blk.ne_ k2 hk2 (by decide)
  have c0 := Blk.cell hk2 0
  have c1' := Blk.cell hk2 1
  have f0 := Blk.frozen hk2 0
  have f1 := Blk.frozen hk2 1
  have hz := hk2.lt
  clear hp2 hd1 hk1 hB1 hb2 z2 k1
  go_wp2
  refine bodyPost_ret (v := .agg #[.slice (some ⟨b1, 0, none⟩) 401 401, .slice (some ⟨b2, 0, none⟩) 52 52]) ?_ rfl ⟨b1, b2, rfl, reads_ints ((k3.far (by simp; omega) _).far (by simp; omega) _), reads_ints ((k2.far (by simp; omega) _).far (by simp; omega) _), (hB2.setCell (p := ⟨w.heap.size, 0, none⟩) (Nat.le_refl _) _).setCell (p := ⟨w.heap.size, 1, none⟩) (Nat.le_refl _) _⟩
  simp [results, Try.results26, go_sem, c0, c1', f0, f1]

set_option maxHeartbeats 2000000 in
theorem r_one (A : Option Addr) (c : Nat) (l : List Int) (n : Nat) (hn : n ≤ 1000) (w : World) (h : ReadsI w A l) (hl : l.length ≤ 1000) :
    Calls Try.prog 60 #[.slice A l.length c, .int .i64 n] w fun e w' => ∃ B c', e = .returned (.slice B n c') ∧ RowI w' w.heap.size (.slice B n c') (pricesOf l n) ∧ Below w.heap.size w w' := by
  go_enter Try.func60, Try.ntmps60
  go_wp2_with fail
  go_loopw [5, 6] (fun v5 v6 wr => ∃ k : Nat, k ≤ n ∧ v6 = .int .i64 k ∧ RowI wr w.heap.size v5 (pricesOf l k) ∧ Below w.heap.size w wr) (fun _ v6 _ => n - (intOf v6).toNat)
  case atStart => exact ⟨0, Nat.zero_le _, rfl, Row.nil _ _ _ _, Below.refl _ _⟩
  case round =>
    obtain ⟨k, hk, rfl, hrow, hbr⟩ := hrel
    by_cases hkn : k < n
    · have HP := Lib.hid (show pricesOf l (k + 1) = pricesOf l k ++ [priceOf l k] by simp [pricesOf, List.range_succ])
      have hrl : (pricesOf l k).length = k := pricesOf_length l k
      have HRL := Lib.hid hrl
      have hsz := hbr.size
      clear hrl
      by_cases hkl : k < l.length
      · obtain ⟨ad, rfl, had, hc'⟩ := h.at_ k hkl
        have hadB : (ad.add k).block < w.heap.size := by rw [block_of_add]; exact had
        have hc := (hbr.cell (p := ad.add k) hadB).trans hc'
        have hg := show l.getD k 0 = l[k] by rw [List.getD_eq_getElem?_getD, List.getElem?_eq_getElem hkl]; rfl
        generalize l[k] = z at *
        clear hc'
        by_cases h1 : 1 ≤ z
        · by_cases h2 : z ≤ 15
          · have HQ : Hid (priceOf l k = z) := Lib.hid (by unfold priceOf; rw [hg, if_pos (by unfold codeOk; simp [h1, h2])])
            clear hg
            have hrx := reads_ints (Blk.new wr 3 (ivals [z]).toArray)
            have hrow3 := hrow.alloc (.cells (ivals [z]).toArray 3)
            have hlt := hrow.lt
            have HB3 := Lib.hid (bl_alloc hbr (.cells (ivals [z]).toArray 3))
            clear hrow
            go_wp2_with (at_builtin; go_must (refine wpList_append_ints rfl (.tmp 35) (.tmp 37) rfl w.heap.size _ (pricesOf l k) rfl hrow3 (some ⟨wr.heap.size, 0, none⟩) 1 1 [z] rfl rfl hrx (by have := HRL.out; simp; omega) (by simp; omega) ?_); intro v3 w3 hr3 hg3 ho3)
            go_roundw
            case rel =>
              refine ⟨k + 1, by omega, by go_num, ?_, ?_⟩
              · rw [HP.out, HQ.out]; exact hr3
              · exact HB3.out.grown hg3 (by simp; omega) (fun j hj => (hlt j hj).1)
            case measure => simp [intOf]; omega
          · have HQ : Hid (priceOf l k = 16) := Lib.hid (by unfold priceOf; rw [hg, if_neg (by unfold codeOk; simp [h2])])
            clear hg
            have hrx := reads_ints (Blk.new wr 3 (ivals [16]).toArray)
            have hrow3 := hrow.alloc (.cells (ivals [16]).toArray 3)
            have hlt := hrow.lt
            have HB3 := Lib.hid (bl_alloc hbr (.cells (ivals [16]).toArray 3))
            clear hrow
            go_wp2_with (at_builtin; go_must (refine wpList_append_ints rfl (.tmp 35) (.tmp 37) rfl w.heap.size _ (pricesOf l k) rfl hrow3 (some ⟨wr.heap.size, 0, none⟩) 1 1 [16] rfl rfl hrx (by have := HRL.out; simp; omega) (by simp; omega) ?_); intro v3 w3 hr3 hg3 ho3)
            go_roundw
            case rel =>
              refine ⟨k + 1, by omega, by go_num, ?_, ?_⟩
              · rw [HP.out, HQ.out]; exact hr3
              · exact HB3.out.grown hg3 (by simp; omega) (fun j hj => (hlt j hj).1)
            case measure => simp [intOf]; omega
        · have HQ : Hid (priceOf l k = 16) := Lib.hid (by unfold priceOf; rw [hg, if_neg (by unfold codeOk; simp [h1])])
          clear hg
          have hrx := reads_ints (Blk.new wr 3 (ivals [16]).toArray)
          have hrow3 := hrow.alloc (.cells (ivals [16]).toArray 3)
          have hlt := hrow.lt
          have HB3 := Lib.hid (bl_alloc hbr (.cells (ivals [16]).toArray 3))
          clear hrow
          go_wp2_with (at_builtin; go_must (refine wpList_append_ints rfl (.tmp 35) (.tmp 37) rfl w.heap.size _ (pricesOf l k) rfl hrow3 (some ⟨wr.heap.size, 0, none⟩) 1 1 [16] rfl rfl hrx (by have := HRL.out; simp; omega) (by simp; omega) ?_); intro v3 w3 hr3 hg3 ho3)
          go_roundw
          case rel =>
            refine ⟨k + 1, by omega, by go_num, ?_, ?_⟩
            · rw [HP.out, HQ.out]; exact hr3
            · exact HB3.out.grown hg3 (by simp; omega) (fun j hj => (hlt j hj).1)
          case measure => simp [intOf]; omega
      · have HQ : Hid (priceOf l k = 16) := Lib.hid (by unfold priceOf; rw [List.getD_eq_getElem?_getD, List.getElem?_eq_none (by omega)]; rfl)
        have hrx := reads_ints (Blk.new wr 3 (ivals [16]).toArray)
        have hrow3 := hrow.alloc (.cells (ivals [16]).toArray 3)
        have hlt := hrow.lt
        have HB3 := Lib.hid (bl_alloc hbr (.cells (ivals [16]).toArray 3))
        clear hrow
        go_wp2_with (at_builtin; go_must (refine wpList_append_ints rfl (.tmp 35) (.tmp 37) rfl w.heap.size _ (pricesOf l k) rfl hrow3 (some ⟨wr.heap.size, 0, none⟩) 1 1 [16] rfl rfl hrx (by have := HRL.out; simp; omega) (by simp; omega) ?_); intro v3 w3 hr3 hg3 ho3)
        go_roundw
        case rel =>
          refine ⟨k + 1, by omega, by go_num, ?_, ?_⟩
          · rw [HP.out, HQ.out]; exact hr3
          · exact HB3.out.grown hg3 (by simp; omega) (fun j hj => (hlt j hj).1)
        case measure => simp [intOf]; omega
    · obtain rfl : k = n := by omega
      obtain ⟨B, c', rfl, hc', hrd⟩ := hrow.slice
      rw [pricesOf_length] at *
      go_wp2
      go_ret
      exact ⟨B, c', rfl, hrow, hbr⟩

theorem row_reads {w : World} {base n c : Nat} {A : Option Addr} {xs : List Int} (h : RowI w base (.slice A n c) xs) (hl : xs.length = n) : ReadsI w A xs := by
  subst hl
  exact Row.reads h rfl
theorem r_Prices (M D : Option Addr) (m d : List Int) (c1 c2 : Nat) (w : World) (hm : ReadsI w M m) (hd : ReadsI w D d) (l1 : m.length ≤ 1000) (l2 : d.length ≤ 1000) :
    Calls Try.prog 27 #[.slice M m.length c1, .slice D d.length c2] w fun e w' => ∃ A1 A2 c3 c4, e = .returned (.agg #[.slice A1 401 c3, .slice A2 52 c4]) ∧
      ReadsI w' A1 (pricesOf m 401) ∧ ReadsI w' A2 (pricesOf d 52) ∧ Below w.heap.size w w' := by
  have hp1 := fun w h => r_one M c1 m 401 (by omega) w h l1
  have hp2 := fun w h => r_one D c2 d 52 (by omega) w h l2
  have hB0 := bl_alloc (Below.refl w.heap.size w) (.cells #[.slice none 0 0, .slice none 0 0] 48)
  have hk0 := Blk.new w 48 #[.slice none 0 0, .slice none 0 0]
  have hm0 := hm.below hB0
  have hd0 := hd.below hB0
  clear hm hd
  go_enter Try.func27, Try.ntmps27
  go_wp2_with fail
  refine Calls.mono (show Calls _ _ #[_, .int .i64 401] _ _ from hp1 _ hm0) ?_
  rintro e w1 ⟨A1, c3, rfl, k1, hb1⟩
  have z1 := k1.mono (show w.heap.size + 1 ≤ _ by simp)
  clear k1
  have hk1 := hk0.below hb1 hk0.lt
  have hd1 := hd0.below hb1
  have hB1 := bl_then hB0 hB0.size hb1
  clear hp1 hm0 hd0 hk0 hB0 hb1
  go_wp2_with fail
  refine Calls.mono (show Calls _ _ #[_, .int .i64 52] _ _ from hp2 _ hd1) ?_
  rintro e w2 ⟨A2, c4, rfl, k2, hb2⟩
  have z2 := k2.mono (show w.heap.size + 1 ≤ _ by have := hk1.lt; omega)
  have z3 := z1.below hb2
  clear k2
  have hk2 := hk1.below hb2 hk1.lt
  have hB2 := bl_then hB1 hB1.size hb2
  have c0 := Blk.cell hk2 0
  have c1' := Blk.cell hk2 1
  have f0 := Blk.frozen hk2 0
  have f1 := Blk.frozen hk2 1
  have hz := hk2.lt
  clear hp2 hd1 hk1 hB1 hb2 z1
  go_wp2
  have n1 : (Value.slice A1 401 c3).ownBlock ≠ some w.heap.size := fun h => by have := (z3.lt _ h).1; omega
  have n2 : (Value.slice A2 52 c4).ownBlock ≠ some w.heap.size := fun h => by have := (z2.lt _ h).1; omega
  refine bodyPost_ret (v := .agg #[.slice A1 401 c3, .slice A2 52 c4]) ?_ rfl ⟨A1, A2, c3, c4, rfl, ?_, ?_, (hB2.setCell (p := ⟨w.heap.size, 0, none⟩) (Nat.le_refl _) _).setCell (p := ⟨w.heap.size, 1, none⟩) (Nat.le_refl _) _⟩
  · simp [results, Try.results27, go_sem, c0, c1', f0, f1]
  · exact row_reads ((Row.setCell z3 _ n1).setCell _ n1) (pricesOf_length m 401)
  · exact row_reads ((Row.setCell z2 _ n2).setCell _ n2) (pricesOf_length d 52)

theorem r_Ints (A B : Option Addr) (a b : List Int) (c1 c2 : Nat) (w : World) (ha : ReadsI w A a) (hb : ReadsI w B b) (la : a.length ≤ 1000000000) (lb : b.length ≤ 1000000000) :
    Calls Try.prog 28 #[.slice A a.length c1, .slice B b.length c2] w fun e w' => e = .returned (.bool (decide (a = b))) ∧ Below w.heap.size w w' := by
  by_cases hl : a.length = b.length
  · have HL := Lib.hid hl
    have b1 : ((a.length : Int) != b.length) = false := by rw [bne_eq_false_iff_eq]; omega
    clear hl
    go_enter Try.func28, Try.ntmps28
    go_wp2_with fail
    go_loopw [5] (fun v wr => ∃ k : Nat, k ≤ a.length ∧ v = .int .i64 k ∧ a.take k = b.take k ∧ Below w.heap.size w wr) (fun v _ => a.length - (intOf v).toNat)
    case atStart => exact ⟨0, Nat.zero_le _, rfl, rfl, Below.refl _ _⟩
    case round =>
      obtain ⟨k, hk, rfl, heq, hbr⟩ := hrel
      have HE := Lib.hid heq
      clear heq
      by_cases hkl : k < a.length
      · have hkb : k < b.length := by have := HL.out; omega
        obtain ⟨ad, rfl, had, g1⟩ := (ha.below hbr).at_ k hkl
        obtain ⟨bd, rfl, hbd, g2⟩ := (hb.below hbr).at_ k hkb
        have HA := Lib.hid (show a.take (k + 1) = a.take k ++ [a[k]] from List.take_succ_eq_append_getElem hkl)
        have HB := Lib.hid (show b.take (k + 1) = b.take k ++ [b[k]] from List.take_succ_eq_append_getElem hkb)
        have HN := Lib.hid (show a = b → a[k] = b[k] from fun h => by subst h; rfl)
        generalize a[k] = y at *
        generalize b[k] = z at *
        by_cases hyz : y = z
        · have hd : (y != z) = false := by simpa using hyz
          have HZ := Lib.hid hyz
          clear hyz
          go_wp2_with fail
          go_quiet (fail)
          go_wp2
          go_roundw
          case rel => exact ⟨k + 1, by omega, by go_num, by rw [HA.out, HB.out, HE.out, HZ.out], bl_drewN hbr _⟩
          case measure => simp [intOf]; omega
        · have hd : (y != z) = true := by simpa using hyz
          have HZ := Lib.hid hyz
          clear hyz
          go_wp2_with fail
          go_quiet (fail)
          go_wp2
          go_ret
          exact ⟨by rw [decide_eq_false (fun h => HZ.out (HN.out h))]; rfl, bl_drewN hbr _⟩
      · obtain rfl : k = a.length := by omega
        go_wp2
        go_ret
        have h1 := HE.out
        rw [List.take_length, HL.out, List.take_length] at h1
        exact ⟨by rw [decide_eq_true h1]; rfl, hbr⟩
  · have b1 : ((a.length : Int) != b.length) = true := by rw [bne_iff_ne]; omega
    have HN : Hid (¬ a = b) := Lib.hid (fun h => hl (by rw [h]))
    clear hl
    go_enter Try.func28, Try.ntmps28
    go_wp2
    go_ret
    exact ⟨by rw [decide_eq_false HN.out]; rfl, Below.refl _ _⟩

end Go.Proofs.Ytoefkkgnabjmdaa
