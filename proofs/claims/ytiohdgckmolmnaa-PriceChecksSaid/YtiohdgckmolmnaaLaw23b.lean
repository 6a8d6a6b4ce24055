/- Chapter 23's example; the first law: by walks. -/
import Derived.Test.YtiohdgckmolmnaaLaw23
set_option linter.unusedSimpArgs false
set_option linter.unusedVariables false
namespace Go.Proofs.Ytiohdgckmolmnaa
open Go.RowKit

theorem reads_toks23 (w : World) (l : List Tok) (t : TypeId) : ReadsT (w.alloc (.cells (tvals l).toArray t)) (some ⟨w.heap.size, 0, none⟩) l :=
  ⟨tvals_length l, fun _ => ⟨_, rfl, by simp, fun j u hu => by
    have e1 : ((⟨w.heap.size, 0, none⟩ : Addr).add j) = ⟨w.heap.size, j, none⟩ := by unfold Addr.add; split <;> simp_all
    rw [e1, cell_of_row _ _ j _ _ (0, 0) (heap_alloc_new w _), List.getElem?_toArray]
    exact hu⟩⟩

def t23a : Tok := ⟨1, 0, 11, 10, 0⟩
def t23b : Tok := ⟨0, 1, 0, 0, 0⟩
def t23c : Tok := ⟨2, 0, 11, 0, 0⟩
theorem chk_flat (a b : Int) : chkE (flatM a) (flatD b) = 0 := chkE_flat a b
theorem flatM_get (a : Int) (i : Nat) (h : i < 401) : (flatM a).getD i 0 = flatP a := by unfold flatM; rw [List.getD_eq_getElem?_getD, List.getElem?_replicate, if_pos h]; rfl
theorem flatD_get (a : Int) (i : Nat) (h : i < 52) : (flatD a).getD i 0 = flatP a := by unfold flatD; rw [List.getD_eq_getElem?_getD, List.getElem?_replicate, if_pos h]; rfl
theorem ex23a : tokenC (flatM 8) (flatD 5) t23a = 16 ∧ tokenE (flatM 8) (flatD 5) t23a = 0 := by
  have hok : tokCheck t23a = 0 := by decide
  unfold tokenC tokenE
  rw [if_pos (chk_flat _ _), if_pos (chk_flat _ _)]
  refine ⟨?_, hok⟩
  unfold one23
  rw [if_pos hok]
  unfold cost
  rw [show (tokSym t23a).toNat = 264 by decide, flatM_get _ _ (by omega), show (distS t23a.dist).toNat = 6 by decide, flatD_get _ _ (by omega)]
  decide
theorem ex23b : allC (flatM 8) (flatD 5) [t23b, t23c] = 17 ∧ allE (flatM 8) (flatD 5) [t23b, t23c] = 0 := by
  have h1 : tokCheck t23b = 0 := by decide
  have h2 : tokCheck t23c = 0 := by decide
  have he : tokErr [t23b, t23c] = 0 := by simp only [tokErr, h1, h2, if_true]
  unfold allC allE
  rw [if_pos (chk_flat _ _), if_pos (chk_flat _ _), if_pos he]
  refine ⟨?_, he⟩
  simp only [costs, List.map_cons, List.map_nil, List.foldr_cons, List.foldr_nil]
  unfold cost
  rw [show (tokSym t23b).toNat = 1 by decide, show (tokSym t23c).toNat = 293 by decide, flatM_get _ _ (by omega), flatM_get _ _ (by omega)]
  decide
theorem ex23c (t : Tok) : tokenC [] [] t = 0 ∧ tokenE [] [] t = 4 := by
  have h : chkE [] [] = 4 := chk_form (by simp)
  unfold tokenC tokenE
  rw [if_neg (by rw [h]; omega), if_neg (by rw [h]; omega)]
  exact ⟨rfl, h⟩

set_option maxHeartbeats 4000000 in
set_option maxRecDepth 100000 in
theorem awake23 (w : World) : Calls Try.prog 46 #[] w fun e w' => e = .returned (.bool true) ∧ Below w.heap.size w w' := by
  go_enter Try.func46, Try.ntmps46
  go_wp2_with fail
  refine (p_Flat' 8 5 _).mono ?_
  rintro e w1 ⟨b1, b2, rfl, hm1, hd1, hB1⟩
  unfold priceV
  rw [flatM_length, flatD_length]
  go_wp2_with fail
  have hB2 := bl_alloc hB1 (.cells #[.slice (some ⟨b1, 0, none⟩) 401 401, .slice (some ⟨b2, 0, none⟩) 52 52] 86)
  have hm2 := hm1.alloc (.cells #[.slice (some ⟨b1, 0, none⟩) 401 401, .slice (some ⟨b2, 0, none⟩) 52 52] 86)
  have hd2 := hd1.alloc (.cells #[.slice (some ⟨b1, 0, none⟩) 401 401, .slice (some ⟨b2, 0, none⟩) 52 52] 86)
  have hk2 := Blk.new w1 86 #[.slice (some ⟨b1, 0, none⟩) 401 401, .slice (some ⟨b2, 0, none⟩) 52 52]
  clear hB1 hm1 hd1
  generalize w1.alloc (.cells #[.slice (some ⟨b1, 0, none⟩) 401 401, .slice (some ⟨b2, 0, none⟩) 52 52] 86) = w2 at *
  have h1 := p_Token23 _ _ _ _ 401 52 t23a w2 hm2 hd2 (by rw [flatM_length]; omega) (by rw [flatD_length]; omega)
  unfold priceV at h1
  rw [flatM_length, flatD_length, ex23a.1, ex23a.2] at h1
  refine h1.mono ?_
  clear h1
  rintro e w3 ⟨rfl, hb3⟩
  have hk3 := hk2.below hb3 hk2.lt
  have hm3 := hm2.below hb3
  have hd3 := hd2.below hb3
  have hB3 := bl_then hB2 hB2.size hb3
  have hz3 := hk3.lt
  have kc3 := Blk.cell hk3
  clear hb3 hB2 hm2 hd2 hk2
  go_wp2_with fail
  have hbt := bl_alloc (Below.refl w3.heap.size w3) (.cells (tvals [t23b, t23c]).toArray 25)
  have h2 := p_All23 _ _ _ _ 401 52 (some ⟨w3.heap.size, 0, none⟩) 2 [t23b, t23c] _ (hm3.below hbt) (hd3.below hbt) (reads_toks23 w3 [t23b, t23c] 25) (by rw [flatM_length]; omega) (by rw [flatD_length]; omega) (by simp)
  unfold priceV at h2
  rw [flatM_length, flatD_length, ex23b.1, ex23b.2] at h2
  refine h2.mono ?_
  clear h2
  rintro e w4 ⟨rfl, hb4⟩
  have hb34 := bl_then hbt hbt.size hb4
  have hk4 := hk3.below hb34 hz3
  have hm4 := hm3.below hb34
  have hd4 := hd3.below hb34
  have hB4 := bl_then hB3 hB3.size hb34
  have hz4 := hk4.lt
  have kc4 := Blk.cell hk4
  clear hb34 hbt hb4 hB3 hm3 hd3 hk3 kc3 hz3
  go_wp2_with fail
  have h3 := p_Token23 none none [] [] 0 0 ⟨0, 0, 0, 0, 0⟩ w4 (ReadsI.nil _ _) (ReadsI.nil _ _) (by simp) (by simp)
  rw [(ex23c _).1, (ex23c _).2] at h3
  refine Calls.mono (show Calls _ _ #[.agg #[.slice none 0 0, .slice none 0 0], .agg #[.int .i64 0, .int .i64 0, .int .i64 0, .int .i64 0, .int .i64 0]] _ _ from h3) ?_
  clear h3
  rintro e w5 ⟨rfl, hb5⟩
  have hk5 := hk4.below hb5 hz4
  have hm5 := hm4.below hb5
  have hd5 := hd4.below hb5
  have hB5 := bl_then hB4 hB4.size hb5
  have hz5 := hk5.lt
  have kc5 := Blk.cell hk5
  clear hb5 hB4 hm4 hd4 hk4 kc4 hz4
  go_wp2_with fail
  refine (p_PCheck_flat b1 b2 8 5 w5 hm5 hd5).mono ?_
  rintro e w6 ⟨rfl, hb6⟩
  have hk6 := hk5.below hb6 hz5
  have hB6 := bl_then hB5 hB5.size hb6
  have hz6 := hk6.lt
  have kc6 := Blk.cell hk6
  clear hb6 hB5 hm5 hd5 hk5 kc5 hz5
  go_wp2_with fail
  refine (p_Flat' (-5) 1099511627776 w6).mono ?_
  rintro e w7 ⟨b3, b4, rfl, hm7, hd7, hb7⟩
  unfold priceV
  rw [flatM_length, flatD_length]
  have hk7 := hk6.below hb7 hz6
  have hB7 := bl_then hB6 hB6.size hb7
  have hz7 := hk7.lt
  clear hb7 hB6 hk6 kc6 hz6
  go_wp2_with fail
  refine (p_PCheck_flat b3 b4 _ _ w7 hm7 hd7).mono ?_
  rintro e w8 ⟨rfl, hb8⟩
  have hk8 := hk7.below hb8 hz7
  have hB8 := bl_then hB7 hB7.size hb8
  have hz8 := hk8.lt
  have kc8 := Blk.cell hk8
  clear hb8 hB7 hk7 hz7 hm7 hd7
  go_wp2
  go_ret
  exact ⟨rfl, hB8⟩

set_option maxHeartbeats 4000000 in
set_option maxRecDepth 100000 in
theorem law_PriceChecks_main (M D : Option Addr) (m d : List Int) (c1 c2 : Nat) (a b : Int) (w : World) (hm : ReadsI w M m) (hd : ReadsI w D d) (l1 : m.length ≤ 500) (l2 : d.length ≤ 500) :
    Calls Try.prog 13 #[priceV M D m d c1 c2, .int .i64 a, .int .i64 b] w fun e w' => e = .returned (.bool true) ∧ Below w.heap.size w w' := by
  unfold priceV
  have hB0 := bl_alloc (Below.refl w.heap.size w) (.cells #[.slice M m.length c1, .slice D d.length c2] 86)
  have z0 := Blk.new w 86 #[.slice M m.length c1, .slice D d.length c2]
  have hm0 := hm.alloc (.cells #[.slice M m.length c1, .slice D d.length c2] 86)
  have hd0 := hd.alloc (.cells #[.slice M m.length c1, .slice D d.length c2] 86)
  clear hm hd
  have i1 : ¬ (500 : Int) < m.length := by omega
  have i2 : ¬ (500 : Int) < d.length := by omega
  go_enter Try.func13, Try.ntmps13
  go_wp2_with fail
  generalize w.alloc (.cells #[.slice M m.length c1, .slice D d.length c2] 86) = w0 at *
  refine (p_Flat' a b _).mono ?_
  rintro e w1 ⟨b1, b2, rfl, hm1, hd1, hB1⟩
  unfold priceV
  rw [flatM_length, flatD_length]
  have z1 := z0.below hB1 z0.lt
  have hmA := hm0.below hB1
  have hdA := hd0.below hB1
  have hBB := bl_then hB0 hB0.size hB1
  have hzz := z1.lt
  clear hm0 hd0 hB0 hB1 z0
  go_wp2_with fail
  have z2 := z1.alloc (.cells #[.slice (some ⟨b1, 0, none⟩) 401 401, .slice (some ⟨b2, 0, none⟩) 52 52] 86)
  have y2 := Blk.new w1 86 #[.slice (some ⟨b1, 0, none⟩) 401 401, .slice (some ⟨b2, 0, none⟩) 52 52]
  have hmB := hmA.alloc (.cells #[.slice (some ⟨b1, 0, none⟩) 401 401, .slice (some ⟨b2, 0, none⟩) 52 52] 86)
  have hdB := hdA.alloc (.cells #[.slice (some ⟨b1, 0, none⟩) 401 401, .slice (some ⟨b2, 0, none⟩) 52 52] 86)
  have hm2 := hm1.alloc (.cells #[.slice (some ⟨b1, 0, none⟩) 401 401, .slice (some ⟨b2, 0, none⟩) 52 52] 86)
  have hd2 := hd1.alloc (.cells #[.slice (some ⟨b1, 0, none⟩) 401 401, .slice (some ⟨b2, 0, none⟩) 52 52] 86)
  have HB2 := Lib.hid (bl_alloc hBB (.cells #[.slice (some ⟨b1, 0, none⟩) 401 401, .slice (some ⟨b2, 0, none⟩) 52 52] 86))
  clear hmA hdA hm1 hd1 hBB z1
  generalize w1.alloc (.cells #[.slice (some ⟨b1, 0, none⟩) 401 401, .slice (some ⟨b2, 0, none⟩) 52 52] 86) = w2 at *
  have hz2 := z2.lt
  have hy2 := y2.lt
  have HP : Hid (∀ W, Below w2.heap.size w2 W → Calls Try.prog 48 #[.agg #[.slice M m.length c1, .slice D d.length c2]] W fun e w' => e = .returned (.int .i64 (chkE m d)) ∧ Below W.heap.size W w') :=
    Lib.hid fun W hW => p_PCheck M D m d c1 c2 W (hmB.below hW) (hdB.below hW) (by omega) (by omega)
  have HR : Hid (∀ W, Below w2.heap.size w2 W → Calls Try.prog 49 #[.agg #[.slice M m.length c1, .slice D d.length c2]] W fun e w' => e = .returned (.int .i64 (chkE m d)) ∧ Below W.heap.size W w') :=
    Lib.hid fun W hW => r_PCheck M D m d c1 c2 W (hmB.below hW) (hdB.below hW) (by omega) (by omega)
  have HF : Hid (∀ W, Below w2.heap.size w2 W → Calls Try.prog 48 #[.agg #[.slice (some ⟨b1, 0, none⟩) 401 401, .slice (some ⟨b2, 0, none⟩) 52 52]] W fun e w' => e = .returned (.int .i64 0) ∧ Below W.heap.size W w') :=
    Lib.hid fun W hW => p_PCheck_flat b1 b2 a b W (hm2.below hW) (hd2.below hW)
  have HK : Hid (∀ w', Below w2.heap.size w2 w' → w'.cell? ⟨w.heap.size, 0, none⟩ = some (.slice M m.length c1) ∧ w'.cell? ⟨w.heap.size, 1, none⟩ = some (.slice D d.length c2) ∧ w'.cell? ⟨w1.heap.size, 0, none⟩ = some (.slice (some ⟨b1, 0, none⟩) 401 401) ∧ w'.cell? ⟨w1.heap.size, 1, none⟩ = some (.slice (some ⟨b2, 0, none⟩) 52 52) ∧ Below w2.heap.size w2 w') := Lib.hid fun w' hb =>
    ⟨(Blk.cell (z2.below hb hz2)) 0, (Blk.cell (z2.below hb hz2)) 1, (Blk.cell (y2.below hb hy2)) 0, (Blk.cell (y2.below hb hy2)) 1, hb⟩
  generalize chkE m d = E at *
  go_upto_region 4 with (fail)
  go_cut [34] (fun v wc => v = .bool false ∧ Below w2.heap.size w2 wc)
  case first =>
    go_region_held3 (fun w' => w'.cell? ⟨w.heap.size, 0, none⟩ = some (.slice M m.length c1) ∧ w'.cell? ⟨w.heap.size, 1, none⟩ = some (.slice D d.length c2) ∧ w'.cell? ⟨w1.heap.size, 0, none⟩ = some (.slice (some ⟨b1, 0, none⟩) 401 401) ∧ w'.cell? ⟨w1.heap.size, 1, none⟩ = some (.slice (some ⟨b2, 0, none⟩) 52 52) ∧ Below w2.heap.size w2 w')
      (first | exact HK.out _ (by with_reducible assumption) | exact HK.out _ (Below.refl _ _).drew)
      (first | (go_at_call 48; with_reducible refine (kcall (w2 := w2) ?_ (HP.out _ ?_)).mono ?_; (first | with_reducible assumption | exact (Below.refl _ _).drew); (first | with_reducible assumption | exact (Below.refl _ _).drew); rintro e w' ⟨rfl, hb⟩)
             | (go_at_call 48; with_reducible refine (kcall (w2 := w2) ?_ (HF.out _ ?_)).mono ?_; (first | with_reducible assumption | exact (Below.refl _ _).drew); (first | with_reducible assumption | exact (Below.refl _ _).drew); rintro e w' ⟨rfl, hb⟩)
             | (go_at_call 49; with_reducible refine (kcall (w2 := w2) ?_ (HR.out _ ?_)).mono ?_; (first | with_reducible assumption | exact (Below.refl _ _).drew); (first | with_reducible assumption | exact (Below.refl _ _).drew); rintro e w' ⟨rfl, hb⟩))
    all_goals
      go_wp2_with fail
      go_meet
      case rel => exact ⟨rfl, by assumption⟩
  case rest =>
    obtain ⟨rfl, hbc⟩ := hcut
    have kc := Blk.cell (y2.below hbc hy2)
    have hm3 := hm2.below hbc
    have hd3 := hd2.below hbc
    have HB3 := Lib.hid (bl_then HB2.out HB2.out.size hbc)
    clear z2 y2 hm2 hd2 HP HR HF HK hbc hmB hdB
    go_upto_region 8 with (fail)
    go_cut [8, 9] (fun v8 v9 wd => v8 = .int .i64 (flatP a) ∧ v9 = .int .i64 (flatP b) ∧ wd = wc)
    case first =>
      by_cases a1 : a ≤ 1048576 <;> by_cases b1' : b ≤ 1048576
      all_goals
        go_wp2
        all_goals
          go_meet
          case rel =>
            refine ⟨congrArg (Value.int .i64) ?_, congrArg (Value.int .i64) ?_, rfl⟩
            · unfold flatP; split <;> (try split) <;> omega
            · unfold flatP; split <;> (try split) <;> omega
    case rest =>
      obtain ⟨rfl, rfl, hw⟩ := hcut
      subst hw
      have HFa := Lib.hid (flatM_length a)
      have HFb := Lib.hid (flatD_length b)
      go_wp2_with fail
      go_loop [10] (fun v => ∃ k : Nat, k ≤ 401 ∧ v = .int .i64 k) (fun v => 401 - (intOf v).toNat)
      case atStart => exact ⟨0, by omega, rfl⟩
      case round =>
        obtain ⟨k, hk, rfl⟩ := hrel
        by_cases hkl : k < 401
        · have g1 : wc.cell? ⟨b1, k, none⟩ = some (.int .i64 (flatP a)) := by
            obtain ⟨ad, e1, e2, e3⟩ := hm3.at_ k (by rw [HFa.out]; exact hkl)
            injection e1 with e1
            subst e1
            rw [show ((⟨b1, 0, none⟩ : Addr).add k) = ⟨b1, k, none⟩ by unfold Addr.add; split <;> simp_all] at e3
            rw [e3]
            congr 2
            exact List.eq_of_mem_replicate (List.getElem_mem (l := flatM a) (by rw [HFa.out]; exact hkl))
          have g2 : wc.cell? ⟨b2, k % 52, none⟩ = some (.int .i64 (flatP b)) := by
            have hk2 : k % 52 < (flatD b).length := by rw [HFb.out]; exact Nat.mod_lt _ (by omega)
            obtain ⟨ad, e1, e2, e3⟩ := hd3.at_ (k % 52) hk2
            injection e1 with e1
            subst e1
            rw [show ((⟨b2, 0, none⟩ : Addr).add (k % 52)) = ⟨b2, k % 52, none⟩ by unfold Addr.add; split <;> simp_all] at e3
            rw [e3]
            congr 2
            exact List.eq_of_mem_replicate (List.getElem_mem (l := flatD b) hk2)
          have i1 : (k : Int) < 401 := by omega
          have i2 : (k : Int) % 52 = ((k % 52 : Nat) : Int) := by simp
          have i3 : k % 52 < 52 := Nat.mod_lt _ (by omega)
          generalize k % 52 = j at *
          have i4 : (j : Int) < 52 := by omega
          go_wp2
          go_round
          case rel => exact ⟨k + 1, by omega, by go_num⟩
          case measure => simp [intOf]; omega
        · obtain rfl : k = 401 := by omega
          go_wp2_with fail
          refine (awake23 _).mono ?_
          rintro e w5 ⟨rfl, hb5⟩
          go_wp2
          go_ret
          exact ⟨rfl, bl_then HB3.out HB3.out.size hb5⟩

set_option maxRecDepth 100000 in
theorem law_PriceChecks (M D : Option Addr) (m d : List Int) (c1 c2 : Nat) (a b : Int) (w : World) (hm : ReadsI w M m) (hd : ReadsI w D d) :
    Calls Try.prog 13 #[priceV M D m d c1 c2, .int .i64 a, .int .i64 b] w fun e w' => e = .returned (.bool true) ∧ Below w.heap.size w w' := by
  by_cases l1 : m.length ≤ 500
  · by_cases l2 : d.length ≤ 500
    · exact law_PriceChecks_main M D m d c1 c2 a b w hm hd l1 l2
    · have l3 : 500 < d.length := by omega
      clear hm hd l2
      unfold priceV
      go_enter Try.func13, Try.ntmps13
      go_wp2_with fail
      refine (awake23 _).mono ?_
      rintro e w1 ⟨rfl, hb1⟩
      go_wp2
      go_ret
      exact ⟨rfl, bl_then (bl_alloc (Below.refl _ _) _) (by simp) hb1⟩
  · have l3 : 500 < m.length := by omega
    clear hm hd l1
    unfold priceV
    go_enter Try.func13, Try.ntmps13
    go_wp2_with fail
    refine (awake23 _).mono ?_
    rintro e w1 ⟨rfl, hb1⟩
    go_wp2
    go_ret
    exact ⟨rfl, bl_then (bl_alloc (Below.refl _ _) _) (by simp) hb1⟩

end Go.Proofs.Ytiohdgckmolmnaa
