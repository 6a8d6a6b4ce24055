/- Chapter 23 (price): Flat; sum, one, Token, All: what they give, by walks. -/
import Derived.Test.YtiohdgckmolmnaaPrice2
import Derived.Test.YtiohdgckmolmnaaToks
import Derived.Deep.RegionHeld3
set_option linter.unusedSimpArgs false
set_option linter.unusedVariables false
namespace Go.Proofs.Ytiohdgckmolmnaa
open Go.RowKit

theorem enters_cut : Enters 63 := fun _ _ => by kernel_rfl
def FlatDone (a b : Int) (w : World) (e : Ending) (w' : World) : Prop :=
  ∃ b1 b2, e = .returned (.agg #[.slice (some ⟨b1, 0, none⟩) 401 401, .slice (some ⟨b2, 0, none⟩) 52 52]) ∧ Blk w' b1 3 (ivals (List.replicate 401 (flatP a))).toArray ∧ Blk w' b2 3 (ivals (List.replicate 52 (flatP b))).toArray ∧ w.heap.size ≤ b1 ∧ w.heap.size ≤ b2 ∧ Below w.heap.size w w'
theorem p_Repeat401 (A : Option Addr) (c : Nat) (v : Int) (w : World) (h : ReadsI w A [v]) : Calls Try.prog 64 #[.slice A 1 c, .int .i64 401] w (RepeatDone w 401 v) := p_Repeat A c v 401 (by omega) (by omega) w h p_Mul401
theorem p_Repeat52 (A : Option Addr) (c : Nat) (v : Int) (w : World) (h : ReadsI w A [v]) : Calls Try.prog 64 #[.slice A 1 c, .int .i64 52] w (RepeatDone w 52 v) := p_Repeat A c v 52 (by omega) (by omega) w h p_Mul52

set_option maxHeartbeats 1000000 in
set_option maxRecDepth 100000 in
theorem p_Flat (a b : Int) (w : World) : Calls Try.prog 47 #[.int .i64 a, .int .i64 b] w (FlatDone a b w) := by
  have hz0 := Blk.new w 86 #[.slice none 0 0, .slice none 0 0]
  have hB0 := bl_alloc (Below.refl w.heap.size w) (.cells #[.slice none 0 0, .slice none 0 0] 86)
  have hz0l := hz0.lt
  have hent1 := fun w => enters_cut #[.int .i64 a] w
  have hent2 := fun w => enters_cut #[.int .i64 b] w
  go_enter Try.func47, Try.ntmps47
  go_wp2_with fail
  generalize w.alloc (.cells #[.slice none 0 0, .slice none 0 0] 86) = w0 at *
  refine (p_cut a _).mono ?_
  rintro e w1 ⟨rfl, rfl⟩
  go_wp2_with fail
  refine (p_Repeat401 (some ⟨w0.heap.size, 0, none⟩) 1 (flatP a) _ (reads_ints (Blk.new w0 3 (ivals [flatP a]).toArray))).mono ?_
  rintro e w2 ⟨b1, rfl, hb1, hk1, hB2⟩
  have hz2 := (hz0.alloc (.cells #[.int .i64 (flatP a)] 3)).below hB2 (hz0.alloc _).lt
  have hB2' := bl_then (bl_alloc hB0 (.cells #[.int .i64 (flatP a)] 3)) (by have := hB0.size; simp; omega) hB2
  have hs1 := hB0.size
  have hs2 := hB2.size
  rw [World.size_alloc] at hs2 hb1
  clear hB2 hz0
  go_wp2_with fail
  refine (p_cut b _).mono ?_
  rintro e w3 ⟨rfl, rfl⟩
  go_wp2_with fail
  refine (p_Repeat52 (some ⟨w2.heap.size, 0, none⟩) 1 (flatP b) _ (reads_ints (Blk.new w2 3 (ivals [flatP b]).toArray))).mono ?_
  rintro e w4 ⟨b2, rfl, hb2, hk2, hB4⟩
  have hz4 := (hz2.alloc (.cells #[.int .i64 (flatP b)] 3)).below hB4 (hz2.alloc _).lt
  have hk14 := (hk1.alloc (.cells #[.int .i64 (flatP b)] 3)).below hB4 (hk1.alloc _).lt
  have hB4' := bl_then (bl_alloc hB2' (.cells #[.int .i64 (flatP b)] 3)) (by have := hB2'.size; simp; omega) hB4
  have hs4 := hB4.size
  have hl2 := hz2.lt
  rw [World.size_alloc] at hs4 hb2
  have hc4 := Blk.cell hz4
  have hf4 := Blk.frozen hz4
  have HB := Lib.hid hB4'
  have HK1 := Lib.hid hk14
  have HK2 := Lib.hid hk2
  have HB1 := Lib.hid hb1
  have HB2 := Lib.hid hb2
  clear hB4 hB4' hB2' hk1 hk14 hk2 hz2 hB0 hent1 hent2
  go_wp2_with fail
  refine bodyPost_ret (v := .agg #[.slice (some ⟨b1, 0, none⟩) 401 401, .slice (some ⟨b2, 0, none⟩) 52 52]) (by simp [results, Try.results47, go_sem, hc4, hf4]) rfl ?_
  refine ⟨b1, b2, rfl, ?_, ?_, by omega, by omega, ?_⟩
  · exact (HK1.out.far (p := ⟨w.heap.size, 0, none⟩) (by simp only; omega) _).far (p := ⟨w.heap.size, 1, none⟩) (by simp only; omega) _
  · exact (HK2.out.far (p := ⟨w.heap.size, 0, none⟩) (by simp only; omega) _).far (p := ⟨w.heap.size, 1, none⟩) (by simp only; omega) _
  · exact (HB.out.setCell (p := ⟨w.heap.size, 0, none⟩) (Nat.le_refl _) _).setCell (p := ⟨w.heap.size, 1, none⟩) (Nat.le_refl _) _

set_option maxRecDepth 100000 in
theorem p_sum (A : Option Addr) (c : Nat) (l : List Int) (w : World) (h : ReadsI w A l) (hl : l.length ≤ 1000) (hb : ∀ x ∈ l, 0 ≤ x ∧ x ≤ 1099511627776) :
    Calls Try.prog 71 #[.slice A l.length c] w fun e w' => e = .returned (.int .i64 (sumI l)) ∧ w = w' := by
  go_enter Try.func71, Try.ntmps71
  go_wp2
  go_loop [3, 8] (fun x v => ∃ k : Nat, k ≤ l.length ∧ v = .int .i64 k ∧ x = .int .i64 (sumI (l.take k))) (fun _ v => l.length - (intOf v).toNat)
  case atStart => exact ⟨0, Nat.zero_le _, rfl, rfl⟩
  case round =>
    obtain ⟨k, hk, rfl, rfl⟩ := hrel
    by_cases hkl : k < l.length
    · obtain ⟨ad, rfl, had, hc⟩ := h.at_ k hkl
      have hT := sumI_snoc (l.take k) l[k]
      rw [← List.take_succ_eq_append_getElem hkl] at hT
      have HT := Lib.hid hT
      have b1 := sumI_bd 1099511627776 (l.take k) (fun x hx => hb x (List.mem_of_mem_take hx))
      have b2 : ((l.take k).length : Int) ≤ 1000 := by rw [List.length_take]; omega
      have b3 := hb l[k] (List.getElem_mem hkl)
      have b4 : 0 ≤ sumI (l.take k) ∧ sumI (l.take k) ≤ 1099511627776000 := by omega
      obtain ⟨b5, b6⟩ := b4
      obtain ⟨b7, b8⟩ := b3
      clear hT b1 b2
      generalize l[k] = z at *
      generalize sumI (l.take k) = S at *
      go_wp2
      go_round
      case rel => exact ⟨k + 1, by omega, by go_num, by rw [HT.out]⟩
      case measure => simp [intOf]; omega
    · obtain rfl : k = l.length := by omega
      rw [List.take_length] at *
      go_wp2
      go_ret
      exact ⟨rfl, rfl⟩

theorem tokSym_bd {t : Tok} (h : tokOk t) : 0 ≤ tokSym t ∧ tokSym t ≤ 400 := by
  unfold tokSym
  rw [if_pos h]
  have h1 := lenS_bd t.len
  unfold tokOk at h
  split
  · omega
  · split <;> omega
theorem lenX_bd (n : Int) : 0 ≤ lenX n ∧ lenX n ≤ 5 := by
  unfold lenX
  split
  · rename_i h
    have h3 := (lenSlot_spec n h).2.2
    have := lenBits_le (lenSlot n) h3
    omega
  · omega
theorem lenX_pos (n : Int) : 0 ≤ lenX n := (lenX_bd n).1
theorem distX_bd (n : Int) : 0 ≤ distX n ∧ distX n ≤ 24 := by
  unfold distX
  split
  · rename_i h
    have h3 := (distSlot_spec n h).2.2
    have := distBits_le (distSlot n) h3
    omega
  · omega
def one23 (m d : List Int) (t : Tok) : Int := if tokCheck t = 0 then cost m d t else 0

set_option maxHeartbeats 2000000 in
set_option maxRecDepth 100000 in
theorem p_one23 (M D : Option Addr) (m d : List Int) (c1 c2 : Nat) (t : Tok) (w : World) (hm : ReadsI w M m) (hd : ReadsI w D d) (l1 : m.length = 401) (l2 : d.length = 52) (k1 : pricesOk m) (k2 : pricesOk d) :
    Calls Try.prog 70 #[priceV M D m d c1 c2, tokV t] w fun e w' => e = .returned (.tuple #[.int .i64 (one23 m d t), .int .i64 (tokCheck t)]) ∧ Below w.heap.size w w' := by
  obtain ⟨tk, tb, tl, td, ti⟩ := t
  unfold priceV tokV
  simp only
  have hB0 := bl_alloc (bl_alloc (Below.refl w.heap.size w) (.cells #[.slice M m.length c1, .slice D d.length c2] 86)) (.cells #[.int .i64 tk, .int .i64 tb, .int .i64 tl, .int .i64 td, .int .i64 ti] 25)
  have z1 := (Blk.new w 86 #[.slice M m.length c1, .slice D d.length c2]).alloc (.cells #[.int .i64 tk, .int .i64 tb, .int .i64 tl, .int .i64 td, .int .i64 ti] 25)
  have z2 := Blk.new (w.alloc (.cells #[.slice M m.length c1, .slice D d.length c2] 86)) 25 #[.int .i64 tk, .int .i64 tb, .int .i64 tl, .int .i64 td, .int .i64 ti]
  rw [World.size_alloc] at z2
  have hm0 := (hm.alloc (.cells #[.slice M m.length c1, .slice D d.length c2] 86)).alloc (.cells #[.int .i64 tk, .int .i64 tb, .int .i64 tl, .int .i64 td, .int .i64 ti] 25)
  have hd0 := (hd.alloc (.cells #[.slice M m.length c1, .slice D d.length c2] 86)).alloc (.cells #[.int .i64 tk, .int .i64 tb, .int .i64 tl, .int .i64 td, .int .i64 ti] 25)
  have L1 := Lib.hid l1
  have L2 := Lib.hid l2
  clear hm hd l1 l2
  by_cases hok : tokOk ⟨tk, tb, tl, td, ti⟩
  · have hck : tokCheck ⟨tk, tb, tl, td, ti⟩ = 0 := if_pos hok
    have HO : Hid (one23 m d ⟨tk, tb, tl, td, ti⟩ = cost m d ⟨tk, tb, tl, td, ti⟩) := Lib.hid (if_pos hck)
    have hsb := tokSym_bd hok
    have HCK := Lib.hid hck
    clear hck
    go_enter Try.func70, Try.ntmps70
    go_wp2_with fail
    generalize (w.alloc (.cells #[.slice M m.length c1, .slice D d.length c2] 86)).alloc (.cells #[.int .i64 tk, .int .i64 tb, .int .i64 tl, .int .i64 td, .int .i64 ti] 25) = w0 at *
    refine (p_Sym ⟨tk, tb, tl, td, ti⟩ _).mono ?_
    rintro e w1 ⟨rfl, hb1⟩
    rw [HCK.out]
    have y1 := z1.below hb1 z1.lt
    have y2 := z2.below hb1 z2.lt
    have hm1 := hm0.below hb1
    have hd1_ := (hd0.below hb1).at_
    have HB1 := Lib.hid (bl_then hB0 hB0.size hb1)
    obtain ⟨hsb0, hsb1⟩ := hsb
    have HC : Hid (cost m d ⟨tk, tb, tl, td, ti⟩ = m.getD (tokSym ⟨tk, tb, tl, td, ti⟩).toNat 0 + (if tk = 0 then 0 else lenX tl) + (if tk = 1 then d.getD (distS td).toNat 0 + distX td else 0)) := Lib.hid rfl
    generalize tokSym ⟨tk, tb, tl, td, ti⟩ = sy at *
    obtain ⟨sn, rfl⟩ : ∃ n : Nat, sy = n := ⟨sy.toNat, by omega⟩
    obtain ⟨ad, rfl, had, hcm⟩ := hm1.at_ sn (by rw [L1.out]; omega)
    have hsl : sn < m.length := by rw [L1.out]; omega
    have hmg : m.getD ((sn : Int)).toNat 0 = m[sn] := by rw [Int.toNat_natCast, List.getD_eq_getElem?_getD, List.getElem?_eq_getElem hsl]; rfl
    rw [hmg] at HC
    have hmb := k1 m[sn] (List.getElem_mem _)
    generalize m[sn] = ms at *
    clear z1 z2 hm0 hd0 hB0 hb1 hmg
    have kc1 := Blk.cell y1
    have kc2 := Blk.cell y2
    have hw1 := y2.lt
    by_cases hk0 : tk = 0
    · subst hk0
      have HC' : Hid (cost m d ⟨0, tb, tl, td, ti⟩ = ms) := Lib.hid (by rw [HC.out]; simp)
      go_wp2
      go_ret2
      exact ⟨by rw [HO.out, HC'.out, HCK.out]; rfl, HB1.out⟩
    · have hkb : (tk == 0) = false := by rw [beq_eq_false_iff_ne]; exact hk0
      obtain ⟨hx0, hx1⟩ := lenX_bd tl
      have HK0 := Lib.hid hk0
      have Hok := Lib.hid hok
      clear hk0 hok
      go_wp2_with fail
      refine (p_Len tl _).mono ?_
      rintro e w' ⟨rfl, rfl⟩
      have hxp := lenX_pos tl
      generalize lenX tl = X at *
      by_cases hk2 : tk = 2
      · subst hk2
        have HC' : Hid (cost m d ⟨2, tb, tl, td, ti⟩ = ms + X) := Lib.hid (by rw [HC.out]; simp)
        go_wp2_with fail
        refine (p_sum (some ⟨w1.heap.size, 0, none⟩) 2 [ms, X] _ (reads_ints (Blk.new w1 3 (ivals [ms, X]).toArray)) (by simp) (by intro x hx; simp at hx; omega)).mono ?_
        rintro e w5 ⟨rfl, rfl⟩
        rw [show sumI [ms, X] = ms + X by simp [sumI]]
        go_wp2
        go_ret2
        exact ⟨by rw [HO.out, HC'.out, HCK.out]; rfl, bl_then HB1.out HB1.out.size (bl_alloc (Below.refl _ _) _)⟩
      · obtain rfl : tk = 1 := by
          have h1 := Hok.out
          have h2 := HK0.out
          unfold tokOk at h1
          simp only at h1
          omega
        obtain ⟨hd0, hd1⟩ := distS_bd td
        obtain ⟨hy0, hy1⟩ := distX_bd td
        have hkb2 : ((1 : Int) == 2) = false := rfl
        clear hk2
        go_wp2_with fail
        refine (p_Dist td _).mono ?_
        rintro e w' ⟨rfl, rfl⟩
        generalize distX td = Y at *
        generalize distS td = ds at *
        obtain ⟨dn, rfl⟩ : ∃ n : Nat, ds = n := ⟨ds.toNat, by omega⟩
        obtain ⟨ad2, rfl, had2, hcd⟩ := hd1_ dn (by rw [L2.out]; omega)
        have hdl : dn < d.length := by rw [L2.out]; omega
        have hdg : d.getD ((dn : Int)).toNat 0 = d[dn] := by rw [Int.toNat_natCast, List.getD_eq_getElem?_getD, List.getElem?_eq_getElem hdl]; rfl
        rw [hdg] at HC
        have hdb := k2 d[dn] (List.getElem_mem _)
        generalize d[dn] = dv at *
        have HC' : Hid (cost m d ⟨1, tb, tl, td, ti⟩ = ms + X + (dv + Y)) := Lib.hid (by rw [HC.out]; simp)
        have q0 := kc1 0
        have q1 := kc1 1
        have HK : Hid (∀ w', Below w1.heap.size w1 w' → w'.cell? ⟨w.heap.size, 0, none⟩ = some (.slice (some ad) m.length c1) ∧ w'.cell? ⟨w.heap.size, 1, none⟩ = some (.slice (some ad2) d.length c2) ∧ w'.cell? (ad.add sn) = some (.int .i64 ms) ∧ w'.cell? (ad2.add dn) = some (.int .i64 dv) ∧ Below w1.heap.size w1 w') := Lib.hid fun w' hb =>
          ⟨(hb.cell (p := ⟨w.heap.size, 0, none⟩) y1.lt).trans q0, (hb.cell (p := ⟨w.heap.size, 1, none⟩) y1.lt).trans q1, (hb.cell (by rw [block_of_add]; exact had)).trans hcm, (hb.cell (by rw [block_of_add]; exact had2)).trans hcd, hb⟩
        have hrs := (reads_ints (Blk.new w1 3 (ivals [ms, X, dv, Y]).toArray)).drew
        have i1 : (sn : Int) < m.length := by omega
        have i2 : (dn : Int) < d.length := by omega
        clear hd1_ hdg q0 q1
        go_wp2_with fail
        go_region_held3 (fun w' => w'.cell? ⟨w.heap.size, 0, none⟩ = some (.slice (some ad) m.length c1) ∧ w'.cell? ⟨w.heap.size, 1, none⟩ = some (.slice (some ad2) d.length c2) ∧ w'.cell? (ad.add sn) = some (.int .i64 ms) ∧ w'.cell? (ad2.add dn) = some (.int .i64 dv) ∧ Below w1.heap.size w1 w')
          (first | exact HK.out _ (by with_reducible assumption) | exact HK.out _ (Below.refl _ _).drew | exact HK.out _ ((Below.refl _ _).drew.alloc (Nat.le_refl _) _) | exact HK.out _ ((Below.refl _ _).alloc (Nat.le_refl _) _).drew)
          ((go_at_call 71; go_must (refine (p_sum (some ⟨w1.heap.size, 0, none⟩) 4 [ms, X, dv, Y] _ hrs (by simp) (by intro x hx; simp at hx; omega)).mono ?_); go_must (rintro e w5 ⟨rfl, rfl⟩)))
        all_goals
          go_wp2
          go_ret2
          have e1 : sumI [ms, X, dv, Y] = ms + X + (dv + Y) := by simp [sumI]; omega
          exact ⟨by rw [HO.out, HC'.out, HCK.out, ← e1]; rfl, bl_then HB1.out HB1.out.size (bl_alloc (Below.refl _ _) _).drew⟩
  · have hck : tokCheck ⟨tk, tb, tl, td, ti⟩ = 10 := if_neg hok
    have HO : Hid (one23 m d ⟨tk, tb, tl, td, ti⟩ = 0) := Lib.hid (if_neg (by rw [hck]; omega))
    have HCK := Lib.hid hck
    clear hck hok
    go_enter Try.func70, Try.ntmps70
    go_wp2_with fail
    generalize (w.alloc (.cells #[.slice M m.length c1, .slice D d.length c2] 86)).alloc (.cells #[.int .i64 tk, .int .i64 tb, .int .i64 tl, .int .i64 td, .int .i64 ti] 25) = w0 at *
    refine (p_Sym ⟨tk, tb, tl, td, ti⟩ _).mono ?_
    rintro e w1 ⟨rfl, hb1⟩
    rw [HCK.out]
    go_wp2
    go_ret2
    exact ⟨by rw [HO.out, HCK.out]; rfl, bl_then hB0 hB0.size hb1⟩

end Go.Proofs.Ytiohdgckmolmnaa
