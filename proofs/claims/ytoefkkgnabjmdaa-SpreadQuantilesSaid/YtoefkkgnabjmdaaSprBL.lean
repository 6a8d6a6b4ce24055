/- Chapter 57 (spread): Buckets and Lens: by walks. -/
import Derived.Test.YtoefkkgnabjmdaaSprQuant
import Derived.Test.YtoefkkgnabjmdaaToks
import Derived.Test.YtoefkkgnabjmdaaCount
import Derived.Lib.BitFns
set_option linter.unusedSimpArgs false
set_option linter.unusedVariables false
set_option maxRecDepth 100000
namespace Go.Proofs.Ytoefkkgnabjmdaa
open Go.RowKit

def lensT (l : List Tok) : List Int := (l.filter (fun t => decide (tokCheck t = 0) && decide (t.kind ≠ 0))).map (·.len)
theorem lensT_snoc (l : List Tok) (t : Tok) : lensT (l ++ [t]) = lensT l ++ (if tokCheck t = 0 ∧ t.kind ≠ 0 then [t.len] else []) := by
  unfold lensT
  rw [List.filter_append, List.map_append]
  by_cases h : tokCheck t = 0 ∧ t.kind ≠ 0
  · rw [if_pos h]; simp [h.1, h.2]
  · rw [if_neg h]
    have : (decide (tokCheck t = 0) && decide (t.kind ≠ 0)) = false := by
      rw [← Bool.not_eq_true, Bool.and_eq_true, decide_eq_true_eq, decide_eq_true_eq]; exact h
    have e2 : [t].filter (fun t => decide (tokCheck t = 0) && decide (t.kind ≠ 0)) = [] := by rw [List.filter_cons, this]; rfl
    rw [e2]; simp
theorem lensT_length (l : List Tok) : (lensT l).length ≤ l.length := by unfold lensT; rw [List.length_map]; exact List.length_filter_le _ _
set_option maxHeartbeats 2000000 in
theorem p_Lens57 (T : Option Addr) (c : Nat) (l : List Tok) (w : World) (h : ReadsT w T l) (hl : l.length ≤ 1000000) :
    Calls Try.prog 50 #[.slice T l.length c] w fun e w' => ∃ v, e = .returned v ∧ RowI w' w.heap.size v (lensT l) ∧ Below w.heap.size w w' := by
  go_enter Try.func50, Try.ntmps50
  go_wp2_with fail
  go_loopw [3, 8] (fun v3 v8 wr => ∃ k : Nat, k ≤ l.length ∧ v8 = .int .i64 k ∧ RowI wr w.heap.size v3 (lensT (l.take k)) ∧ Below w.heap.size w wr) (fun _ v8 _ => l.length - (intOf v8).toNat)
  case atStart => exact ⟨0, Nat.zero_le _, rfl, Row.nil _ _ _ _, Below.refl _ _⟩
  case round =>
    obtain ⟨k, hk, rfl, hrow, hbr⟩ := hrel
    have hsr := hbr.size
    by_cases hkl : k < l.length
    · obtain ⟨ad, rfl, had, g0, g1, g2, g3, g4⟩ := (h.below hbr).five k hkl
      have HTk := Lib.hid (show lensT (l.take (k + 1)) = lensT (l.take k) ++ (if tokCheck l[k] = 0 ∧ l[k].kind ≠ 0 then [l[k].len] else []) by rw [List.take_succ_eq_append_getElem hkl, lensT_snoc])
      have hol : (lensT (l.take k)).length ≤ 1000000 := Nat.le_trans (lensT_length _) (by rw [List.length_take]; omega)
      generalize lensT (l.take k) = out at *
      generalize l[k] = t at *
      obtain ⟨tk, tb, tl, td, ti⟩ := t
      have hB2 := bl_alloc (Below.refl wr.heap.size wr) (.cells #[.int .i64 tk, .int .i64 tb, .int .i64 tl, .int .i64 td, .int .i64 ti] 83)
      have kb := Blk.new wr 83 #[.int .i64 tk, .int .i64 tb, .int .i64 tl, .int .i64 td, .int .i64 ti]
      have kc2 := Blk.cell kb
      go_wp2_with fail
      refine (p_Check ⟨tk, tb, tl, td, ti⟩ _).mono ?_
      rintro e w2 ⟨rfl, hb2⟩
      have hB3 := bl_then hB2 hB2.size hb2
      have hrow2 := hrow.below hB3
      have kc := Blk.cell (kb.below hb2 kb.lt)
      have HB3 := Lib.hid (bl_then hbr hbr.size hB3)
      have hs2 : w.heap.size ≤ w2.heap.size := HB3.out.size
      clear hB2 hB3 hb2 kc2 kb hrow g0 g1 g2 g3 g4 hbr
      by_cases hck : tokCheck ⟨tk, tb, tl, td, ti⟩ = 0
      · by_cases hkd : tk = 0
        · have hd : (tk != 0) = false := by rw [bne_eq_false_iff_eq]; exact hkd
          have HT2 := Lib.hid (HTk.out.trans (by rw [if_neg (fun q => q.2 hkd), List.append_nil]))
          rw [hck]
          clear hck hkd
          go_wp2
          go_roundw
          case rel => exact ⟨k + 1, by omega, by go_num, by rw [HT2.out]; exact hrow2, HB3.out⟩
          case measure => simp [intOf]; omega
        · have hd : (tk != 0) = true := by rw [bne_iff_ne]; exact hkd
          have HT2 := Lib.hid (HTk.out.trans (by rw [if_pos ⟨hck, hkd⟩]))
          rw [hck]
          clear hck hkd
          have hrx := reads_ints (Blk.new w2 3 (ivals [tl]).toArray)
          have hrow3 := hrow2.alloc (.cells (ivals [tl]).toArray 3)
          have hlt := hrow2.lt
          go_wp2_with (at_builtin; go_must (refine wpList_append_ints rfl (.tmp 20) (.tmp 23) rfl w.heap.size _ out rfl hrow3 (some ⟨w2.heap.size, 0, none⟩) 1 1 [tl] rfl rfl hrx (by simp; omega) (by simp; omega) ?_); intro v3 w3 hr3 hg3 ho3)
          go_roundw
          case rel =>
            exact ⟨k + 1, by omega, by go_num, by rw [HT2.out]; exact hr3, (HB3.out.alloc hs2 _).grown hg3 (by simp; omega) (fun j hj => (hlt j hj).1)⟩
          case measure => simp [intOf]; omega
      · have hc0 : (tokCheck ⟨tk, tb, tl, td, ti⟩ == 0) = false := by rw [beq_eq_false_iff_ne]; exact hck
        have HT2 := Lib.hid (HTk.out.trans (by rw [if_neg (fun q => hck q.1), List.append_nil]))
        generalize tokCheck ⟨tk, tb, tl, td, ti⟩ = cc at *
        clear hck
        go_wp2
        go_roundw
        case rel => exact ⟨k + 1, by omega, by go_num, by rw [HT2.out]; exact hrow2, HB3.out⟩
        case measure => simp [intOf]; omega
    · obtain rfl : k = l.length := by omega
      rw [List.take_length] at hrow
      obtain ⟨B, c2, rfl, hc2, hr⟩ := RowI.slice hrow
      have HR := Lib.hid (And.intro hrow hbr)
      clear hrow hbr hr
      go_wp2
      go_ret
      exact ⟨_, rfl, HR.out.1, HR.out.2⟩

def bkt (x : Int) : Nat := Lib.bitLen (max 0 x).toNat
theorem bkt_lt {x : Int} (h : x ≤ 1000000) : bkt x < 64 := by
  have := Lib.bitLen_le (max 0 x).toNat 20 (by decide) (by omega)
  unfold bkt; omega
def bktL (l : List Int) : List Int := l.foldl (fun c x => c.set (bkt x) (c.getD (bkt x) 0 + 1)) (List.replicate 64 0)
def bktLast (l : List Int) : Nat := l.foldl (fun m x => max m (bkt x + 1)) 0
theorem bktL_snoc (l : List Int) (x : Int) : bktL (l ++ [x]) = (bktL l).set (bkt x) ((bktL l).getD (bkt x) 0 + 1) := by unfold bktL; rw [List.foldl_append]; rfl
theorem bktLast_snoc (l : List Int) (x : Int) : bktLast (l ++ [x]) = max (bktLast l) (bkt x + 1) := by unfold bktLast; rw [List.foldl_append]; rfl

theorem bktL_length (l : List Int) : (bktL l).length = 64 := by
  unfold bktL
  generalize hz : List.replicate 64 (0 : Int) = z
  have hl : z.length = 64 := by rw [← hz]; simp
  clear hz
  induction l generalizing z with
  | nil => exact hl
  | cons x l ih => rw [List.foldl_cons]; exact ih _ (by rw [List.length_set]; exact hl)
set_option maxHeartbeats 2000000 in
theorem p_Buckets (A : Option Addr) (c : Nat) (l : List Int) (w : World) (h : ReadsI w A l) (hl : l.length ≤ 1000000) (hb : ∀ x ∈ l, x ≤ 1000000) (hcnt : ∀ k, k ≤ l.length → ∀ j, 0 ≤ (bktL (l.take k)).getD j 0 ∧ (bktL (l.take k)).getD j 0 ≤ 1000000) (hlast : ∀ k, k ≤ l.length → bktLast (l.take k) ≤ 64) :
    Calls Try.prog 49 #[.slice A l.length c] w fun e w' => ∃ b, e = .returned (.slice (some ⟨b, 0, none⟩) (bktLast l) (bktLast l)) ∧ Blk w' b 111 (ivals (bktL l)).toArray ∧ w.heap.size ≤ b ∧ Below w.heap.size w w' := by
  have hB0 := bl_alloc (Below.refl w.heap.size w) (.cells (ivals (List.replicate 64 0)).toArray 111)
  have z1 := Blk.new w 111 (ivals (List.replicate 64 0)).toArray
  clear hB0 z1
  go_enter Try.func49, Try.ntmps49
  go_wp2_with fail
  go_loopw [4, 10] (fun v4 v10 wr => ∃ k : Nat, k ≤ l.length ∧ v10 = .int .i64 k ∧ v4 = .int .i64 (bktLast (l.take k) : Nat) ∧ Blk wr w.heap.size 111 (ivals (bktL (l.take k))).toArray ∧ Below w.heap.size w wr) (fun _ v10 _ => l.length - (intOf v10).toNat)
  case atStart => exact ⟨0, Nat.zero_le _, rfl, rfl, Blk.new w _ _, bl_alloc (Below.refl _ _) _⟩
  case round =>
    obtain ⟨k, hk, rfl, rfl, hblk, hbr⟩ := hrel
    have hla := hlast k hk
    have HLA := Lib.hid (hlast (k + 1))
    have hcn := hcnt k hk
    have HB := Lib.hid hbr
    by_cases hkl : k < l.length
    · obtain ⟨ad, rfl, had, a1⟩ := (h.below hbr).at_ k hkl
      have hxb := hb l[k] (List.getElem_mem hkl)
      have HT := Lib.hid (show bktL (l.take (k + 1)) = (bktL (l.take k)).set (bkt l[k]) ((bktL (l.take k)).getD (bkt l[k]) 0 + 1) ∧ bktLast (l.take (k + 1)) = max (bktLast (l.take k)) (bkt l[k] + 1) by
        rw [List.take_succ_eq_append_getElem hkl, bktL_snoc, bktLast_snoc]; exact ⟨rfl, rfl⟩)
      have hlt := bkt_lt hxb
      have HX := Lib.hid (show ∀ y : Int, y = max 0 l[k] → Lib.bitLen y.toNat = bkt l[k] from fun y e => by rw [e]; rfl)
      have hcell := Blk.cell hblk (bkt l[k])
      have hfro := Blk.frozen hblk (bkt l[k])
      rw [ivals_cell _ _ (by rw [bktL_length]; exact hlt)] at hcell
      have hc1 := hcn (bkt l[k])
      have HBK := Lib.hid hblk
      generalize l[k] = x at *
      have hi1 : (k : Int) < (l.length : Int) := Int.ofNat_lt.2 hkl
      clear hblk hbr h hcn hb hcnt hlast
      obtain ⟨wo, rfl⟩ : ∃ wo : World, wo = wr := ⟨_, rfl⟩
      go_upto_region 6 with (fail)
      go_cut [7] (fun v7 wc => v7 = .int .i64 (bkt x : Nat) ∧ wc = wo)
      case first =>
        clear hcell hfro hc1 hla
        go_wp2_with fail
        refine (Try.bits_Len64 (max 0 x) wo (by omega) (by omega)).mono ?_
        rintro e w' ⟨rfl, rfl⟩
        have HY := Lib.hid (HX.out (max 0 x) rfl)
        go_wp2
        go_meet
        case rel => exact ⟨by rw [← HY.out], rfl⟩
      obtain ⟨rfl, rfl⟩ := hcut
      generalize bkt x = j at *
      generalize bktLast (l.take k) = m at *
      generalize bktL (l.take k) = q at *
      generalize hg : q.getD j 0 = g at *
      have hj64 : (j : Int) < 64 := by omega
      have HMX := Lib.hid (show max (m : Int) ((j : Int) + 1) = ((max m (j + 1) : Nat) : Int) by omega)
      have hwg : wrap64 (g + 1) = g + 1 := by unfold wrap64; omega
      have hwj : wrap64 ((j : Int) + 1) = (j : Int) + 1 := by unfold wrap64; omega
      have HG := Lib.hid hg
      clear hg HX
      go_wp2
      go_roundw
      case rel =>
        refine ⟨k + 1, by omega, by go_num, ?_, ?_, ?_⟩
        · rw [HT.out.2, ← HMX.out]
        · rw [HT.out.1]; exact HBK.out.setInt j (g + 1)
        · exact HB.out.setCell (p := ⟨w.heap.size, j, none⟩) (Nat.le_refl _) _
      case measure => simp [intOf]; omega
    · obtain rfl : k = l.length := by omega
      rw [List.take_length] at hla hblk ⊢
      have HBK := Lib.hid hblk
      have hm1 : ((bktLast l : Nat) : Int) ≤ 64 := by omega
      generalize hm : bktLast l = m at *
      have HM := Lib.hid hm
      clear h hblk hbr hb hcnt hlast hcn hm
      go_wp2
      go_ret
      exact ⟨w.heap.size, by rw [HM.out]; rfl, HBK.out, Nat.le_refl _, HB.out⟩

end Go.Proofs.Ytoefkkgnabjmdaa
