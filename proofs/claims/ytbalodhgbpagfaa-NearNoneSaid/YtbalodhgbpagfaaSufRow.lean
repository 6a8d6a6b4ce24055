/- Packages suffix and lcp: Sort of few bytes, Is, Row: by walks. -/
import Derived.Test.YtbalodhgbpagfaaSufIter
set_option linter.unusedSimpArgs false
set_option linter.unusedVariables false
set_option maxRecDepth 100000
namespace Go.Proofs.Ytbalodhgbpagfaa
open Go.RowKit

def SortOk (s : List UInt8) : Prop := ∀ w : World, Calls Try.prog 12 #[.string (str s)] w fun e w' => ∃ a, IsSA (codesB s) a ∧ GivesN w a e w'
set_option maxHeartbeats 4000000 in
theorem sort_few (s : List UInt8) (hl : s.length ≤ 24) : SortOk s := fun w => by
  have hsz := str_size s
  have b1 : decide ((24 : Int) < ((str s).size : Int)) = false := decide_eq_false (by rw [hsz]; omega)
  have b1n : decide (24 < (str s).size) = false := decide_eq_false (by rw [hsz]; omega)
  have hd := p_doubled s (by omega) w
  clear hsz
  go_enter Try.func12, Try.ntmps12
  go_wp2_with fail
  refine hd.mono ?_
  rintro e w' ⟨a, ha, g, h1, rfl, h2, h3⟩
  go_wp2
  go_ret
  exact ⟨a, ha, g, h1, rfl, h2, h3⟩
set_option maxHeartbeats 4000000 in
theorem p_Is (s : List UInt8) (hS : SortOk s) (hl : s.length ≤ 1000000) (a : List Nat) (ha : IsSA (codesB s) a) (A : Option Addr) (c : Nat) (w : World) (hA : ReadsI w A (nz a)) :
    Calls Try.prog 20 #[.string (str s), .slice A a.length c] w fun e w' => e = .returned (.bool true) ∧ Below w.heap.size w w' := by
  have hs := hS w
  have hal : a.length ≤ 1000000 := by rw [ha.len, codesB_len]; exact hl
  go_enter Try.func20, Try.ntmps20
  go_wp2_with fail
  refine hs.mono ?_
  rintro e w1 ⟨a', ha', g, h1, rfl, h2, h3⟩
  obtain rfl := ha.unique ha'
  have hA1 := hA.below h3
  clear hs hS ha ha'
  go_wp2_with fail
  refine (p_EqualI A (some ⟨g, 0, none⟩) c a.length a w1 hA1 h2.readsN hal).mono ?_
  rintro e w2 ⟨rfl, hb2⟩
  have HB := Lib.hid (bl_then h3 h3.size hb2)
  clear h3 hb2 h2 hA1
  go_wp2
  go_ret
  exact ⟨rfl, HB.out⟩
/-- How much each end shares with the one ahead. -/
def nbT (t a : List Nat) (k : Nat) : Nat := if k = 0 then 0 else lcpT t (a.getD k 0) (a.getD (k - 1) 0)
def nbTo (t a : List Nat) (i k : Nat) : Nat := if a.getD k 0 < i then nbT t a k else 0
theorem nbTo_step {t a : List Nat} (ha : IsSA t a) {i : Nat} (hi : i < t.length) : (tab a.length (nbTo t a i)).set (rankOf a i) (nbT t a (rankOf a i)) = tab a.length (nbTo t a (i + 1)) := by
  rw [tab_set]
  refine tab_ext (fun j hj => ?_)
  unfold upd nbTo
  have hr := rank_lt ha hi
  have hg := rank_get ha hi
  by_cases q : j = rankOf a i
  · subst q
    rw [if_pos rfl, if_pos (by rw [getD_get _ _ hr, hg]; omega)]
  · rw [if_neg q]
    have hne : a.getD j 0 ≠ i := fun e => q (by
      rw [getD_get _ _ hj] at e
      rw [← e, rank_of_get ha hj])
    by_cases q2 : a.getD j 0 < i
    · rw [if_pos q2, if_pos (by omega)]
    · rw [if_neg q2, if_neg (by omega)]
theorem nbTo_skip {t a : List Nat} (ha : IsSA t a) {i : Nat} (hi : i < t.length) (h0 : rankOf a i = 0) : tab a.length (nbTo t a i) = tab a.length (nbTo t a (i + 1)) := by
  rw [← nbTo_step ha hi, h0]
  refine List.ext_getElem (by rw [List.length_set]) (fun x p q => ?_)
  rw [List.getElem_set]
  by_cases e : 0 = x
  · subst e
    rw [if_pos rfl]
    have hr := rank_lt ha hi
    have h1 : (tab a.length (nbTo t a i)).getD 0 0 = nbTo t a i 0 := tab_get _ (by omega)
    rw [getD_get _ _ p] at h1
    rw [h1]
    unfold nbTo nbT
    split <;> simp
  · rw [if_neg e]
theorem nbTo_all {t a : List Nat} (ha : IsSA t a) : tab a.length (nbTo t a t.length) = tab a.length (nbT t a) := tab_ext (fun j hj => if_pos (by
  rw [getD_get _ _ hj]
  exact (ha.mem _).1 (List.getElem_mem hj)))
set_option maxHeartbeats 4000000 in
theorem p_LRow (s : List UInt8) (hS : SortOk s) (hl : s.length ≤ 1000000) (a : List Nat) (ha : IsSA (codesB s) a) (A : Option Addr) (c : Nat) (w : World) (hA : ReadsI w A (nz a)) :
    Calls Try.prog 14 #[.string (str s), .slice A a.length c] w (GivesN w (tab a.length (nbT (codesB s) a))) := by
  have HAL := Lib.hid (show a.length = s.length by rw [ha.len, codesB_len])
  have hal2 : a.length ≤ 1000000 := by rw [HAL.out]; exact hl
  have hmk := fun w : World => run_zerosB w a.length (by omega)
  have HSZ := Lib.hid (str_size s)
  have HA := Lib.hid ha
  have his := p_Is s hS hl a ha A c w hA
  have HCL := Lib.hid (codesB_len s)
  go_enter Try.func14, Try.ntmps14
  go_wp2_with fail
  refine his.mono ?_
  rintro e w1 ⟨rfl, hb1⟩
  have hA1 := hA.below hb1
  have hrk := p_Ranks_sa A c (codesB s) a ha (by omega) w1 hA1
  clear his hS
  go_wp2_with fail
  refine hrk.mono ?_
  rintro e w2 ⟨gr, hg2, rfl, hr2, hb2⟩
  have hA2 := hA1.below hb2
  have hbw := bl_then hb1 hb1.size hb2
  have hgw : w.heap.size ≤ gr := Nat.le_trans hb1.size hg2
  rw [tab_length]
  clear hrk hA1 hb1 hb2
  have HST : Hid (BlkI (w2.alloc (.cells (ivals (List.replicate a.length 0)).toArray 3)) gr (nz (tab a.length (rankOf a))) ∧ BlkI (w2.alloc (.cells (ivals (List.replicate a.length 0)).toArray 3)) w2.heap.size (nz (tab a.length (nbTo (codesB s) a 0))) ∧ Below w.heap.size w (w2.alloc (.cells (ivals (List.replicate a.length 0)).toArray 3))) := Lib.hid (by
    refine ⟨hr2.alloc' _, ?_, bl_alloc hbw _⟩
    have h := BlkI.madeN w2 a.length
    rw [tab_zero] at h
    rwa [show tab a.length (fun _ => 0) = tab a.length (nbTo (codesB s) a 0) from tab_ext (fun j _ => by unfold nbTo; rw [if_neg (by omega)])] at h)
  have hgr2 : gr < w2.heap.size := hr2.lt'
  have hw2 : w.heap.size ≤ w2.heap.size := hbw.size
  clear hr2 hbw
  go_wp2_with fail
  go_loopw [7, 21] (fun v7 v21 wr => ∃ (i m : Nat), i ≤ s.length ∧ v21 = .int .i64 i ∧ v7 = .int .i64 m ∧ m ≤ 1000000 ∧ (i < s.length → 0 < rankOf a i → m ≤ lcpT (codesB s) i (a.getD (rankOf a i - 1) 0)) ∧ BlkI wr gr (nz (tab a.length (rankOf a))) ∧ BlkI wr w2.heap.size (nz (tab a.length (nbTo (codesB s) a i))) ∧ Below w.heap.size w wr) (fun _ v21 _ => s.length - (intOf v21).toNat)
  case atStart => exact ⟨0, 0, Nat.zero_le _, rfl, rfl, by omega, fun _ _ => by omega, HST.out⟩
  case round =>
    obtain ⟨i, m, hi, rfl, rfl, hm, hkn, hgr, hgo, hb⟩ := hrel
    by_cases hil : i < s.length
    · have hic : i < (codesB s).length := by rw [HCL.out]; exact hil
      have hrl := rank_lt HA.out hic
      have hrg := rank_get HA.out hic
      have b1 : decide ((i : Int) < ((str s).size : Int)) = true := decide_eq_true (by rw [HSZ.out]; omega)
      have b1n : decide (i < (str s).size) = true := decide_eq_true (by rw [HSZ.out]; omega)
      have hia : i < a.length := by rw [HAL.out]; exact hil
      have i1 : (i : Int) < (a.length : Int) := by omega
      have c1 := hgr.atN i (by rw [tab_length]; exact hia)
      rw [tab_get _ hia] at c1
      have e4 : IntKind.i64.wrap ((i : Int) + 1) = (i : Int) + 1 := Go.IntWalk.i64_in _ (by omega)
      have l1 := hgr.lt'
      have l2 := hgo.lt'
      by_cases hr0 : rankOf a i = 0
      · have HN := Lib.hid (show BlkI wr w2.heap.size (nz (tab a.length (nbTo (codesB s) a (i + 1)))) by rw [← nbTo_skip HA.out hic hr0]; exact hgo)
        have HO := Lib.hid (And.intro hgr hb)
        rw [hr0] at c1
        clear hgr hgo hb hkn hrl hrg hr0
        go_wp2_with fail
        go_roundw
        case rel => exact ⟨i + 1, 0, by omega, by go_num, rfl, by omega, fun _ _ => by omega, HO.out.1, HN.out, HO.out.2⟩
        case measure => simp [intOf]; omega
      · obtain ⟨r, hr⟩ : ∃ r, r = rankOf a i := ⟨_, rfl⟩
        obtain ⟨j, hj⟩ : ∃ j, j = r - 1 := ⟨_, rfl⟩
        have hkn2 := hkn hil (by omega)
        obtain ⟨ad, rfl, had, c2⟩ := (hA.below hb).atN j (by omega)
        have hkl : a.getD j 0 < s.length := by
          rw [getD_get _ _ (by omega), ← HCL.out]
          exact (HA.out.mem _).1 (List.getElem_mem _)
        rw [← hr, ← hj] at hkn2
        have hsh := p_lshared s i (a.getD j 0) m (by omega) (by omega) hl hkn2 wr
        have hnb : nbT (codesB s) a r = lcpT (codesB s) i (a.getD j 0) := by
          unfold nbT
          rw [if_neg (by omega), hr, getD_get _ _ hrl, hrg, ← hr, ← hj]
        have HK : Hid (i + 1 < s.length → 0 < rankOf a (i + 1) → lcpT (codesB s) i (a.getD j 0) - 1 ≤ lcpT (codesB s) (i + 1) (a.getD (rankOf a (i + 1) - 1) 0)) := Lib.hid (fun h1 h2 => by
          have h1c : i + 1 < (codesB s).length := by rw [HCL.out]; exact h1
          have hk := kasai HA.out h1c (by omega) h2
          have hr2 := rank_lt HA.out h1c
          rw [← getD_get a 0 (by omega), ← getD_get a 0 (by omega), ← hr, ← hj] at hk
          omega)
        have hlb : lcpT (codesB s) i (a.getD j 0) ≤ 1000000 := by
          have := ((lcpT_ge (codesB s) i (a.getD j 0) _ (by omega) (by rw [HCL.out]; omega)).1 (Nat.le_refl _)).1
          rw [HCL.out] at this
          omega
        rw [← hr] at c1 hrl
        have c3 := hgo.atN r (by rw [tab_length]; exact hrl)
        have f3 := hgo.frozen' r
        obtain ⟨lc, hlc⟩ : ∃ lc, lc = lcpT (codesB s) i (a.getD j 0) := ⟨_, rfl⟩
        rw [← hlc] at hsh hnb HK hlb
        have HN : Hid (∀ w', Below wr.heap.size wr w' → BlkI (w'.setCell ⟨w2.heap.size, r, none⟩ (.int .i64 (lc : Int))) gr (nz (tab a.length (rankOf a))) ∧ BlkI (w'.setCell ⟨w2.heap.size, r, none⟩ (.int .i64 (lc : Int))) w2.heap.size (nz (tab a.length (nbTo (codesB s) a (i + 1)))) ∧ Below w.heap.size w (w'.setCell ⟨w2.heap.size, r, none⟩ (.int .i64 (lc : Int)))) := Lib.hid (fun w' hw' => by
          have h1 := (hgo.below' hw' l2).setN r lc
          rw [← hnb, hr, nbTo_step HA.out hic] at h1
          rw [← hr, hnb] at h1
          exact ⟨(hgr.below' hw' l1).other (p := ⟨w2.heap.size, r, none⟩) (by show gr ≠ w2.heap.size; omega) _, h1, (bl_then hb hb.size hw').setCell hw2 _⟩)
        generalize (tab a.length (nbTo (codesB s) a i)).getD r 0 = y0 at *
        have q1 : (r : Int) < (a.length : Int) := by omega
        have q0 : 0 ≤ (r : Int) := by omega
        have b0 : ((r : Int) == 0) = false := by rw [beq_eq_false_iff_ne]; omega
        have b0n : (r == 0) = false := by rw [beq_eq_false_iff_ne]; omega
        have e5 : IntKind.i64.wrap ((r : Int) - 1) = (j : Int) := by rw [show (r : Int) - 1 = j by omega]; exact Go.IntWalk.i64_in _ (by omega)
        have j1 : (j : Int) < (a.length : Int) := by omega
        have j0 : 0 ≤ (j : Int) := by omega
        have e6 : IntKind.i64.wrap ((lc : Int) - 1) = (lc : Int) - 1 := Go.IntWalk.i64_in _ (by omega)
        have e7 : max 0 ((lc : Int) - 1) = ((lc - 1 : Nat) : Int) := by omega
        have HLB := Lib.hid hlb
        clear hgr hgo hb hkn hrl hrg hr0 hr hj hkn2 hnb hlc hlb hkl hic
        go_wp2_with fail
        refine hsh.mono ?_
        rintro e w3 ⟨rfl, hb3⟩
        have c3b := (hb3.cell (p := ⟨w2.heap.size, r, none⟩) l2).trans c3
        have f3b := (hb3.frozen (p := ⟨w2.heap.size, r, none⟩) l2).trans f3
        have l3 := Nat.lt_of_lt_of_le l2 hb3.size
        have HN3 := Lib.hid (HN.out w3 hb3)
        clear hsh c1 c2 c3 f3 hb3
        go_wp2_with fail
        go_roundw
        case rel => exact ⟨i + 1, lc - 1, by omega, by go_num, by rw [show (if 1 < (lc : Int) then (lc : Int) - 1 else 0) = ((lc - 1 : Nat) : Int) by split <;> omega], by have := HLB.out; omega, HK.out, HN3.out.1, HN3.out.2.1, HN3.out.2.2⟩
        case measure => simp [intOf]; omega
    · obtain rfl : i = s.length := by omega
      have b1 : decide ((s.length : Int) < ((str s).size : Int)) = false := decide_eq_false (by rw [HSZ.out]; omega)
      have b1n : decide (s.length < (str s).size) = false := decide_eq_false (by rw [HSZ.out]; omega)
      have HN := Lib.hid (show BlkI wr w2.heap.size (nz (tab a.length (nbT (codesB s) a))) by rw [← nbTo_all HA.out, HCL.out]; exact hgo)
      have HO := Lib.hid hb
      clear hgr hgo hb hkn
      go_wp2
      go_ret
      exact ⟨w2.heap.size, hw2, by rw [tab_length]; rfl, HN.out, HO.out⟩
end Go.Proofs.Ytbalodhgbpagfaa
