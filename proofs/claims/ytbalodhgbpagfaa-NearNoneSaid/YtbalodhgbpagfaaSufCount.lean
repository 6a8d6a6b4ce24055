/- Package suffix: counted: by a walk. -/
import Derived.Test.YtbalodhgbpagfaaIntB
import Derived.Test.YtbalodhgbpagfaaDoubPlain
import Derived.Test.YtbalodhgbpagfaaSaisScan
import Derived.BigQuiet
import Derived.BigRegion
import Derived.Deep.QuietTactic
import Derived.Deep.CutBlock
import Derived.Deep.RegionHeld3
set_option linter.unusedSimpArgs false
set_option linter.unusedVariables false
set_option maxRecDepth 100000
namespace Go.Proofs.Ytbalodhgbpagfaa
open Go.RowKit

/-- So many numbers by a rule. -/
def tab (m : Nat) (f : Nat → Nat) : List Nat := (List.range m).map f
theorem tab_length (m : Nat) (f : Nat → Nat) : (tab m f).length = m := by simp [tab]
theorem tab_get {m : Nat} (f : Nat → Nat) {j : Nat} (h : j < m) : (tab m f).getD j 0 = f j := by
  rw [getD_get _ _ (by rw [tab_length]; exact h)]
  simp [tab]
theorem tab_ext {m : Nat} {f g : Nat → Nat} (h : ∀ j, j < m → f j = g j) : tab m f = tab m g := by
  unfold tab
  exact List.map_congr_left (fun j hj => h j (List.mem_range.1 hj))
theorem tab_set {m : Nat} (f : Nat → Nat) (j v : Nat) : (tab m f).set j v = tab m (upd f j v) := by
  refine List.ext_getElem (by rw [List.length_set, tab_length, tab_length]) (fun x a b => ?_)
  rw [tab_length] at b
  rw [List.getElem_set]
  simp only [tab, List.getElem_map, List.getElem_range, upd]
  by_cases q : j = x
  · rw [if_pos q, if_pos q.symm]
  · rw [if_neg q, if_neg (fun e => q e.symm)]
theorem tab_zero (m : Nat) : List.replicate m 0 = tab m (fun _ => 0) := by
  refine List.ext_getElem (by rw [List.length_replicate, tab_length]) (fun x a b => ?_)
  simp [tab]
def cEq (rk : Nat → Nat) (l : List Nat) (r : Nat) : Nat := (l.filter (fun p => rk p == r)).length
def cLt (rk : Nat → Nat) (l : List Nat) (r : Nat) : Nat := (l.filter (fun p => decide (rk p < r))).length
theorem cLt_zero (rk : Nat → Nat) (l : List Nat) : cLt rk l 0 = 0 := by
  unfold cLt
  rw [List.filter_eq_nil_iff.2 (fun p _ => by simp)]
  rfl
theorem cLt_succ (rk : Nat → Nat) (l : List Nat) (r : Nat) : cLt rk l (r + 1) = cLt rk l r + cEq rk l r := by
  unfold cLt cEq
  induction l with
  | nil => rfl
  | cons x l ih =>
    simp only [List.filter_cons]
    rcases Nat.lt_trichotomy (rk x) r with h | h | h
    · have h1 : rk x < r + 1 := by omega
      have h2 : (rk x == r) = false := by rw [beq_eq_false_iff_ne]; omega
      simp only [h, h1, h2, decide_true, if_true, List.length_cons]
      simp only [Bool.false_eq_true, if_false]
      omega
    · have h1 : rk x < r + 1 := by omega
      have h0 : ¬ rk x < r := by omega
      have h2 : (rk x == r) = true := by rw [beq_iff_eq]; exact h
      simp only [h0, h1, h2, decide_true, decide_false, if_true, List.length_cons]
      simp only [Bool.false_eq_true, if_false]
      omega
    · have h1 : ¬ rk x < r + 1 := by omega
      have h0 : ¬ rk x < r := by omega
      have h2 : (rk x == r) = false := by rw [beq_eq_false_iff_ne]; omega
      simp only [h0, h1, h2, decide_false, Bool.false_eq_true, if_false]
      exact ih
theorem cLt_le (rk : Nat → Nat) (l : List Nat) (r : Nat) : cLt rk l r ≤ l.length := List.length_filter_le _ _
theorem cLt_mono (rk : Nat → Nat) (l : List Nat) (r : Nat) : ∀ d, cLt rk l r ≤ cLt rk l (r + d)
  | 0 => Nat.le_refl _
  | d + 1 => by
    have := cLt_mono rk l r d
    have := cLt_succ rk l (r + d)
    rw [show r + (d + 1) = r + d + 1 by omega]
    omega
theorem cEq_take (rk : Nat → Nat) (l : List Nat) (i : Nat) (hi : i < l.length) (r : Nat) : cEq rk (l.take (i + 1)) r = cEq rk (l.take i) r + (if rk (l.getD i 0) = r then 1 else 0) := by
  unfold cEq
  rw [List.take_succ_eq_append_getElem hi, List.filter_append, List.length_append, getD_get l 0 hi]
  congr 1
  by_cases q : rk l[i] = r
  · rw [if_pos q, List.filter_cons, if_pos (by rw [beq_iff_eq]; exact q)]; rfl
  · rw [if_neg q, List.filter_cons, if_neg (by rw [beq_iff_eq]; exact q)]; rfl
theorem cEq_lt (rk : Nat → Nat) (l : List Nat) (i : Nat) (hi : i < l.length) : cEq rk (l.take i) (rk (l.getD i 0)) < cEq rk l (rk (l.getD i 0)) := by
  have h1 := cEq_take rk l i hi (rk (l.getD i 0))
  rw [if_pos rfl] at h1
  have h2 : cEq rk (l.take (i + 1)) (rk (l.getD i 0)) ≤ cEq rk l (rk (l.getD i 0)) := by
    unfold cEq
    exact ((List.take_sublist _ _).filter _).length_le
  omega
theorem filter_at (rk : Nat → Nat) (l : List Nat) (i : Nat) (hi : i < l.length) : (l.filter (fun p => rk p == rk (l.getD i 0))).getD (cEq rk (l.take i) (rk (l.getD i 0))) 0 = l.getD i 0 := by
  have e : l = l.take i ++ l[i] :: l.drop (i + 1) := by rw [← List.drop_eq_getElem_cons hi, List.take_append_drop]
  have e2 : ∀ r, rk l[i] = r → l.filter (fun p => rk p == r) = (l.take i).filter (fun p => rk p == r) ++ l[i] :: (l.drop (i + 1)).filter (fun p => rk p == r) := fun r hr => by
    conv => lhs; rw [e]
    rw [List.filter_append, List.filter_cons, if_pos (by rw [beq_iff_eq]; exact hr)]
  rw [e2 _ (by rw [getD_get l 0 hi])]
  unfold cEq
  rw [List.getD_eq_getElem?_getD, List.getElem?_append_right (Nat.le_refl _), Nat.sub_self, getD_get l 0 hi]
  rfl
/-- What is put so far. -/
structure PutI (rk : Nat → Nat) (l : List Nat) (i : Nat) (ys : List Nat) : Prop where
  len : ys.length = l.length
  val : ∀ r j, j < cEq rk (l.take i) r → ys.getD (cLt rk l r + j) 0 = (l.filter (fun p => rk p == r)).getD j 0
theorem PutI.start (rk : Nat → Nat) (l : List Nat) : PutI rk l 0 (List.replicate l.length 0) := ⟨by simp, fun r j h => by simp [cEq] at h⟩
theorem PutI.step {rk : Nat → Nat} {l : List Nat} {i : Nat} {ys : List Nat} (h : PutI rk l i ys) (hi : i < l.length) :
    cLt rk l (rk (l.getD i 0)) + cEq rk (l.take i) (rk (l.getD i 0)) < l.length ∧ PutI rk l (i + 1) (ys.set (cLt rk l (rk (l.getD i 0)) + cEq rk (l.take i) (rk (l.getD i 0))) (l.getD i 0)) := by
  have h1 := cEq_lt rk l i hi
  have h2 := cLt_succ rk l (rk (l.getD i 0))
  have h3 := cLt_le rk l (rk (l.getD i 0) + 1)
  have hb : cLt rk l (rk (l.getD i 0)) + cEq rk (l.take i) (rk (l.getD i 0)) < l.length := by omega
  refine ⟨hb, by rw [List.length_set]; exact h.len, fun r j hj => ?_⟩
  rw [cEq_take rk l i hi] at hj
  have hfa := filter_at rk l i hi
  by_cases q : rk (l.getD i 0) = r
  · subst q
    rw [if_pos rfl] at hj
    by_cases q2 : j = cEq rk (l.take i) (rk (l.getD i 0))
    · subst q2
      rw [getD_set_same _ _ _ (by rw [h.len]; exact hb), hfa]
    · rw [getD_set_other _ _ _ (by omega)]
      exact h.val _ j (by omega)
  · rw [if_neg q] at hj
    have h4 : cEq rk (l.take i) r ≤ cEq rk l r := by
      unfold cEq
      exact ((List.take_sublist _ _).filter _).length_le
    have h5 := cLt_succ rk l r
    rw [getD_set_other _ _ _ (by
      rcases Nat.lt_or_gt_of_ne q with z | z
      · have := cLt_mono rk l (rk (l.getD i 0) + 1) (r - (rk (l.getD i 0) + 1))
        rw [show rk (l.getD i 0) + 1 + (r - (rk (l.getD i 0) + 1)) = r by omega] at this
        omega
      · have := cLt_mono rk l (r + 1) (rk (l.getD i 0) - (r + 1))
        rw [show r + 1 + (rk (l.getD i 0) - (r + 1)) = rk (l.getD i 0) by omega] at this
        omega)]
    exact h.val r j (by omega)
theorem PutI.done {rk : Nat → Nat} {l ys : List Nat} {many : Nat} (h : PutI rk l l.length ys) (hrk : ∀ p ∈ l, rk p < many) : ys = cntS many rk l := by
  have key : ∀ m, (List.range m).flatMap (fun c => l.filter (fun p => rk p == c)) = ys.take (cLt rk l m) := by
    intro m
    induction m with
    | zero => rw [cLt_zero]; simp
    | succ m ih =>
      have h2 := cLt_succ rk l m
      have h3 := cLt_le rk l (m + 1)
      have hc : cEq rk l m = (l.filter (fun p => rk p == m)).length := rfl
      rw [List.range_succ, List.flatMap_append, ih]
      simp only [List.flatMap_cons, List.flatMap_nil, List.append_nil]
      refine List.ext_getElem (by rw [List.length_append, List.length_take, List.length_take, h.len]; omega) (fun x a b => ?_)
      rw [List.length_append, List.length_take, h.len] at a
      by_cases q : x < cLt rk l m
      · rw [List.getElem_append_left (by rw [List.length_take, h.len]; omega), List.getElem_take, List.getElem_take]
      · rw [List.getElem_append_right (by rw [List.length_take, h.len]; omega), List.getElem_take]
        have e := h.val m (x - cLt rk l m) (by rw [List.take_length]; omega)
        rw [show cLt rk l m + (x - cLt rk l m) = x by omega, getD_get _ _ (by rw [h.len]; omega), getD_get _ _ (by omega)] at e
        rw [e]
        congr 1
        rw [List.length_take, h.len]
        omega
  have hall : cLt rk l many = l.length := by
    unfold cLt
    rw [List.filter_eq_self.2 (fun p hp => decide_eq_true (hrk p hp))]
  unfold cntS
  rw [key many, hall, ← h.len, List.take_length]
def f1 (rk : Nat → Nat) (l : List Nat) (j : Nat) : Nat := if j = 0 then 0 else cEq rk l (j - 1)
def f2 (rk : Nat → Nat) (l : List Nat) (i j : Nat) : Nat := if j ≤ i then cLt rk l j else cEq rk l (j - 1)
def f3 (rk : Nat → Nat) (l : List Nat) (i j : Nat) : Nat := cLt rk l j + cEq rk (l.take i) j
theorem f1_step (rk : Nat → Nat) (l : List Nat) (m i : Nat) (hi : i < l.length) : (tab m (f1 rk (l.take i))).set (rk (l.getD i 0) + 1) (f1 rk (l.take i) (rk (l.getD i 0) + 1) + 1) = tab m (f1 rk (l.take (i + 1))) := by
  rw [tab_set]
  refine tab_ext (fun j hj => ?_)
  unfold upd f1
  by_cases q : j = rk (l.getD i 0) + 1
  · subst q
    rw [if_pos rfl, if_neg (by omega), if_neg (by omega), Nat.add_sub_cancel, cEq_take rk l i hi, if_pos rfl]
  · rw [if_neg q]
    by_cases q2 : j = 0
    · rw [if_pos q2, if_pos q2]
    · rw [if_neg q2, if_neg q2, cEq_take rk l i hi, if_neg (by omega)]; omega
theorem f2_step (rk : Nat → Nat) (l : List Nat) (m i : Nat) : (tab m (f2 rk l i)).set (i + 1) (f2 rk l i (i + 1) + f2 rk l i i) = tab m (f2 rk l (i + 1)) := by
  rw [tab_set]
  refine tab_ext (fun j hj => ?_)
  unfold upd f2
  by_cases q : j = i + 1
  · subst q
    rw [if_pos rfl, if_neg (by omega), if_pos (Nat.le_refl _), if_pos (Nat.le_refl _), Nat.add_sub_cancel, cLt_succ]
    omega
  · rw [if_neg q]
    by_cases q2 : j ≤ i
    · rw [if_pos q2, if_pos (by omega)]
    · rw [if_neg q2, if_neg (by omega)]
theorem f3_step (rk : Nat → Nat) (l : List Nat) (m i : Nat) (hi : i < l.length) : (tab m (f3 rk l i)).set (rk (l.getD i 0)) (f3 rk l i (rk (l.getD i 0)) + 1) = tab m (f3 rk l (i + 1)) := by
  rw [tab_set]
  refine tab_ext (fun j hj => ?_)
  unfold upd f3
  by_cases q : j = rk (l.getD i 0)
  · subst q
    rw [if_pos rfl, cEq_take rk l i hi, if_pos rfl]
    omega
  · rw [if_neg q, cEq_take rk l i hi, if_neg (fun e => q e.symm)]
    omega
theorem f12 (rk : Nat → Nat) (l : List Nat) (m : Nat) : tab m (f1 rk l) = tab m (f2 rk l 0) := tab_ext (fun j hj => by
  unfold f1 f2
  by_cases q : j = 0
  · subst q; rw [if_pos rfl, if_pos (Nat.le_refl _), cLt_zero]
  · rw [if_neg q, if_neg (by omega)])
theorem f23 (rk : Nat → Nat) (l : List Nat) (m : Nat) : tab (m + 1) (f2 rk l m) = tab (m + 1) (f3 rk l 0) := tab_ext (fun j hj => by
  unfold f2 f3 cEq
  rw [if_pos (by omega)]
  simp)
def GivesN (w : World) (l : List Nat) (e : Ending) (w' : World) : Prop := ∃ g, w.heap.size ≤ g ∧ e = .returned (.slice (some ⟨g, 0, none⟩) l.length l.length) ∧ BlkI w' g (nz l) ∧ Below w.heap.size w w'
set_option maxHeartbeats 4000000 in
theorem p_counted (A : Option Addr) (c : Nat) (l : List Nat) (many k : Nat) (caps : Array Value) (rk : Nat → Nat) (w : World) (hen : ∀ (args : Array Value) (w : World), (callFunc k args).run Try.prog w = .ok (.enter k args) w) (hA : ReadsI w A (nz l)) (hl : l.length ≤ 10000000) (hm : many ≤ 10000000) (hrk : ∀ p ∈ l, rk p < many)
    (hcall : ∀ p ∈ l, ∀ w', Below w.heap.size w w' → Calls Try.prog k (#[.int .i64 (p : Int)] ++ caps) w' fun e w'' => e = .returned (.int .i64 (rk p : Int)) ∧ w' = w'') :
    Calls Try.prog 26 #[.slice A l.length c, .int .i64 many, .func (.func k) #[] caps] w (GivesN w (cntS many rk l)) := by
  have hmk := fun w : World => run_zerosB w (many + 1) (by omega)
  have hmk2 := fun w : World => run_zerosB w l.length (by omega)
  rw [show ((many + 1 : Nat) : Int) = (many : Int) + 1 by omega] at hmk
  have e1 : IntKind.i64.wrap ((many : Int) + 1) = (many : Int) + 1 := Go.IntWalk.i64_in _ (by omega)
  have HRK := Lib.hid hrk
  have HCALL := Lib.hid hcall
  have HSTART := Lib.hid (And.intro (BlkI.madeN w (many + 1)) (bl_alloc (Below.refl w.heap.size w) (.cells (ivals (List.replicate (many + 1) 0)).toArray 3)))
  have hmem : ∀ i, i < l.length → l.getD i 0 ∈ l := fun i hi => by rw [getD_get l 0 hi]; exact List.getElem_mem hi
  have HMEM := Lib.hid hmem
  have hcEq : ∀ q r, cEq rk (l.take q) r ≤ l.length := fun q r => by
    have h1 : cEq rk (l.take q) r ≤ (l.take q).length := List.length_filter_le _ _
    rw [List.length_take] at h1
    omega
  have HCE := Lib.hid hcEq
  clear hrk hcall hmem hcEq
  go_enter Try.func26, Try.ntmps26
  go_wp2_with fail
  go_loopw [20] (fun v20 wr => ∃ i : Nat, i ≤ l.length ∧ v20 = .int .i64 i ∧ BlkI wr w.heap.size (nz (tab (many + 1) (f1 rk (l.take i)))) ∧ Below w.heap.size w wr) (fun v20 _ => l.length - (intOf v20).toNat)
  case atStart =>
    refine ⟨0, Nat.zero_le _, rfl, ?_, HSTART.out.2⟩
    have := HSTART.out.1
    rw [tab_zero] at this
    rwa [show tab (many + 1) (fun _ => 0) = tab (many + 1) (f1 rk (l.take 0)) from tab_ext (fun j _ => by unfold f1 cEq; simp)] at this
  case round =>
    obtain ⟨i, hi, rfl, hg, hb⟩ := hrel
    by_cases hil : i < l.length
    · obtain ⟨ad, rfl, had, hcell⟩ := (hA.below hb).atN i hil
      have hi1 : (i : Int) < (l.length : Int) := by omega
      have hq := HRK.out _ (HMEM.out i hil)
      have hcall := HCALL.out _ (HMEM.out i hil) wr hb
      have HST := Lib.hid (f1_step rk l (many + 1) i hil)
      have hval := hg.atN (rk (l.getD i 0) + 1) (by rw [tab_length]; omega)
      rw [tab_get _ (by omega)] at hval
      have hfr := hg.frozen' (rk (l.getD i 0) + 1)
      have hvb : f1 rk (l.take i) (rk (l.getD i 0) + 1) ≤ l.length := by
        unfold f1
        split
        · omega
        · exact HCE.out _ _
      generalize l.getD i 0 = p at *
      obtain ⟨r, hr⟩ : ∃ r, r = rk p := ⟨_, rfl⟩
      obtain ⟨q, hqq⟩ : ∃ q, q = rk p + 1 := ⟨_, rfl⟩
      rw [← hqq] at hval hfr hvb HST
      rw [← hr] at hcall
      have e2 : IntKind.i64.wrap ((r : Int) + 1) = (q : Int) := by rw [show (r : Int) + 1 = (q : Int) by omega]; exact Go.IntWalk.i64_in _ (by omega)
      have q1 : (q : Int) < (many : Int) + 1 := by omega
      have q0 : 0 ≤ (q : Int) := by omega
      generalize f1 rk (l.take i) q = v at *
      have e3 : IntKind.i64.wrap ((v : Int) + 1) = (v : Int) + 1 := Go.IntWalk.i64_in _ (by omega)
      have e4 : IntKind.i64.wrap ((i : Int) + 1) = (i : Int) + 1 := Go.IntWalk.i64_in _ (by omega)
      have hwg : w.heap.size < wr.heap.size := hg.lt'
      have HN : Hid (BlkI (wr.setCell ⟨w.heap.size, q, none⟩ (.int .i64 ((v : Int) + 1))) w.heap.size (nz (tab (many + 1) (f1 rk (l.take (i + 1))))) ∧ Below w.heap.size w (wr.setCell ⟨w.heap.size, q, none⟩ (.int .i64 ((v : Int) + 1)))) := Lib.hid (by
        have h1 := hg.setN q (v + 1)
        rw [HST.out] at h1
        exact ⟨by push_cast at h1; exact h1, hb.setCell (Nat.le_refl _) _⟩)
      clear hg hb hq hqq hr HST
      go_wp2_with fail
      refine hcall.mono ?_
      rintro e w1 ⟨rfl, rfl⟩
      go_wp2_with fail
      go_roundw
      case rel => exact ⟨i + 1, by omega, by go_num, HN.out.1, HN.out.2⟩
      case measure => simp [intOf]; omega
    · obtain rfl : i = l.length := by omega
      rw [List.take_length, f12] at hg
      have HG := Lib.hid (And.intro hg hb)
      clear hil hi hg hb
      go_wp2_with fail
      go_loopw [10] (fun v10 wr => ∃ i : Nat, i ≤ many ∧ v10 = .int .i64 ((i : Int) + 1) ∧ BlkI wr w.heap.size (nz (tab (many + 1) (f2 rk l i))) ∧ Below w.heap.size w wr) (fun v10 _ => many + 2 - (intOf v10).toNat)
      case atStart => exact ⟨0, Nat.zero_le _, rfl, HG.out.1, HG.out.2⟩
      case round =>
        obtain ⟨i, hi, rfl, hg, hb⟩ := hrel
        by_cases him : i < many
        · have hv1 := hg.atN (i + 1) (by rw [tab_length]; omega)
          have hv2 := hg.atN i (by rw [tab_length]; omega)
          rw [tab_get _ (by omega)] at hv1 hv2
          have hfr := hg.frozen' (i + 1)
          have HST := Lib.hid (f2_step rk l (many + 1) i)
          have hb1 : f2 rk l i (i + 1) + f2 rk l i i ≤ 2 * l.length := by
            have h1 := cLt_le rk l i
            have h2 := HCE.out l.length i
            rw [List.take_length] at h2
            unfold f2
            rw [if_neg (by omega), if_pos (Nat.le_refl _), Nat.add_sub_cancel]
            omega
          obtain ⟨q, hq⟩ : ∃ q, q = i + 1 := ⟨_, rfl⟩
          have HN : Hid (BlkI (wr.setCell ⟨w.heap.size, q, none⟩ (.int .i64 ((f2 rk l i q : Int) + (f2 rk l i i : Int)))) w.heap.size (nz (tab (many + 1) (f2 rk l (i + 1)))) ∧ Below w.heap.size w (wr.setCell ⟨w.heap.size, q, none⟩ (.int .i64 ((f2 rk l i q : Int) + (f2 rk l i i : Int))))) := Lib.hid (by
            subst hq
            have h1 := hg.setN (i + 1) (f2 rk l i (i + 1) + f2 rk l i i)
            rw [HST.out] at h1
            exact ⟨by push_cast at h1; exact h1, hb.setCell (Nat.le_refl _) _⟩)
          rw [← hq] at hv1 hfr hb1
          generalize f2 rk l i q = v1 at *
          generalize f2 rk l i i = v2 at *
          have e2 : (i : Int) + 1 = (q : Int) := by omega
          have q1 : (q : Int) ≤ (many : Int) := by omega
          have q2 : (q : Int) < (many : Int) + 1 := by omega
          have q0 : 0 ≤ (q : Int) := by omega
          have e3 : IntKind.i64.wrap ((q : Int) - 1) = (i : Int) := by rw [show (q : Int) - 1 = i by omega]; exact Go.IntWalk.i64_in _ (by omega)
          have i1 : (i : Int) < (many : Int) + 1 := by omega
          have e4 : IntKind.i64.wrap ((v1 : Int) + (v2 : Int)) = (v1 : Int) + (v2 : Int) := Go.IntWalk.i64_in _ (by omega)
          have e5 : IntKind.i64.wrap ((q : Int) + 1) = (q : Int) + 1 := Go.IntWalk.i64_in _ (by omega)
          have hwg : w.heap.size < wr.heap.size := hg.lt'
          have HQ := Lib.hid (And.intro hq him)
          rw [e2]
          clear hg hb HST hq e2 hi him hb1
          go_upto_region 10 with (fail)
          go_region
          all_goals go_wp2_with fail
          all_goals
            go_roundw
            case rel => exact ⟨i + 1, by have := HQ.out.2; omega, by have := HQ.out.1; go_num, HN.out.1.drew', HN.out.2.drew⟩
            case measure => have := HQ.out; simp [intOf]; omega
        · obtain rfl : many = i := by omega
          rw [f23] at hg
          have HG2 := Lib.hid (And.intro hg hb)
          obtain ⟨wz, rfl⟩ : ∃ wz, wz = wr := ⟨_, rfl⟩
          have hwz : w.heap.size < wz.heap.size := hg.lt'
          have hwzs : w.heap.size ≤ wz.heap.size := by omega
          clear him hi hg hb
          go_wp2_with fail
          go_loopw [55] (fun v55 wr => ∃ (i : Nat) (ys : List Nat), i ≤ l.length ∧ v55 = .int .i64 i ∧ BlkI wr w.heap.size (nz (tab (many + 1) (f3 rk l i))) ∧ BlkI wr wz.heap.size (nz ys) ∧ PutI rk l i ys ∧ Below w.heap.size w wr) (fun v55 _ => l.length - (intOf v55).toNat)
          case atStart => exact ⟨0, _, Nat.zero_le _, rfl, HG2.out.1.alloc' _, BlkI.madeN wz l.length, PutI.start rk l, bl_alloc HG2.out.2 _⟩
          case round =>
            obtain ⟨i, ys, hi, rfl, hg, hg2, hP, hb⟩ := hrel
            by_cases hil : i < l.length
            · obtain ⟨ad, rfl, had, hcell⟩ := (hA.below hb).atN i hil
              have hi1 : (i : Int) < (l.length : Int) := by omega
              have hq := HRK.out _ (HMEM.out i hil)
              have hcall := HCALL.out _ (HMEM.out i hil) wr hb
              have HST := Lib.hid (f3_step rk l (many + 1) i hil)
              obtain ⟨hx1, hP2⟩ := hP.step hil
              have hval := hg.atN (rk (l.getD i 0)) (by rw [tab_length]; omega)
              rw [tab_get _ (by omega)] at hval
              have hfr := hg.frozen' (rk (l.getD i 0))
              have hfx : f3 rk l i (rk (l.getD i 0)) = cLt rk l (rk (l.getD i 0)) + cEq rk (l.take i) (rk (l.getD i 0)) := rfl
              rw [← hfx] at hx1 hP2
              have hfr2 := hg2.frozen' (f3 rk l i (rk (l.getD i 0)))
              have HP2 := Lib.hid hP2
              have hyl := hP.len
              clear hfx hP2 hP
              generalize l.getD i 0 = p at *
              obtain ⟨r, hr⟩ : ∃ r, r = rk p := ⟨_, rfl⟩
              rw [← hr] at hcall hq hval hfr hfr2 hx1 HST HP2
              generalize f3 rk l i r = v at *
              have v0 : 0 ≤ (v : Int) := by omega
              have v1 : (v : Int) < (l.length : Int) := by omega
              have r0 : 0 ≤ (r : Int) := by omega
              have r1 : (r : Int) < (many : Int) + 1 := by omega
              have e3 : IntKind.i64.wrap ((v : Int) + 1) = (v : Int) + 1 := Go.IntWalk.i64_in _ (by omega)
              have e4 : IntKind.i64.wrap ((i : Int) + 1) = (i : Int) + 1 := Go.IntWalk.i64_in _ (by omega)
              have hwg : w.heap.size < wr.heap.size := hg.lt'
              have hval3 := hg2.atN v (by omega)
              generalize ys.getD v 0 = y0 at *
              have hwg2 : wz.heap.size < wr.heap.size := hg2.lt'
              have hne : w.heap.size ≠ wz.heap.size := by omega
              have hval2 : (wr.setCell ⟨wz.heap.size, v, none⟩ (.int .i64 (p : Int))).cell? ⟨w.heap.size, r, none⟩ = some (.int .i64 (v : Int)) := by
                have h1 := (hg.other (p := ⟨wz.heap.size, v, none⟩) hne (.int .i64 (p : Int)))
                have h2 := h1.atN r (by rw [tab_length]; omega)
                have h3 := hg.atN r (by rw [tab_length]; omega)
                rw [hval] at h3
                rw [h2, ← h3]
              have hfr3 : (wr.setCell ⟨wz.heap.size, v, none⟩ (.int .i64 (p : Int))).frozen? ⟨w.heap.size, r, none⟩ = false := (hg.other (p := ⟨wz.heap.size, v, none⟩) hne (.int .i64 (p : Int))).frozen' r
              have HN : Hid (BlkI ((wr.setCell ⟨wz.heap.size, v, none⟩ (.int .i64 (p : Int))).setCell ⟨w.heap.size, r, none⟩ (.int .i64 ((v : Int) + 1))) w.heap.size (nz (tab (many + 1) (f3 rk l (i + 1)))) ∧ BlkI ((wr.setCell ⟨wz.heap.size, v, none⟩ (.int .i64 (p : Int))).setCell ⟨w.heap.size, r, none⟩ (.int .i64 ((v : Int) + 1))) wz.heap.size (nz (ys.set v p)) ∧ Below w.heap.size w ((wr.setCell ⟨wz.heap.size, v, none⟩ (.int .i64 (p : Int))).setCell ⟨w.heap.size, r, none⟩ (.int .i64 ((v : Int) + 1)))) := Lib.hid (by
                have h1 := (hg.other (p := ⟨wz.heap.size, v, none⟩) hne (.int .i64 (p : Int))).setN r (v + 1)
                rw [HST.out] at h1
                exact ⟨by push_cast at h1; exact h1, (hg2.setN v p).other (p := ⟨w.heap.size, r, none⟩) (fun e => hne e.symm) _, (hb.setCell hwzs _).setCell (Nat.le_refl _) _⟩)
              have hne2 : wz.heap.size ≠ w.heap.size := fun e => hne e.symm
              have hlt2 : w.heap.size < wz.heap.size := hwz
              clear hg hg2 hb hr HST hyl hx1 hq
              go_wp2_with fail
              refine hcall.mono ?_
              rintro e w1 ⟨rfl, rfl⟩
              go_wp2_with fail
              go_roundw
              case rel => exact ⟨i + 1, _, by omega, by go_num, HN.out.1, HN.out.2.1, HP2.out, HN.out.2.2⟩
              case measure => simp [intOf]; omega
            · obtain rfl : i = l.length := by omega
              have hlen := hP.len
              have HP := Lib.hid (And.intro (hP.done HRK.out) (And.intro hlen (And.intro hg2 hb)))
              clear hg hg2 hb hP hlen
              go_wp2_with fail
              go_ret
              obtain ⟨h1, h2, h3, h4⟩ := HP.out
              exact ⟨wz.heap.size, hwzs, by rw [← h1, h2]; rfl, by rw [← h1]; exact h3, h4⟩
end Go.Proofs.Ytbalodhgbpagfaa
