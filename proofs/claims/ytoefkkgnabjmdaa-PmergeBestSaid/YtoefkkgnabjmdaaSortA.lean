/- The library's stable sort of things that have a cost, as plain functions of lists: insertion, rotation, symmetric merge. · The library's stable sort of packs: insertion, by a walk. · The library's stable sort of packs: the exchange of two rows, by a walk. · The library's stable sort of packs: rotation, by a walk. · The library's stable sort of packs: merging one with a row, by a walk. · The library's stable sort of packs: merging a row with one, by a walk. -/
import Derived.Test.YtoefkkgnabjmdaaSort2
set_option linter.unusedSimpArgs false
set_option linter.unusedVariables false
set_option maxRecDepth 100000
namespace Go.Proofs.Ytoefkkgnabjmdaa

/-! PlainSort -/
section
/-- One sinks down to where it belongs. -/
def sink (a : Nat) : Nat → List Pe → List Pe
  | 0, l => l
  | j + 1, l => if a < j + 1 ∧ (gt l (j + 1)).cost < (gt l j).cost then sink a j (swp l (j + 1) j) else l
theorem sink_length (a : Nat) : ∀ (j : Nat) (l : List Pe), (sink a j l).length = l.length
  | 0, l => rfl
  | j + 1, l => by
    unfold sink
    split
    · rw [sink_length a j, swp_length]
    · rfl
def insr (a : Nat) : Nat → Nat → List Pe → List Pe
  | 0, _, l => l
  | f + 1, i, l => insr a f (i + 1) (sink a i l)
theorem insr_length (a : Nat) : ∀ (f i : Nat) (l : List Pe), (insr a f i l).length = l.length
  | 0, _, _ => rfl
  | f + 1, i, l => by unfold insr; rw [insr_length a f, sink_length]
def insertion (l : List Pe) (a b : Nat) : List Pe := insr a (b - (a + 1)) (a + 1) l
theorem insertion_length (l : List Pe) (a b : Nat) : (insertion l a b).length = l.length := insr_length _ _ _ _
/-- As many are exchanged, from a on and from b on. -/
def swr (a b : Nat) : Nat → List Pe → List Pe
  | 0, l => l
  | n + 1, l => swp (swr a b n l) (a + n) (b + n)
theorem swr_length (a b : Nat) : ∀ (n : Nat) (l : List Pe), (swr a b n l).length = l.length
  | 0, _ => rfl
  | n + 1, l => by unfold swr; rw [swp_length, swr_length a b n]
def rot (m i j : Nat) (l : List Pe) : List Pe :=
  if h : i = j ∨ i = 0 ∨ j = 0 then swr (m - i) m i l
  else if j < i then rot m (i - j) j (swr (m - i) m j l) else rot m i (j - i) (swr (m - i) (m + j - i) i l)
termination_by i + j
theorem rot_length (m : Nat) : ∀ (n i j : Nat) (l : List Pe), i + j ≤ n → (rot m i j l).length = l.length
  | n, i, j, l, hn => by
    unfold rot
    split
    · exact swr_length _ _ _ _
    · rename_i h
      split
      · match n, hn with
        | n + 1, hn => rw [rot_length m n _ _ _ (by omega), swr_length]
        | 0, hn => omega
      · match n, hn with
        | n + 1, hn => rw [rot_length m n _ _ _ (by omega), swr_length]
        | 0, hn => omega
/-- The least place from i on where something is no cheaper. -/
def bs1 (l : List Pe) (c : Int) (i j : Nat) : Nat :=
  if h : i < j then (if (gt l ((i + j) / 2)).cost < c then bs1 l c ((i + j) / 2 + 1) j else bs1 l c i ((i + j) / 2)) else i
termination_by j - i
/-- The least place from i on where something is dearer. -/
def bs2 (l : List Pe) (c : Int) (i j : Nat) : Nat :=
  if h : i < j then (if ¬ c < (gt l ((i + j) / 2)).cost then bs2 l c ((i + j) / 2 + 1) j else bs2 l c i ((i + j) / 2)) else i
termination_by j - i
def bs3 (l : List Pe) (p : Nat) (i j : Nat) : Nat :=
  if h : i < j then (if ¬ (gt l (p - (i + j) / 2)).cost < (gt l ((i + j) / 2)).cost then bs3 l p ((i + j) / 2 + 1) j else bs3 l p i ((i + j) / 2)) else i
termination_by j - i
theorem bs1_bd (l : List Pe) (c : Int) : ∀ (n i j : Nat), j - i ≤ n → i ≤ j → i ≤ bs1 l c i j ∧ bs1 l c i j ≤ j
  | n, i, j, hn, hij => by
    unfold bs1
    split
    · rename_i h
      match n, hn with
      | 0, hn => omega
      | n + 1, hn =>
        split
        · have := bs1_bd l c n ((i + j) / 2 + 1) j (by omega) (by omega); omega
        · have := bs1_bd l c n i ((i + j) / 2) (by omega) (by omega); omega
    · omega
theorem bs2_bd (l : List Pe) (c : Int) : ∀ (n i j : Nat), j - i ≤ n → i ≤ j → i ≤ bs2 l c i j ∧ bs2 l c i j ≤ j
  | n, i, j, hn, hij => by
    unfold bs2
    split
    · rename_i h
      match n, hn with
      | 0, hn => omega
      | n + 1, hn =>
        split
        · have := bs2_bd l c n ((i + j) / 2 + 1) j (by omega) (by omega); omega
        · have := bs2_bd l c n i ((i + j) / 2) (by omega) (by omega); omega
    · omega
theorem bs3_bd (l : List Pe) (p : Nat) : ∀ (n i j : Nat), j - i ≤ n → i ≤ j → i ≤ bs3 l p i j ∧ bs3 l p i j ≤ j
  | n, i, j, hn, hij => by
    unfold bs3
    split
    · rename_i h
      match n, hn with
      | 0, hn => omega
      | n + 1, hn =>
        split
        · have := bs3_bd l p n ((i + j) / 2 + 1) j (by omega) (by omega); omega
        · have := bs3_bd l p n i ((i + j) / 2) (by omega) (by omega); omega
    · omega
/-- One moves up by so many; one moves down. -/
def mvUp (a : Nat) : Nat → List Pe → List Pe
  | 0, l => l
  | n + 1, l => swp (mvUp a n l) (a + n) (a + n + 1)
theorem mvUp_length (a : Nat) : ∀ (n : Nat) (l : List Pe), (mvUp a n l).length = l.length
  | 0, _ => rfl
  | n + 1, l => by unfold mvUp; rw [swp_length, mvUp_length a n]
def mvDn (m : Nat) : Nat → List Pe → List Pe
  | 0, l => l
  | n + 1, l => swp (mvDn m n l) (m - n) (m - n - 1)
theorem mvDn_length (m : Nat) : ∀ (n : Nat) (l : List Pe), (mvDn m n l).length = l.length
  | 0, _ => rfl
  | n + 1, l => by unfold mvDn; rw [swp_length, mvDn_length m n]
/-- Where the search begins and ends, and what it gives. -/
def symFrom (a m b : Nat) : Nat := if (a + b) / 2 < m then (a + b) / 2 + m - b else a
def symTo (a m b : Nat) : Nat := if (a + b) / 2 < m then (a + b) / 2 else m
def symStart (l : List Pe) (a m b : Nat) : Nat := bs3 l ((a + b) / 2 + m - 1) (symFrom a m b) (symTo a m b)
def symEnd (l : List Pe) (a m b : Nat) : Nat := (a + b) / 2 + m - symStart l a m b
def symRot (l : List Pe) (a m b : Nat) : List Pe :=
  if symStart l a m b < m ∧ m < symEnd l a m b then rot m (m - symStart l a m b) (symEnd l a m b - m) l else l
theorem symRot_length (l : List Pe) (a m b : Nat) : (symRot l a m b).length = l.length := by
  unfold symRot
  split
  · exact rot_length _ _ _ _ _ (Nat.le_refl _)
  · rfl
def symM : Nat → List Pe → Nat → Nat → Nat → List Pe
  | 0, l, _, _, _ => l
  | f + 1, l, a, m, b =>
    if m - a = 1 then mvUp a (bs1 l (gt l a).cost m b - 1 - a) l
    else if b - m = 1 then mvDn m (m - bs2 l (gt l m).cost a m) l
    else
      let s := symStart l a m b
      let e := symEnd l a m b
      let mid := (a + b) / 2
      let l1 := symRot l a m b
      let l2 := if a < s ∧ s < mid then symM f l1 a s mid else l1
      if mid < e ∧ e < b then symM f l2 mid e b else l2
theorem symM_length : ∀ (f : Nat) (l : List Pe) (a m b : Nat), (symM f l a m b).length = l.length
  | 0, _, _, _, _ => rfl
  | f + 1, l, a, m, b => by
    unfold symM
    split
    · exact mvUp_length _ _ _
    · split
      · exact mvDn_length _ _ _
      · simp only
        have h1 := symRot_length l a m b
        have h2 : (if a < symStart l a m b ∧ symStart l a m b < (a + b) / 2 then symM f (symRot l a m b) a (symStart l a m b) ((a + b) / 2) else symRot l a m b).length = l.length := by
          split
          · rw [symM_length f, h1]
          · exact h1
        split
        · rw [symM_length f, h2]
        · exact h2
def symMerge (l : List Pe) (a m b : Nat) : List Pe := symM (b - a) l a m b
theorem symMerge_length (l : List Pe) (a m b : Nat) : (symMerge l a m b).length = l.length := symM_length _ _ _ _ _

/-- Rows of so many are put in order, from a on. -/
def rows20 (n : Nat) : Nat → Nat → List Pe → List Pe
  | 0, _, l => l
  | f + 1, a, l => if a + 20 ≤ n then rows20 n f (a + 20) (insertion l a (a + 20)) else insertion l a n
/-- Neighbours of so many are merged, from a on. -/
def mergeRow (n k : Nat) : Nat → Nat → List Pe → List Pe
  | 0, _, l => l
  | f + 1, a, l => if a + 2 * k ≤ n then mergeRow n k f (a + 2 * k) (symMerge l a (a + k) (a + 2 * k)) else if a + k < n then symMerge l a (a + k) n else l
def mergeAll (n : Nat) : Nat → Nat → List Pe → List Pe
  | 0, _, l => l
  | f + 1, k, l => if k < n then mergeAll n f (2 * k) (mergeRow n k (n + 1) 0 l) else l
/-- The library's stable sort. -/
def stableL (l : List Pe) : List Pe := mergeAll l.length (l.length + 1) 20 (rows20 l.length (l.length + 1) 0 l)
end

/-! Sort3 -/
section
open Go.RowKit

set_option maxHeartbeats 4000000 in
theorem p_insertion (base g o c n a b : Nat) (l : List Pe) (hn : n ≤ 1000000000) (hab : a ≤ b) (hb : b ≤ n) (w : World) (h : PRow w base (.slice (some ⟨g, o, none⟩) n c) l) :
    Calls Try.prog 119 #[.slice (some ⟨g, o, none⟩) n c, .int .i64 a, .int .i64 b, .func (.func 72) #[] #[]] w (Works w base g (.slice (some ⟨g, o, none⟩) n c) (insertion l a b)) := by
  have hnl := h.len_
  have HL := Lib.hid hnl
  have HI : Hid (insertion l a b = insr a (b - (a + 1)) (a + 1) l) := Lib.hid rfl
  have hcap := h.row
  clear hnl
  go_enter Try.func119, Try.ntmps119
  go_wp2_with fail
  go_loopw [8] (fun v8 wr => ∃ (i : Nat) (l1 : List Pe), a + 1 ≤ i ∧ (i ≤ b ∨ i = a + 1) ∧ v8 = .int .i64 i ∧ PRow wr base (.slice (some ⟨g, o, none⟩) n c) l1 ∧ w.grownBy wr (some g) ∧ insr a (b - i) i l1 = insertion l a b) (fun v8 _ => b - (intOf v8).toNat)
  case atStart => exact ⟨a + 1, l, Nat.le_refl _, .inr rfl, by go_num, h, grown_refl _ _, HI.out.symm⟩
  case round =>
    clear h hcap
    obtain ⟨i, l1, hi1, hi2, rfl, hrow, hgr, hins⟩ := hrel
    have HS := Lib.hid hins
    clear hins
    by_cases hib : i < b
    · have HS2 : Hid (insr a (b - (i + 1)) (i + 1) (sink a i l1) = insertion l a b) := Lib.hid (by
        rw [← HS.out, show b - i = (b - (i + 1)) + 1 by omega]; rfl)
      clear HS
      go_wp2_with fail
      go_loopw [9] (fun v9 wr => ∃ (j : Nat) (l2 : List Pe), a ≤ j ∧ j ≤ i ∧ v9 = .int .i64 j ∧ PRow wr base (.slice (some ⟨g, o, none⟩) n c) l2 ∧ w.grownBy wr (some g) ∧ sink a j l2 = sink a i l1) (fun v9 _ => (intOf v9).toNat)
      case atStart => exact ⟨i, l1, by omega, Nat.le_refl _, rfl, hrow, hgr, rfl⟩
      case round =>
        clear hrow hgr
        obtain ⟨j, l2, hj1, hj2, rfl, hrow, hgr, hsk⟩ := hrel
        have HSK := Lib.hid hsk
        clear hsk
        have hl2 := hrow.len_
        by_cases haj : a < j
        · obtain ⟨k, hk⟩ : ∃ k, j = k + 1 := ⟨j - 1, by omega⟩
          obtain ⟨c1, c2, f1, f2⟩ := hrow.at_ j (by omega)
          obtain ⟨c3, c4, f3, f4⟩ := hrow.at_ k (by omega)
          have hglt := hrow.g_lt
          have HUS : Hid (sink a j l2 = if (gt l2 j).cost < (gt l2 k).cost then sink a k (swp l2 j k) else l2) := Lib.hid (by
            subst hk
            show (if a < k + 1 ∧ _ then _ else _) = _
            simp only [show a < k + 1 from haj, true_and])
          have hsw := hrow.swap j k (by omega) (by omega)
          have e1 := gt_eq (l := l2) (i := j) (by omega)
          have e2 := gt_eq (l := l2) (i := k) (by omega)
          rw [← e1] at c1 c2
          rw [← e2] at c3 c4
          clear e1 e2
          generalize hP : gt l2 j = P at *
          generalize hQ : gt l2 k = Q at *
          have HP := Lib.hid hP
          have HQ := Lib.hid hQ
          clear hP hQ
          have hent : ∀ w, Sem.run Try.prog (callFunc 72 #[.agg #[.int .i64 P.cost, P.v], .agg #[.int .i64 Q.cost, Q.v]]) w = .ok (.enter 72 #[.agg #[.int .i64 P.cost, P.v], .agg #[.int .i64 Q.cost, Q.v]]) w := fun w => enters_cmp _ w
          have hgl := hglt.2
          have hgd : decide ((a : Int) < (j : Int)) = true := by rw [decide_eq_true_eq]; omega
          have q1 : (0 : Int) ≤ (j : Int) := by omega
          have q2 : (j : Int) < n := by omega
          have q3 : (0 : Int) ≤ k := by omega
          have q4 : (k : Int) < n := by omega
          have q5 : IntKind.i64.wrap ((j : Int) - 1) = k := by rw [show (j : Int) - 1 = k by omega]; exact Go.IntWalk.i64_in _ (by omega)
          have HK : Hid (∀ w', Below wr.heap.size wr w' → w'.cell? ⟨g, o + j * 2, none⟩ = some (.int .i64 P.cost) ∧ w'.cell? ⟨g, o + j * 2 + 1, none⟩ = some P.v ∧ w'.cell? ⟨g, o + k * 2, none⟩ = some (.int .i64 Q.cost) ∧ w'.cell? ⟨g, o + k * 2 + 1, none⟩ = some Q.v ∧ Below wr.heap.size wr w') :=
            Lib.hid fun w' h => ⟨(h.cell hgl).trans c1, (h.cell hgl).trans c2, (h.cell hgl).trans c3, (h.cell hgl).trans c4, h⟩
          have HKK := Lib.hid hk
          have HRW := Lib.hid hrow
          have HGR := Lib.hid hgr
          clear hk hl2 hrow hgr hsw hglt
          go_upto_region 4 with (fail)
          go_cut [34] (fun v34 wc => v34 = .bool (decide (cmpI P.cost Q.cost < 0)) ∧ Below wr.heap.size wr wc)
          case first =>
            go_region_held3 (fun w' => w'.cell? ⟨g, o + j * 2, none⟩ = some (.int .i64 P.cost) ∧ w'.cell? ⟨g, o + j * 2 + 1, none⟩ = some P.v ∧ w'.cell? ⟨g, o + k * 2, none⟩ = some (.int .i64 Q.cost) ∧ w'.cell? ⟨g, o + k * 2 + 1, none⟩ = some Q.v ∧ Below wr.heap.size wr w')
              (first | exact HK.out _ (by with_reducible assumption) | exact HK.out _ (Below.refl _ _).drew)
              (first | (go_at_call 72; refine (kcall (w2 := wr) ?_ (p_cmp P.cost Q.cost P.v Q.v _)).mono ?_; (first | with_reducible assumption | exact (Below.refl _ _).drew); rintro e w' ⟨rfl, hb⟩))
            all_goals
              go_wp2
              go_meet
              case rel => exact ⟨rfl, by with_reducible assumption⟩
          clear HK hent hgd c1 c2 c3 c4 f1 f2 f3 f4 hgl
          obtain ⟨rfl, hbc⟩ := hcut
          have HBC := Lib.hid hbc
          have hr3 := HRW.out.below hbc
          have hg3 := grown_below HGR.out hbc
          clear hbc HRW HGR
          rw [cmpI_lt]
          have hl3 := hr3.len_
          by_cases hPQ : P.cost < Q.cost
          · have HU2 := Lib.hid (HUS.out.trans (if_pos hPQ))
            have hd : decide (P.cost < Q.cost) = true := by simpa using hPQ
            have hk := HKK.out
            obtain ⟨c1, c2, f1, f2⟩ := hr3.at_ j (by omega)
            obtain ⟨c3, c4, f3, f4⟩ := hr3.at_ k (by omega)
            have hsw := hr3.drew.swap j k (by omega) (by omega)
            have hsw2 := hr3.drew.swap k j (by omega) (by omega)
            rw [swp_comm l2 k j, HP.out, HQ.out] at hsw2
            rw [HP.out, HQ.out] at hsw
            rw [← gt_eq (by omega), HP.out] at c1 c2
            rw [← gt_eq (by omega), HQ.out] at c3 c4
            have hg4 := put4_grown (only_drew hg3) o j k Q P
            have hg5 := put4_grown (only_drew hg3) o k j P Q
            obtain ⟨A1, m1, k1, hvP⟩ : ∃ A m k, P.v = .slice A m k := by
              have := hr3.syms (gt l2 j) (gt_mem (by omega))
              rw [HP.out] at this
              obtain ⟨A, c, h, _⟩ := this.slice
              exact ⟨A, _, c, h⟩
            obtain ⟨A2, m2, k2, hvQ⟩ : ∃ A m k, Q.v = .slice A m k := by
              have := hr3.syms (gt l2 k) (gt_mem (by omega))
              rw [HQ.out] at this
              obtain ⟨A, c, h, _⟩ := this.slice
              exact ⟨A, _, c, h⟩
            unfold put4 at hsw hsw2 hg4 hg5
            rw [hvP, hvQ] at hsw hsw2 hg4 hg5
            rw [hvP] at c2
            rw [hvQ] at c4
            have HSW := Lib.hid hsw
            have HSW2 := Lib.hid hsw2
            have HG4 := Lib.hid hg4
            have HG5 := Lib.hid hg5
            have n1 : ¬ o + j * 2 = o + k * 2 := by omega
            have n2 : ¬ o + k * 2 = o + j * 2 := by omega
            have n3 : ¬ o + j * 2 = o + k * 2 + 1 := by omega
            have n4 : ¬ o + k * 2 = o + j * 2 + 1 := by omega
            have n5 : ¬ o + j * 2 + 1 = o + k * 2 := by omega
            have n6 : ¬ o + k * 2 + 1 = o + j * 2 := by omega
            have n7 : ¬ o + j * 2 + 1 = o + k * 2 + 1 := by omega
            have n8 : ¬ o + k * 2 + 1 = o + j * 2 + 1 := by omega
            have hgl := hr3.g_lt.2
            rw [hd]
            clear hsw hsw2 hg4 hg5 hk hl3 hr3 hg3 hd hvP hvQ
            go_upto_region 6 with (fail)
            go_region
            all_goals
              go_wp2
              go_roundw
              case rel =>
                refine ⟨k, swp l2 j k, by have := HKK.out; omega, by have := HKK.out; omega, by go_num, ?_, ?_, ?_⟩
                · first | exact HSW.out | exact HSW2.out
                · first | exact HG4.out | exact HG5.out
                · rw [← HU2.out, HSK.out]
              case measure => have := HKK.out; simp [intOf]; omega
          · have HU2 := Lib.hid (HUS.out.trans (if_neg hPQ))
            have hd : decide (P.cost < Q.cost) = false := by simpa using hPQ
            rw [hd]
            clear hd hl3
            go_wp2
            go_roundw
            case rel => exact ⟨i + 1, l2, by omega, .inl (by omega), by go_num, hr3, hg3, by rw [← HS2.out, ← HSK.out, HU2.out]⟩
            case measure => simp [intOf]; omega
        · have HU2 : Hid (sink a j l2 = l2) := Lib.hid (by
            cases j with
            | zero => rfl
            | succ j => unfold sink; rw [if_neg (fun h => by omega)])
          have hd : decide ((a : Int) < (j : Int)) = false := by rw [decide_eq_false_iff_not]; omega
          have HRW := Lib.hid hrow
          have HGR := Lib.hid hgr
          clear hl2 hrow hgr
          go_upto_region 4 with (fail)
          go_quiet (fail)
          go_wp2
          go_roundw
          case rel => exact ⟨i + 1, l2, by omega, .inl (by omega), by go_num, HRW.out.drewN _, only_drewN HGR.out _, by rw [← HS2.out, ← HSK.out, HU2.out]⟩
          case measure => simp [intOf]; omega
    · have h0 : b - i = 0 := by omega
      rw [h0] at HS
      have HF : Hid (l1 = insertion l a b) := Lib.hid HS.out
      go_wp2
      go_end0
      exact ⟨rfl, by rw [← HF.out]; exact hrow, hgr⟩
end

/-! Sort4 -/
section
open Go.RowKit

set_option maxHeartbeats 4000000 in
theorem p_swapRange (base g o c n a b m : Nat) (l : List Pe) (hn : n ≤ 1000000000) (hab : a < b) (hb : b + m ≤ n) (w : World) (h : PRow w base (.slice (some ⟨g, o, none⟩) n c) l) :
    Calls Try.prog 148 #[(.slice (some ⟨g, o, none⟩) n c), .int .i64 a, .int .i64 b, .int .i64 m, (.func (.func 72) #[] #[])] w (Works w base g (.slice (some ⟨g, o, none⟩) n c) (swr a b m l)) := by
  go_enter Try.func148, Try.ntmps148
  go_wp2_with fail
  go_loopw [10] (fun v10 wr => ∃ (k : Nat) (l1 : List Pe), k ≤ m ∧ v10 = .int .i64 k ∧ PRow wr base (.slice (some ⟨g, o, none⟩) n c) l1 ∧ w.grownBy wr (some g) ∧ l1 = swr a b k l) (fun v10 _ => m - (intOf v10).toNat)
  case atStart => exact ⟨0, l, Nat.zero_le _, rfl, h, grown_refl _ _, rfl⟩
  case round =>
    clear h
    obtain ⟨k, l1, hk, rfl, hrow, hgr, hs⟩ := hrel
    have HS := Lib.hid hs
    clear hs
    by_cases hkm : k < m
    · obtain ⟨x, hx⟩ : ∃ x, x = a + k := ⟨_, rfl⟩
      obtain ⟨y, hy⟩ : ∃ y, y = b + k := ⟨_, rfl⟩
      have HN : Hid (swp l1 x y = swr a b (k + 1) l) := Lib.hid (by rw [hx, hy, HS.out]; rfl)
      have qx : IntKind.i64.wrap ((a : Int) + k) = x := by rw [show (a : Int) + k = x by omega]; exact Go.IntWalk.i64_in _ (by omega)
      have qy : IntKind.i64.wrap ((b : Int) + k) = y := by rw [show (b : Int) + k = y by omega]; exact Go.IntWalk.i64_in _ (by omega)
      have hlS := (hrow).len_
      obtain ⟨c1, c2, f1, f2⟩ := (hrow).at_ x (by omega)
      obtain ⟨c3, c4, f3, f4⟩ := (hrow).at_ y (by omega)
      have hsw := (hrow).drew.swap x y (by omega) (by omega)
      have hsw2 := (hrow).drew.swap y x (by omega) (by omega)
      have hg4 := put4_grown (only_drew hgr) o x y (gt l1 y) (gt l1 x)
      have hg5 := put4_grown (only_drew hgr) o y x (gt l1 x) (gt l1 y)
      rw [swp_comm l1 y x] at hsw2
      rw [← gt_eq (by omega)] at c1 c2 c3 c4
      obtain ⟨A1, m1, k1, hvP⟩ : ∃ A m k, (gt l1 x).v = .slice A m k := by
        obtain ⟨A, c, h, _⟩ := ((hrow).syms (gt l1 x) (gt_mem (by omega))).slice
        exact ⟨A, _, c, h⟩
      obtain ⟨A2, m2, k2, hvQ⟩ : ∃ A m k, (gt l1 y).v = .slice A m k := by
        obtain ⟨A, c, h, _⟩ := ((hrow).syms (gt l1 y) (gt_mem (by omega))).slice
        exact ⟨A, _, c, h⟩
      unfold put4 at hsw hsw2 hg4 hg5
      rw [hvP, hvQ] at hsw hsw2 hg4 hg5
      rw [hvP] at c2
      rw [hvQ] at c4
      have HSW := Lib.hid hsw
      have HSW2 := Lib.hid hsw2
      have HG4 := Lib.hid hg4
      have HG5 := Lib.hid hg5
      have n1 : ¬ o + x * 2 = o + y * 2 := by omega
      have n2 : ¬ o + y * 2 = o + x * 2 := by omega
      have n3 : ¬ o + x * 2 = o + y * 2 + 1 := by omega
      have n4 : ¬ o + y * 2 = o + x * 2 + 1 := by omega
      have n5 : ¬ o + x * 2 + 1 = o + y * 2 := by omega
      have n6 : ¬ o + y * 2 + 1 = o + x * 2 := by omega
      have n7 : ¬ o + x * 2 + 1 = o + y * 2 + 1 := by omega
      have n8 : ¬ o + y * 2 + 1 = o + x * 2 + 1 := by omega
      have hglS := (hrow).g_lt.2
      have qx1 : (0 : Int) ≤ (x : Int) := by omega
      have qx2 : (x : Int) < n := by omega
      have qy1 : (0 : Int) ≤ (y : Int) := by omega
      have qy2 : (y : Int) < n := by omega
      clear hsw hsw2 hg4 hg5 hvP hvQ hlS
      generalize (gt l1 x).cost = PC at *
      generalize (gt l1 y).cost = QC at *
      clear hx hy hrow hgr
      go_upto_region 3 with (fail)
      go_region
      all_goals
        go_wp2
        go_roundw
        case rel =>
          refine ⟨k + 1, swp l1 x y, by omega, by go_num, ?_, ?_, HN.out⟩
          · first | exact HSW.out | exact HSW2.out
          · first | exact HG4.out | exact HG5.out
        case measure => simp [intOf]; omega
    · obtain rfl : k = m := by omega
      go_wp2
      go_end0
      exact ⟨rfl, by rw [← HS.out]; exact hrow, hgr⟩
end

/-! Sort5 -/
section
open Go.RowKit

theorem rot_done (m i j : Nat) (l : List Pe) (h : i = j) : rot m i j l = swr (m - i) m i l := by unfold rot; rw [dif_pos (.inl h)]
theorem rot_gt (m i j : Nat) (l : List Pe) (h0 : 0 < j) (h : j < i) : rot m i j l = rot m (i - j) j (swr (m - i) m j l) := by rw [rot]; rw [dif_neg (by omega), if_pos h]
theorem rot_lt (m i j : Nat) (l : List Pe) (h0 : 0 < i) (h : i < j) : rot m i j l = rot m i (j - i) (swr (m - i) (m + j - i) i l) := by rw [rot]; rw [dif_neg (by omega), if_neg (by omega)]

set_option maxHeartbeats 4000000 in
theorem p_rotate (base g o c n a m b : Nat) (l : List Pe) (hn : n ≤ 1000000000) (ham : a < m) (hmb : m < b) (hb : b ≤ n) (w : World) (h : PRow w base (.slice (some ⟨g, o, none⟩) n c) l) :
    Calls Try.prog 141 #[(.slice (some ⟨g, o, none⟩) n c), .int .i64 a, .int .i64 m, .int .i64 b, (.func (.func 72) #[] #[])] w (Works w base g (.slice (some ⟨g, o, none⟩) n c) (rot m (m - a) (b - m) l)) := by
  go_enter Try.func141, Try.ntmps141
  go_wp2_with fail
  go_loopw [10, 11] (fun v10 v11 wr => ∃ (i j : Nat) (l1 : List Pe), 0 < i ∧ 0 < j ∧ i ≤ m - a ∧ j ≤ b - m ∧ v10 = .int .i64 i ∧ v11 = .int .i64 j ∧ PRow wr base (.slice (some ⟨g, o, none⟩) n c) l1 ∧ w.grownBy wr (some g) ∧ rot m i j l1 = rot m (m - a) (b - m) l) (fun v10 v11 _ => (intOf v10).toNat + (intOf v11).toNat)
  case atStart => exact ⟨m - a, b - m, l, by omega, by omega, Nat.le_refl _, Nat.le_refl _, by go_num, by go_num, h, grown_refl _ _, rfl⟩
  case round =>
    clear h
    obtain ⟨i, j, l1, hi, hj, hi2, hj2, rfl, rfl, hrow, hgr, hs⟩ := hrel
    have HS := Lib.hid hs
    clear hs
    by_cases hij : i = j
    · have HD := Lib.hid (rot_done m i j l1 hij)
      have hd : ((i : Int) != j) = false := by rw [bne_eq_false_iff_eq]; omega
      have hm : ((m - i : Nat) : Int) = (m : Int) - i := by omega
      have hq := p_swapRange base g o c n (m - i) m i l1 hn (by omega) (by omega) wr hrow
      rw [hm] at hq
      clear hij hm
      go_wp2_with fail
      refine hq.mono ?_
      rintro e w2 ⟨rfl, hr2, hg2⟩
      have HG := Lib.hid (grown_then hgr hg2)
      rw [← HD.out, HS.out] at hr2
      clear hgr hg2 hq
      go_wp2
      go_end0
      exact ⟨rfl, hr2, HG.out⟩
    · have hd : ((i : Int) != j) = true := by rw [bne_iff_ne]; omega
      by_cases hlt : j < i
      · have HD := Lib.hid (rot_gt m i j l1 hj hlt)
        have hm : ((m - i : Nat) : Int) = (m : Int) - i := by omega
        have hq := p_swapRange base g o c n (m - i) m j l1 hn (by omega) (by omega) wr hrow
        rw [hm] at hq
        clear hij hm
        go_wp2_with fail
        refine hq.mono ?_
        rintro e w2 ⟨rfl, hr2, hg2⟩
        have HG := Lib.hid (grown_then hgr hg2)
        have HR2 := Lib.hid hr2
        clear hgr hg2 hq hr2
        go_wp2
        go_roundw
        case rel => exact ⟨i - j, j, _, by omega, hj, by omega, hj2, by go_num, rfl, HR2.out, HG.out, by rw [← HD.out, HS.out]⟩
        case measure => simp [intOf]; omega
      · have HD := Lib.hid (rot_lt m i j l1 hi (by omega))
        have hm : ((m - i : Nat) : Int) = (m : Int) - i := by omega
        have hm2 : ((m + j - i : Nat) : Int) = (m : Int) + j - i := by omega
        have hq := p_swapRange base g o c n (m - i) (m + j - i) i l1 hn (by omega) (by omega) wr hrow
        rw [hm, hm2] at hq
        clear hm hm2
        go_wp2_with fail
        refine hq.mono ?_
        rintro e w2 ⟨rfl, hr2, hg2⟩
        have HG := Lib.hid (grown_then hgr hg2)
        have HR2 := Lib.hid hr2
        clear hgr hg2 hq hr2
        go_wp2
        go_roundw
        case rel => exact ⟨i, j - i, _, hi, by omega, hi2, by omega, rfl, by go_num, HR2.out, HG.out, by rw [← HD.out, HS.out]⟩
        case measure => simp [intOf]; omega
end

/-! Sort6 -/
section
open Go.RowKit

theorem bs1_step (l : List Pe) (c : Int) (i j : Nat) (h : i < j) : bs1 l c i j = if (gt l ((i + j) / 2)).cost < c then bs1 l c ((i + j) / 2 + 1) j else bs1 l c i ((i + j) / 2) := by rw [bs1]; rw [dif_pos h]
theorem bs1_end (l : List Pe) (c : Int) (i j : Nat) (h : ¬ i < j) : bs1 l c i j = i := by rw [bs1]; rw [dif_neg h]
set_option maxHeartbeats 4000000 in
theorem p_sym1 (base g o c n a m b : Nat) (l : List Pe) (hn : n ≤ 1000000000) (ham : m = a + 1) (hmb : m < b) (hb : b ≤ n) (w : World) (h : PRow w base (.slice (some ⟨g, o, none⟩) n c) l) :
    Calls Try.prog 120 #[(.slice (some ⟨g, o, none⟩) n c), .int .i64 a, .int .i64 m, .int .i64 b, (.func (.func 72) #[] #[])] w (Works w base g (.slice (some ⟨g, o, none⟩) n c) (mvUp a (bs1 l (gt l a).cost m b - 1 - a) l)) := by
  have hm1 : (m : Int) - a = 1 := by omega
  have HAM := Lib.hid ham
  clear ham
  go_enter Try.func120, Try.ntmps120
  go_wp2_with fail
  go_loopw [10, 11] (fun v10 v11 wr => ∃ i j : Nat, m ≤ i ∧ i ≤ j ∧ j ≤ b ∧ v10 = .int .i64 i ∧ v11 = .int .i64 j ∧ PRow wr base (.slice (some ⟨g, o, none⟩) n c) l ∧ w.grownBy wr (some g) ∧ bs1 l (gt l a).cost i j = bs1 l (gt l a).cost m b) (fun v10 v11 _ => (intOf v11).toNat - (intOf v10).toNat)
  case atStart => exact ⟨m, b, Nat.le_refl _, by omega, Nat.le_refl _, rfl, rfl, h, grown_refl _ _, rfl⟩
  case round =>
    clear h
    obtain ⟨i, j, hi, hij, hj, rfl, rfl, hrow, hgr, hs⟩ := hrel
    have HS := Lib.hid hs
    clear hs
    by_cases hlt : i < j
    · have HST := Lib.hid (bs1_step l (gt l a).cost i j hlt)
      obtain ⟨x, hx⟩ : ∃ x, x = (i + j) / 2 := ⟨_, rfl⟩
      rw [← hx] at HST
      have HX := Lib.hid hx
      have hx1 : i ≤ x := by omega
      have hx2 : x < j := by omega
      have HRW := Lib.hid hrow
      have HGR := Lib.hid hgr
      have hal : a < l.length := by have := hrow.len_; have := HAM.out; omega
      have hlC := (hrow).len_
      obtain ⟨c1, c2, f1, f2⟩ := (hrow).at_ x (by omega)
      obtain ⟨c3, c4, f3, f4⟩ := (hrow).at_ a (by omega)
      rw [← gt_eq (by omega)] at c1 c2 c3 c4
      have hglC := (hrow).g_lt.2
      generalize hP : gt l x = P at *
      generalize hQ : gt l a = Q at *
      have HP := Lib.hid hP
      have HQ := Lib.hid hQ
      have hent : ∀ w, Sem.run Try.prog (callFunc 72 #[.agg #[.int .i64 P.cost, P.v], .agg #[.int .i64 Q.cost, Q.v]]) w = .ok (.enter 72 #[.agg #[.int .i64 P.cost, P.v], .agg #[.int .i64 Q.cost, Q.v]]) w := fun w => enters_cmp _ w
      have qx1 : (0 : Int) ≤ (x : Int) := by omega
      have qx2 : (x : Int) < n := by omega
      have qy1 : (0 : Int) ≤ (a : Int) := by omega
      have qy2 : (a : Int) < n := by omega
      have HK : Hid (∀ w', Below wr.heap.size wr w' → w'.cell? ⟨g, o + x * 2, none⟩ = some (.int .i64 P.cost) ∧ w'.cell? ⟨g, o + x * 2 + 1, none⟩ = some P.v ∧ w'.cell? ⟨g, o + a * 2, none⟩ = some (.int .i64 Q.cost) ∧ w'.cell? ⟨g, o + a * 2 + 1, none⟩ = some Q.v ∧ Below wr.heap.size wr w') :=
        Lib.hid fun w' h => ⟨(h.cell hglC).trans c1, (h.cell hglC).trans c2, (h.cell hglC).trans c3, (h.cell hglC).trans c4, h⟩
      clear hP hQ hlC
      clear hrow hgr hal hx
      go_upto_region 4 with (fail)
      go_cut [12] (fun v12 wc => v12 = .int .i64 x ∧ wc = wr)
      case first =>
        go_wp2
        go_meet
        case rel => exact ⟨congrArg (Value.int .i64) (by have := HX.out; omega), rfl⟩
      obtain ⟨rfl, rfl⟩ := hcut
      go_upto_region 5 with (fail)
      go_cut [50] (fun vC wd => vC = .bool (decide (cmpI P.cost Q.cost < 0)) ∧ Below wc.heap.size wc wd)
      case first =>
        go_region_held3 (fun w' => w'.cell? ⟨g, o + x * 2, none⟩ = some (.int .i64 P.cost) ∧ w'.cell? ⟨g, o + x * 2 + 1, none⟩ = some P.v ∧ w'.cell? ⟨g, o + a * 2, none⟩ = some (.int .i64 Q.cost) ∧ w'.cell? ⟨g, o + a * 2 + 1, none⟩ = some Q.v ∧ Below wc.heap.size wc w')
          (first | exact HK.out _ (by with_reducible assumption) | exact HK.out _ (Below.refl _ _).drew)
          (first | (go_at_call 72; refine (kcall (w2 := wc) ?_ (p_cmp P.cost Q.cost P.v Q.v _)).mono ?_; (first | with_reducible assumption | exact (Below.refl _ _).drew); rintro e w' ⟨rfl, hb⟩))
        all_goals
          go_wp2
          go_meet
          case rel => exact ⟨rfl, by with_reducible assumption⟩
      clear HK hent c1 c2 c3 c4 f1 f2 f3 f4 hglC
      obtain ⟨rfl, hbc⟩ := hcut
      rw [cmpI_lt]
      have hr3 := HRW.out.below hbc
      have hg3 := grown_below HGR.out hbc
      by_cases hPQ : P.cost < Q.cost
      · have HN : Hid (bs1 l Q.cost (x + 1) j = bs1 l Q.cost m b) := Lib.hid (by rw [← HS.out, HST.out, if_pos hPQ])
        have hd : decide (P.cost < Q.cost) = true := by simpa using hPQ
        rw [hd]
        clear hd hPQ hbc
        go_wp2
        go_roundw
        case rel => exact ⟨x + 1, j, by omega, by omega, hj, by go_num, rfl, hr3, hg3, HN.out⟩
        case measure => simp [intOf]; omega
      · have HN : Hid (bs1 l Q.cost i x = bs1 l Q.cost m b) := Lib.hid (by rw [← HS.out, HST.out, if_neg hPQ])
        have hd : decide (P.cost < Q.cost) = false := by simpa using hPQ
        rw [hd]
        clear hd hPQ hbc
        go_wp2
        go_roundw
        case rel => exact ⟨i, x, hi, hx1, by omega, rfl, rfl, hr3, hg3, HN.out⟩
        case measure => simp [intOf]; omega
    · have HB : Hid (bs1 l (gt l a).cost m b = i) := Lib.hid (by rw [← HS.out, bs1_end _ _ _ _ hlt])
      clear HS
      have HRW := Lib.hid hrow
      have HGR := Lib.hid hgr
      have hia : a + 1 ≤ i := by have := HAM.out; omega
      have hib : i ≤ b := by omega
      clear hrow hgr
      go_wp2_with fail
      go_loopw [13] (fun v13 wr => ∃ (k : Nat) (l1 : List Pe), k ≤ i - 1 - a ∧ v13 = .int .i64 (a + k : Nat) ∧ PRow wr base (.slice (some ⟨g, o, none⟩) n c) l1 ∧ w.grownBy wr (some g) ∧ l1 = mvUp a k l) (fun v13 _ => i - (intOf v13).toNat)
      case atStart => exact ⟨0, l, Nat.zero_le _, rfl, HRW.out, HGR.out, rfl⟩
      case round =>
        clear HRW HGR
        obtain ⟨k, l1, hk, rfl, hrow, hgr, hs⟩ := hrel
        have HS := Lib.hid hs
        clear hs
        by_cases hkm : k < i - 1 - a
        · obtain ⟨x, hx⟩ : ∃ x, x = a + k := ⟨_, rfl⟩
          obtain ⟨y, hy⟩ : ∃ y, y = a + k + 1 := ⟨_, rfl⟩
          have HN : Hid (swp l1 x y = mvUp a (k + 1) l) := Lib.hid (by rw [hx, hy, HS.out]; rfl)
          have qy : IntKind.i64.wrap ((x : Int) + 1) = y := by rw [show (x : Int) + 1 = y by omega]; exact Go.IntWalk.i64_in _ (by omega)
          have qi : (x : Int) < (i : Int) - 1 := by omega
          have HYX : Hid (y = a + (k + 1)) := Lib.hid hy
          rw [← hx]
          have hlS := (hrow).len_
          obtain ⟨c1, c2, f1, f2⟩ := (hrow).at_ x (by omega)
          obtain ⟨c3, c4, f3, f4⟩ := (hrow).at_ y (by omega)
          have hsw := (hrow).drew.swap x y (by omega) (by omega)
          have hsw2 := (hrow).drew.swap y x (by omega) (by omega)
          have hg4 := put4_grown (only_drew hgr) o x y (gt l1 y) (gt l1 x)
          have hg5 := put4_grown (only_drew hgr) o y x (gt l1 x) (gt l1 y)
          rw [swp_comm l1 y x] at hsw2
          rw [← gt_eq (by omega)] at c1 c2 c3 c4
          obtain ⟨A1, m1, k1, hvP⟩ : ∃ A m k, (gt l1 x).v = .slice A m k := by
            obtain ⟨A, c, h, _⟩ := ((hrow).syms (gt l1 x) (gt_mem (by omega))).slice
            exact ⟨A, _, c, h⟩
          obtain ⟨A2, m2, k2, hvQ⟩ : ∃ A m k, (gt l1 y).v = .slice A m k := by
            obtain ⟨A, c, h, _⟩ := ((hrow).syms (gt l1 y) (gt_mem (by omega))).slice
            exact ⟨A, _, c, h⟩
          unfold put4 at hsw hsw2 hg4 hg5
          rw [hvP, hvQ] at hsw hsw2 hg4 hg5
          rw [hvP] at c2
          rw [hvQ] at c4
          have HSW := Lib.hid hsw
          have HSW2 := Lib.hid hsw2
          have HG4 := Lib.hid hg4
          have HG5 := Lib.hid hg5
          have n1 : ¬ o + x * 2 = o + y * 2 := by omega
          have n2 : ¬ o + y * 2 = o + x * 2 := by omega
          have n3 : ¬ o + x * 2 = o + y * 2 + 1 := by omega
          have n4 : ¬ o + y * 2 = o + x * 2 + 1 := by omega
          have n5 : ¬ o + x * 2 + 1 = o + y * 2 := by omega
          have n6 : ¬ o + y * 2 + 1 = o + x * 2 := by omega
          have n7 : ¬ o + x * 2 + 1 = o + y * 2 + 1 := by omega
          have n8 : ¬ o + y * 2 + 1 = o + x * 2 + 1 := by omega
          have hglS := (hrow).g_lt.2
          have qx1 : (0 : Int) ≤ (x : Int) := by omega
          have qx2 : (x : Int) < n := by omega
          have qy1 : (0 : Int) ≤ (y : Int) := by omega
          have qy2 : (y : Int) < n := by omega
          clear hsw hsw2 hg4 hg5 hvP hvQ hlS
          generalize (gt l1 x).cost = PC at *
          generalize (gt l1 y).cost = QC at *
          have HXA := Lib.hid hx
          clear hx hy hrow hgr
          go_upto_region 11 with (fail)
          go_region
          all_goals
            go_wp2
            go_roundw
            case rel =>
              refine ⟨k + 1, swp l1 x y, by omega, by rw [← HYX.out], ?_, ?_, HN.out⟩
              · first | exact HSW.out | exact HSW2.out
              · first | exact HG4.out | exact HG5.out
            case measure => have := HXA.out; have := HYX.out; simp [intOf]; omega
        · obtain rfl : k = i - 1 - a := by omega
          have HF : Hid (l1 = mvUp a (bs1 l (gt l a).cost m b - 1 - a) l) := Lib.hid (by rw [HS.out, HB.out])
          have qe : a + (i - 1 - a) = i - 1 := by omega
          have qi : ((i - 1 : Nat) : Int) = (i : Int) - 1 := by omega
          rw [qe, qi]
          clear qe qi HS
          go_wp2
          refine bodyPost_ret (results_none rfl _ _ _) rfl ?_
          exact ⟨rfl, by rw [← HF.out]; exact hrow, hgr⟩
end

/-! Sort7 -/
section
open Go.RowKit

theorem bs2_step (l : List Pe) (c : Int) (i j : Nat) (h : i < j) : bs2 l c i j = if ¬ c < (gt l ((i + j) / 2)).cost then bs2 l c ((i + j) / 2 + 1) j else bs2 l c i ((i + j) / 2) := by rw [bs2]; rw [dif_pos h]
theorem bs2_end (l : List Pe) (c : Int) (i j : Nat) (h : ¬ i < j) : bs2 l c i j = i := by rw [bs2]; rw [dif_neg h]
set_option maxHeartbeats 4000000 in
theorem p_sym2 (base g o c n a m b : Nat) (l : List Pe) (hn : n ≤ 1000000000) (ham : a + 1 < m) (hmb : b = m + 1) (hb : b ≤ n) (w : World) (h : PRow w base (.slice (some ⟨g, o, none⟩) n c) l) :
    Calls Try.prog 120 #[(.slice (some ⟨g, o, none⟩) n c), .int .i64 a, .int .i64 m, .int .i64 b, (.func (.func 72) #[] #[])] w (Works w base g (.slice (some ⟨g, o, none⟩) n c) (mvDn m (m - bs2 l (gt l m).cost a m) l)) := by
  have hm1 : ((m : Int) - a == 1) = false := by rw [beq_eq_false_iff_ne]; omega
  have hm2 : (b : Int) - m = 1 := by omega
  have HAM := Lib.hid hmb
  clear hmb
  go_enter Try.func120, Try.ntmps120
  go_wp2_with fail
  go_loopw [14, 15] (fun v10 v11 wr => ∃ i j : Nat, a ≤ i ∧ i ≤ j ∧ j ≤ m ∧ v10 = .int .i64 i ∧ v11 = .int .i64 j ∧ PRow wr base (.slice (some ⟨g, o, none⟩) n c) l ∧ w.grownBy wr (some g) ∧ bs2 l (gt l m).cost i j = bs2 l (gt l m).cost a m) (fun v10 v11 _ => (intOf v11).toNat - (intOf v10).toNat)
  case atStart => exact ⟨a, m, Nat.le_refl _, by omega, Nat.le_refl _, rfl, rfl, h, grown_refl _ _, rfl⟩
  case round =>
    clear h
    obtain ⟨i, j, hi, hij, hj, rfl, rfl, hrow, hgr, hs⟩ := hrel
    have HS := Lib.hid hs
    clear hs
    by_cases hlt : i < j
    · have HST := Lib.hid (bs2_step l (gt l m).cost i j hlt)
      obtain ⟨x, hx⟩ : ∃ x, x = (i + j) / 2 := ⟨_, rfl⟩
      rw [← hx] at HST
      have HX := Lib.hid hx
      have hx1 : i ≤ x := by omega
      have hx2 : x < j := by omega
      have HRW := Lib.hid hrow
      have HGR := Lib.hid hgr
      have hal : m < l.length := by have := hrow.len_; have := HAM.out; omega
      have hlC := (hrow).len_
      obtain ⟨c1, c2, f1, f2⟩ := (hrow).at_ m (by omega)
      obtain ⟨c3, c4, f3, f4⟩ := (hrow).at_ x (by omega)
      rw [← gt_eq (by omega)] at c1 c2 c3 c4
      have hglC := (hrow).g_lt.2
      generalize hP : gt l m = P at *
      generalize hQ : gt l x = Q at *
      have HP := Lib.hid hP
      have HQ := Lib.hid hQ
      have hent : ∀ w, Sem.run Try.prog (callFunc 72 #[.agg #[.int .i64 P.cost, P.v], .agg #[.int .i64 Q.cost, Q.v]]) w = .ok (.enter 72 #[.agg #[.int .i64 P.cost, P.v], .agg #[.int .i64 Q.cost, Q.v]]) w := fun w => enters_cmp _ w
      have qx1 : (0 : Int) ≤ (m : Int) := by omega
      have qx2 : (m : Int) < n := by omega
      have qy1 : (0 : Int) ≤ (x : Int) := by omega
      have qy2 : (x : Int) < n := by omega
      have HK : Hid (∀ w', Below wr.heap.size wr w' → w'.cell? ⟨g, o + m * 2, none⟩ = some (.int .i64 P.cost) ∧ w'.cell? ⟨g, o + m * 2 + 1, none⟩ = some P.v ∧ w'.cell? ⟨g, o + x * 2, none⟩ = some (.int .i64 Q.cost) ∧ w'.cell? ⟨g, o + x * 2 + 1, none⟩ = some Q.v ∧ Below wr.heap.size wr w') :=
        Lib.hid fun w' h => ⟨(h.cell hglC).trans c1, (h.cell hglC).trans c2, (h.cell hglC).trans c3, (h.cell hglC).trans c4, h⟩
      clear hP hQ hlC
      clear hrow hgr hal hx
      go_upto_region 16 with (fail)
      go_cut [16] (fun v12 wc => v12 = .int .i64 x ∧ wc = wr)
      case first =>
        go_wp2
        go_meet
        case rel => exact ⟨congrArg (Value.int .i64) (by have := HX.out; omega), rfl⟩
      obtain ⟨rfl, rfl⟩ := hcut
      go_upto_region 17 with (fail)
      go_cut [103] (fun vC wd => vC = .bool (!decide (cmpI P.cost Q.cost < 0)) ∧ Below wc.heap.size wc wd)
      case first =>
        go_region_held3 (fun w' => w'.cell? ⟨g, o + m * 2, none⟩ = some (.int .i64 P.cost) ∧ w'.cell? ⟨g, o + m * 2 + 1, none⟩ = some P.v ∧ w'.cell? ⟨g, o + x * 2, none⟩ = some (.int .i64 Q.cost) ∧ w'.cell? ⟨g, o + x * 2 + 1, none⟩ = some Q.v ∧ Below wc.heap.size wc w')
          (first | exact HK.out _ (by with_reducible assumption) | exact HK.out _ (Below.refl _ _).drew)
          (first | (go_at_call 72; refine (kcall (w2 := wc) ?_ (p_cmp P.cost Q.cost P.v Q.v _)).mono ?_; (first | with_reducible assumption | exact (Below.refl _ _).drew); rintro e w' ⟨rfl, hb⟩))
        all_goals
          go_wp2
          go_meet
          case rel => exact ⟨rfl, by with_reducible assumption⟩
      clear HK hent c1 c2 c3 c4 f1 f2 f3 f4 hglC
      obtain ⟨rfl, hbc⟩ := hcut
      rw [cmpI_lt]
      have hr3 := HRW.out.below hbc
      have hg3 := grown_below HGR.out hbc
      by_cases hPQ : P.cost < Q.cost
      · have HN : Hid (bs2 l P.cost i x = bs2 l P.cost a m) := Lib.hid (by rw [← HS.out, HST.out, if_neg (fun h => h hPQ)])
        have hd : decide (P.cost < Q.cost) = true := by simpa using hPQ
        rw [hd, Bool.not_true]
        clear hd hPQ hbc
        go_wp2
        go_roundw
        case rel => exact ⟨i, x, hi, hx1, by omega, rfl, rfl, hr3, hg3, HN.out⟩
        case measure => simp [intOf]; omega
      · have HN : Hid (bs2 l P.cost (x + 1) j = bs2 l P.cost a m) := Lib.hid (by rw [← HS.out, HST.out, if_pos hPQ])
        have hd : decide (P.cost < Q.cost) = false := by simpa using hPQ
        rw [hd, Bool.not_false]
        clear hd hPQ hbc
        go_wp2
        go_roundw
        case rel => exact ⟨x + 1, j, by omega, by omega, hj, by go_num, rfl, hr3, hg3, HN.out⟩
        case measure => simp [intOf]; omega
    · have HB : Hid (bs2 l (gt l m).cost a m = i) := Lib.hid (by rw [← HS.out, bs2_end _ _ _ _ hlt])
      clear HS
      have HRW := Lib.hid hrow
      have HGR := Lib.hid hgr
      have him : i ≤ m := by omega
      clear hrow hgr
      go_wp2_with fail
      go_loopw [17] (fun v13 wr => ∃ (k : Nat) (l1 : List Pe), k ≤ m - i ∧ v13 = .int .i64 (m - k : Nat) ∧ PRow wr base (.slice (some ⟨g, o, none⟩) n c) l1 ∧ w.grownBy wr (some g) ∧ l1 = mvDn m k l) (fun v13 _ => (intOf v13).toNat)
      case atStart => exact ⟨0, l, Nat.zero_le _, rfl, HRW.out, HGR.out, rfl⟩
      case round =>
        clear HRW HGR
        obtain ⟨k, l1, hk, rfl, hrow, hgr, hs⟩ := hrel
        have HS := Lib.hid hs
        clear hs
        by_cases hkm : k < m - i
        · obtain ⟨x, hx⟩ : ∃ x, x = m - k := ⟨_, rfl⟩
          obtain ⟨y, hy⟩ : ∃ y, y = m - k - 1 := ⟨_, rfl⟩
          have HN : Hid (swp l1 x y = mvDn m (k + 1) l) := Lib.hid (by rw [hx, hy, HS.out]; rfl)
          have qy : IntKind.i64.wrap ((x : Int) - 1) = y := by rw [show (x : Int) - 1 = y by omega]; exact Go.IntWalk.i64_in _ (by omega)
          have qi : (i : Int) < (x : Int) := by omega
          have HYX : Hid (y = m - (k + 1)) := Lib.hid hy
          have hbm := HAM.out
          rw [← hx]
          have hlS := (hrow).len_
          obtain ⟨c1, c2, f1, f2⟩ := (hrow).at_ x (by omega)
          obtain ⟨c3, c4, f3, f4⟩ := (hrow).at_ y (by omega)
          have hsw := (hrow).drew.swap x y (by omega) (by omega)
          have hsw2 := (hrow).drew.swap y x (by omega) (by omega)
          have hg4 := put4_grown (only_drew hgr) o x y (gt l1 y) (gt l1 x)
          have hg5 := put4_grown (only_drew hgr) o y x (gt l1 x) (gt l1 y)
          rw [swp_comm l1 y x] at hsw2
          rw [← gt_eq (by omega)] at c1 c2 c3 c4
          obtain ⟨A1, m1, k1, hvP⟩ : ∃ A m k, (gt l1 x).v = .slice A m k := by
            obtain ⟨A, c, h, _⟩ := ((hrow).syms (gt l1 x) (gt_mem (by omega))).slice
            exact ⟨A, _, c, h⟩
          obtain ⟨A2, m2, k2, hvQ⟩ : ∃ A m k, (gt l1 y).v = .slice A m k := by
            obtain ⟨A, c, h, _⟩ := ((hrow).syms (gt l1 y) (gt_mem (by omega))).slice
            exact ⟨A, _, c, h⟩
          unfold put4 at hsw hsw2 hg4 hg5
          rw [hvP, hvQ] at hsw hsw2 hg4 hg5
          rw [hvP] at c2
          rw [hvQ] at c4
          have HSW := Lib.hid hsw
          have HSW2 := Lib.hid hsw2
          have HG4 := Lib.hid hg4
          have HG5 := Lib.hid hg5
          have n1 : ¬ o + x * 2 = o + y * 2 := by omega
          have n2 : ¬ o + y * 2 = o + x * 2 := by omega
          have n3 : ¬ o + x * 2 = o + y * 2 + 1 := by omega
          have n4 : ¬ o + y * 2 = o + x * 2 + 1 := by omega
          have n5 : ¬ o + x * 2 + 1 = o + y * 2 := by omega
          have n6 : ¬ o + y * 2 + 1 = o + x * 2 := by omega
          have n7 : ¬ o + x * 2 + 1 = o + y * 2 + 1 := by omega
          have n8 : ¬ o + y * 2 + 1 = o + x * 2 + 1 := by omega
          have hglS := (hrow).g_lt.2
          have qx1 : (0 : Int) ≤ (x : Int) := by omega
          have qx2 : (x : Int) < n := by omega
          have qy1 : (0 : Int) ≤ (y : Int) := by omega
          have qy2 : (y : Int) < n := by omega
          clear hsw hsw2 hg4 hg5 hvP hvQ hlS
          generalize (gt l1 x).cost = PC at *
          generalize (gt l1 y).cost = QC at *
          have HXA := Lib.hid hx
          clear hx hy hrow hgr hbm
          go_upto_region 23 with (fail)
          go_region
          all_goals
            go_wp2
            go_roundw
            case rel =>
              refine ⟨k + 1, swp l1 x y, by omega, by rw [← HYX.out], ?_, ?_, HN.out⟩
              · first | exact HSW.out | exact HSW2.out
              · first | exact HG4.out | exact HG5.out
            case measure => have := HXA.out; have := HYX.out; simp [intOf]; omega
        · obtain rfl : k = m - i := by omega
          have HF : Hid (l1 = mvDn m (m - bs2 l (gt l m).cost a m) l) := Lib.hid (by rw [HS.out, HB.out])
          have qe : m - (m - i) = i := by omega
          rw [qe]
          clear qe HS
          go_wp2
          refine bodyPost_ret (results_none rfl _ _ _) rfl ?_
          exact ⟨rfl, by rw [← HF.out]; exact hrow, hgr⟩
end

end Go.Proofs.Ytoefkkgnabjmdaa
