/- Package near: At: by a walk. -/
import Derived.Test.YtbalodhgbpagfaaNearNew
import Derived.Deep.CutBlock
set_option linter.unusedSimpArgs false
set_option linter.unusedVariables false
set_option maxRecDepth 100000
namespace Go.Proofs.Ytbalodhgbpagfaa
open Go.RowKit Go.Maps

def AtDone (w : World) (l : List (Nat × Nat)) (e : Ending) (w' : World) : Prop := ∃ v res, e = .returned v ∧ RowM w' w.heap.size v res ∧ res.map toP = l ∧ Below w.heap.size w w'
set_option maxHeartbeats 4000000 in
theorem p_At {w : World} {fb g1 g2 g3 : Nat} {s : List UInt8} {a : List Nat} (h : FndI w fb g1 g2 g3 s a) (i W : Nat) (most : Int) (hi : i < s.length) (hW : 1 ≤ W) (hm : 2 ≤ most) (hl : s.length ≤ 100000) :
    Calls Try.prog 9 #[.pointer (some ⟨fb, 0, none⟩), .int .i64 (i : Nat), .int .i64 (W : Nat), .int .i64 most] w (AtDone w (recF (fAt (codesB s) i (min most 258).toNat) (min i W) 1 1)) := by
  have hal : a.length = s.length := by rw [h.sa.len, codesB_len]
  obtain ⟨M, hM⟩ : ∃ M : Nat, min most 258 = (M : Int) := ⟨(min most 258).toNat, by omega⟩
  have hM1 : 2 ≤ M := by omega
  have hM2 : M ≤ 258 := by omega
  have HM := Lib.hid hM
  obtain ⟨c, hc⟩ : ∃ c, c = rankOf a i := ⟨_, rfl⟩
  have hit : i < (codesB s).length := by rw [codesB_len]; exact hi
  have hcl : c < a.length := by rw [hc]; exact rank_lt h.sa hit
  have hca : a.getD c 0 = i := by
    rw [List.getD_eq_getElem?_getD, List.getElem?_eq_getElem hcl]
    simp only [hc]
    exact rank_get h.sa hit
  have z0 : w.cell? ⟨fb, 0, none⟩ = some (.string (str s)) := Blk.cell h.blk 0
  have z1 : w.cell? ⟨fb, 1, none⟩ = some (.slice (some ⟨g1, 0, none⟩) a.length a.length) := Blk.cell h.blk 1
  have z2 : w.cell? ⟨fb, 2, none⟩ = some (.slice (some ⟨g2, 0, none⟩) a.length a.length) := Blk.cell h.blk 2
  have z3 : w.cell? ⟨fb, 3, none⟩ = some (.slice (some ⟨g3, 0, none⟩) a.length a.length) := Blk.cell h.blk 3
  have y2 : w.cell? ⟨g2, i, none⟩ = some (.int .i64 (c : Int)) := by
    have := h.rks.atN i (by rw [tab_length]; omega)
    rw [tab_get _ (by omega)] at this
    rw [hc]; exact this
  have HSZ := str_size s
  have b1 : ¬ (i : Int) < 0 := by omega
  have b2 : ¬ ((str s).size : Int) ≤ (i : Int) := by omega
  have b2n : decide (s.length ≤ i) = false := decide_eq_false (by omega)
  have b3 : ¬ (W : Int) < 1 := by omega
  have b4 : ¬ most < 2 := by omega
  have b5 : (i : Int) < (a.length : Int) := by omega
  have b6 : (0 : Int) ≤ (i : Int) := by omega
  have hmm := @run_makeMap Try.prog
  have H := Lib.hid h
  have HC := Lib.hid hc
  have hfb : fb < w.heap.size := h.blk.lt
  have hg2 : g2 < w.heap.size := h.rks.lt'
  clear h hc
  go_enter Try.func9, Try.ntmps9
  have hB0 : Below w.heap.size w (w.alloc (.map #[] 0)) := (Below.refl _ w).alloc (Nat.le_refl _) _
  go_upto_block 0 with fail
  go_cut [11, 12] from 49 to 76 (fun _ _ wc => ∃ (lo nn : Nat) (b : Nat → Option Nat), lo ≤ c ∧ (lo = 0 ∨ min M (lcpT (codesB s) i (a.getD (lo - 1) 0)) < 2) ∧ DownI (codesB s) a i c M W lo b ∧ OwnB wc w.heap.size nn b ∧ nn ≤ c ∧ Below w.heap.size w wc)
  case first =>
    go_wp2_with fail
    go_loopw [11, 12] (fun v11 v12 wr => ∃ (k nn : Nat) (b : Nat → Option Nat), v12 = .int .i64 k ∧ v11 = .int .i64 (nDown (codesB s) a c M k : Nat) ∧ k ≤ c ∧ DownI (codesB s) a i c M W k b ∧ OwnB wr w.heap.size nn b ∧ nn + k ≤ c ∧ Below w.heap.size w wr) (fun _ v12 _ => (intOf v12).toNat)
    case atStart => exact ⟨c, 0, fun _ => none, rfl, by simp [nDown], Nat.le_refl _, DownI.start _ _ _ _ _ _, ⟨.map [], World.ownsMap_made w _ _ _, MapB.start⟩, by omega, hB0⟩
    case round =>
      obtain ⟨k, nn, b, rfl, rfl, hk, hD, hown, hnn, hB⟩ := hrel
      by_cases hk0 : k = 0
      · have HE := Lib.hid (show _ from (⟨k, nn, b, hk, .inl hk0, hD, hown, by omega, hB⟩ : ∃ (lo nn : Nat) (b : Nat → Option Nat), lo ≤ c ∧ (lo = 0 ∨ min M (lcpT (codesB s) i (a.getD (lo - 1) 0)) < 2) ∧ DownI (codesB s) a i c M W lo b ∧ OwnB wr w.heap.size nn b ∧ nn ≤ c ∧ Below w.heap.size w wr))
        have hkn : ¬ (0 : Int) < (k : Int) := by omega
        clear hD hown hB hk0
        go_wp2_with fail
        go_meet
        exact HE.out
      · obtain ⟨m, hm1⟩ : ∃ m, k = m + 1 := ⟨k - 1, by omega⟩
        have hkm : (k : Int) - 1 = (m : Int) := by omega
        have HM1 := Lib.hid hm1
        have hF := H.out.below hB
        have x1 : wr.cell? ⟨fb, 1, none⟩ = some (.slice (some ⟨g1, 0, none⟩) a.length a.length) := Blk.cell hF.blk 1
        have x3 : wr.cell? ⟨fb, 3, none⟩ = some (.slice (some ⟨g3, 0, none⟩) a.length a.length) := Blk.cell hF.blk 3
        have y3 := hF.shd.atN k (by rw [tab_length]; omega)
        rw [tab_get _ (by omega)] at y3
        have y1 := hF.ord.atN m (by omega)
        have hstep := nDown_step (M := M) H.out.sa hcl hk (by omega)
        have hkc : (k : Int) < (a.length : Int) := by omega
        have hmc : (m : Int) < (a.length : Int) := by omega
        have hk00 : (0 : Int) < (k : Int) := by omega
        have hk01 : (0 : Int) ≤ (k : Int) := by omega
        have hm00 : (0 : Int) ≤ (m : Int) := by omega
        obtain ⟨N, hN⟩ : ∃ N, N = nDown (codesB s) a c M k := ⟨_, rfl⟩
        obtain ⟨B, hBv⟩ : ∃ B, B = nbT (codesB s) a k := ⟨_, rfl⟩
        obtain ⟨n, hn⟩ : ∃ n, n = min N B := ⟨_, rfl⟩
        rw [← hN, ← hBv, ← hn, show k - 1 = m by omega, hca] at hstep
        rw [← hBv] at y3
        rw [← hN]
        have hmn : min (N : Int) (B : Int) = (n : Int) := by omega
        have HST := Lib.hid hstep
        obtain ⟨p, hp⟩ : ∃ p, p = a.getD m 0 := ⟨_, rfl⟩
        rw [← hp] at y1
        have HP := Lib.hid hp
        have hpl : p < s.length := by
          have := (H.out.sa.mem p).1 (by rw [hp, List.getD_eq_getElem?_getD, List.getElem?_eq_getElem (show m < a.length by omega)]; exact List.getElem_mem _)
          rwa [codesB_len] at this
        by_cases h2 : n < 2
        · have HE := Lib.hid (show _ from (⟨k, nn, b, hk, .inr (by rw [show k - 1 = m by omega, ← hstep]; exact h2), hD, hown, by omega, hB⟩ : ∃ (lo nn : Nat) (b : Nat → Option Nat), lo ≤ c ∧ (lo = 0 ∨ min M (lcpT (codesB s) i (a.getD (lo - 1) 0)) < 2) ∧ DownI (codesB s) a i c M W lo b ∧ OwnB wr w.heap.size nn b ∧ nn ≤ c ∧ Below w.heap.size w wr))
          have h2n : (n : Int) < 2 := by omega
          clear hD hown hB hk0 hF hstep hN hBv hn hp hm1
          go_wp2_with fail
          go_meet
          exact HE.out
        · have h2n : ¬ (n : Int) < 2 := by omega
          have hcon := p_meet w.heap.size nn b i p n (W : Nat) wr hown (by omega) (by omega) (by omega) (by have := Nat.min_le_left M (lcpT (codesB s) i (a.getD m 0)); omega)
          have hD2 := hD.step (n := n) (by omega) hk (by rw [show k - 1 = m by omega]; exact hstep) (by omega)
          rw [show k - 1 = m by omega, ← hp] at hD2
          have HD := Lib.hid (And.intro hD2 hB)
          have HND : Hid (n = nDown (codesB s) a c M m) := Lib.hid (by unfold nDown; rw [if_neg (by omega), hca]; exact hstep)
          clear hD hown hB hk0 hF hstep hN hBv hn hp hD2 hm1
          go_wp2_with fail
          refine hcon.mono ?_
          rintro e w2 ⟨⟨v, rfl⟩, hown2, hg2'⟩
          go_wp2
          go_roundw
          case rel => exact ⟨m, nn + 1, _, rfl, by rw [HND.out], by omega, HD.out.1, hown2, by omega, HD.out.2.grown hg2' HD.out.2.size (fun k e => by cases e; exact Nat.le_refl _)⟩
          case measure => simp [intOf]; omega
  case rest =>
    obtain ⟨lo, nn, b, hlo, hstop, hD, hown, hnn, hB⟩ := hcut
    generalize wc = w1 at *
    have HD := Lib.hid (And.intro hD (And.intro hown (And.intro hB hstop)))
    clear hD hown hB hstop
    have hc1 : ¬ ((c : Int) + 1 < 0) := by omega
    go_upto_block 2 with fail
    go_cut [11, 13] from 80 to 111 (fun _ _ wd => ∃ (hi nn : Nat) (b : Nat → Option Nat), c < hi ∧ hi ≤ a.length ∧ (hi = a.length ∨ min M (lcpT (codesB s) i (a.getD hi 0)) < 2) ∧ UpI (codesB s) a i c M W lo hi b ∧ OwnB wd w.heap.size nn b ∧ nn ≤ 1000000 ∧ Below w.heap.size w wd)
    case first =>
      go_wp2_with fail
      go_loopw [11, 13] (fun v11 v13 wr => ∃ (k nn : Nat) (b : Nat → Option Nat), v13 = .int .i64 k ∧ v11 = .int .i64 (nUp (codesB s) a c M k : Nat) ∧ c < k ∧ k ≤ a.length ∧ UpI (codesB s) a i c M W lo k b ∧ OwnB wr w.heap.size nn b ∧ nn ≤ k ∧ Below w.heap.size w wr) (fun _ v13 _ => a.length - (intOf v13).toNat)
      case atStart => exact ⟨c + 1, nn, b, by go_num, by simp [nUp], by omega, by omega, HD.out.1.up hlo, HD.out.2.1, by omega, HD.out.2.2.1⟩
      case round =>
        obtain ⟨k, nn, b, rfl, rfl, hck, hk, hD, hown, hnn, hB⟩ := hrel
        have hF := H.out.below hB
        have x1 : wr.cell? ⟨fb, 1, none⟩ = some (.slice (some ⟨g1, 0, none⟩) a.length a.length) := Blk.cell hF.blk 1
        have x3 : wr.cell? ⟨fb, 3, none⟩ = some (.slice (some ⟨g3, 0, none⟩) a.length a.length) := Blk.cell hF.blk 3
        by_cases hk0 : k = a.length
        · have HE := Lib.hid (show _ from (⟨k, nn, b, hck, hk, .inl hk0, hD, hown, by omega, hB⟩ : ∃ (hi nn : Nat) (b : Nat → Option Nat), c < hi ∧ hi ≤ a.length ∧ (hi = a.length ∨ min M (lcpT (codesB s) i (a.getD hi 0)) < 2) ∧ UpI (codesB s) a i c M W lo hi b ∧ OwnB wr w.heap.size nn b ∧ nn ≤ 1000000 ∧ Below w.heap.size w wr))
          have hkn : ¬ (k : Int) < (a.length : Int) := by omega
          have hkn2 : ¬ (k : Int) < (s.length : Int) := by omega
          have hkn3 : decide (k < s.length) = false := decide_eq_false (by omega)
          clear hD hown hB hk0 hF
          go_wp2_with fail
          go_meet
          exact HE.out
        · have hkc : (k : Int) < (a.length : Int) := by omega
          have hkc2 : (k : Int) < (s.length : Int) := by omega
          have hkc3 : decide (k < s.length) = true := decide_eq_true (by omega)
          have hk01 : (0 : Int) ≤ (k : Int) := by omega
          have y3 := hF.shd.atN k (by rw [tab_length]; omega)
          rw [tab_get _ (by omega)] at y3
          have y1 := hF.ord.atN k (by omega)
          have hstep := nUp_step (M := M) H.out.sa (c := c) hck (by omega)
          obtain ⟨N, hN⟩ : ∃ N, N = nUp (codesB s) a c M k := ⟨_, rfl⟩
          obtain ⟨B, hBv⟩ : ∃ B, B = nbT (codesB s) a k := ⟨_, rfl⟩
          obtain ⟨n, hn⟩ : ∃ n, n = min N B := ⟨_, rfl⟩
          rw [← hN, ← hBv, ← hn, hca] at hstep
          rw [← hBv] at y3
          rw [← hN]
          have hmn : min (N : Int) (B : Int) = (n : Int) := by omega
          obtain ⟨p, hp⟩ : ∃ p, p = a.getD k 0 := ⟨_, rfl⟩
          rw [← hp] at y1
          have hpl : p < s.length := by
            have := (H.out.sa.mem p).1 (by rw [hp, List.getD_eq_getElem?_getD, List.getElem?_eq_getElem (show k < a.length by omega)]; exact List.getElem_mem _)
            rwa [codesB_len] at this
          by_cases h2 : n < 2
          · have HE := Lib.hid (show _ from (⟨k, nn, b, hck, hk, .inr (by rw [← hstep]; exact h2), hD, hown, by omega, hB⟩ : ∃ (hi nn : Nat) (b : Nat → Option Nat), c < hi ∧ hi ≤ a.length ∧ (hi = a.length ∨ min M (lcpT (codesB s) i (a.getD hi 0)) < 2) ∧ UpI (codesB s) a i c M W lo hi b ∧ OwnB wr w.heap.size nn b ∧ nn ≤ 1000000 ∧ Below w.heap.size w wr))
            have h2n : (n : Int) < 2 := by omega
            clear hD hown hB hk0 hF hstep hN hBv hn hp
            go_wp2_with fail
            go_meet
            exact HE.out
          · have h2n : ¬ (n : Int) < 2 := by omega
            have hcon := p_meet w.heap.size nn b i p n (W : Nat) wr hown (by omega) (by omega) (by omega) (by have := Nat.min_le_left M (lcpT (codesB s) i (a.getD k 0)); omega)
            have hD2 := hD.step (n := n) (by omega) hck hstep (by omega)
            rw [← hp] at hD2
            have HD2 := Lib.hid (And.intro hD2 hB)
            have HND : Hid (n = nUp (codesB s) a c M (k + 1)) := Lib.hid (by unfold nUp; rw [if_neg (by omega), hca, Nat.add_sub_cancel]; exact hstep)
            clear hD hown hB hk0 hF hstep hN hBv hn hp hD2
            go_wp2_with fail
            refine hcon.mono ?_
            rintro e w2 ⟨⟨v, rfl⟩, hown2, hg2'⟩
            go_wp2
            go_roundw
            case rel => exact ⟨k + 1, nn + 1, _, by go_num, by rw [HND.out], by omega, by omega, HD2.out.1, hown2, by omega, HD2.out.2.grown hg2' HD2.out.2.size (fun k e => by cases e; exact Nat.le_refl _)⟩
            case measure => simp [intOf]; omega
    case rest =>
      obtain ⟨hi', nn', b', hch, hhl, hst2, hU, hown, hnn', hB⟩ := hcut
      generalize wc = w2 at *
      have hseen := fun d hd hdD => UpI.done H.out.sa hU hcl hca hlo hch hhl HD.out.2.2.2 hst2 d hd hdD
      have hbd : ∀ n d, b' n = some d → n ≤ 100000 ∧ d ≤ 1000000000 := fun n d e => by
        obtain ⟨_, q2, q3, _⟩ := hU.met.some n d e
        have := Nat.min_le_left M (lcpT (codesB s) i (i - d))
        unfold fAt at q3
        omega
      have hcon := p_rows w.heap.size nn' b' w2 hown hnn' hbd
      have HS := Lib.hid (And.intro hseen (And.intro hU.met hB))
      have HMM := Lib.hid (show (min most 258).toNat = M by rw [hM]; rfl)
      clear hseen hbd hU hown hst2
      go_wp2_with fail
      refine hcon.mono ?_
      rintro e w3 ⟨v, res, all, rfl, hrow, hres, hsrt, hall, hB3⟩
      go_wp2
      go_ret
      refine ⟨v, res, rfl, Row.mono hrow hB.size, ?_, bl_then HS.out.2.2 HS.out.2.2.size hB3⟩
      rw [hres, HMM.out]
      refine met_rows HS.out.2.1 HS.out.1 (all.map toP) ?_ (fun x => ?_)
      · rw [List.pairwise_map]
        exact hsrt
      · rw [List.mem_map]
        constructor
        · rintro ⟨m, hm, rfl⟩
          exact (hall m).1 hm
        · intro hx
          exact ⟨⟨x.1, x.2⟩, (hall _).2 hx, rfl⟩
def AtNone (w : World) (e : Ending) (w' : World) : Prop := e = .returned (.slice none 0 0) ∧ w' = w
theorem p_At_nil (i W most : Int) (w : World) : Calls Try.prog 9 #[.pointer none, .int .i64 i, .int .i64 W, .int .i64 most] w (AtNone w) := by
  go_enter Try.func9, Try.ntmps9
  go_wp2
  go_ret
  exact ⟨rfl, rfl⟩
set_option maxHeartbeats 2000000 in
theorem p_At_bad {w : World} {fb g1 g2 g3 : Nat} {s : List UInt8} {a : List Nat} (h : FndI w fb g1 g2 g3 s a) (i W most : Int) (hbad : i < 0 ∨ (s.length : Int) ≤ i ∨ W < 1 ∨ most < 2) :
    Calls Try.prog 9 #[.pointer (some ⟨fb, 0, none⟩), .int .i64 i, .int .i64 W, .int .i64 most] w (AtNone w) := by
  have z0 : w.cell? ⟨fb, 0, none⟩ = some (.string (str s)) := Blk.cell h.blk 0
  have HSZ := str_size s
  clear h
  by_cases c1 : i < 0
  · have b1 : decide (i < 0) = true := decide_eq_true c1
    clear hbad c1
    go_enter Try.func9, Try.ntmps9
    go_wp2
    go_ret
    exact ⟨rfl, rfl⟩
  · have b1 : decide (i < 0) = false := decide_eq_false c1
    by_cases c2 : (s.length : Int) ≤ i
    · have b2 : decide ((s.length : Int) ≤ i) = true := decide_eq_true c2
      clear hbad c1 c2
      go_enter Try.func9, Try.ntmps9
      go_wp2
      go_ret
      exact ⟨rfl, rfl⟩
    · have b2 : decide ((s.length : Int) ≤ i) = false := decide_eq_false c2
      by_cases c3 : W < 1
      · have b3 : decide (W < 1) = true := decide_eq_true c3
        clear hbad c1 c2 c3
        go_enter Try.func9, Try.ntmps9
        go_wp2
        go_ret
        exact ⟨rfl, rfl⟩
      · have b3 : decide (W < 1) = false := decide_eq_false c3
        have c4 : most < 2 := by omega
        have b4 : decide (most < 2) = true := decide_eq_true c4
        clear hbad c1 c2 c3 c4
        go_enter Try.func9, Try.ntmps9
        go_wp2
        go_ret
        exact ⟨rfl, rfl⟩
end Go.Proofs.Ytbalodhgbpagfaa
