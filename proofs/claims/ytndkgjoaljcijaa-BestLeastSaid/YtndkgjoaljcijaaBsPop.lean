/- Chapter 26 (best): pop: by a walk. (Printed by gen_bspop.py.) -/
import Derived.Test.YtndkgjoaljcijaaBsRow
import Derived.Deep.RegionHeld3
import Derived.Deep.RegionLaw
import Derived.Deep.CutBlock
import Derived.BigQuiet
import Derived.BigRegion
import Derived.Deep.QuietTactic
import Derived.Deep.DeepMust
set_option linter.unusedSimpArgs false
set_option linter.unusedVariables false
set_option maxRecDepth 100000
namespace Go.Proofs.Ytndkgjoaljcijaa
open Go.RowKit

def PopStart (w wc : World) (X : Wt) (v3 : Value) : Prop := v3 = .pointer (some ⟨w.heap.size + 1, 0, none⟩) ∧ Below w.heap.size w wc ∧ Blk wc w.heap.size 63 #[.int .i64 0, .int .i64 0, .int .i64 0, .int .i64 0, .int .i64 0, .int .i64 0, .int .i64 0, .int .i64 0] ∧ Blk wc (w.heap.size + 1) 63 (wtCells X).toArray
theorem popStart_mk (w : World) (X : Wt) : PopStart w ((w.alloc (.cells #[.int .i64 0, .int .i64 0, .int .i64 0, .int .i64 0, .int .i64 0, .int .i64 0, .int .i64 0, .int .i64 0] 63)).alloc (.cells (wtCells X).toArray 63)) X (.pointer (some ⟨w.heap.size + 1, 0, none⟩)) := by
  refine ⟨rfl, bl_alloc (bl_alloc (Below.refl _ _) _) _, (Blk.new w _ _).alloc _, ?_⟩
  have := Blk.new (w.alloc (.cells #[.int .i64 0, .int .i64 0, .int .i64 0, .int .i64 0, .int .i64 0, .int .i64 0, .int .i64 0, .int .i64 0] 63)) 63 (wtCells X).toArray
  simpa using this
/-- Behind each test of the loop: how it stands. -/
structure PopIn (w wr : World) (F base g o c m : Nat) (X : Wt) (l : List Wt) : Prop where
  row : RowW wr base (.slice (some ⟨g, o, none⟩) m c) l
  y7 : wr.cell? ⟨F, 7, none⟩ = some (.slice (some ⟨g, o, none⟩) m c)
  y8 : wr.cell? ⟨F, 8, none⟩ = some (.func (.func 17) #[] #[])
  z2 : Blk wr w.heap.size 63 #[.int .i64 0, .int .i64 0, .int .i64 0, .int .i64 0, .int .i64 0, .int .i64 0, .int .i64 0, .int .i64 0]
  z3 : Blk wr (w.heap.size + 1) 63 (wtCells X).toArray
  fr : Fr w wr F (some g)
theorem PopIn.below {w wr wc : World} {F base g o c m : Nat} {X : Wt} {l : List Wt} (h : PopIn w wr F base g o c m X l) (hF : F < w.heap.size) (hb : Below wr.heap.size wr wc) : PopIn w wc F base g o c m X l := by
  have h2 := h.z2.lt
  have h3 := h.z3.lt
  exact ⟨Row.below h.row hb, (hb.cell (p := ⟨F, 7, none⟩) (show F < _ by omega)).trans h.y7, (hb.cell (p := ⟨F, 8, none⟩) (show F < _ by omega)).trans h.y8, h.z2.below hb h2, h.z3.below hb h3, h.fr.trans (Fr.below hb (by omega) _)⟩
theorem PopIn.same {w wr wc : World} {F base g o c m : Nat} {X : Wt} {l l' : List Wt} (h : PopIn w wr F base g o c m X l) (hF : F < w.heap.size) (hg : g < w.heap.size) (hne : F ≠ g) (hw : wr.grownBy wc (some g)) (hr : RowW wc base (.slice (some ⟨g, o, none⟩) m c) l') : PopIn w wc F base g o c m X l' := by
  have h2 := h.z2.lt
  have h3 := h.z3.lt
  have hnF : some g ≠ some F := fun q => hne (by injection q with q; exact q.symm)
  refine ⟨hr, (World.cell?_of_block (hw.block F (by omega) (fun q => hnF q.symm))).trans h.y7, (World.cell?_of_block (hw.block F (by omega) (fun q => hnF q.symm))).trans h.y8, ?_, ?_, h.fr.trans (Fr.grown hw (by omega) hnF)⟩
  · exact (hw.block _ h2 (fun q => by injection q with q; omega)).trans h.z2
  · exact (hw.block _ h3 (fun q => by injection q with q; omega)).trans h.z3
/-- What is told, and what is left, at the end. -/
theorem PopIn.done {w wr wc : World} {F base g o c m k : Nat} {X : Wt} {l L : List Wt} (h : PopIn w wr F base g o c m X l) (hF : F < w.heap.size) (hg : g < w.heap.size) (hl : l = popW L) (hw : ∀ j, j ≠ w.heap.size → wc.heap[j]? = wr.heap[j]?) (hs : wc.heap.size = wr.heap.size) (ho : wc.os = wr.os) (ht : wc.tape = wr.tape) (hp : wc.output = wr.output) :
    Push_ w wc F base (.slice (some ⟨g, o, none⟩) k c) (popW L) := by
  subst hl
  have e : ∀ j, j < w.heap.size → wc.heap[j]? = wr.heap[j]? := fun j hj => hw j (by omega)
  refine ⟨⟨_, (World.cell?_of_block (e F hF)).trans h.y7, Row.same h.row (fun j hj => ?_), .inl rfl⟩, ⟨fun i hi => (World.cell?_of_block (e F hF)).trans (h.fr.cells i hi), fun i => (frozen_of (e F hF)).trans (h.fr.frozen i), ho.trans h.fr.os, ht.trans h.fr.tape, hp.trans h.fr.output, by rw [hs]; exact h.fr.size, fun j hj hjF hjv => (e j hj).trans (h.fr.block j hj hjF hjv)⟩⟩
  have : j = g := by injection hj with hj; exact hj.symm
  exact e j (by omega)
theorem PopIn.done8 {w wr : World} {F base g o c m k : Nat} {X : Wt} {l L : List Wt} (h : PopIn w wr F base g o c m X l) (hF : F < w.heap.size) (hg : g < w.heap.size) (hl : l = popW L) : Push_ w (st8 wr w.heap.size X) F base (.slice (some ⟨g, o, none⟩) k c) (popW L) :=
  PopIn.done h hF hg hl (fun j hj => st8_other wr w.heap.size X j hj) (st8_size wr w.heap.size X) (st8_grown wr w.heap.size X).os (st8_grown wr w.heap.size X).tape (st8_grown wr w.heap.size X).output
set_option maxHeartbeats 4000000 in
theorem p_pop {w : World} {F base : Nat} {v : Value} {L : List Wt} (hrow : RowW w base v L) (hF : F < w.heap.size) (hfr : w.frozen? ⟨F, 7, none⟩ = false) (h7 : w.cell? ⟨F, 7, none⟩ = some v) (h8 : w.cell? ⟨F, 8, none⟩ = some (.func (.func 17) #[] #[]))
    (hne : v.ownBlock ≠ some F) (hlen : L.length ≤ 200000000000) (h0 : 0 < L.length) :
    Calls Try.prog 21 #[.pointer (some ⟨F, 7, none⟩)] w fun e w' => e = .returned (wtV (gw L 0)) ∧ Push_ w w' F base v (popW L) := by
  obtain ⟨m, hm⟩ : ∃ m, L.length = m + 1 := ⟨L.length - 1, by omega⟩
  obtain ⟨g, o, c, rfl, hgb, hgs, hle⟩ := RowW.form hrow h0
  have hgF : F ≠ g := fun q => hne (by rw [q]; rfl)
  obtain ⟨x0, x1, x2, x3, x4, x5, x6, x7⟩ := RowW.eight hrow 0 h0
  have hmm : m ≤ 200000000000 := by omega
  have HM := Lib.hid hm
  rw [hm] at h7 hrow hne hle ⊢
  clear hm
  simp only [Nat.zero_mul, Nat.add_zero] at x0 x1 x2 x3 x4 x5 x6 x7
  generalize hX : gw L 0 = X at *
  have HX := Lib.hid hX
  clear hX
  generalize hY : gw L m = Y at *
  have HY := Lib.hid hY
  clear hY
  have HROW := Lib.hid hrow
  clear hlen h0 hrow hne
  go_enter Try.func21, Try.ntmps21
  go_upto_region 1 with (fail)
  go_cut [3, 7, 8, 9, 10, 11, 12] (fun v3 _ _ _ _ _ _ wc => PopStart w wc X v3)
  case first =>
    go_wp2
    go_meet
    case rel => exact popStart_mk w X
  case rest =>
    obtain ⟨rfl, hb1, z2, z3⟩ := hcut
    generalize wc = w1 at *
    have hr1 := Row.below HROW.out hb1
    have hF1 : F < w1.heap.size := by have := hb1.size; omega
    have y7 := (hb1.cell (p := ⟨F, 7, none⟩) hF).trans h7
    have y8 := (hb1.cell (p := ⟨F, 8, none⟩) hF).trans h8
    have yf := (hb1.frozen (p := ⟨F, 7, none⟩) hF).trans hfr
    have hlm : m < L.length := by have := HM.out; omega
    have hl0 : 0 < L.length := by have := HM.out; omega
    obtain ⟨a0, a1, a2, a3, a4, a5, a6, a7⟩ := RowW.eight hr1 m hlm
    obtain ⟨b0, b1, b2, b3, b4, b5, b6, b7⟩ := RowW.eight hr1 0 hl0
    obtain ⟨f0, f1, f2, f3, f4, f5, f6, f7⟩ := RowW.thawed hr1 0 hl0
    rw [HY.out] at a0 a1 a2 a3 a4 a5 a6 a7
    rw [HX.out] at b0 b1 b2 b3 b4 b5 b6 b7
    simp only [Nat.zero_mul, Nat.add_zero] at b0 b1 b2 b3 b4 b5 b6 b7 f0 f1 f2 f3 f4 f5 f6 f7
    have hn1 : (m : Int) < (m : Int) + 1 := by omega
    have hn2 : (0 : Int) < (m : Int) + 1 := by omega
    have hn3 : (0 : Int) ≤ (m : Int) := by omega
    clear x0 x1 x2 x3 x4 x5 x6 x7 h7 h8 hfr
    have HB1 := Lib.hid hb1
    clear hb1 hlm hl0
    have HZ := Lib.hid (And.intro z2 z3)
    have HR1 := Lib.hid hr1
    clear z2 z3 hr1
    go_upto_region 3 with (fail)
    go_cut [30] (fun _ wc => wc = ex1 w1 g o Y)
    case first =>
      go_region
      all_goals
        go_wp2
        go_meet
        case rel => rfl
    case rest =>
      subst hcut
      have hg2 := ex1_grown (grown_refl_wt w1 (some g)) o Y
      have hr2 := ex1_row HR1.out (by have := HM.out; omega) Y
      obtain ⟨z2, z3⟩ := HZ.out
      clear a0 a1 a2 a3 a4 a5 a6 a7 b0 b1 b2 b3 b4 b5 b6 b7 f0 f1 f2 f3 f4 f5 f6 f7
      generalize ex1 w1 g o Y = w2 at *
      have hnF : some g ≠ some F := fun q => hgF (by injection q with q; exact q.symm)
      have u7 := (World.cell?_of_block (hg2.block F hF1 (fun q => hnF q.symm))).trans y7
      have u8 := (World.cell?_of_block (hg2.block F hF1 (fun q => hnF q.symm))).trans y8
      have uf := (frozen_of (i := 7) (hg2.block F hF1 (fun q => hnF q.symm))).trans yf
      have hz2 : Blk w2 w.heap.size 63 _ := (hg2.block _ z2.lt (fun q => by injection q with q; omega)).trans z2
      have hz3 : Blk w2 (w.heap.size + 1) 63 _ := (hg2.block _ z3.lt (fun q => by injection q with q; omega)).trans z3
      have HI : Hid (PopIn w (w2.setCell ⟨F, 7, none⟩ (.slice (some ⟨g, o, none⟩) m c)) F base g o c m X ((L.set 0 Y).take m)) := Lib.hid (by
        refine ⟨Row.setCell (RowW.take hr2 m (by rw [List.length_set]; have := HM.out; omega)) _ hnF, World.cell?_setCell_same w2 _ _ u7, (World.cell?_setCell_other w2 _ _ _ (by simp)).trans u8, ?_, ?_, ?_⟩
        · exact (Below.heap_setCell w2 ⟨F, 7, none⟩ _ _ (by show _ ≠ F; omega)).trans hz2
        · exact (Below.heap_setCell w2 ⟨F, 7, none⟩ _ _ (by show _ ≠ F; omega)).trans hz3
        · exact ((Fr.below HB1.out hF _).trans (Fr.grown hg2 hF1 hnF)).trans (Fr.store _ _ _ _))
      clear hg2 hr2 z2 z3 hz2 hz3 y7 y8 yf u8
      have hnm : (m : Int) ≤ (m : Int) + 1 := by omega
      go_wp2_with fail
      go_loopw [5] (fun v5 wr => ∃ (i k : Nat) (l : List Wt), v5 = .int .i64 i ∧ i ≤ m ∧ m < i + k ∧ siftDown k l i = popW L ∧ l.length = m ∧ PopIn w wr F base g o c m X l) (fun v5 _ => m - (intOf v5).toNat)
      case atStart =>
        refine ⟨0, L.length, (L.set 0 Y).take m, rfl, Nat.zero_le _, by have := HM.out; omega, ?_, by rw [List.length_take, List.length_set]; have := HM.out; omega, HI.out⟩
        rw [← HY.out, popW, HM.out]; rfl
      case round =>
        obtain ⟨i, k, l, rfl, hi, hk, hsi, hl, hin⟩ := hrel
        have HS := Lib.hid (And.intro hsi (And.intro hl hin))
        clear hsi hl hin
        have hmi : (m : Int) - i ≤ m := by omega
        obtain ⟨q, hq⟩ : ∃ q, q = 2 * i + 1 := ⟨_, rfl⟩
        have hqi : i < q := by omega
        have hq1 : (q : Int) = 2 * (i : Int) + 1 := by omega
        have HQ := Lib.hid hq
        have HQ1 := Lib.hid hq1
        have hqb : q ≤ 400000000001 := by omega
        clear hq hq1
        go_upto_region 6 with (fail)
        go_cut [40, 41, 42, 6] (fun _ _ _ v6 wc => v6 = .int .i64 q ∧ wc = wr)
        case first =>
          go_wp2
          go_meet
          case rel => exact ⟨by rw [HQ1.out], rfl⟩
        obtain ⟨rfl, rfl⟩ := hcut
        generalize wc = wr at *
        obtain ⟨r, hr⟩ : ∃ r, r = q + 1 := ⟨_, rfl⟩
        have g1 : IntKind.i64.wrap ((q : Int) + 1) = (r : Int) := by rw [show (q : Int) + 1 = r by omega]; exact Go.IntWalk.i64_in _ (by omega)
        have HR := Lib.hid hr
        have hrq : q < r := by omega
        clear hr
        go_upto_region 7 with (fail)
        go_cut [68] (fun v68 wc => v68 = .bool (decide (r < m ∧ lessW (gw l r) (gw l q))) ∧ Below wr.heap.size wr wc)
        case first =>
          by_cases hC : r < m
          · have hin := HS.out.2.2
            have hl := HS.out.2.1
            have hgs2 : g < wr.heap.size := by have := hin.fr.size; omega
            have hF2 : F < wr.heap.size := by have := hin.fr.size; omega
            have y7 := hin.y7
            have y8 := hin.y8
            obtain ⟨a0, a1, a2, a3, a4, a5, a6, a7⟩ := RowW.eight hin.row r (by rw [hl]; exact hC)
            obtain ⟨b0, b1, b2, b3, b4, b5, b6, b7⟩ := RowW.eight hin.row q (by rw [hl]; omega)
            have HDD : Hid (decide (lessW (gw l r) (gw l q)) = decide (r < m ∧ lessW (gw l r) (gw l q))) := Lib.hid (by simp [hC])
            generalize decide (r < m ∧ lessW (gw l r) (gw l q)) = BB at *
            generalize gw l r = X1 at *
            generalize gw l q = X2 at *
            have e1 : decide ((r : Int) < (m : Int)) = true := by simpa using hC
            have e2 : decide (r < m) = true := by simpa using hC
            have e3 : (r : Int) < m := by omega
            have e4 : (q : Int) < m := by omega
            have e5 : (0 : Int) ≤ r := by omega
            have e6 : (0 : Int) ≤ q := by omega
            clear hin hl hC
            have hent : ∀ w, Sem.run Try.prog (callFunc 17 #[wtV X1, wtV X2]) w = .ok (.enter 17 #[wtV X1, wtV X2]) w := fun w => enters_less _ w
            unfold wtV at hent
            have HK : Hid (∀ w', Below wr.heap.size wr w' → w'.cell? ⟨F, 7, none⟩ = some (.slice (some ⟨g, o, none⟩) m c) ∧ w'.cell? ⟨F, 8, none⟩ = some (.func (.func 17) #[] #[]) ∧ w'.cell? ⟨g, o + r * 8, none⟩ = some (.int .i64 X1.s.at_) ∧ w'.cell? ⟨g, o + r * 8 + 1, none⟩ = some (.int .i64 X1.s.r.a) ∧ w'.cell? ⟨g, o + r * 8 + 2, none⟩ = some (.int .i64 X1.s.r.b) ∧ w'.cell? ⟨g, o + r * 8 + 3, none⟩ = some (.int .i64 X1.s.r.c) ∧ w'.cell? ⟨g, o + r * 8 + 4, none⟩ = some (.int .i64 X1.s.r.d) ∧ w'.cell? ⟨g, o + r * 8 + 5, none⟩ = some (.int .i64 X1.cost) ∧ w'.cell? ⟨g, o + r * 8 + 6, none⟩ = some (.int .i64 X1.all) ∧ w'.cell? ⟨g, o + r * 8 + 7, none⟩ = some (.int .i64 X1.came) ∧ w'.cell? ⟨g, o + q * 8, none⟩ = some (.int .i64 X2.s.at_) ∧ w'.cell? ⟨g, o + q * 8 + 1, none⟩ = some (.int .i64 X2.s.r.a) ∧ w'.cell? ⟨g, o + q * 8 + 2, none⟩ = some (.int .i64 X2.s.r.b) ∧ w'.cell? ⟨g, o + q * 8 + 3, none⟩ = some (.int .i64 X2.s.r.c) ∧ w'.cell? ⟨g, o + q * 8 + 4, none⟩ = some (.int .i64 X2.s.r.d) ∧ w'.cell? ⟨g, o + q * 8 + 5, none⟩ = some (.int .i64 X2.cost) ∧ w'.cell? ⟨g, o + q * 8 + 6, none⟩ = some (.int .i64 X2.all) ∧ w'.cell? ⟨g, o + q * 8 + 7, none⟩ = some (.int .i64 X2.came) ∧ Below wr.heap.size wr w') := Lib.hid fun w' h => ⟨(h.cell (p := ⟨F, 7, none⟩) hF2).trans y7, (h.cell (p := ⟨F, 8, none⟩) hF2).trans y8, (h.cell (p := ⟨g, o + r * 8, none⟩) hgs2).trans a0, (h.cell (p := ⟨g, o + r * 8 + 1, none⟩) hgs2).trans a1, (h.cell (p := ⟨g, o + r * 8 + 2, none⟩) hgs2).trans a2, (h.cell (p := ⟨g, o + r * 8 + 3, none⟩) hgs2).trans a3, (h.cell (p := ⟨g, o + r * 8 + 4, none⟩) hgs2).trans a4, (h.cell (p := ⟨g, o + r * 8 + 5, none⟩) hgs2).trans a5, (h.cell (p := ⟨g, o + r * 8 + 6, none⟩) hgs2).trans a6, (h.cell (p := ⟨g, o + r * 8 + 7, none⟩) hgs2).trans a7, (h.cell (p := ⟨g, o + q * 8, none⟩) hgs2).trans b0, (h.cell (p := ⟨g, o + q * 8 + 1, none⟩) hgs2).trans b1, (h.cell (p := ⟨g, o + q * 8 + 2, none⟩) hgs2).trans b2, (h.cell (p := ⟨g, o + q * 8 + 3, none⟩) hgs2).trans b3, (h.cell (p := ⟨g, o + q * 8 + 4, none⟩) hgs2).trans b4, (h.cell (p := ⟨g, o + q * 8 + 5, none⟩) hgs2).trans b5, (h.cell (p := ⟨g, o + q * 8 + 6, none⟩) hgs2).trans b6, (h.cell (p := ⟨g, o + q * 8 + 7, none⟩) hgs2).trans b7, h⟩
            go_region_held3 (fun w' => w'.cell? ⟨F, 7, none⟩ = some (.slice (some ⟨g, o, none⟩) m c) ∧ w'.cell? ⟨F, 8, none⟩ = some (.func (.func 17) #[] #[]) ∧ w'.cell? ⟨g, o + r * 8, none⟩ = some (.int .i64 X1.s.at_) ∧ w'.cell? ⟨g, o + r * 8 + 1, none⟩ = some (.int .i64 X1.s.r.a) ∧ w'.cell? ⟨g, o + r * 8 + 2, none⟩ = some (.int .i64 X1.s.r.b) ∧ w'.cell? ⟨g, o + r * 8 + 3, none⟩ = some (.int .i64 X1.s.r.c) ∧ w'.cell? ⟨g, o + r * 8 + 4, none⟩ = some (.int .i64 X1.s.r.d) ∧ w'.cell? ⟨g, o + r * 8 + 5, none⟩ = some (.int .i64 X1.cost) ∧ w'.cell? ⟨g, o + r * 8 + 6, none⟩ = some (.int .i64 X1.all) ∧ w'.cell? ⟨g, o + r * 8 + 7, none⟩ = some (.int .i64 X1.came) ∧ w'.cell? ⟨g, o + q * 8, none⟩ = some (.int .i64 X2.s.at_) ∧ w'.cell? ⟨g, o + q * 8 + 1, none⟩ = some (.int .i64 X2.s.r.a) ∧ w'.cell? ⟨g, o + q * 8 + 2, none⟩ = some (.int .i64 X2.s.r.b) ∧ w'.cell? ⟨g, o + q * 8 + 3, none⟩ = some (.int .i64 X2.s.r.c) ∧ w'.cell? ⟨g, o + q * 8 + 4, none⟩ = some (.int .i64 X2.s.r.d) ∧ w'.cell? ⟨g, o + q * 8 + 5, none⟩ = some (.int .i64 X2.cost) ∧ w'.cell? ⟨g, o + q * 8 + 6, none⟩ = some (.int .i64 X2.all) ∧ w'.cell? ⟨g, o + q * 8 + 7, none⟩ = some (.int .i64 X2.came) ∧ Below wr.heap.size wr w')
              (first | exact HK.out _ (by with_reducible assumption) | exact HK.out _ (Below.refl _ _).drew)
              (first | (go_at_call 17; refine (kcall (w2 := wr) ?_ (p_less X1 X2 _)).mono ?_; (first | with_reducible assumption | exact (Below.refl _ _).drew); rintro e w' ⟨rfl, hb⟩))
            all_goals
              go_wp2
              go_meet
              case rel => exact ⟨by rw [HDD.out], by with_reducible assumption⟩
          · have HDD : Hid (decide (r < m ∧ lessW (gw l r) (gw l q)) = false) := Lib.hid (by simp [hC])
            have e1 : decide ((r : Int) < (m : Int)) = false := by simpa using hC
            have e2 : decide (r < m) = false := by simpa using hC
            generalize decide (r < m ∧ lessW (gw l r) (gw l q)) = BB at *
            clear hC
            go_quiet (fail)
            all_goals
              go_wp2
              go_meet
              case rel => exact ⟨by rw [HDD.out], below_drewN (Below.refl _ _) _⟩
        obtain ⟨rfl, hbc⟩ := hcut
        have hin := PopIn.below HS.out.2.2 hF hbc
        obtain ⟨hsi, hl, -⟩ := HS.out
        generalize wc = wr at *
        have HS := Lib.hid (And.intro hsi (And.intro hl hin))
        clear hsi hl hin hbc
        obtain ⟨K, hK⟩ : ∃ K, K = kidW l i := ⟨_, rfl⟩
        have hKi : i < K := by have := kidW_gt l i; omega
        have HK0 : Hid (K = if r < m ∧ lessW (gw l r) (gw l q) then r else q) := Lib.hid (by
          rw [hK, HR.out, HQ.out, ← HS.out.2.1]; rfl)
        have hKb : K ≤ 400000000003 := by
          have h1 := HK0.out
          have h2 := HR.out
          split at h1 <;> omega
        have HKK := Lib.hid hK
        clear hK g1
        go_upto_if 68 with (fail)
        go_cut [6, 69, 70] (fun v6 _ _ wc => v6 = .int .i64 K ∧ wc = wr)
        case first =>
          by_cases hC : r < m ∧ lessW (gw l r) (gw l q)
          · have HK1 := Lib.hid (HK0.out.trans (if_pos hC))
            have e1 : decide (r < m ∧ lessW (gw l r) (gw l q)) = true := by simpa using hC
            rw [e1]
            clear hC e1
            go_wp2
            go_meet
            case rel => exact ⟨by rw [HK1.out, HR.out]; simp, rfl⟩
          · have HK1 := Lib.hid (HK0.out.trans (if_neg hC))
            have e1 : decide (r < m ∧ lessW (gw l r) (gw l q)) = false := by simpa using hC
            rw [e1]
            clear hC e1
            go_wp2
            go_meet
            case rel => exact ⟨by rw [HK1.out], rfl⟩
        obtain ⟨rfl, rfl⟩ := hcut
        generalize wc = wr at *
        clear hqi hqb hrq HK0 HQ HQ1 HR
        go_upto_region 9 with (fail)
        go_cut [95] (fun v95 wc => v95 = .bool (decide (m ≤ K ∨ ¬ lessW (gw l K) (gw l i))) ∧ Below wr.heap.size wr wc)
        case first =>
          by_cases hC : K < m
          · have hin := HS.out.2.2
            have hl := HS.out.2.1
            have hgs2 : g < wr.heap.size := by have := hin.fr.size; omega
            have hF2 : F < wr.heap.size := by have := hin.fr.size; omega
            have y7 := hin.y7
            have y8 := hin.y8
            obtain ⟨a0, a1, a2, a3, a4, a5, a6, a7⟩ := RowW.eight hin.row K (by rw [hl]; exact hC)
            obtain ⟨b0, b1, b2, b3, b4, b5, b6, b7⟩ := RowW.eight hin.row i (by rw [hl]; omega)
            have HDD : Hid ((!decide (lessW (gw l K) (gw l i))) = decide (m ≤ K ∨ ¬ lessW (gw l K) (gw l i))) := Lib.hid (by
              by_cases hh : lessW (gw l K) (gw l i) <;> simp [hh]; omega)
            generalize decide (m ≤ K ∨ ¬ lessW (gw l K) (gw l i)) = BB at *
            generalize gw l K = X1 at *
            generalize gw l i = X2 at *
            have e1 : decide ((K : Int) ≥ (m : Int)) = false := by simpa using hC
            have e2 : decide (m ≤ K) = false := by simpa using hC
            have e7 : decide ((m : Int) ≤ (K : Int)) = false := by simpa using hC
            have e3 : (K : Int) < m := by omega
            have e4 : (i : Int) < m := by omega
            have e5 : (0 : Int) ≤ K := by omega
            have e6 : (0 : Int) ≤ i := by omega
            clear hin hl hC
            have hent : ∀ w, Sem.run Try.prog (callFunc 17 #[wtV X1, wtV X2]) w = .ok (.enter 17 #[wtV X1, wtV X2]) w := fun w => enters_less _ w
            unfold wtV at hent
            have HK : Hid (∀ w', Below wr.heap.size wr w' → w'.cell? ⟨F, 7, none⟩ = some (.slice (some ⟨g, o, none⟩) m c) ∧ w'.cell? ⟨F, 8, none⟩ = some (.func (.func 17) #[] #[]) ∧ w'.cell? ⟨g, o + K * 8, none⟩ = some (.int .i64 X1.s.at_) ∧ w'.cell? ⟨g, o + K * 8 + 1, none⟩ = some (.int .i64 X1.s.r.a) ∧ w'.cell? ⟨g, o + K * 8 + 2, none⟩ = some (.int .i64 X1.s.r.b) ∧ w'.cell? ⟨g, o + K * 8 + 3, none⟩ = some (.int .i64 X1.s.r.c) ∧ w'.cell? ⟨g, o + K * 8 + 4, none⟩ = some (.int .i64 X1.s.r.d) ∧ w'.cell? ⟨g, o + K * 8 + 5, none⟩ = some (.int .i64 X1.cost) ∧ w'.cell? ⟨g, o + K * 8 + 6, none⟩ = some (.int .i64 X1.all) ∧ w'.cell? ⟨g, o + K * 8 + 7, none⟩ = some (.int .i64 X1.came) ∧ w'.cell? ⟨g, o + i * 8, none⟩ = some (.int .i64 X2.s.at_) ∧ w'.cell? ⟨g, o + i * 8 + 1, none⟩ = some (.int .i64 X2.s.r.a) ∧ w'.cell? ⟨g, o + i * 8 + 2, none⟩ = some (.int .i64 X2.s.r.b) ∧ w'.cell? ⟨g, o + i * 8 + 3, none⟩ = some (.int .i64 X2.s.r.c) ∧ w'.cell? ⟨g, o + i * 8 + 4, none⟩ = some (.int .i64 X2.s.r.d) ∧ w'.cell? ⟨g, o + i * 8 + 5, none⟩ = some (.int .i64 X2.cost) ∧ w'.cell? ⟨g, o + i * 8 + 6, none⟩ = some (.int .i64 X2.all) ∧ w'.cell? ⟨g, o + i * 8 + 7, none⟩ = some (.int .i64 X2.came) ∧ Below wr.heap.size wr w') := Lib.hid fun w' h => ⟨(h.cell (p := ⟨F, 7, none⟩) hF2).trans y7, (h.cell (p := ⟨F, 8, none⟩) hF2).trans y8, (h.cell (p := ⟨g, o + K * 8, none⟩) hgs2).trans a0, (h.cell (p := ⟨g, o + K * 8 + 1, none⟩) hgs2).trans a1, (h.cell (p := ⟨g, o + K * 8 + 2, none⟩) hgs2).trans a2, (h.cell (p := ⟨g, o + K * 8 + 3, none⟩) hgs2).trans a3, (h.cell (p := ⟨g, o + K * 8 + 4, none⟩) hgs2).trans a4, (h.cell (p := ⟨g, o + K * 8 + 5, none⟩) hgs2).trans a5, (h.cell (p := ⟨g, o + K * 8 + 6, none⟩) hgs2).trans a6, (h.cell (p := ⟨g, o + K * 8 + 7, none⟩) hgs2).trans a7, (h.cell (p := ⟨g, o + i * 8, none⟩) hgs2).trans b0, (h.cell (p := ⟨g, o + i * 8 + 1, none⟩) hgs2).trans b1, (h.cell (p := ⟨g, o + i * 8 + 2, none⟩) hgs2).trans b2, (h.cell (p := ⟨g, o + i * 8 + 3, none⟩) hgs2).trans b3, (h.cell (p := ⟨g, o + i * 8 + 4, none⟩) hgs2).trans b4, (h.cell (p := ⟨g, o + i * 8 + 5, none⟩) hgs2).trans b5, (h.cell (p := ⟨g, o + i * 8 + 6, none⟩) hgs2).trans b6, (h.cell (p := ⟨g, o + i * 8 + 7, none⟩) hgs2).trans b7, h⟩
            go_region_held3 (fun w' => w'.cell? ⟨F, 7, none⟩ = some (.slice (some ⟨g, o, none⟩) m c) ∧ w'.cell? ⟨F, 8, none⟩ = some (.func (.func 17) #[] #[]) ∧ w'.cell? ⟨g, o + K * 8, none⟩ = some (.int .i64 X1.s.at_) ∧ w'.cell? ⟨g, o + K * 8 + 1, none⟩ = some (.int .i64 X1.s.r.a) ∧ w'.cell? ⟨g, o + K * 8 + 2, none⟩ = some (.int .i64 X1.s.r.b) ∧ w'.cell? ⟨g, o + K * 8 + 3, none⟩ = some (.int .i64 X1.s.r.c) ∧ w'.cell? ⟨g, o + K * 8 + 4, none⟩ = some (.int .i64 X1.s.r.d) ∧ w'.cell? ⟨g, o + K * 8 + 5, none⟩ = some (.int .i64 X1.cost) ∧ w'.cell? ⟨g, o + K * 8 + 6, none⟩ = some (.int .i64 X1.all) ∧ w'.cell? ⟨g, o + K * 8 + 7, none⟩ = some (.int .i64 X1.came) ∧ w'.cell? ⟨g, o + i * 8, none⟩ = some (.int .i64 X2.s.at_) ∧ w'.cell? ⟨g, o + i * 8 + 1, none⟩ = some (.int .i64 X2.s.r.a) ∧ w'.cell? ⟨g, o + i * 8 + 2, none⟩ = some (.int .i64 X2.s.r.b) ∧ w'.cell? ⟨g, o + i * 8 + 3, none⟩ = some (.int .i64 X2.s.r.c) ∧ w'.cell? ⟨g, o + i * 8 + 4, none⟩ = some (.int .i64 X2.s.r.d) ∧ w'.cell? ⟨g, o + i * 8 + 5, none⟩ = some (.int .i64 X2.cost) ∧ w'.cell? ⟨g, o + i * 8 + 6, none⟩ = some (.int .i64 X2.all) ∧ w'.cell? ⟨g, o + i * 8 + 7, none⟩ = some (.int .i64 X2.came) ∧ Below wr.heap.size wr w')
              (first | exact HK.out _ (by with_reducible assumption) | exact HK.out _ (Below.refl _ _).drew)
              (first | (go_at_call 17; refine (kcall (w2 := wr) ?_ (p_less X1 X2 _)).mono ?_; (first | with_reducible assumption | exact (Below.refl _ _).drew); rintro e w' ⟨rfl, hb⟩))
            all_goals
              go_wp2
              go_meet
              case rel => exact ⟨by rw [← HDD.out], by with_reducible assumption⟩
          · have HDD : Hid (decide (m ≤ K ∨ ¬ lessW (gw l K) (gw l i)) = true) := Lib.hid (by simp; omega)
            have e1 : decide ((K : Int) ≥ (m : Int)) = true := by simp; omega
            have e2 : decide (m ≤ K) = true := by simp; omega
            have e7 : decide ((m : Int) ≤ (K : Int)) = true := by simp; omega
            generalize decide (m ≤ K ∨ ¬ lessW (gw l K) (gw l i)) = BB at *
            clear hC
            go_quiet (fail)
            all_goals
              go_wp2
              go_meet
              case rel => exact ⟨by rw [HDD.out], below_drewN (Below.refl _ _) _⟩
        obtain ⟨rfl, hbc⟩ := hcut
        have hin := PopIn.below HS.out.2.2 hF hbc
        obtain ⟨hsi, hl, -⟩ := HS.out
        generalize wc = wr at *
        clear hbc HS
        obtain ⟨k, rfl⟩ : ∃ k', k = k' + 1 := ⟨k - 1, by omega⟩
        by_cases hC : m ≤ K ∨ ¬ lessW (gw l K) (gw l i)
        · have hend : l = popW L := by
            rw [← hsi]
            conv => rhs; unfold siftDown
            rw [if_pos (by rw [hl, ← HKK.out]; exact hC)]
          have e1 : decide (m ≤ K ∨ ¬ lessW (gw l K) (gw l i)) = true := by simpa using hC
          rw [e1]
          have HE := Lib.hid (And.intro hend hin)
          have z2 := Blk.cell hin.z2
          have z3 := Blk.cell hin.z3
          have t2 := Blk.frozen hin.z2
          have hsz2 := hin.z2.lt
          have hsz3 := hin.z3.lt
          simp only [wtCells] at z3
          clear hC e1 hsi hl hin hend
          go_wp2
          refine bodyPost_ret (v := wtV X) ?_ rfl ⟨rfl, PopIn.done8 HE.out.2 hF hgs HE.out.1⟩
          simp [results, Try.results21, go_sem, wtV, z2, hsz2]
        · have hKm : K < m := by omega
          have e1 : decide (m ≤ K ∨ ¬ lessW (gw l K) (gw l i)) = false := by simpa using hC
          have hil : i < l.length := by omega
          have hKl : K < l.length := by omega
          have hss : siftDown k (swapW l i K) K = popW L := by
            rw [← hsi]
            conv => rhs; unfold siftDown
            rw [if_neg (by rw [hl, ← HKK.out]; exact hC), ← HKK.out]
          rw [e1]
          obtain ⟨a0, a1, a2, a3, a4, a5, a6, a7⟩ := RowW.eight hin.row K hKl
          obtain ⟨b0, b1, b2, b3, b4, b5, b6, b7⟩ := RowW.eight hin.row i hil
          obtain ⟨p0, p1, p2, p3, p4, p5, p6, p7⟩ := RowW.thawed hin.row K hKl
          obtain ⟨j0, j1, j2, j3, j4, j5, j6, j7⟩ := RowW.thawed hin.row i hil
          have y7 := hin.y7
          have y8 := hin.y8
          have hrx := fun X1 X2 (h1 : gw l i = X1) (h2 : gw l K = X2) => PopIn.same hin hF hgs hgF (ex2_grown (grown_refl_wt wr (some g)) (o + i * 8) (o + K * 8) X1 X2) (ex2_row hin.row i K hil hKl h1 h2)
          generalize hX2 : gw l i = X2 at *
          generalize hX1 : gw l K = X1 at *
          have HRX := Lib.hid (hrx X2 X1 rfl rfl)
          have HE := Lib.hid (And.intro hss (And.intro hl (And.intro hk hi)))
          have e3 : (K : Int) < m := by omega
          have e4 : (i : Int) < m := by omega
          have e5 : (0 : Int) ≤ K := by omega
          have e6 : (0 : Int) ≤ i := by omega
          have hgs2 : g < wr.heap.size := by have := hin.fr.size; omega
          have hF2 : F < wr.heap.size := by have := hin.fr.size; omega
          clear hC e1 hsi hl hin hss hrx hX1 hX2 hil hKl hk HKK
          go_upto_region 11 with (fail)
          go_region
          all_goals
            go_wp2
            go_roundw
            case rel =>
              obtain ⟨s1, s2, s3, s4⟩ := HE.out
              exact ⟨K, k, swapW l i K, rfl, by omega, by omega, s1, by rw [swapW_length]; exact s2, HRX.out⟩
            case measure => have := HE.out; simp [intOf]; omega
end Go.Proofs.Ytndkgjoaljcijaa
