/- Chapter 26 (best): push: by a walk. -/
import Derived.Test.YtndkgjoaljcijaaBsRow
import Derived.Deep.RegionHeld3
import Derived.Deep.AppendLies
import Derived.Deep.RegionLaw
import Derived.BigQuiet
import Derived.Deep.QuietTactic
import Derived.Deep.DeepMust
set_option linter.unusedSimpArgs false
set_option linter.unusedVariables false
set_option maxRecDepth 100000
namespace Go.Proofs.Ytndkgjoaljcijaa
open Go.RowKit

def wtA (x : Wt) : Array Value := (wtCells x).toArray
/-- Behind the append and the store. -/
def PushMid (wa : World) (F base : Nat) (v : Value) (L : List Wt) (wc : World) : Prop := ∃ A3 c3 w3 w1, RowW w3 base (.slice A3 L.length c3) L ∧ Below wa.heap.size wa w1 ∧ w1.grownBy w3 v.ownBlock ∧ ((Value.slice A3 L.length c3).ownBlock = v.ownBlock ∨ (Value.slice A3 L.length c3).ownBlock = some w1.heap.size) ∧ wc = w3.setCell ⟨F, 7, none⟩ (.slice A3 L.length c3)
/-- What is left when all is done. -/
theorem push_close {w wa w1 w3 wb wr : World} {F base N : Nat} {v : Value} {A3 : Option Addr} {c3 : Nat} {l : List Wt} {X : Obj} (hF : F < w.heap.size) (hwa : w.alloc X = wa) (hb1 : Below wa.heap.size wa w1) (hg3 : w1.grownBy w3 v.ownBlock)
    (ho3 : (Value.slice A3 N c3).ownBlock = v.ownBlock ∨ (Value.slice A3 N c3).ownBlock = some w1.heap.size) (hne : v.ownBlock ≠ some F) (hne3 : (Value.slice A3 N c3).ownBlock ≠ some F)
    (hwb : w3.setCell ⟨F, 7, none⟩ (.slice A3 N c3) = wb) (hrw : RowW wr base (.slice A3 N c3) l) (q7 : wr.cell? ⟨F, 7, none⟩ = some (.slice A3 N c3)) (hgr : wb.grownBy wr (Value.slice A3 N c3).ownBlock) : Push_ w wr F base v l := by
  have hsz : wa.heap.size = w.heap.size + 1 := by rw [← hwa]; simp
  have hs1 := hb1.size
  have hws := hg3.size
  have k1 : Fr w w1 F v.ownBlock := Fr.below (by rw [← hwa] at hb1; exact bl_then (bl_alloc (Below.refl _ _) _) (by simp) hb1) hF _
  have k2 : Fr w1 w3 F v.ownBlock := Fr.grown hg3 (by omega) hne
  have k3 : Fr w3 wb F v.ownBlock := by rw [← hwb]; exact Fr.store _ _ _ _
  have hwbs : wb.heap.size = w3.heap.size := by rw [← hwb]; simp [World.setCell]
  have k4 := (k1.trans k2).trans k3
  have hFb : F < wb.heap.size := by omega
  have k5 := Fr.grown hgr hFb hne3
  refine ⟨⟨_, q7, hrw, ?_⟩, ⟨fun i hi => (k5.cells i hi).trans (k4.cells i hi), fun i => (k5.frozen i).trans (k4.frozen i), k5.os.trans k4.os, k5.tape.trans k4.tape, k5.output.trans k4.output, by have := k5.size; omega, fun k hk hkF hkv => ?_⟩⟩
  · rcases ho3 with h | h
    · exact .inl h
    · exact .inr ⟨_, h, by omega⟩
  · refine (k5.block k (by omega) hkF (fun q => ?_)).trans (k4.block k hk hkF hkv)
    rcases ho3 with h | h
    · exact hkv (by rw [← h]; exact q)
    · rw [h] at q; injection q with q; omega
set_option maxHeartbeats 4000000 in
theorem p_push {w : World} {F base : Nat} {v : Value} {L : List Wt} (x : Wt) (hrow : RowW w base v L) (hF : F < w.heap.size) (hfr : w.frozen? ⟨F, 7, none⟩ = false) (h7 : w.cell? ⟨F, 7, none⟩ = some v) (h8 : w.cell? ⟨F, 8, none⟩ = some (.func (.func 17) #[] #[]))
    (hne : v.ownBlock ≠ some F) (hlen : L.length ≤ 200000000000) (hbase : base ≤ w.heap.size) :
    Calls Try.prog 20 #[.pointer (some ⟨F, 7, none⟩), wtV x] w fun e w' => e = .returned (.tuple #[]) ∧ Push_ w w' F base v (pushW L x) := by
  have hB0 := bl_alloc (Below.refl w.heap.size w) (.cells #[.int .i64 x.s.at_, .int .i64 x.s.r.a, .int .i64 x.s.r.b, .int .i64 x.s.r.c, .int .i64 x.s.r.d, .int .i64 x.cost, .int .i64 x.all, .int .i64 x.came] 63)
  have z0 := Blk.new w 63 #[.int .i64 x.s.at_, .int .i64 x.s.r.a, .int .i64 x.s.r.b, .int .i64 x.s.r.c, .int .i64 x.s.r.d, .int .i64 x.cost, .int .i64 x.all, .int .i64 x.came]
  have hrow0 := Row.alloc hrow (.cells #[.int .i64 x.s.at_, .int .i64 x.s.r.a, .int .i64 x.s.r.b, .int .i64 x.s.r.c, .int .i64 x.s.r.d, .int .i64 x.cost, .int .i64 x.all, .int .i64 x.came] 63)
  have a7 := (hB0.cell (show (⟨F, 7, none⟩ : Addr).block < w.heap.size from hF)).trans h7
  have a8 := (hB0.cell (show (⟨F, 8, none⟩ : Addr).block < w.heap.size from hF)).trans h8
  have afr : (w.alloc (.cells #[.int .i64 x.s.at_, .int .i64 x.s.r.a, .int .i64 x.s.r.b, .int .i64 x.s.r.c, .int .i64 x.s.r.d, .int .i64 x.cost, .int .i64 x.all, .int .i64 x.came] 63)).frozen? ⟨F, 7, none⟩ = false := by
    rw [← hfr]
    unfold World.frozen?
    rw [Below.heap_alloc w _ F hF]
  have hvl := Row.lt hrow
  unfold wtV
  go_enter Try.func20, Try.ntmps20
  go_wp2_with fail
  generalize hwa : w.alloc (.cells #[.int .i64 x.s.at_, .int .i64 x.s.r.a, .int .i64 x.s.r.b, .int .i64 x.s.r.c, .int .i64 x.s.r.d, .int .i64 x.cost, .int .i64 x.all, .int .i64 x.came] 63) = wa at *
  have hsz : wa.heap.size = w.heap.size + 1 := by rw [← hwa]; simp
  have HK : Hid (∀ w', Below wa.heap.size wa w' → w'.frozen? ⟨F, 7, none⟩ = false ∧ w'.cell? ⟨F, 7, none⟩ = some v ∧ w'.cell? ⟨w.heap.size, 0, none⟩ = some (.int .i64 x.s.at_) ∧ w'.cell? ⟨w.heap.size, 1, none⟩ = some (.int .i64 x.s.r.a) ∧ w'.cell? ⟨w.heap.size, 2, none⟩ = some (.int .i64 x.s.r.b) ∧ w'.cell? ⟨w.heap.size, 3, none⟩ = some (.int .i64 x.s.r.c) ∧ w'.cell? ⟨w.heap.size, 4, none⟩ = some (.int .i64 x.s.r.d) ∧ w'.cell? ⟨w.heap.size, 5, none⟩ = some (.int .i64 x.cost) ∧ w'.cell? ⟨w.heap.size, 6, none⟩ = some (.int .i64 x.all) ∧ w'.cell? ⟨w.heap.size, 7, none⟩ = some (.int .i64 x.came)) := Lib.hid (fun w' hb => by
    have zz := Blk.cell (z0.below hb (by omega))
    exact ⟨(frozen_of (hb.block F (by omega))).trans afr, (hb.cell (show (⟨F, 7, none⟩ : Addr).block < wa.heap.size by show F < _; omega)).trans a7, zz 0, zz 1, zz 2, zz 3, zz 4, zz 5, zz 6, zz 7⟩)
  have HK2 : Hid (∀ w1 w', Below wa.heap.size wa w1 → w1.grownBy w' v.ownBlock → w'.frozen? ⟨F, 7, none⟩ = false ∧ w'.cell? ⟨F, 7, none⟩ = some v ∧ w'.cell? ⟨w.heap.size, 0, none⟩ = some (.int .i64 x.s.at_) ∧ w'.cell? ⟨w.heap.size, 1, none⟩ = some (.int .i64 x.s.r.a) ∧ w'.cell? ⟨w.heap.size, 2, none⟩ = some (.int .i64 x.s.r.b) ∧ w'.cell? ⟨w.heap.size, 3, none⟩ = some (.int .i64 x.s.r.c) ∧ w'.cell? ⟨w.heap.size, 4, none⟩ = some (.int .i64 x.s.r.d) ∧ w'.cell? ⟨w.heap.size, 5, none⟩ = some (.int .i64 x.cost) ∧ w'.cell? ⟨w.heap.size, 6, none⟩ = some (.int .i64 x.all) ∧ w'.cell? ⟨w.heap.size, 7, none⟩ = some (.int .i64 x.came)) := Lib.hid (fun w1 w' hb hg => by
    have h0 := HK.out w1 hb
    have hs1 := hb.size
    have e : ∀ r : Addr, (r.block = F ∨ r.block = w.heap.size) → w'.cell? r = w1.cell? r := fun r hr => World.cell?_of_block (hg.block r.block (by rcases hr with q | q <;> rw [q] <;> omega) (fun q => by
      rcases hr with q2 | q2
      · exact hne (by rw [← q2]; exact q.symm)
      · have := (hvl _ q.symm).2; omega))
    have ef : w'.frozen? ⟨F, 7, none⟩ = w1.frozen? ⟨F, 7, none⟩ := frozen_of (hg.block F (by omega) (fun q => hne q.symm))
    rw [ef, e ⟨F, 7, none⟩ (.inl rfl), e ⟨w.heap.size, 0, none⟩ (.inr rfl), e ⟨w.heap.size, 1, none⟩ (.inr rfl), e ⟨w.heap.size, 2, none⟩ (.inr rfl), e ⟨w.heap.size, 3, none⟩ (.inr rfl), e ⟨w.heap.size, 4, none⟩ (.inr rfl), e ⟨w.heap.size, 5, none⟩ (.inr rfl), e ⟨w.heap.size, 6, none⟩ (.inr rfl), e ⟨w.heap.size, 7, none⟩ (.inr rfl)]
    exact h0)
  have HBN : Hid (∀ C : Array Value, Blk (wa.drew.alloc (.cells C 63)) (w.heap.size + 1) 63 C) := Lib.hid (fun C => by have := Blk.new wa.drew 63 C; rw [show wa.drew.heap.size = w.heap.size + 1 from hsz] at this; exact this)
  have hl3 : L.length ≤ 1000000000000 := by omega
  have hbs : base ≤ wa.heap.size := by omega
  have hbs2 : base ≤ wa.heap.size + 1 := by omega
  clear hB0 h7 h8 hfr z0
  obtain ⟨uf, u0, u1, u2, u3, u4, u5, u6, u7, u8⟩ := HK.out wa (Below.refl _ _)
  go_cut [5, 6, 7, 8, 9, 10, 11, 12, 13, 14] (fun _ _ _ _ _ _ _ _ _ _ wc => PushMid wa F base v (L ++ [x]) wc)
  case first =>
    go_region_law (refine step_append_wt rfl (.tmp 9) (.tmp 11) (by rfl) base v L (by rfl) (Row.alloc (Row.drew hrow0) _) (w.heap.size + 1) x (by rfl) (HBN.out _) hl3 (by simp; omega) ?_; intro v3 w3 hr3 hg3 ho3; obtain ⟨A3, c3, rfl, hle3⟩ := Row.slice hr3; obtain ⟨vf, v7, vx⟩ := HK2.out _ _ (bl_alloc (Below.refl _ _).drew _) hg3)
    all_goals
      go_wp2_with fail
      go_meet
      case rel =>
        refine ⟨A3, c3, w3, _, hr3, ?_, hg3, ho3, (by rw [List.length_append]; rfl)⟩
        first | exact bl_alloc (Below.refl _ _).drew _ | exact (bl_alloc (Below.refl _ _) _).drew
  case rest =>
    obtain ⟨A3, c3, w3, w1, hr3, hb1, hg3, ho3, rfl⟩ := hcut
    have hs1 := hb1.size
    have hF1 : F < w1.heap.size := by omega
    have hgF := hg3.block F hF1 (fun q => hne q.symm)
    have hne3 : (Value.slice A3 (L ++ [x]).length c3).ownBlock ≠ some F := fun q => by
      rcases ho3 with h | h
      · exact hne (h.symm.trans q)
      · rw [h] at q; injection q with q; omega
    have b7 : (w3.setCell ⟨F, 7, none⟩ (.slice A3 (L ++ [x]).length c3)).cell? ⟨F, 7, none⟩ = some (.slice A3 (L ++ [x]).length c3) := World.cell?_setCell_same w3 _ _ ((World.cell?_of_block hgF).trans ((hb1.cell (show (⟨F, 7, none⟩ : Addr).block < wa.heap.size by show F < _; omega)).trans a7))
    have b8 : (w3.setCell ⟨F, 7, none⟩ (.slice A3 (L ++ [x]).length c3)).cell? ⟨F, 8, none⟩ = some (.func (.func 17) #[] #[]) := (World.cell?_setCell_other w3 _ _ _ (by simp)).trans ((World.cell?_of_block hgF).trans ((hb1.cell (show (⟨F, 8, none⟩ : Addr).block < wa.heap.size by show F < _; omega)).trans a8))
    have hr4 : RowW (w3.setCell ⟨F, 7, none⟩ (.slice A3 (L ++ [x]).length c3)) base (.slice A3 (L ++ [x]).length c3) (L ++ [x]) := Row.setCell hr3 _ hne3
    have hN1 : (L ++ [x]).length = L.length + 1 := by simp
    generalize hN0 : (L ++ [x]).length = N at *
    have hNb : N ≤ 200000000001 := by omega
    have hNs : 0 < N := by omega
    have HN0 := Lib.hid hN0
    have HN := Lib.hid hN1
    clear hN0 hN1
    generalize hwc : w3.setCell ⟨F, 7, none⟩ (.slice A3 N c3) = wb at *
    have HWC := Lib.hid hwc
    clear hwc
    go_wp2_with fail
    go_loopw [4] (fun v4 wr => ∃ (i k : Nat) (l : List Wt), v4 = .int .i64 i ∧ i < l.length ∧ i ≤ k ∧ siftUp k l i = pushW L x ∧ l.length = N ∧ RowW wr base (.slice A3 N c3) l ∧ wr.cell? ⟨F, 7, none⟩ = some (.slice A3 N c3) ∧ wr.cell? ⟨F, 8, none⟩ = some (.func (.func 17) #[] #[]) ∧ wb.grownBy wr (Value.slice A3 N c3).ownBlock) (fun v4 _ => (intOf v4).toNat)
    case atStart =>
      refine ⟨L.length, L.length, L ++ [x], ?_, by simp, Nat.le_refl _, rfl, HN0.out, hr4, b7, b8, only_of_below (Below.refl _ _) _⟩
      simp only [Value.int.injEq, true_and]; have := HN.out; omega
    case round =>
      obtain ⟨i, k, l, rfl, hi, hik, hsi, hll, hrw, q7, q8, hgr⟩ := hrel
      by_cases h0 : 0 < i
      · obtain ⟨P, hP⟩ : ∃ P, P = (i - 1) / 2 := ⟨_, rfl⟩
        have hPi : P < i := by omega
        have hPl : P < l.length := by omega
        have q1 : IntKind.i64.wrap ((i : Int) - 1) = (i : Int) - 1 := Go.IntWalk.i64_in _ (by omega)
        have q2 : ((i : Int) - 1).tdiv 2 = (P : Int) := by rw [Int.tdiv_eq_ediv_of_nonneg (by omega)]; omega
        have q3 : IntKind.i64.wrap (P : Int) = (P : Int) := Go.IntWalk.i64_in _ (by omega)
        obtain ⟨g, o, rfl⟩ : ∃ g o, A3 = some ⟨g, o, none⟩ := by
          rcases hrw.2 with ⟨hv, hz⟩ | ⟨g, o, cap, cur, mk, hv, _⟩
          · simp only [Value.slice.injEq] at hv; omega
          · simp only [Value.slice.injEq] at hv; exact ⟨g, o, hv.1⟩
        obtain ⟨_, e0, hn, hgs, hgb, hci⟩ := RowW.at_ hrw i hi
        injection e0 with e0
        subst e0
        obtain ⟨_, e0, -, -, -, hcp⟩ := RowW.at_ hrw P hPl
        injection e0 with e0
        subst e0
        rw [← gw_at hi] at hci
        rw [← gw_at hPl] at hcp
        have i0 := hci 0 _ rfl
        have i1 := hci 1 _ rfl
        have i2 := hci 2 _ rfl
        have i3 := hci 3 _ rfl
        have i4 := hci 4 _ rfl
        have i5 := hci 5 _ rfl
        have i6 := hci 6 _ rfl
        have i7 := hci 7 _ rfl
        have p0 := hcp 0 _ rfl
        have p1 := hcp 1 _ rfl
        have p2 := hcp 2 _ rfl
        have p3 := hcp 3 _ rfl
        have p4 := hcp 4 _ rfl
        have p5 := hcp 5 _ rfl
        have p6 := hcp 6 _ rfl
        have p7 := hcp 7 _ rfl
        have add_ := addr_add g o
        rw [add_] at i0 i1 i2 i3 i4 i5 i6 i7 p0 p1 p2 p3 p4 p5 p6 p7
        simp only [← Nat.add_assoc, Nat.add_zero] at i0 i1 i2 i3 i4 i5 i6 i7 p0 p1 p2 p3 p4 p5 p6 p7
        clear hci hcp
        have b1 : decide ((i : Int) > 0) = true := by simpa using h0
        have b1n : decide (0 < (i : Int)) = true := by simpa using h0
        have hFs : F < wr.heap.size := by have := hgr.size; have hwcs : wb.heap.size = w3.heap.size := by rw [← HWC.out]; simp [World.setCell]
                                          have := hg3.size; omega
        have HH := Lib.hid (And.intro hsi (And.intro hrw (And.intro hgr (And.intro hll (And.intro hP (And.intro hn (And.intro hik hi)))))))
        have hnl : (i : Int) < N := by omega
        have hnP : (P : Int) < N := by omega
        have hn0 : (0 : Int) ≤ i := by omega
        have hn1 : (0 : Int) ≤ P := by omega
        clear hsi hrw hgr hll hP hn hik hi
        have HXY := Lib.hid (show decide (lessW (gw l i) (gw l P)) = decide (lessW (gw l i) (gw l P)) from rfl)
        generalize hX : gw l i = X at *
        generalize hY : gw l P = Y at *
        have HX := Lib.hid hX
        have HY := Lib.hid hY
        clear hX hY HXY
        have hent : ∀ w, Sem.run Try.prog (callFunc 17 #[wtV X, wtV Y]) w = .ok (.enter 17 #[wtV X, wtV Y]) w := fun w => enters_less _ w
        unfold wtV at hent
        have HK : Hid (∀ w', Below wr.heap.size wr w' → w'.cell? ⟨F, 7, none⟩ = some (.slice (some ⟨g, o, none⟩) N c3) ∧ w'.cell? ⟨F, 8, none⟩ = some (.func (.func 17) #[] #[]) ∧ w'.cell? ⟨g, o + i * 8, none⟩ = some (.int .i64 X.s.at_) ∧ w'.cell? ⟨g, o + i * 8 + 1, none⟩ = some (.int .i64 X.s.r.a) ∧ w'.cell? ⟨g, o + i * 8 + 2, none⟩ = some (.int .i64 X.s.r.b) ∧ w'.cell? ⟨g, o + i * 8 + 3, none⟩ = some (.int .i64 X.s.r.c) ∧ w'.cell? ⟨g, o + i * 8 + 4, none⟩ = some (.int .i64 X.s.r.d) ∧ w'.cell? ⟨g, o + i * 8 + 5, none⟩ = some (.int .i64 X.cost) ∧ w'.cell? ⟨g, o + i * 8 + 6, none⟩ = some (.int .i64 X.all) ∧ w'.cell? ⟨g, o + i * 8 + 7, none⟩ = some (.int .i64 X.came) ∧ w'.cell? ⟨g, o + P * 8, none⟩ = some (.int .i64 Y.s.at_) ∧ w'.cell? ⟨g, o + P * 8 + 1, none⟩ = some (.int .i64 Y.s.r.a) ∧ w'.cell? ⟨g, o + P * 8 + 2, none⟩ = some (.int .i64 Y.s.r.b) ∧ w'.cell? ⟨g, o + P * 8 + 3, none⟩ = some (.int .i64 Y.s.r.c) ∧ w'.cell? ⟨g, o + P * 8 + 4, none⟩ = some (.int .i64 Y.s.r.d) ∧ w'.cell? ⟨g, o + P * 8 + 5, none⟩ = some (.int .i64 Y.cost) ∧ w'.cell? ⟨g, o + P * 8 + 6, none⟩ = some (.int .i64 Y.all) ∧ w'.cell? ⟨g, o + P * 8 + 7, none⟩ = some (.int .i64 Y.came) ∧ Below wr.heap.size wr w') :=
          Lib.hid fun w' h => ⟨(h.cell (p := ⟨F, 7, none⟩) hFs).trans q7, (h.cell (p := ⟨F, 8, none⟩) hFs).trans q8, (h.cell (p := ⟨g, o + i * 8, none⟩) hgs).trans i0, (h.cell (p := ⟨g, o + i * 8 + 1, none⟩) hgs).trans i1, (h.cell (p := ⟨g, o + i * 8 + 2, none⟩) hgs).trans i2, (h.cell (p := ⟨g, o + i * 8 + 3, none⟩) hgs).trans i3, (h.cell (p := ⟨g, o + i * 8 + 4, none⟩) hgs).trans i4, (h.cell (p := ⟨g, o + i * 8 + 5, none⟩) hgs).trans i5, (h.cell (p := ⟨g, o + i * 8 + 6, none⟩) hgs).trans i6, (h.cell (p := ⟨g, o + i * 8 + 7, none⟩) hgs).trans i7, (h.cell (p := ⟨g, o + P * 8, none⟩) hgs).trans p0, (h.cell (p := ⟨g, o + P * 8 + 1, none⟩) hgs).trans p1, (h.cell (p := ⟨g, o + P * 8 + 2, none⟩) hgs).trans p2, (h.cell (p := ⟨g, o + P * 8 + 3, none⟩) hgs).trans p3, (h.cell (p := ⟨g, o + P * 8 + 4, none⟩) hgs).trans p4, (h.cell (p := ⟨g, o + P * 8 + 5, none⟩) hgs).trans p5, (h.cell (p := ⟨g, o + P * 8 + 6, none⟩) hgs).trans p6, (h.cell (p := ⟨g, o + P * 8 + 7, none⟩) hgs).trans p7, h⟩
        go_upto_region 3 with (fail)
        go_cut [45] (fun v45 wc => v45 = .bool (decide (lessW X Y)) ∧ Below wr.heap.size wr wc)
        case first =>
          go_region_held3 (fun w' => w'.cell? ⟨F, 7, none⟩ = some (.slice (some ⟨g, o, none⟩) N c3) ∧ w'.cell? ⟨F, 8, none⟩ = some (.func (.func 17) #[] #[]) ∧ w'.cell? ⟨g, o + i * 8, none⟩ = some (.int .i64 X.s.at_) ∧ w'.cell? ⟨g, o + i * 8 + 1, none⟩ = some (.int .i64 X.s.r.a) ∧ w'.cell? ⟨g, o + i * 8 + 2, none⟩ = some (.int .i64 X.s.r.b) ∧ w'.cell? ⟨g, o + i * 8 + 3, none⟩ = some (.int .i64 X.s.r.c) ∧ w'.cell? ⟨g, o + i * 8 + 4, none⟩ = some (.int .i64 X.s.r.d) ∧ w'.cell? ⟨g, o + i * 8 + 5, none⟩ = some (.int .i64 X.cost) ∧ w'.cell? ⟨g, o + i * 8 + 6, none⟩ = some (.int .i64 X.all) ∧ w'.cell? ⟨g, o + i * 8 + 7, none⟩ = some (.int .i64 X.came) ∧ w'.cell? ⟨g, o + P * 8, none⟩ = some (.int .i64 Y.s.at_) ∧ w'.cell? ⟨g, o + P * 8 + 1, none⟩ = some (.int .i64 Y.s.r.a) ∧ w'.cell? ⟨g, o + P * 8 + 2, none⟩ = some (.int .i64 Y.s.r.b) ∧ w'.cell? ⟨g, o + P * 8 + 3, none⟩ = some (.int .i64 Y.s.r.c) ∧ w'.cell? ⟨g, o + P * 8 + 4, none⟩ = some (.int .i64 Y.s.r.d) ∧ w'.cell? ⟨g, o + P * 8 + 5, none⟩ = some (.int .i64 Y.cost) ∧ w'.cell? ⟨g, o + P * 8 + 6, none⟩ = some (.int .i64 Y.all) ∧ w'.cell? ⟨g, o + P * 8 + 7, none⟩ = some (.int .i64 Y.came) ∧ Below wr.heap.size wr w')
            (first | exact HK.out _ (by with_reducible assumption) | exact HK.out _ (Below.refl _ _).drew)
            (first | (go_at_call 17; refine (kcall (w2 := wr) ?_ (p_less X Y _)).mono ?_; (first | with_reducible assumption | exact (Below.refl _ _).drew); rintro e w' ⟨rfl, hb⟩))
          all_goals
            go_wp2
            go_meet
            case rel => exact ⟨rfl, by with_reducible assumption⟩
        clear HK hent
        obtain ⟨rfl, hbz⟩ := hcut
        obtain ⟨hsi, hrw, hgr, hll, hP, hn, hik, hi⟩ := HH.out
        have hrz : RowW wc base (.slice (some ⟨g, o, none⟩) N c3) l := Row.below hrw hbz
        have hgz := grown_below_wt hgr hbz
        have hFz : F < wc.heap.size := by have := hbz.size; omega
        have hgsz : g < wc.heap.size := by have := hbz.size; have : g < wr.heap.size := hgs; omega
        have zi0 : wc.cell? ⟨g, o + i * 8, none⟩ = some (.int .i64 X.s.at_) := (hbz.cell (p := ⟨g, o + i * 8, none⟩) hgs).trans i0
        have zi1 : wc.cell? ⟨g, o + i * 8 + 1, none⟩ = some (.int .i64 X.s.r.a) := (hbz.cell (p := ⟨g, o + i * 8 + 1, none⟩) hgs).trans i1
        have zi2 : wc.cell? ⟨g, o + i * 8 + 2, none⟩ = some (.int .i64 X.s.r.b) := (hbz.cell (p := ⟨g, o + i * 8 + 2, none⟩) hgs).trans i2
        have zi3 : wc.cell? ⟨g, o + i * 8 + 3, none⟩ = some (.int .i64 X.s.r.c) := (hbz.cell (p := ⟨g, o + i * 8 + 3, none⟩) hgs).trans i3
        have zi4 : wc.cell? ⟨g, o + i * 8 + 4, none⟩ = some (.int .i64 X.s.r.d) := (hbz.cell (p := ⟨g, o + i * 8 + 4, none⟩) hgs).trans i4
        have zi5 : wc.cell? ⟨g, o + i * 8 + 5, none⟩ = some (.int .i64 X.cost) := (hbz.cell (p := ⟨g, o + i * 8 + 5, none⟩) hgs).trans i5
        have zi6 : wc.cell? ⟨g, o + i * 8 + 6, none⟩ = some (.int .i64 X.all) := (hbz.cell (p := ⟨g, o + i * 8 + 6, none⟩) hgs).trans i6
        have zi7 : wc.cell? ⟨g, o + i * 8 + 7, none⟩ = some (.int .i64 X.came) := (hbz.cell (p := ⟨g, o + i * 8 + 7, none⟩) hgs).trans i7
        have zp0 : wc.cell? ⟨g, o + P * 8, none⟩ = some (.int .i64 Y.s.at_) := (hbz.cell (p := ⟨g, o + P * 8, none⟩) hgs).trans p0
        have zp1 : wc.cell? ⟨g, o + P * 8 + 1, none⟩ = some (.int .i64 Y.s.r.a) := (hbz.cell (p := ⟨g, o + P * 8 + 1, none⟩) hgs).trans p1
        have zp2 : wc.cell? ⟨g, o + P * 8 + 2, none⟩ = some (.int .i64 Y.s.r.b) := (hbz.cell (p := ⟨g, o + P * 8 + 2, none⟩) hgs).trans p2
        have zp3 : wc.cell? ⟨g, o + P * 8 + 3, none⟩ = some (.int .i64 Y.s.r.c) := (hbz.cell (p := ⟨g, o + P * 8 + 3, none⟩) hgs).trans p3
        have zp4 : wc.cell? ⟨g, o + P * 8 + 4, none⟩ = some (.int .i64 Y.s.r.d) := (hbz.cell (p := ⟨g, o + P * 8 + 4, none⟩) hgs).trans p4
        have zp5 : wc.cell? ⟨g, o + P * 8 + 5, none⟩ = some (.int .i64 Y.cost) := (hbz.cell (p := ⟨g, o + P * 8 + 5, none⟩) hgs).trans p5
        have zp6 : wc.cell? ⟨g, o + P * 8 + 6, none⟩ = some (.int .i64 Y.all) := (hbz.cell (p := ⟨g, o + P * 8 + 6, none⟩) hgs).trans p6
        have zp7 : wc.cell? ⟨g, o + P * 8 + 7, none⟩ = some (.int .i64 Y.came) := (hbz.cell (p := ⟨g, o + P * 8 + 7, none⟩) hgs).trans p7
        have y7 : wc.cell? ⟨F, 7, none⟩ = some (.slice (some ⟨g, o, none⟩) N c3) := (hbz.cell (p := ⟨F, 7, none⟩) hFs).trans q7
        have y8 : wc.cell? ⟨F, 8, none⟩ = some (.func (.func 17) #[] #[]) := (hbz.cell (p := ⟨F, 8, none⟩) hFs).trans q8
        clear i0 i1 i2 i3 i4 i5 i6 i7 p0 p1 p2 p3 p4 p5 p6 p7 q7 q8 hrw hgr
        by_cases hls : lessW X Y
        · have hd : decide (lessW X Y) = true := by simpa using hls
          have HSS : Hid (∃ k', siftUp k' (swapW l i P) P = pushW L x ∧ P ≤ k' ∧ P < (swapW l i P).length ∧ (swapW l i P).length = N ∧ P < i) := Lib.hid (by
            obtain ⟨k', rfl⟩ : ∃ k', k = k' + 1 := ⟨k - 1, by omega⟩
            refine ⟨k', ?_, by omega, by rw [swapW_length]; exact hPl, by rw [swapW_length]; exact hll, by omega⟩
            rw [← hsi]
            conv => rhs; unfold siftUp
            rw [← hP, if_pos ⟨h0, by rw [HX.out, HY.out]; exact hls⟩])
          have hi' : i < l.length := hi
          have hPl' : P < l.length := hPl
          have hnv : Value.slice (some ⟨g, o, none⟩) N c3 = .slice (some ⟨g, o, none⟩) l.length c3 := by rw [← hn]
          have fi0 : wc.frozen? ⟨g, o + i * 8, none⟩ = false := Row.frozen hrz hnv (i * 8) (by omega)
          have fi1 : wc.frozen? ⟨g, o + i * 8 + 1, none⟩ = false := by have := Row.frozen hrz hnv (i * 8 + 1) (by omega); rwa [← Nat.add_assoc] at this
          have fi2 : wc.frozen? ⟨g, o + i * 8 + 2, none⟩ = false := by have := Row.frozen hrz hnv (i * 8 + 2) (by omega); rwa [← Nat.add_assoc] at this
          have fi3 : wc.frozen? ⟨g, o + i * 8 + 3, none⟩ = false := by have := Row.frozen hrz hnv (i * 8 + 3) (by omega); rwa [← Nat.add_assoc] at this
          have fi4 : wc.frozen? ⟨g, o + i * 8 + 4, none⟩ = false := by have := Row.frozen hrz hnv (i * 8 + 4) (by omega); rwa [← Nat.add_assoc] at this
          have fi5 : wc.frozen? ⟨g, o + i * 8 + 5, none⟩ = false := by have := Row.frozen hrz hnv (i * 8 + 5) (by omega); rwa [← Nat.add_assoc] at this
          have fi6 : wc.frozen? ⟨g, o + i * 8 + 6, none⟩ = false := by have := Row.frozen hrz hnv (i * 8 + 6) (by omega); rwa [← Nat.add_assoc] at this
          have fi7 : wc.frozen? ⟨g, o + i * 8 + 7, none⟩ = false := by have := Row.frozen hrz hnv (i * 8 + 7) (by omega); rwa [← Nat.add_assoc] at this
          have fP0 : wc.frozen? ⟨g, o + P * 8, none⟩ = false := Row.frozen hrz hnv (P * 8) (by omega)
          have fP1 : wc.frozen? ⟨g, o + P * 8 + 1, none⟩ = false := by have := Row.frozen hrz hnv (P * 8 + 1) (by omega); rwa [← Nat.add_assoc] at this
          have fP2 : wc.frozen? ⟨g, o + P * 8 + 2, none⟩ = false := by have := Row.frozen hrz hnv (P * 8 + 2) (by omega); rwa [← Nat.add_assoc] at this
          have fP3 : wc.frozen? ⟨g, o + P * 8 + 3, none⟩ = false := by have := Row.frozen hrz hnv (P * 8 + 3) (by omega); rwa [← Nat.add_assoc] at this
          have fP4 : wc.frozen? ⟨g, o + P * 8 + 4, none⟩ = false := by have := Row.frozen hrz hnv (P * 8 + 4) (by omega); rwa [← Nat.add_assoc] at this
          have fP5 : wc.frozen? ⟨g, o + P * 8 + 5, none⟩ = false := by have := Row.frozen hrz hnv (P * 8 + 5) (by omega); rwa [← Nat.add_assoc] at this
          have fP6 : wc.frozen? ⟨g, o + P * 8 + 6, none⟩ = false := by have := Row.frozen hrz hnv (P * 8 + 6) (by omega); rwa [← Nat.add_assoc] at this
          have fP7 : wc.frozen? ⟨g, o + P * 8 + 7, none⟩ = false := by have := Row.frozen hrz hnv (P * 8 + 7) (by omega); rwa [← Nat.add_assoc] at this
          have hgF : F ≠ g := fun q => hne3 (by rw [q]; rfl)
          have HSW := Lib.hid (ex2_row hrz i P hi hPl HX.out HY.out)
          have HG4 := Lib.hid (ex2_grown hgz (o + i * 8) (o + P * 8) X Y)
          have HC7 := Lib.hid ((ex2_cell hgF hFz (o + i * 8) (o + P * 8) X Y).trans y7)
          have HC8 := Lib.hid ((ex2_cell hgF hFz (o + i * 8) (o + P * 8) X Y).trans y8)
          rw [hd]
          clear hd hnv hgF hsi hll hP hn hik hi hi' hPl' hrz hgz
          go_upto_region 5 with (fail)
          go_region
          all_goals
            go_wp2
            go_roundw
            case rel =>
              obtain ⟨k', s1, s2, s3, s4, s5⟩ := HSS.out
              exact ⟨P, k', swapW l i P, rfl, s3, s2, s1, s4, HSW.out, HC7.out, HC8.out, HG4.out⟩
            case measure => have := HSS.out; simp [intOf]; omega
        · have HSS : Hid (l = pushW L x) := Lib.hid (by
            rw [← hsi]
            obtain ⟨k', rfl⟩ : ∃ k', k = k' + 1 := ⟨k - 1, by omega⟩
            conv => rhs; unfold siftUp
            rw [if_neg (fun q => hls (by have := q.2; rwa [← hP, HX.out, HY.out] at this))])
          have hd : decide (lessW X Y) = false := by simpa using hls
          rw [hd]
          have HC := Lib.hid (And.intro hrz hgz)
          clear hsi hll hP hn hik hi hrz hgz hd
          go_wp2_with fail
          go_wp2
          refine bodyPost_end (results_none rfl _ _ _) rfl ?_
          refine ⟨rfl, ?_⟩
          rw [← HSS.out]
          exact push_close hF hwa hb1 hg3 ho3 hne hne3 HWC.out HC.out.1 y7 HC.out.2
      · obtain rfl : i = 0 := by omega
        have hend : l = pushW L x := by
          rw [← hsi]
          cases k with
          | zero => rfl
          | succ k => unfold siftUp; rw [if_neg (fun q => Nat.lt_irrefl 0 q.1)]
        have HE := Lib.hid (And.intro hend (And.intro hrw (And.intro q7 hgr)))
        have b1 : decide (((0 : Nat) : Int) > 0) = false := by decide
        have b1n : decide (0 < ((0 : Nat) : Int)) = false := by decide
        clear hend hsi hrw hgr
        go_wp2_with fail
        go_quiet (fail)
        all_goals
          go_wp2
          refine bodyPost_end (results_none rfl _ _ _) rfl ?_
          refine ⟨rfl, ?_⟩
          obtain ⟨rfl, hrw, q7, hgr⟩ := HE.out
          exact push_close hF hwa hb1 hg3 ho3 hne hne3 HWC.out (Row.drewN hrw nq) q7 (only_drewN hgr nq)
end Go.Proofs.Ytndkgjoaljcijaa
