/- Chapter 26 (best): lower: by a walk. -/
import Derived.Test.YtndkgjoaljcijaaBsReckon
set_option linter.unusedSimpArgs false
set_option linter.unusedVariables false
set_option maxRecDepth 100000
namespace Go.Proofs.Ytndkgjoaljcijaa
open Go.RowKit

def BlkI (w : World) (g : Nat) (xs : List Int) : Prop := Blk w g 3 (ivals xs).toArray
theorem BlkI.at_ {w : World} {g : Nat} {xs : List Int} (h : BlkI w g xs) (i : Nat) (hi : i < xs.length) : w.cell? ⟨g, i, none⟩ = some (.int .i64 xs[i]) := by
  rw [Blk.cell h, List.getElem?_toArray]
  exact ivals_get xs i hi
theorem BlkI.set_ {w : World} {g : Nat} {xs : List Int} (h : BlkI w g xs) (i : Nat) (y : Int) : BlkI (w.setCell ⟨g, i, none⟩ (.int .i64 y)) g (xs.set i y) := by
  have := Blk.set_ h i (.int .i64 y)
  unfold BlkI
  have e : (ivals (xs.set i y)).toArray = (ivals xs).toArray.setIfInBounds i (.int .i64 y) := by
    simp [ivals, List.map_set, ival]
  rw [e]
  exact this
theorem BlkI.reads {w : World} {g : Nat} {xs : List Int} (h : BlkI w g xs) : ReadsI w (some ⟨g, 0, none⟩) xs :=
  ⟨by simp [ivals], fun _ => ⟨_, rfl, Blk.lt h, fun j u hu => by
    have e1 : ((⟨g, 0, none⟩ : Addr).add j) = ⟨g, j, none⟩ := by rw [addr_add, Nat.zero_add]
    rw [e1, Blk.cell h, List.getElem?_toArray]; exact hu⟩⟩
theorem BlkI.made (w : World) (n : Nat) : BlkI (w.alloc (.cells (ivals (List.replicate n 0)).toArray 3)) w.heap.size (List.replicate n 0) := Blk.new w _ _
theorem BlkI.other {w : World} {g : Nat} {xs : List Int} (h : BlkI w g xs) {p : Addr} (hp : g ≠ p.block) (u : Value) : BlkI (w.setCell p u) g xs := (Below.heap_setCell w p u g hp).trans h
section
variable {w wr : World} {F : Nat} {S : Nat → Prop}
theorem Fx.other (h : Fx w wr F S) {p : Addr} (hp : w.heap.size ≤ p.block) (hF : F < w.heap.size) (u : Value) : Fx w (wr.setCell p u) F S := by
  have hne : F ≠ p.block := by omega
  have e := Below.heap_setCell wr p u F hne
  exact ⟨fun i hi => (World.cell?_of_block e).trans (h.cells i hi), fun i v hv => by obtain ⟨v', h'⟩ := h.some_ i v hv; exact ⟨v', (World.cell?_of_block e).trans h'⟩, fun i => (World.frozen?_setCell _ _ _ _).trans (h.frozen i), h.os, h.tape, h.output, by simpa [World.setCell] using h.size, fun k hk hF => (Below.heap_setCell wr p u k (by omega)).trans (h.block k hk hF)⟩
theorem Fx.call {w' : World} (h : Fx w wr F S) (hF : F < w.heap.size) (hb : Below wr.heap.size wr w') : Fx w w' F S := h.trans (Fx.below hb (by have := h.size; omega) S)
theorem Fx.alloc (h : Fx w wr F S) (hF : F < w.heap.size) (o : Obj) : Fx w (wr.alloc o) F S := h.call hF (bl_alloc (Below.refl _ _) _)
theorem Fx.fin {E : Env} {M D : Option Addr} {c1 c2 : Nat} (h : Fx w wr F S) (hf : Fin_ w F E M D c1 c2) (hS : ∀ i, i < 5 → ¬ S i) (hM : ∀ ad, (M = some ad ∨ D = some ad) → ad.block < w.heap.size ∧ ad.block ≠ F) : Fin_ wr F E M D c1 c2 :=
  ⟨(h.cells 0 (hS 0 (by omega))).trans hf.s, (h.cells 1 (hS 1 (by omega))).trans hf.b, (h.cells 2 (hS 2 (by omega))).trans hf.pm, (h.cells 3 (hS 3 (by omega))).trans hf.pd, (h.cells 4 (hS 4 (by omega))).trans hf.win,
    reads_keep hf.rm h.size (fun ad e => h.block _ (hM ad (.inl e)).1 (hM ad (.inl e)).2), reads_keep hf.rd h.size (fun ad e => h.block _ (hM ad (.inr e)).1 (hM ad (.inr e)).2), by have := h.size; have := hf.lt; omega⟩
theorem Fx.long {m : List Int} (h : Fx w wr F S) (hL : LongOk w F m) (hS : ∀ i, 10 ≤ i → ¬ S i) : LongOk wr F m := fun k n a b c => (h.cells _ (hS _ (by omega))).trans (hL k n a b c)
theorem Fx.ints (h : Fx w wr F S) (hI : AllInt w F) (hS : ∀ i, 10 ≤ i → ¬ S i) : AllInt wr F := fun j hj => by
  obtain ⟨z, hz⟩ := hI j hj
  exact ⟨z, (h.cells _ (hS _ (by omega))).trans hz⟩
end
theorem longF_bd {m : List Int} (hm : m.length = 401) (mok : pricesOk m) (k n : Nat) : 0 ≤ longF m k n ∧ longF m k n ≤ 1048581 := by
  have h1 := lenX_bd n
  unfold longF
  rw [List.getD_eq_getElem?_getD]
  generalize (tokSym (if k = 0 then copyT n 1 else repT n (k - 1))).toNat = j
  by_cases hj : j < m.length
  · have h2 := mok m[j] (List.getElem_mem hj)
    rw [List.getElem?_eq_getElem hj]
    simp only [Option.getD_some]
    omega
  · rw [List.getElem?_eq_none (by omega)]
    simp only [Option.getD_none]
    omega
theorem minL_bd {d : List Int} (hd : d.length = 52) (dok : pricesOk d) : 1 ≤ minL d ∧ minL d ≤ 1048576 := by
  have h0 : d.getD 0 0 ∈ d := by
    rw [List.getD_eq_getElem?_getD, List.getElem?_eq_getElem (by omega)]
    exact List.getElem_mem _
  rcases foldl_min_mem d (d.getD 0 0) with h | h
  · unfold minL; rw [h]; exact dok _ h0
  · exact dok _ h
theorem cheapF_bd {m d : List Int} (hm : m.length = 401) (mok : pricesOk m) (hd : d.length = 52) (dok : pricesOk d) (n : Nat) : 0 ≤ cheapF m d n ∧ cheapF m d n ≤ 2097157 := by
  have h1 := longF_bd hm mok 0 n
  have h2 := minL_bd hd dok
  have h3 := (foldl_min_le ((List.range' 1 4).map (fun k => longF m k n)) (longF m 0 n + minL d)).1
  unfold cheapF
  refine ⟨?_, by omega⟩
  rcases foldl_min_mem ((List.range' 1 4).map (fun k => longF m k n)) (longF m 0 n + minL d) with h | h
  · rw [h]; omega
  · obtain ⟨k, _, hk⟩ := List.mem_map.1 h
    have := longF_bd hm mok k n
    omega
theorem bestL_bd {E : Env} (hE : EnvOk E) (i : Nat) (l : List Int) (B : Int) (hl : ∀ j, 0 ≤ l.getD j 0 ∧ l.getD j 0 ≤ B) : 0 ≤ bestL E i l ∧ bestL E i l ≤ B + 1048576 := by
  have h0 : 0 ≤ E.m.getD (E.s.getD (E.b + i) 0).toNat 0 ∧ E.m.getD (E.s.getD (E.b + i) 0).toNat 0 ≤ 1048576 := by
    have hj : (E.s.getD (E.b + i) 0).toNat < E.m.length := by have := UInt8.toNat_lt (E.s.getD (E.b + i) 0); rw [hE.m]; omega
    have h2 := hE.mok _ (List.getElem_mem hj)
    rw [List.getD_eq_getElem?_getD, List.getElem?_eq_getElem hj]
    simp only [Option.getD_some]
    omega
  have h1 := (foldl_min_le ((List.range' 2 (longest E (E.b + i) - 1)).map (fun k => cheapF E.m E.d k + l.getD (k - 1) 0)) (E.m.getD (E.s.getD (E.b + i) 0).toNat 0 + l.getD 0 0)).1
  have h2 := hl 0
  unfold bestL
  refine ⟨?_, by omega⟩
  rcases foldl_min_mem ((List.range' 2 (longest E (E.b + i) - 1)).map (fun k => cheapF E.m E.d k + l.getD (k - 1) 0)) (E.m.getD (E.s.getD (E.b + i) 0).toNat 0 + l.getD 0 0) with h | h
  · rw [h]; omega
  · obtain ⟨k, _, hk⟩ := List.mem_map.1 h
    have h3 := cheapF_bd hE.m hE.mok hE.d hE.dok k
    have h4 := hl (k - 1)
    omega
theorem lefts_bd {E : Env} (hE : EnvOk E) (n : Nat) : ∀ k j, 0 ≤ (leftsF E n k).getD j 0 ∧ (leftsF E n k).getD j 0 ≤ (k : Int) * 1048576
  | 0, j => by
    cases j <;> simp [leftsF]
  | k + 1, j => by
    have h := bestL_bd hE (n - (k + 1)) (leftsF E n k) ((k : Int) * 1048576) (lefts_bd hE n k)
    cases j with
    | zero => simp only [leftsF, List.getD_cons_zero]; push_cast; omega
    | succ j =>
      have h2 := lefts_bd hE n k j
      simp only [leftsF, List.getD_cons_succ]; push_cast; omega
theorem leftAt_bd {E : Env} (hE : EnvOk E) (h24 : E.s.length ≤ 24) (i : Nat) : 0 ≤ leftAt E i ∧ leftAt E i ≤ 1000000000000000 := by
  have := lefts_bd hE (E.s.length - E.b) (E.s.length - E.b) i
  unfold leftAt
  omega
/-- The finder while lower works: the row of what is left, and the row of the pieces' costs. -/
structure Lw (w wr : World) (F gl : Nat) (xs : List Int) : Prop where
  fx : Fx w wr F (fun i => i = 5)
  c5 : wr.cell? ⟨F, 5, none⟩ = some (.slice (some ⟨gl, 0, none⟩) xs.length xs.length)
  left : BlkI wr gl xs
theorem Lw.call {w wr w' : World} {F gl : Nat} {xs : List Int} (h : Lw w wr F gl xs) (hF : F < w.heap.size) (hb : Below wr.heap.size wr w') : Lw w w' F gl xs :=
  ⟨h.fx.call hF hb, (hb.cell (p := ⟨F, 5, none⟩) (show F < _ by have := h.fx.size; omega)).trans h.c5, Blk.below h.left hb h.left.lt⟩
theorem Lw.set_ {w wr : World} {F gl : Nat} {xs : List Int} (h : Lw w wr F gl xs) (hF : F < w.heap.size) (hg : w.heap.size ≤ gl) (i : Nat) (y : Int) : Lw w (wr.setCell ⟨gl, i, none⟩ (.int .i64 y)) F gl (xs.set i y) :=
  ⟨h.fx.other hg hF _, by rw [List.length_set]; exact (World.cell?_setCell_other wr _ _ _ (by simp only [ne_eq, Addr.mk.injEq, and_true]; omega)).trans h.c5, h.left.set_ i y⟩
theorem Lw.other {w wr : World} {F gl g : Nat} {xs : List Int} (h : Lw w wr F gl xs) (hF : F < w.heap.size) (hg : w.heap.size ≤ g) (hne : gl ≠ g) (i : Nat) (u : Value) : Lw w (wr.setCell ⟨g, i, none⟩ u) F gl xs :=
  ⟨h.fx.other hg hF _, (World.cell?_setCell_other wr _ _ _ (by simp only [ne_eq, Addr.mk.injEq, and_true]; omega)).trans h.c5, h.left.other hne _⟩
theorem Lw.drewN {w wr : World} {F gl : Nat} {xs : List Int} (h : Lw w wr F gl xs) (n : Nat) : Lw w (wr.drewN n) F gl xs := ⟨h.fx.drewN n, h.c5, h.left⟩
theorem Lw.drew {w wr : World} {F gl : Nat} {xs : List Int} (h : Lw w wr F gl xs) : Lw w wr.drew F gl xs := ⟨h.fx.drew, h.c5, h.left⟩
/-- What lower leaves. -/
def Lowered (w w' : World) (F : Nat) (ls : List Int) : Prop := ∃ g, w.heap.size ≤ g ∧ Fx w w' F (fun i => i = 5) ∧ w'.cell? ⟨F, 5, none⟩ = some (.slice (some ⟨g, 0, none⟩) ls.length ls.length) ∧ BlkI w' g ls
set_option maxHeartbeats 4000000 in
theorem p_lower {w : World} {F c1 c2 : Nat} {E : Env} {M D : Option Addr} (h : Fin_ w F E M D c1 c2) (hE : EnvOk E) (hL : LongOk w F E.m) (hI : AllInt w F) (h5 : ∃ u, w.cell? ⟨F, 5, none⟩ = some u) (hfr : ∀ i, w.frozen? ⟨F, i, none⟩ = false) (h24 : E.s.length ≤ 24) (hM : ∀ ad, (M = some ad ∨ D = some ad) → ad.block < w.heap.size ∧ ad.block ≠ F) :
    Calls Try.prog 19 #[.pointer (some ⟨F, 0, none⟩)] w fun e w' => e = .returned (.tuple #[]) ∧ Lowered w w' F (leftsF E (E.s.length - E.b) (E.s.length - E.b)) := by
  have hF := h.lt
  have hroom := hE.room
  obtain ⟨N, hN⟩ : ∃ N, N = E.s.length - E.b := ⟨_, rfl⟩
  rw [← hN]
  obtain ⟨u5, h5⟩ := h5
  have hss := str_size E.s
  have qN : IntKind.i64.wrap ((E.s.length : Int) - (E.b : Int)) = (N : Int) := by rw [show (E.s.length : Int) - E.b = N by omega]; exact Go.IntWalk.i64_in _ (by omega)
  have hN24 : N ≤ 24 := by omega
  have hfz5 := hfr 5
  have g0 := h.s
  have g1 := h.b
  have hmk := fun w => run_make_int w (N + 1) (by omega)
  rw [show ((N + 1 : Nat) : Int) = (N : Int) + 1 from rfl] at hmk
  have HN := Lib.hid hN
  have HH := Lib.hid h
  have HL := Lib.hid hL
  have HI := Lib.hid hI
  have HM := Lib.hid hM
  clear hN h hL hI hfr hM
  go_enter Try.func19, Try.ntmps19
  go_wp2_with fail
  go_quiet (fail)
  clear g0 g1 qN hss
  have h51 : ((w.drewN nq).alloc (.cells (ivals (List.replicate (N + 1) 0)).toArray 3)).cell? ⟨F, 5, none⟩ = some u5 := by
    rw [World.cell?_alloc_lt _ _ _ (by exact hF)]; exact h5
  have f51 : ((w.drewN nq).alloc (.cells (ivals (List.replicate (N + 1) 0)).toArray 3)).frozen? ⟨F, 5, none⟩ = false := by
    rw [frozen_of (w := w) (Below.heap_alloc (w.drewN nq) _ F hF)]; exact hfz5
  have hst : Lw w (((w.drewN nq).alloc (.cells (ivals (List.replicate (N + 1) 0)).toArray 3)).setCell ⟨F, 5, none⟩ (.slice (some ⟨w.heap.size, 0, none⟩) (N + 1) (N + 1))) F w.heap.size (List.replicate (N + 1) 0) := by
    have h0 : Fx w ((w.drewN nq).alloc (.cells (ivals (List.replicate (N + 1) 0)).toArray 3)) F (fun i => i = 5) := Fx.alloc ((Fx.refl w F _).drewN nq) hF _
    have h1 : ((w.drewN nq).alloc (.cells (ivals (List.replicate (N + 1) 0)).toArray 3)).cell? ⟨F, 5, none⟩ = some u5 := by
      rw [World.cell?_alloc_lt _ _ _ (by exact hF)]; exact h5
    have e : (List.replicate (N + 1) (0 : Int)).length = N + 1 := List.length_replicate
    refine ⟨h0.trans (Fx.set_ _ (S := fun i => i = 5) rfl _ h1), ?_, ?_⟩
    · rw [e]; exact World.cell?_setCell_same _ _ _ h1
    · exact BlkI.other (BlkI.made (w.drewN nq) (N + 1)) (by show w.heap.size ≠ F; omega) _
  have hn0 : (0 : Int) ≤ (N : Int) + 1 := by omega
  go_upto_region 2 with (fail)
  generalize ((w.drewN nq).alloc (.cells (ivals (List.replicate (N + 1) 0)).toArray 3)).setCell ⟨F, 5, none⟩ (.slice (some ⟨w.heap.size, 0, none⟩) (N + 1) (N + 1)) = w1 at *
  clear h51 f51 hmk hfz5 h5
  have hMS := fun i (hi : i < 5) => (show ¬ i = 5 by omega)
  have fin1 := hst.fx.fin HH.out hMS HM.out
  have d3 := fin1.pd
  have hmin := p_Min D c2 E.d w1 fin1.rd (by rw [hE.d]; omega) (by rw [hE.d]; omega)
  rw [hE.d] at d3 hmin
  have hF1 : F < w1.heap.size := fin1.lt
  have hmb := minL_bd hE.d hE.dok
  clear fin1
  go_wp2_with fail
  refine hmin.mono ?_
  rintro e w2 ⟨rfl, rfl⟩
  have hmk2 := run_make_int w1 259 (by omega)
  have hmk2' : (Instr.makeSlice 28 (.int .i64 259) (.int .i64 259)).run Try.prog w1 = _ := hmk2
  clear hmk2 hmin d3
  have hp2 := BlkI.made w1 259
  have hst2 := hst.call hF (bl_alloc (Below.refl w1.heap.size w1) (.cells (ivals (List.replicate 259 0)).toArray 3))
  have hg2 : w.heap.size < w1.heap.size := hst.left.lt
  generalize (ivals (List.replicate 259 0)).toArray = ZZ at *
  obtain ⟨zs, hzs⟩ : ∃ zs : List Int, zs = List.replicate 259 0 := ⟨_, rfl⟩
  have hzl : zs.length = 259 := by rw [hzs]; exact List.length_replicate
  rw [← hzs] at hp2
  clear hzs
  go_upto_region 4 with (fail)
  generalize w1.alloc (.cells ZZ 3) = w2 at *
  have HZL := Lib.hid hzl
  clear hzl
  generalize hgp : w1.heap.size = gp at *
  generalize hdm : minL E.d = dm at *
  have HDM := Lib.hid hdm
  clear hdm hgp hmk2' hst hF1
  go_wp2_with fail
  go_loopw [5] (fun v5 wr => ∃ (k : Nat) (ps : List Int), 2 ≤ k ∧ k ≤ min N 258 + 1 + 1 ∧ v5 = .int .i64 k ∧ Lw w wr F w.heap.size (List.replicate (N + 1) 0) ∧ BlkI wr gp ps ∧ ps.length = 259 ∧ ∀ j, 2 ≤ j → j < k → ps.getD j 0 = cheapF E.m E.d j) (fun v5 _ => 30 - (intOf v5).toNat)
  case atStart => exact ⟨2, zs, Nat.le_refl _, by omega, rfl, hst2, hp2, HZL.out, fun j a b => by omega⟩
  case round =>
    obtain ⟨k, ps, hk1, hk2, rfl, hlw, hps, hpl, hpv⟩ := hrel
    have HPV := Lib.hid hpv
    have HPL := Lib.hid hpl
    have hmin' : min N 258 = N := by omega
    clear hpv hpl
    by_cases hk : k ≤ N
    · have hk258 : k ≤ 258 := by omega
      have hki : (k : Int) ≤ (N : Int) := by omega
      have hNi : (N : Int) ≤ 258 := by omega
      have hch := p_cheapest (hlw.fx.long HL.out (fun i hi => (show ¬ i = 5 by omega))) (hlw.fx.ints HI.out (fun i hi => (show ¬ i = 5 by omega))) (show F < wr.heap.size by have := hlw.fx.size; omega) hk1 hk258 (dist := dm) (by omega) (by omega) (fun j => longF_bd hE.m hE.mok j k)
      have HCH : Hid (((List.range' 1 4).map (fun j => longF E.m j k)).foldl min (longF E.m 0 k + dm) = cheapF E.m E.d k) := Lib.hid (by rw [← HDM.out]; rfl)
      generalize ((List.range' 1 4).map (fun j => longF E.m j k)).foldl min (longF E.m 0 k + dm) = ch at *
      go_wp2_with fail
      refine hch.mono ?_
      rintro e w3 ⟨rfl, hb3⟩
      have hlw3 := hlw.call hF hb3
      have hps3 : BlkI w3 gp ps := Blk.below hps hb3 hps.lt
      have hx := BlkI.at_ hps3 k (by have := HPL.out; omega)
      have hz := Blk.frozen hps3 k
      have hlw4 := hlw3.other hF (show w.heap.size ≤ gp by omega) (by omega) k (.int .i64 ch)
      have hps4 := hps3.set_ k ch
      have q1 : (k : Int) < 259 := by omega
      have HX := Lib.hid (And.intro hlw4 hps4)
      generalize ps[k]'(by have := HPL.out; omega) = y0 at hx
      clear hlw hps hb3 hlw3 hps3 hlw4 hps4 hch
      go_wp2_with fail
      go_roundw
      case rel =>
        refine ⟨k + 1, ps.set k ch, by omega, by omega, by go_num, HX.out.1, HX.out.2, by rw [List.length_set]; exact HPL.out, fun j a b => ?_⟩
        rw [List.getD_eq_getElem?_getD, List.getElem?_set]
        by_cases e : k = j
        · subst e
          rw [if_pos rfl, if_pos (by have := HPL.out; omega)]
          exact HCH.out
        · rw [if_neg e, ← List.getD_eq_getElem?_getD]
          exact HPV.out j a (by omega)
      case measure => simp [intOf]; omega
    · have hki : (N : Int) < (k : Int) := by omega
      have hNi : (N : Int) ≤ 258 := by omega
      have hPW : Hid (∀ j, 2 ≤ j → j ≤ N → ps.getD j 0 = cheapF E.m E.d j) := Lib.hid (fun j a b => HPV.out j a (by omega))
      have hkb : k ≤ 26 := by omega
      clear hkb
      go_wp2_with fail
      have hls : (List.replicate (N + 1) (0 : Int)).drop N = leftsF E N (N - N) := by
        rw [Nat.sub_self, List.drop_replicate, show N + 1 - N = 1 by omega]; rfl
      have hxl : (List.replicate (N + 1) (0 : Int)).length = N + 1 := List.length_replicate
      generalize List.replicate (N + 1) (0 : Int) = xs0 at *
      have HLS := Lib.hid (And.intro hls hxl)
      clear hls hxl
      go_loopw [6] (fun v6 wr => ∃ (t : Nat) (xs : List Int), t ≤ N ∧ v6 = .int .i64 ((t : Int) - 1) ∧ Lw w wr F w.heap.size xs ∧ BlkI wr gp ps ∧ xs.length = N + 1 ∧ xs.drop t = leftsF E N (N - t)) (fun v6 _ => (intOf v6 + 1).toNat)
      case atStart => exact ⟨N, xs0, Nat.le_refl _, rfl, hlw, hps, HLS.out.2, HLS.out.1⟩
      case round =>
        obtain ⟨t, xs, ht, rfl, hlw, hps, hxl, hxd⟩ := hrel
        cases t with
        | zero =>
          rw [List.drop_zero, Nat.sub_zero] at hxd
          subst hxd
          have HE := Lib.hid hlw
          clear hlw hps hxl
          have hz0 : ((0 : Nat) : Int) - 1 = -1 := by omega
          rw [hz0]
          go_wp2
          refine bodyPost_end (results_none rfl _ _ _) rfl ⟨rfl, w.heap.size, Nat.le_refl _, HE.out.fx, HE.out.c5, HE.out.left⟩
        | succ i =>
          have hi1 : ((i + 1 : Nat) : Int) - 1 = (i : Int) := by omega
          rw [hi1]
          have HI1 := Lib.hid hi1
          clear hi1
          have HXD := Lib.hid hxd
          have HXL := Lib.hid hxl
          have HLW := Lib.hid hlw
          have hii : (0 : Int) ≤ (i : Int) := by omega
          have hiN : i < N := by omega
          obtain ⟨a, ha⟩ : ∃ a, a = E.b + i := ⟨_, rfl⟩
          have hbi : (E.b : Int) + (i : Int) = (a : Int) := by omega
          have hae : a < E.s.length := by have := HN.out; omega
          have HA := Lib.hid ha
          have f1 := hlw.fx.fin HH.out hMS HM.out
          have fb := f1.b
          have HBI := Lib.hid hbi
          have hFr : F < wr.heap.size := f1.lt
          clear hxd hxl ha hbi ht
          go_upto_region 11 with (fail)
          go_cut [53, 54, 55, 56, 57, 58, 7] (fun _ _ _ _ _ _ v7 wc => v7 = .int .i64 a ∧ wc = wr)
          case first =>
            go_wp2_with fail
            go_meet
            case rel => exact ⟨by rw [HBI.out], rfl⟩
          obtain ⟨rfl, hw⟩ := hcut
          rw [hw]
          clear hw fb
          -- the literal's cost
          have hYl := UInt8.toNat_lt (E.s.getD a 0)
          have hby := fun w' => run_byte E.s (a : Int) (by omega) (by omega) w'
          rw [Int.toNat_natCast] at hby
          have HY := Lib.hid (show (E.s.getD a 0).toNat = (E.s.getD a 0).toNat from rfl)
          generalize hYY : (E.s.getD a 0).toNat = Y at *
          have HYY := Lib.hid hYY
          clear hYY HY
          obtain ⟨adm, hMa, hma, g2⟩ := f1.rm.at_ Y (by rw [hE.m]; omega)
          have c2m := f1.pm
          rw [hMa, hE.m] at c2m
          have f0 := f1.s
          have hm0 := hE.mok _ (List.getElem_mem (show Y < E.m.length by rw [hE.m]; omega))
          have HMY : Hid (E.m.getD Y 0 = E.m[Y]'(by rw [hE.m]; omega)) := Lib.hid (by rw [List.getD_eq_getElem?_getD, List.getElem?_eq_getElem (by rw [hE.m]; omega)]; rfl)
          generalize E.m[Y]'(by rw [hE.m]; omega) = mY at *
          have c5 := hlw.c5
          rw [HXL.out] at c5
          have xl1 := hlw.left.at_ (i + 1) (by rw [HXL.out]; omega)
          have xl0 := hlw.left.at_ i (by rw [HXL.out]; omega)
          have xf := Blk.frozen hlw.left i
          have hl0 : Hid (xs[i + 1]'(by rw [HXL.out]; omega) = (leftsF E N (N - (i + 1))).getD 0 0) := Lib.hid (by
            have h5 : xs[i + 1]? = some (xs[i + 1]'(by rw [HXL.out]; omega)) := List.getElem?_eq_getElem _
            rw [← HXD.out, List.getD_eq_getElem?_getD, List.getElem?_drop]
            show _ = (xs[i + 1]?).getD 0
            rw [h5]; rfl)
          have hlb := lefts_bd hE N (N - (i + 1)) 0
          rw [← hl0.out] at hlb
          generalize xs[i + 1]'(by rw [HXL.out]; omega) = l1 at *
          generalize xs[i]'(by rw [HXL.out]; omega) = l00 at xl0
          obtain ⟨q, hq⟩ : ∃ q, q = i + 1 := ⟨_, rfl⟩
          have hw1 : IntKind.i64.wrap ((i : Int) + 1) = (q : Int) := by rw [show (i : Int) + 1 = q by omega]; exact Go.IntWalk.i64_in _ (by omega)
          rw [← hq] at xl1
          have HQ := Lib.hid hq
          have hqN : (q : Int) < (N : Int) + 1 := by omega
          have hiN1 : (i : Int) < (N : Int) + 1 := by omega
          have hq0 : (0 : Int) ≤ (q : Int) := by omega
          have hlb2 : l1 ≤ 100000000 := by omega
          have hlb1 : 0 ≤ l1 := hlb.1
          have hw2 : IntKind.i64.wrap (mY + l1) = mY + l1 := Go.IntWalk.i64_in _ (by omega)
          have hY401 : (Y : Int) < 401 := by omega
          have ha0 : (0 : Int) ≤ (a : Int) := by omega
          have hgw := hlw.left.lt
          have hlw1 := hlw.set_ hF (Nat.le_refl _) i (mY + l1)
          have hps1 := hps.other (p := ⟨w.heap.size, i, none⟩) (by show gp ≠ w.heap.size; omega) (.int .i64 (mY + l1))
          have HNW := Lib.hid (And.intro hlw1 hps1)
          clear hq hlb hlw1 hps1 hlw hps f1
          go_upto_region 12 with (fail)
          go_cut [86] (fun _ wc => Lw w wc F w.heap.size (xs.set i (mY + l1)) ∧ BlkI wc gp ps)
          case first =>
            go_region
            all_goals
              go_wp2_with fail
              go_meet
              case rel => first | exact HNW.out | exact ⟨HNW.out.1.drew, HNW.out.2⟩
          obtain ⟨hlw, hps⟩ := hcut
          generalize wc = wr at *
          have hLON : Hid (longest E a = ((List.range' 1 (farC E a)).map (fun x => shr E a (x : Nat))).foldl max 0) := Lib.hid rfl
          have HFR : Hid (farC E a = if (a : Int) ≤ E.win then a else E.win.toNat) := Lib.hid rfl
          have hshr : ∀ x : Int, shr E a x ≤ N - i := fun x => by
            have h1 := shr_room E a x (by omega)
            have h2 := HN.out
            have h3 := HA.out
            omega
          have HSHR := Lib.hid hshr
          generalize hlo : longest E a = lo at *
          generalize hfa : farC E a = far at *
          have HLO := Lib.hid hlo
          have hfar24 : far ≤ 24 := by have := HFR.out; split at this <;> omega
          have HFA := Lib.hid hfa
          clear hfa hlo hshr xl0 xl1 xf c5 c2m f0 g2 hma hby hw2 HNW
          have hsub : (N : Int) - (i : Int) = ((N - i : Nat) : Int) := by omega
          obtain ⟨R, hR⟩ : ∃ R, R = N - i := ⟨_, rfl⟩
          rw [← hR] at hsub
          have hR24 : R ≤ 24 := by omega
          have HR := Lib.hid hR
          have HSUB := Lib.hid hsub
          clear hR hsub
          go_wp2_with fail
          go_loopw [8, 9] (fun v8 v9 wr => ∃ (lg d : Nat), 1 ≤ d ∧ d ≤ far + 1 ∧ v8 = .int .i64 lg ∧ v9 = .int .i64 d ∧ lg ≤ R ∧ ((List.range' d (far + 1 - d)).map (fun x => shr E a (x : Nat))).foldl max lg = lo ∧ Lw w wr F w.heap.size (xs.set i (mY + l1)) ∧ BlkI wr gp ps) (fun _ v9 _ => 26 - (intOf v9).toNat)
          case atStart =>
            refine ⟨0, 1, Nat.le_refl _, by omega, rfl, rfl, Nat.zero_le _, ?_, hlw, hps⟩
            rw [show far + 1 - 1 = far by omega]
            exact hLON.out.symm
          case round =>
            obtain ⟨lg, d, hd1, hd2, rfl, rfl, hlg, hfm, hlw, hps⟩ := hrel
            have HFM := Lib.hid hfm
            clear hfm
            have f1 := hlw.fx.fin HH.out hMS HM.out
            have f4 := f1.win
            have hFr2 : F < wr.heap.size := f1.lt
            have hw1e := hE.win1
            go_upto_region 15 with (fail)
            go_cut [87, 88, 89, 90, 91, 92, 93, 94, 95, 96, 97, 98, 99, 100, 101, 102] (fun _ _ _ _ _ _ _ _ _ _ _ _ _ _ _ v102 wc => v102 = .bool (decide (d ≤ far ∧ lg < R)) ∧ wc = wr)
            case first =>
              have e2 : decide ((lg : Int) < min ((N : Int) - (i : Int)) 258) = decide (lg < R) := by
                rw [decide_eq_decide, HSUB.out]; omega
              have HE2 := Lib.hid e2
              by_cases hdf : d ≤ far
              · have HD : Hid (decide (lg < R) = decide (d ≤ far ∧ lg < R)) := Lib.hid (by simp [hdf])
                have e1 : decide ((d : Int) ≤ min (a : Int) E.win) = true := by
                  rw [decide_eq_true_eq]; have := HFR.out; split at this <;> omega
                generalize decide (d ≤ far ∧ lg < R) = BB at *
                clear hdf
                go_wp2
                go_meet
                case rel =>
                  refine ⟨?_, rfl⟩
                  rw [← HD.out]
              · have HD : Hid (decide (d ≤ far ∧ lg < R) = false) := Lib.hid (by simp [hdf])
                have e1 : decide ((d : Int) ≤ min (a : Int) E.win) = false := by
                  rw [decide_eq_false_iff_not]; have := HFR.out; split at this <;> omega
                generalize decide (d ≤ far ∧ lg < R) = BB at *
                clear hdf e2
                go_wp2
                go_meet
                case rel => exact ⟨by rw [HD.out], rfl⟩
            obtain ⟨rfl, hw⟩ := hcut
            rw [hw]
            clear hw f4
            by_cases hC : d ≤ far ∧ lg < R
            · have e1 : decide (d ≤ far ∧ lg < R) = true := by simpa using hC
              rw [e1]
              clear e1
              have HN2 : Hid (((List.range' (d + 1) (far + 1 - (d + 1))).map (fun x => shr E a (x : Nat))).foldl max (max lg (shr E a (d : Nat))) = lo) := Lib.hid (by
                rw [← HFM.out, show far + 1 - d = (far + 1 - (d + 1)) + 1 by omega, List.range'_succ, List.map_cons, List.foldl_cons])
              have hsR := HSHR.out (d : Int)
              rw [← HR.out] at hsR
              have hmx : max (lg : Int) ((shr E a (d : Nat) : Nat) : Int) = ((max lg (shr E a (d : Nat)) : Nat) : Int) := by omega
              have hmxR : max lg (shr E a (d : Nat)) ≤ R := by omega
              have hsh := p_shared f1 a (d : Int) (by omega) (by omega)
              generalize shr E a (d : Nat) = sh at *
              have HMX := Lib.hid hmx
              have hdf := hC.1
              clear hmx f1 hC
              go_wp2_with fail
              refine hsh.mono ?_
              rintro e w3 ⟨rfl, hb3⟩
              have hlw3 := hlw.call hF hb3
              have hps3 : BlkI w3 gp ps := Blk.below hps hb3 hps.lt
              clear hlw hps hsh hb3
              go_wp2_with fail
              all_goals
                go_roundw
                case rel => exact ⟨max lg sh, d + 1, by omega, by omega, by rw [← HMX.out] <;> first | rfl | (congr 1; omega), by go_num, hmxR, HN2.out, hlw3, hps3⟩
                case measure => simp [intOf]; omega
            · have e1 : decide (d ≤ far ∧ lg < R) = false := by simpa using hC
              rw [e1]
              clear e1 f1
              have hlgo : lg = lo := by
                by_cases hdf : d ≤ far
                · have hlr : lg = R := by omega
                  have h1 := (le_foldl_max ((List.range' d (far + 1 - d)).map (fun x => shr E a (x : Nat))) lg).1
                  rw [HFM.out] at h1
                  have h2 : lo ≤ R := by
                    rw [← HFM.out]
                    have : ∀ (l : List Nat) (z : Nat), (∀ x ∈ l, x ≤ R) → z ≤ R → l.foldl max z ≤ R := by
                      intro l
                      induction l with
                      | nil => intro z _ h; exact h
                      | cons y l ih => intro z h1 h2; rw [List.foldl_cons]; exact ih _ (fun x hx => h1 x (List.mem_cons_of_mem _ hx)) (by have := h1 y (by simp); omega)
                    refine this _ _ (fun x hx => ?_) hlg
                    obtain ⟨j, _, rfl⟩ := List.mem_map.1 hx
                    have := HSHR.out (j : Int)
                    rw [← HR.out] at this
                    exact this
                  omega
                · have h1 := HFM.out
                  rw [show far + 1 - d = 0 by omega] at h1
                  exact h1
              subst hlgo
              clear hC
              obtain ⟨l, hl⟩ : ∃ l, l = leftsF E N (N - (i + 1)) := ⟨_, rfl⟩
              have hxl : xs.drop (i + 1) = l := HXD.out.trans hl.symm
              have HTG : Hid (((List.range' 2 (lg + 1 - 2)).map (fun j => cheapF E.m E.d j + l.getD (j - 1) 0)).foldl min (mY + l1) = bestL E i l) := Lib.hid (by
                unfold bestL
                rw [← HA.out, HLO.out, HYY.out, HMY.out, hl0.out, ← hl]
                rfl)
              have hlbd : ∀ j, 0 ≤ l.getD j 0 ∧ l.getD j 0 ≤ 100000000 := fun j => by
                have := lefts_bd hE N (N - (i + 1)) j
                rw [← hl] at this
                omega
              have HLBD := Lib.hid hlbd
              have HL0 := Lib.hid hl
              have HXL2 := Lib.hid hxl
              have hy0 : 0 ≤ mY + l1 ∧ mY + l1 ≤ 200000000 := by omega
              generalize htg : bestL E i l = tgt at *
              have HTT := Lib.hid htg
              clear htg hl hxl hlbd
              go_wp2_with fail
              go_loopw [10] (fun v10 wr => ∃ (k2 : Nat) (y : Int), 2 ≤ k2 ∧ k2 ≤ lg + 2 ∧ v10 = .int .i64 k2 ∧ ((List.range' k2 (lg + 1 - k2)).map (fun j => cheapF E.m E.d j + l.getD (j - 1) 0)).foldl min y = tgt ∧ (0 ≤ y ∧ y ≤ 200000000) ∧ Lw w wr F w.heap.size (xs.set i y) ∧ BlkI wr gp ps) (fun v10 _ => 28 - (intOf v10).toNat)
              case atStart => exact ⟨2, mY + l1, Nat.le_refl _, by omega, rfl, HTG.out, hy0, hlw, hps⟩
              case round =>
                obtain ⟨k2, y, hk21, hk22, rfl, hfm, hyb, hlw, hps⟩ := hrel
                have HFM2 := Lib.hid hfm
                clear hfm
                by_cases hkl : k2 ≤ lg
                · have hki : (k2 : Int) ≤ (lg : Int) := by omega
                  have hRi := HR.out
                  have c5 := hlw.c5
                  rw [List.length_set, HXL.out] at c5
                  have hsl : (xs.set i y).length = N + 1 := by rw [List.length_set, HXL.out]
                  have y0 := hlw.left.at_ i (by omega)
                  rw [List.getElem_set_self] at y0
                  have yk := hlw.left.at_ (i + k2) (by omega)
                  rw [List.getElem_set_ne (by omega)] at yk
                  have hlv : Hid (xs[i + k2]'(by rw [HXL.out]; omega) = l.getD (k2 - 1) 0) := Lib.hid (by
                    have h5 : xs[i + k2]? = some (xs[i + k2]'(by rw [HXL.out]; omega)) := List.getElem?_eq_getElem _
                    rw [← HXL2.out, List.getD_eq_getElem?_getD, List.getElem?_drop, show i + 1 + (k2 - 1) = i + k2 by omega, h5]; rfl)
                  have hlb3 := HLBD.out (k2 - 1)
                  rw [← hlv.out] at hlb3
                  generalize xs[i + k2]'(by rw [HXL.out]; omega) = lv at *
                  have yp := hps.at_ k2 (by have := HPL.out; omega)
                  have hcv : Hid (ps[k2]'(by have := HPL.out; omega) = cheapF E.m E.d k2) := Lib.hid (by
                    rw [← hPW.out k2 hk21 (by omega), List.getD_eq_getElem?_getD, List.getElem?_eq_getElem (by have := HPL.out; omega)]; rfl)
                  have hcb := cheapF_bd hE.m hE.mok hE.d hE.dok k2
                  rw [← hcv.out] at hcb
                  generalize ps[k2]'(by have := HPL.out; omega) = ch at *
                  have yf := Blk.frozen hlw.left i
                  obtain ⟨q2, hq2⟩ : ∃ q2, q2 = i + k2 := ⟨_, rfl⟩
                  have hqw : IntKind.i64.wrap ((i : Int) + (k2 : Int)) = (q2 : Int) := by rw [show (i : Int) + k2 = q2 by omega]; exact Go.IntWalk.i64_in _ (by omega)
                  rw [← hq2] at yk
                  have hqN2 : (q2 : Int) < (N : Int) + 1 := by omega
                  have hq20 : (0 : Int) ≤ (q2 : Int) := by omega
                  have hcw : IntKind.i64.wrap (ch + lv) = ch + lv := Go.IntWalk.i64_in _ (by omega)
                  have hk259 : (k2 : Int) < 259 := by omega
                  have HN3 : Hid (((List.range' (k2 + 1) (lg + 1 - (k2 + 1))).map (fun j => cheapF E.m E.d j + l.getD (j - 1) 0)).foldl min (min y (ch + lv)) = tgt) := Lib.hid (by
                    rw [← HFM2.out, show lg + 1 - k2 = (lg + 1 - (k2 + 1)) + 1 by omega, List.range'_succ, List.map_cons, List.foldl_cons, hcv.out, hlv.out])
                  have HNW : Hid (∀ z, Lw w (wr.setCell ⟨w.heap.size, i, none⟩ (.int .i64 z)) F w.heap.size (xs.set i z) ∧ BlkI (wr.setCell ⟨w.heap.size, i, none⟩ (.int .i64 z)) gp ps) := Lib.hid (fun z => by
                    have h1 := hlw.set_ hF (Nat.le_refl _) i z
                    rw [List.set_set] at h1
                    exact ⟨h1, hps.other (p := ⟨w.heap.size, i, none⟩) (by show gp ≠ w.heap.size; omega) (.int .i64 z)⟩)
                  have hFr4 : F < wr.heap.size := by have := hlw.fx.size; omega
                  have hyb2 : 0 ≤ min y (ch + lv) ∧ min y (ch + lv) ≤ 200000000 := by omega
                  clear hlw hps hsl hq2
                  go_upto_region 21 with (fail)
                  go_region
                  all_goals go_wp2_with fail
                  all_goals
                    go_roundw
                    case rel => exact ⟨k2 + 1, min y (ch + lv), by omega, by omega, by go_num, HN3.out, hyb2, (HNW.out _).1.drew, (HNW.out _).2⟩
                    case measure => simp [intOf]; omega
                · have hki : (lg : Int) < (k2 : Int) := by omega
                  have hyt : y = tgt := by
                    have := HFM2.out
                    rw [show lg + 1 - k2 = 0 by omega] at this
                    exact this
                  have hfin : (xs.set i y).drop i = leftsF E N (N - i) := by
                    have h5 : N - i = (N - (i + 1)) + 1 := by omega
                    rw [h5]
                    show _ = bestL E (N - (N - (i + 1) + 1)) (leftsF E N (N - (i + 1))) :: leftsF E N (N - (i + 1))
                    rw [← HL0.out, show N - (N - (i + 1) + 1) = i by omega, HTT.out, ← hyt, List.drop_eq_getElem_cons (by rw [List.length_set, HXL.out]; omega), List.getElem_set_self, List.drop_set_of_lt (by omega), HXL2.out]
                  have HFIN := Lib.hid hfin
                  clear hfin
                  go_wp2_with fail
                  go_roundw
                  case rel => exact ⟨i, _, by omega, rfl, hlw, hps, by rw [List.length_set, HXL.out], HFIN.out⟩
                  case measure => simp [intOf] <;> omega
end Go.Proofs.Ytndkgjoaljcijaa
