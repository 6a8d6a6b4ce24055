/- Chapter 26 (best): reckon, cheapest, and the library's Min: by walks. -/
import Derived.Test.YtndkgjoaljcijaaBsFd
import Derived.Deep.CutBlock
import Derived.Deep.MidRow
import Derived.Great.Walk
import Derived.BigQuiet
import Derived.BigRegion
import Derived.Deep.QuietTactic
set_option linter.unusedSimpArgs false
set_option linter.unusedVariables false
set_option maxRecDepth 100000
namespace Go.Proofs.Ytndkgjoaljcijaa
open Go.RowKit

/-- What a change of F's block alone leaves: but for the cells of S. -/
structure Fx (w w' : World) (F : Nat) (S : Nat → Prop) : Prop where
  cells : ∀ i, ¬ S i → w'.cell? ⟨F, i, none⟩ = w.cell? ⟨F, i, none⟩
  some_ : ∀ i u, w.cell? ⟨F, i, none⟩ = some u → ∃ u', w'.cell? ⟨F, i, none⟩ = some u'
  frozen : ∀ i, w'.frozen? ⟨F, i, none⟩ = w.frozen? ⟨F, i, none⟩
  os : w'.os = w.os
  tape : w'.tape = w.tape
  output : w'.output = w.output
  size : w.heap.size ≤ w'.heap.size
  block : ∀ k, k < w.heap.size → k ≠ F → w'.heap[k]? = w.heap[k]?
/-- The cells that reckon writes. -/
def RS (i : Nat) : Prop := 10 ≤ i ∧ 2 ≤ (i - 10) % 259
theorem Fx.refl (w : World) (F : Nat) (S : Nat → Prop) : Fx w w F S := ⟨fun _ _ => rfl, fun _ u h => ⟨u, h⟩, fun _ => rfl, rfl, rfl, rfl, Nat.le_refl _, fun _ _ _ => rfl⟩
theorem Fx.trans {w w1 w2 : World} {F : Nat} {S : Nat → Prop} (h : Fx w w1 F S) (h2 : Fx w1 w2 F S) : Fx w w2 F S :=
  ⟨fun i hi => (h2.cells i hi).trans (h.cells i hi), fun i u hu => by obtain ⟨u', h'⟩ := h.some_ i u hu; exact h2.some_ i u' h', fun i => (h2.frozen i).trans (h.frozen i), h2.os.trans h.os, h2.tape.trans h.tape, h2.output.trans h.output, Nat.le_trans h.size h2.size, fun k hk hF => (h2.block k (Nat.lt_of_lt_of_le hk h.size) hF).trans (h.block k hk hF)⟩
theorem Fx.below {w w' : World} {F : Nat} (hb : Below w.heap.size w w') (hF : F < w.heap.size) (S : Nat → Prop) : Fx w w' F S :=
  ⟨fun i _ => hb.cell (p := ⟨F, i, none⟩) hF, fun i u hu => ⟨u, (hb.cell (p := ⟨F, i, none⟩) hF).trans hu⟩, fun i => hb.frozen (p := ⟨F, i, none⟩) hF, hb.os, hb.tape, hb.output, hb.size, fun k hk _ => hb.block k hk⟩
theorem Fx.set_ (w : World) {F : Nat} {S : Nat → Prop} {i : Nat} (hi : S i) {u0 : Value} (u : Value) (h0 : w.cell? ⟨F, i, none⟩ = some u0) : Fx w (w.setCell ⟨F, i, none⟩ u) F S :=
  ⟨fun j hj => World.cell?_setCell_other w _ _ _ (by simp only [ne_eq, Addr.mk.injEq, and_true, true_and]; exact fun q => hj (q ▸ hi)), fun j v hv => by
    by_cases q : j = i
    · subst q; exact ⟨u, World.cell?_setCell_same w _ _ h0⟩
    · exact ⟨v, (World.cell?_setCell_other w _ _ _ (by simp only [ne_eq, Addr.mk.injEq, and_true, true_and]; exact fun z => q z.symm)).trans hv⟩, fun j => World.frozen?_setCell _ _ _ _, rfl, rfl, rfl, by simp [World.setCell], fun k _ hk => Below.heap_setCell w ⟨F, i, none⟩ _ k hk⟩
theorem Fx.drewN {w w' : World} {F : Nat} {S : Nat → Prop} (h : Fx w w' F S) (n : Nat) : Fx w (w'.drewN n) F S := ⟨h.cells, h.some_, h.frozen, h.os, h.tape, h.output, h.size, h.block⟩
theorem Fx.drew {w w' : World} {F : Nat} {S : Nat → Prop} (h : Fx w w' F S) : Fx w w'.drew F S := ⟨h.cells, h.some_, h.frozen, h.os, h.tape, h.output, h.size, h.block⟩

set_option maxHeartbeats 4000000 in
theorem p_Min (A : Option Addr) (c : Nat) (l : List Int) (w : World) (h : ReadsI w A l) (h1 : 1 ≤ l.length) (h2 : l.length ≤ 1000000) :
    Calls Try.prog 33 #[.slice A l.length c] w fun e w' => e = .returned (.int .i64 (minL l)) ∧ w = w' := by
  obtain ⟨ad, rfl, had, g0⟩ := h.at_ 0 h1
  have hlc : l = l[0] :: l.drop 1 := by
    match l, h1 with
    | a :: r, _ => rfl
  have HM : Hid (minL l = (l.drop 1).foldl min l[0]) := Lib.hid (by
    unfold minL
    conv => lhs; rw [hlc]
    rw [List.foldl_cons]
    simp)
  clear hlc
  have a0 : ad.add 0 = ad := by unfold Addr.add; simp
  rw [a0] at g0
  generalize l[0] = z0 at *
  have q0 : (1 : Int) ≤ l.length := by omega
  have q1 : (0 : Int) < l.length := by omega
  clear a0
  go_enter Try.func33, Try.ntmps33
  go_wp2_with fail
  go_loop [3, 4] (fun v3 v4 => ∃ (k : Nat) (z : Int), 1 ≤ k ∧ k ≤ l.length ∧ v4 = .int .i64 k ∧ v3 = .int .i64 z ∧ (l.drop k).foldl min z = minL l) (fun _ v4 => l.length - (intOf v4).toNat)
  case atStart => exact ⟨1, z0, Nat.le_refl _, h1, rfl, rfl, HM.out.symm⟩
  case round =>
    obtain ⟨k, z, hk1, hk2, rfl, rfl, hz⟩ := hrel
    by_cases hk : k < l.length
    · obtain ⟨_, e0, -, g1⟩ := h.at_ k hk
      injection e0 with e0
      subst e0
      have HN : Hid ((l.drop (k + 1)).foldl min (min z l[k]) = minL l) := Lib.hid (by
        rw [← hz, List.drop_eq_getElem_cons hk, List.foldl_cons])
      generalize l[k] = y at *
      have HZ := Lib.hid hz
      clear hz
      go_wp2_with fail
      all_goals
        go_round
        case rel => exact ⟨k + 1, _, by omega, by omega, by go_num, rfl, by rw [← HN.out] <;> first | rfl | (congr 1; done) | (congr 1; omega)⟩
        case measure => simp [intOf]; omega
    · obtain rfl : k = l.length := by omega
      rw [List.drop_length] at hz
      have HZ := Lib.hid hz
      clear hz
      go_wp2
      go_ret
      exact ⟨by rw [← HZ.out]; rfl, rfl⟩
def tokK (k n : Nat) : Tok := if k = 0 then copyT n 1 else repT n (k - 1)
theorem tokK_sym {k n : Nat} (hk : k < 5) (hn : 2 ≤ n) (hn2 : n ≤ 258) : 0 ≤ tokSym (tokK k n) ∧ tokSym (tokK k n) ≤ 400 := by
  have ho : tokOk (tokK k n) := by
    unfold tokK
    split
    · exact .inr (.inl ⟨rfl, by simp only [copyT]; omega, by simp only [copyT]; omega, rfl, rfl, by simp only [copyT]; omega, by simp only [copyT]; omega⟩)
    · exact .inr (.inr ⟨rfl, by simp only [repT]; omega, by simp only [repT]; omega, rfl, rfl, by simp only [repT]; omega, by simp only [repT]; omega⟩)
  exact tokSym_bd ho
/-- So far as the costs are reckoned. -/
def LongTo (w : World) (F : Nat) (m : List Int) (n k : Nat) : Prop := ∀ k' n' : Nat, k' < 5 → 2 ≤ n' → n' ≤ 258 → (n' < n ∨ (n' = n ∧ k' < k)) → w.cell? ⟨F, 10 + k' * 259 + n', none⟩ = some (.int .i64 (longF m k' n'))
theorem LongTo.below {w w' : World} {F : Nat} {m : List Int} {n k : Nat} (h : LongTo w F m n k) (hF : F < w.heap.size) (hb : Below w.heap.size w w') : LongTo w' F m n k := fun k' n' a b c d => (hb.cell (p := ⟨F, _, none⟩) hF).trans (h k' n' a b c d)
theorem LongTo.step {w : World} {F : Nat} {m : List Int} {n k : Nat} (h : LongTo w F m n k) (hk : k < 5) (hn : n ≤ 258) {u : Value} (h0 : w.cell? ⟨F, 10 + k * 259 + n, none⟩ = some u) : LongTo (w.setCell ⟨F, 10 + k * 259 + n, none⟩ (.int .i64 (longF m k n))) F m n (k + 1) := by
  intro k' n' a b c d
  by_cases q : k' = k ∧ n' = n
  · obtain ⟨rfl, rfl⟩ := q
    exact World.cell?_setCell_same w _ _ h0
  · refine (World.cell?_setCell_other w _ _ _ ?_).trans (h k' n' a b c (by omega))
    simp only [ne_eq, Addr.mk.injEq, and_true, true_and]
    omega
set_option maxHeartbeats 4000000 in
theorem p_reckon {w : World} {F c1 : Nat} {M : Option Addr} {m : List Int} (hF : F < w.heap.size) (hM : w.cell? ⟨F, 2, none⟩ = some (.slice M m.length c1)) (rm : ReadsI w M m) (hm : m.length = 401) (mok : pricesOk m) (hMF : ∀ ad, M = some ad → ad.block ≠ F)
    (hsome : ∀ j, j < 1305 → ∃ u, w.cell? ⟨F, j, none⟩ = some u) (hfr : ∀ i, w.frozen? ⟨F, i, none⟩ = false) :
    Calls Try.prog 18 #[.pointer (some ⟨F, 0, none⟩)] w fun e w' => e = .returned (.tuple #[]) ∧ Fx w w' F RS ∧ LongOk w' F m := by
  obtain ⟨ad, rfl, had, -⟩ := rm.at_ 0 (by omega)
  rw [hm] at hM
  have hrk : ∀ wr, Fx w wr F RS → ReadsI wr (some ad) m := fun wr hx => reads_keep rm hx.size (fun a ha => by injection ha with ha; subst ha; exact hx.block _ had (hMF _ rfl))
  have hlen : ∀ n : Nat, n < 259 → ∀ k : Nat, k < 5 → 10 + k * 259 + n < 1305 := fun n hn k hk => by omega
  clear rm hMF
  go_enter Try.func18, Try.ntmps18
  go_wp2_with fail
  go_loopw [2] (fun v2 wr => ∃ n : Nat, 2 ≤ n ∧ n ≤ 259 ∧ v2 = .int .i64 n ∧ Fx w wr F RS ∧ LongTo wr F m n 0) (fun v2 _ => 259 - (intOf v2).toNat)
  case atStart => exact ⟨2, Nat.le_refl _, by omega, rfl, Fx.refl _ _ _, fun k' n' a b c d => by omega⟩
  case round =>
    obtain ⟨n, hn1, hn2, rfl, hx, hto⟩ := hrel
    by_cases hn : n < 259
    · go_wp2_with fail
      refine (p_Len n _).mono ?_
      rintro e w' ⟨rfl, rfl⟩
      have hlx := lenX_bd n
      have HLX := Lib.hid (show lenX n = lenX n from rfl)
      generalize hlxx : lenX n = lx at *
      have HX := Lib.hid hlxx
      clear hlxx HLX
      go_wp2_with fail
      go_loopw [22] (fun v22 wr => ∃ k : Nat, k ≤ 5 ∧ v22 = .int .i64 k ∧ Fx w wr F RS ∧ LongTo wr F m n k) (fun v22 _ => 5 - (intOf v22).toNat)
      case atStart => exact ⟨0, by omega, rfl, hx, hto⟩
      case round =>
        obtain ⟨k, hk5, rfl, hx, hto⟩ := hrel
        by_cases hk : k < 5
        · have hFr : F < wr.heap.size := by have := hx.size; omega
          have hsy := tokK_sym hk hn1 (by omega : n ≤ 258)
          have hlf : Hid (longF m k n = m.getD (tokSym (tokK k n)).toNat 0 + lx) := Lib.hid (by rw [← HX.out]; rfl)
          obtain ⟨sy, hsyn⟩ : ∃ sy : Nat, tokSym (tokK k n) = (sy : Int) := ⟨(tokSym (tokK k n)).toNat, by omega⟩
          rw [hsyn] at hsy
          have hsm : sy < m.length := by omega
          obtain ⟨_, e0, -, g1⟩ := (hrk wr hx).at_ sy hsm
          injection e0 with e0
          subst e0
          have hlf : Hid (longF m k n = m[sy] + lx) := Lib.hid (by
            rw [← HX.out]
            show m.getD (tokSym (tokK k n)).toNat 0 + lenX n = _
            rw [hsyn, Int.toNat_natCast, List.getD_eq_getElem?_getD, List.getElem?_eq_getElem hsm]; rfl)
          have hmb := mok m[sy] (List.getElem_mem hsm)
          generalize m[sy] = y at *
          have hsym := fun w => p_Sym (tokK k n) w
          rw [hsyn] at hsym
          obtain ⟨C, hC, hC0⟩ : ∃ C, tokV (tokK k n) = .agg C ∧ C = #[if k = 0 then .int .i64 1 else .int .i64 2, .int .i64 0, .int .i64 n, if k = 0 then .int .i64 1 else .int .i64 0, if k = 0 then .int .i64 0 else .int .i64 ((k : Int) - 1)] := by
            refine ⟨_, rfl, ?_⟩
            by_cases q : k = 0
            · subst q; rfl
            · unfold tokK
              rw [if_neg q, if_neg q, if_neg q, if_neg q]
              unfold repT
              simp only [show ((k - 1 : Nat) : Int) = (k : Int) - 1 by omega]
          rw [hC] at hsym
          generalize tokCheck (tokK k n) = ck at *
          clear hC hsyn
          have hs0 := hx.some_ _ _ (hsome _ (hlen n (by omega) k hk)).choose_spec
          obtain ⟨u0, hs0⟩ := hs0
          have h2 := (hx.cells 2 (by unfold RS; omega)).trans hM
          have hfz := (hx.frozen (10 + k * 259 + n)).trans (hfr _)
          have HTO := Lib.hid (And.intro hx hto)
          have hyx : y + lx = y + lx := rfl
          have q1 : IntKind.i64.wrap (y + lx) = y + lx := Go.IntWalk.i64_in _ (by omega)
          have q2 : (k : Int) < 5 := by omega
          have q3 : (n : Int) < 259 := by omega
          have q4 : (sy : Int) < 401 := by omega
          have hadr : (ad.add sy).block < wr.heap.size := by rw [block_of_add]; have := hx.size; omega
          have hgb : True := trivial
          clear hx hto hyx
          have hb0 := bl_alloc (Below.refl wr.heap.size wr) (.cells C 65)
          by_cases hk0 : k = 0
          · have e1 : ((k : Int) == 0) = true := by rw [beq_iff_eq]; omega
            have e2 : decide ((k : Int) = 0) = true := by rw [decide_eq_true_eq]; omega
            rw [if_pos hk0, if_pos hk0, if_pos hk0] at hC0
            subst hC0
            clear hk0
            go_wp2_with fail
            refine (hsym _).mono ?_
            rintro e w3 ⟨rfl, hb3⟩
            have hb4 := bl_then hb0 hb0.size hb3
            have z2 := (hb4.cell (p := ⟨F, 2, none⟩) hFr).trans h2
            have zs := (hb4.cell (p := ⟨F, 10 + k * 259 + n, none⟩) hFr).trans hs0
            have zf := (hb4.frozen (p := ⟨F, 10 + k * 259 + n, none⟩) hFr).trans hfz
            have zg := (hb4.cell (p := ad.add sy) hadr).trans g1
            have HF : Hid (Fx w (w3.setCell ⟨F, 10 + k * 259 + n, none⟩ (.int .i64 (y + lx))) F RS ∧ LongTo (w3.setCell ⟨F, 10 + k * 259 + n, none⟩ (.int .i64 (y + lx))) F m n (k + 1)) := Lib.hid (by
              have h1 := (HTO.out.2.below hFr hb4).step hk (by omega) zs
              rw [hlf.out] at h1
              exact ⟨(HTO.out.1.trans (Fx.below hb4 hFr _)).trans (Fx.set_ w3 (S := RS) (show RS (10 + k * 259 + n) by unfold RS; omega) (.int .i64 (y + lx)) zs), h1⟩)
            clear hb3 hb4 hsym h2 hs0 hfz g1 hgb hb0
            go_upto_region 11 with (fail)
            go_region
            all_goals
              go_wp2_with fail
              go_roundw
              case rel =>
                refine ⟨k + 1, by omega, by go_num, ?_, ?_⟩
                · first | exact HF.out.1 | exact HF.out.1.drew
                · exact HF.out.2
              case measure => simp [intOf]; omega
          · have e1 : ((k : Int) == 0) = false := by rw [beq_eq_false_iff_ne]; omega
            rw [if_neg hk0, if_neg hk0, if_neg hk0] at hC0
            subst hC0
            clear hk0
            go_wp2_with fail
            refine (hsym _).mono ?_
            rintro e w3 ⟨rfl, hb3⟩
            have hb4 := bl_then hb0 hb0.size hb3
            have z2 := (hb4.cell (p := ⟨F, 2, none⟩) hFr).trans h2
            have zs := (hb4.cell (p := ⟨F, 10 + k * 259 + n, none⟩) hFr).trans hs0
            have zf := (hb4.frozen (p := ⟨F, 10 + k * 259 + n, none⟩) hFr).trans hfz
            have zg := (hb4.cell (p := ad.add sy) hadr).trans g1
            have HF : Hid (Fx w (w3.setCell ⟨F, 10 + k * 259 + n, none⟩ (.int .i64 (y + lx))) F RS ∧ LongTo (w3.setCell ⟨F, 10 + k * 259 + n, none⟩ (.int .i64 (y + lx))) F m n (k + 1)) := Lib.hid (by
              have h1 := (HTO.out.2.below hFr hb4).step hk (by omega) zs
              rw [hlf.out] at h1
              exact ⟨(HTO.out.1.trans (Fx.below hb4 hFr _)).trans (Fx.set_ w3 (S := RS) (show RS (10 + k * 259 + n) by unfold RS; omega) (.int .i64 (y + lx)) zs), h1⟩)
            clear hb3 hb4 hsym h2 hs0 hfz g1 hgb hb0
            go_upto_region 11 with (fail)
            go_region
            all_goals
              go_wp2_with fail
              go_roundw
              case rel =>
                refine ⟨k + 1, by omega, by go_num, ?_, ?_⟩
                · first | exact HF.out.1 | exact HF.out.1.drew
                · exact HF.out.2
              case measure => simp [intOf]; omega
        · obtain rfl : k = 5 := by omega
          rw [show ((5 : Nat) : Int) = 5 from rfl]
          go_wp2_with fail
          go_roundw
          case rel => exact ⟨n + 1, by omega, by omega, by go_num, hx, fun k' n' a b c d => hto k' n' a b c (by omega)⟩
          case measure => simp [intOf]; omega
    · have hL : LongOk wr F m := fun k n a b c => hto k n a b c (by omega)
      have HE := Lib.hid (And.intro hx hL)
      clear hx hL hto
      go_wp2
      exact bodyPost_end (results_none rfl _ _ _) rfl ⟨rfl, HE.out⟩
/-- The cells of the costs are numbers. -/
def AllInt (w : World) (F : Nat) : Prop := ∀ j, j < 1295 → ∃ z : Int, w.cell? ⟨F, 10 + j, none⟩ = some (.int .i64 z)
def rowAt (w : World) (F o : Nat) : List Value := (List.range 259).map fun j => (w.cell? ⟨F, o + j, none⟩).getD (.int .i64 0)
theorem rowAt_length (w : World) (F o : Nat) : (rowAt w F o).length = 259 := by simp [rowAt]
theorem rowAt_get {w : World} {F o j : Nat} {v : Value} (h : (rowAt w F o)[j]? = some v) : j < 259 ∧ v = (w.cell? ⟨F, o + j, none⟩).getD (.int .i64 0) := by
  have hj := (List.getElem?_eq_some_iff.1 h).1
  rw [rowAt_length] at hj
  simp [rowAt, hj] at h
  exact ⟨hj, h.symm⟩
theorem rowAt_range {w : World} {F k : Nat} (h : AllInt w F) (hk : k < 5) : w.rangeAt F (10 + k * 259) (rowAt w F (10 + k * 259)) := fun j v hv => by
  obtain ⟨hj, rfl⟩ := rowAt_get hv
  obtain ⟨z, hz⟩ := h (k * 259 + j) (by omega)
  rw [show 10 + (k * 259 + j) = 10 + k * 259 + j by omega] at hz
  rw [hz]; rfl
theorem rowAt_one {w : World} {F k : Nat} (h : AllInt w F) (hk : k < 5) : (rowAt w F (10 + k * 259)).toArray.all (·.oneCell') = true := all_oneCell_toArray (fun v hv => by
  obtain ⟨j, hj⟩ := List.mem_iff_getElem?.1 hv
  obtain ⟨hj, rfl⟩ := rowAt_get hj
  obtain ⟨z, hz⟩ := h (k * 259 + j) (by omega)
  rw [show 10 + (k * 259 + j) = 10 + k * 259 + j by omega] at hz
  rw [hz]; rfl)
def z259 : Array Value := (List.replicate 259 (.int .i64 0)).toArray
theorem run_alloc259 (w : World) : (Instr.alloc 56 true (.tuple #[])).run Try.prog w = .ok (.pointer (some ⟨w.heap.size, 0, none⟩)) (w.alloc (.cells z259 56)) := by kernel_rfl
theorem exec_alloc259 (w : World) (ρ : Operand → Value) (o : Oper) (ho : o.op = .alloc 56) : (execOp ρ o).run Try.prog w = .ok (.value (.pointer (some ⟨w.heap.size, 0, none⟩))) (w.alloc (.cells z259 56)) := by
  unfold execOp
  rw [ho]
  simp [run_alloc259, Result.andThen]
theorem info_259 : (Try.prog.info? 56).map (·.size) = some 259 := by kernel_rfl
set_option maxHeartbeats 4000000 in
theorem p_cheapest {w : World} {F n : Nat} {m : List Int} {dist : Int} (hL : LongOk w F m) (hI : AllInt w F) (hF : F < w.heap.size) (hn1 : 2 ≤ n) (hn2 : n ≤ 258) (hd0 : 0 ≤ dist) (hd1 : dist ≤ 1048576) (hlb : ∀ k, 0 ≤ longF m k n ∧ longF m k n ≤ 1048581) :
    Calls Try.prog 34 #[.pointer (some ⟨F, 0, none⟩), .int .i64 n, .int .i64 dist] w fun e w' => e = .returned (.int .i64 (((List.range' 1 4).map (fun k => longF m k n)).foldl min (longF m 0 n + dist))) ∧ Below w.heap.size w w' := by
  have g0 := hL 0 n (by omega) hn1 hn2
  simp only [Nat.zero_mul, Nat.add_zero] at g0
  have hb0 := hlb 0
  have hq1 : (n : Int) < 259 := by omega
  have HT : Hid (((List.range' 1 4).map (fun k => longF m k n)).foldl min (longF m 0 n + dist) = ((List.range' 1 4).map (fun k => longF m k n)).foldl min (longF m 0 n + dist)) := Lib.hid rfl
  generalize hl0 : longF m 0 n = l0 at *
  have HL0 := Lib.hid hl0
  clear hl0 HT
  generalize htg : ((List.range' 1 4).map (fun k => longF m k n)).foldl min (l0 + dist) = tg
  have HTG := Lib.hid htg
  clear htg
  go_enter Try.func34, Try.ntmps34
  go_wp2_with fail
  go_loopw [7, 24] (fun v7 v24 wr => ∃ (k : Nat) (z : Int), k ≤ 4 ∧ v24 = .int .i64 k ∧ v7 = .int .i64 z ∧ ((List.range' (k + 1) (4 - k)).map (fun k => longF m k n)).foldl min z = tg ∧ Below w.heap.size w wr) (fun _ v24 _ => 4 - (intOf v24).toNat)
  case atStart => exact ⟨0, l0 + dist, by omega, rfl, rfl, HTG.out, Below.refl _ _⟩
  case round =>
    obtain ⟨k, z, hk, rfl, rfl, hz, hb⟩ := hrel
    by_cases hk4 : k < 4
    · have hg := hL (k + 1) n (by omega) hn1 hn2
      have hrg : wr.rangeAt F (269 + k * 259) (rowAt w F (10 + (k + 1) * 259)) := fun j v hv => by
        have := rowAt_range hI (show k + 1 < 5 by omega) j v hv
        rw [show 269 + k * 259 + j = 10 + (k + 1) * 259 + j by omega]
        exact (hb.cell (p := ⟨F, _, none⟩) hF).trans this
      have hone := rowAt_one hI (show k + 1 < 5 by omega)
      have hlen := rowAt_length w F (10 + (k + 1) * 259)
      have hgn : (rowAt w F (10 + (k + 1) * 259))[n]? = some (.int .i64 (longF m (k + 1) n)) := by
        have hj : n < (rowAt w F (10 + (k + 1) * 259)).length := by rw [hlen]; omega
        obtain ⟨_, e⟩ := rowAt_get (List.getElem?_eq_getElem hj)
        rw [List.getElem?_eq_getElem hj, e, hg]; rfl
      have HN : Hid (((List.range' (k + 1 + 1) (4 - (k + 1))).map (fun k => longF m k n)).foldl min (min z (longF m (k + 1) n)) = tg) := Lib.hid (by
        rw [← hz, show 4 - k = (4 - (k + 1)) + 1 by omega, List.range'_succ, List.map_cons, List.foldl_cons])
      generalize rowAt w F (10 + (k + 1) * 259) = row at *
      generalize longF m (k + 1) n = y at *
      have HZ := Lib.hid hz
      have HB := Lib.hid hb
      clear hz hg hb
      have hwz := Blk.new wr 56 z259
      have hthere : (wr.alloc (.cells z259 56)).there wr.heap.size 0 row.toArray.size := fun j hj => by
        simp only [List.size_toArray, hlen] at hj
        refine ⟨?_, Blk.frozen hwz _⟩
        rw [Nat.zero_add, Blk.cell hwz]
        simp [z259, hj]
      have hci : (Try.prog.info? 56).map (·.size) = some row.toArray.size := by rw [info_259, List.size_toArray, hlen]
      have hci2 : (Try.prog.info? 56).map (·.size) = some row.length := by rw [info_259, hlen]
      have hsame := World.rangeAt_setCells_same (wr.alloc (.cells z259 56)) wr.heap.size 0 row (by simpa using hthere)
      have hcn := hsame n _ hgn
      rw [Nat.zero_add] at hcn
      have hbn : Below w.heap.size w ((wr.alloc (.cells z259 56)).setCells wr.heap.size 0 row) := by
        have h1 := bl_alloc HB.out (.cells z259 56)
        have hg := setCells_grown wr.heap.size row 0 (wr.alloc (.cells z259 56))
        exact h1.grown hg (by have := HB.out.size; simp; omega) (fun j hj => by injection hj with hj; have := HB.out.size; omega)
      have HBN := Lib.hid hbn
      have hkk : (k : Int) < 4 := by omega
      clear hwz hsame hgn hbn HB
      go_wp2_with (first
        | (with_reducible refine wpList_load_mid rfl 56 (.tmp 26) rfl F (269 + k * 259) rfl row _ hrg Try.underlying56 rfl hci2 ?_)
        | (with_reducible refine Go.Great.wpList_runTo rfl (some 9) rfl _ _ (exec_alloc259 wr _ _ rfl) ?_)
        | (with_reducible refine wpList_store_mid rfl 56 (.tmp 9) (.tmp 27) rfl wr.heap.size 0 row.toArray rfl rfl hthere hci hone ?_))
      all_goals
        go_roundw
        case rel => exact ⟨k + 1, _, by omega, by go_num, rfl, HN.out, HBN.out⟩
        case measure => simp [intOf]; omega
    · obtain rfl : k = 4 := by omega
      have hz2 : z = tg := hz
      have HE := Lib.hid (And.intro hz2 hb)
      clear hz hz2 hb
      go_wp2
      go_ret
      exact ⟨by rw [HE.out.1]; rfl, HE.out.2⟩
end Go.Proofs.Ytndkgjoaljcijaa
