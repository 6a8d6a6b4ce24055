/- Package near: rows: by a walk. -/
import Derived.Test.YtbalodhgbpagfaaNearSort
set_option linter.unusedSimpArgs false
set_option linter.unusedVariables false
set_option maxRecDepth 100000
namespace Go.Proofs.Ytbalodhgbpagfaa
open Go.RowKit Go.Maps

/-- What has come out of the map so far. -/
def ColM (b : Nat → Option Nat) (left : Lit → Bool) (out : List Mt) : Prop := out.Pairwise (fun x y => x.len ≠ y.len) ∧ ∀ m : Mt, m ∈ out ↔ (b m.len = some m.dist ∧ left (.int .i64 (m.len : Nat)) = false)
theorem ColM.start {D : DN} {b : Nat → Option Nat} (h : MapB D b) : ColM b (has D) [] := ⟨List.Pairwise.nil, fun m => by
  constructor
  · intro q; cases q
  · rintro ⟨q, r⟩
    rw [h.has, q] at r
    cases r⟩
theorem ColM.step {b : Nat → Option Nat} {left : Lit → Bool} {out : List Mt} (h : ColM b left out) {n d : Nat} (hl : left (.int .i64 (n : Nat)) = true) (hb : b n = some d) : ColM b (fun z => left z && !z.sameKey (.int .i64 (n : Nat))) (out ++ [⟨n, d⟩]) := by
  have hno : ∀ m ∈ out, m.len ≠ n := fun m hm e => by
    have := ((h.2 m).1 hm).2
    rw [e, hl] at this
    cases this
  refine ⟨List.pairwise_append.2 ⟨h.1, by simp, fun x hx y hy => ?_⟩, fun m => ?_⟩
  · rw [List.mem_singleton] at hy
    subst hy
    exact hno x hx
  · rw [List.mem_append, List.mem_singleton, h.2 m]
    by_cases e : m.len = n
    · have hs : (Lit.int .i64 ((m.len : Nat) : Int)).sameKey (.int .i64 ((n : Nat) : Int)) = true := by rw [e]; simp [Lit.sameKey]
      simp only [hs, Bool.not_true, Bool.and_false, and_true]
      constructor
      · rintro (⟨_, q⟩ | q)
        · rw [e, hl] at q; cases q
        · subst q; exact hb
      · intro q
        right
        obtain ⟨ml, md⟩ := m
        simp only at e q
        subst e
        rw [hb] at q
        cases q
        rfl
    · have hs : (Lit.int .i64 ((m.len : Nat) : Int)).sameKey (.int .i64 ((n : Nat) : Int)) = false := by simp [Lit.sameKey]; omega
      simp only [hs, Bool.not_false, Bool.and_true]
      constructor
      · rintro (q | q)
        · exact q
        · subst q; exact absurd rfl e
      · exact .inl
theorem ColM.all {b : Nat → Option Nat} {left : Lit → Bool} {out : List Mt} (h : ColM b left out) (hl : ∀ k, left k = false) (m : Mt) : m ∈ out ↔ b m.len = some m.dist := by
  rw [h.2 m, hl]
  simp
def toP (m : Mt) : Nat × Nat := (m.len, m.dist)
def lastO (ks : List Mt) : Option Nat := ks.getLast?.map Mt.dist
theorem lastO_snoc (ks : List Mt) (m : Mt) : lastO (ks ++ [m]) = some m.dist := by simp [lastO]
theorem keep_yes (ks all : List Mt) (i : Nat) (hi : i < all.length) (h : ∀ d, lastO ks = some d → (gM all i).dist < d) : (ks ++ [gM all i]).map toP ++ keepF (lastO (ks ++ [gM all i])) ((all.drop (i + 1)).map toP) = ks.map toP ++ keepF (lastO ks) ((all.drop i).map toP) := by
  rw [lastO_snoc, gM_at hi] at *
  rw [List.drop_eq_getElem_cons hi, List.map_cons, List.map_append, List.append_assoc]
  congr 1
  cases hl : lastO ks with
  | none => rfl
  | some d => 
    have := h d hl
    rw [keepF, if_pos (show (toP all[i]).2 < d from this)]
    rfl
theorem keep_no (ks all : List Mt) (i : Nat) (hi : i < all.length) {d : Nat} (hl : lastO ks = some d) (h : ¬ (gM all i).dist < d) : ks.map toP ++ keepF (lastO ks) ((all.drop (i + 1)).map toP) = ks.map toP ++ keepF (lastO ks) ((all.drop i).map toP) := by
  rw [gM_at hi] at h
  rw [List.drop_eq_getElem_cons hi, List.map_cons, hl, keepF, if_neg (show ¬ (toP all[i]).2 < d from h)]
theorem lastO_at (ks : List Mt) (h : 0 < ks.length) : lastO ks = some (gM ks (ks.length - 1)).dist := by
  unfold lastO
  rw [List.getLast?_eq_getElem?, List.getElem?_eq_getElem (by omega), gM_at (by omega)]
  rfl
def RowsDone (w : World) (b : Nat → Option Nat) (e : Ending) (w' : World) : Prop := ∃ v res, ∃ all : List Mt, e = .returned v ∧ RowM w' w.heap.size v res ∧ res.map toP = (keepF none (all.map toP)).reverse ∧ all.Pairwise (fun x y => y.len < x.len) ∧ (∀ m : Mt, m ∈ all ↔ b m.len = some m.dist) ∧ Below w.heap.size w w'
set_option maxHeartbeats 4000000 in
theorem p_rows (mb nn : Nat) (b : Nat → Option Nat) (w : World) (h : OwnB w mb nn b) (hnn : nn ≤ 1000000) (hbd : ∀ n d, b n = some d → n ≤ 100000 ∧ d ≤ 1000000000) :
    Calls Try.prog 16 #[.map (some mb)] w (RowsDone w b) := by
  obtain ⟨D, hown, hB⟩ := h
  have hmb : mb < w.heap.size := hown.lt
  have hsz := hown.size_le
  have HB := Lib.hid (And.intro hB hsz)
  clear hB hsz
  go_enter Try.func16, Try.ntmps16
  go_wp2_with (at_range; refine wpList_range_own _ rfl _ 42 rfl 3 3 (int_keyed Try.underlying3) Try.underlying42 _ mb nn D rfl hown ?_; intro w0 hrg0 hg0 hs0)
  go_frame
  have hB0 : Below w.heap.size w w0 := (Below.refl w.heap.size w).grown hg0 (Nat.le_refl _) (fun k e => by cases e)
  clear hg0 hown
  go_loopw [3, 4, 5] (fun v3 _ _ W => ∃ (left : Lit → Bool) (cnt : Nat) (out : List Mt), W.ranges Try.prog 3 (plainElem Try.prog 3) mb w.heap.size nn D left cnt ∧ RowM W (w.heap.size + 1) v3 out ∧ ColM b left out ∧ out.length + cnt ≤ Maps.size D ∧ Below w.heap.size w W) (fun _ _ _ W => W.rangeLeft mb w.heap.size)
  case atStart => exact ⟨_, _, [], hrg0, Row.nil _ _ _ _, ColM.start HB.out.1, by simp, hB0⟩
  case round =>
    obtain ⟨left, cnt, out, hrg, hrow, hcol, hcnt, hbW⟩ := hrel
    have HRG := Lib.hid hrg
    have HCO := Lib.hid (And.intro hcol (And.intro hbW hrow))
    have hwr0 : w.heap.size < wr.heap.size := hrg.lt
    clear hrg0 hB0 hs0 hcol hbW
    go_wp2_with (at_next; refine wpList_next_ranges_ii _ rfl _ rfl 3 3 .i64 .i64 (int_keyed Try.underlying3) Try.underlying3 Try.underlying3 mb w.heap.size nn D left cnt rfl hrg ?_ ?_)
    · intro hc0 hl0
      obtain ⟨hcol, hbW, _⟩ := HCO.out
      have hal := hcol.all hl0
      have hcon := p_SortM wr (w.heap.size + 1) u3 out hrow (by have := HB.out.2; omega) (fun m hm => (hbd _ _ ((hal m).1 hm)).1) hcol.1
      have hq3 : ∀ k, u3.ownBlock = some k → w.heap.size + 1 ≤ k ∧ k < wr.heap.size := fun k hk => Row.lt hrow k hk
      have HA := Lib.hid (And.intro hal (And.intro hbW hq3))
      have hol : out.length ≤ 1000000 := by have := HB.out.2; omega
      clear hal hbW hcol hrow hq3 hrg hl0
      go_wp2_with fail
      refine hcon.mono ?_
      rintro e w1 ⟨rfl, all, hrow1, hperm, hsrt, hg1⟩
      have hB1 : Below w.heap.size w w1 := HA.out.2.1.grown hg1 HA.out.2.1.size (fun k e => by have := (HA.out.2.2 k e).1; omega)
      have hall : ∀ m : Mt, m ∈ all ↔ b m.len = some m.dist := fun m => (hperm.mem_iff).trans (HA.out.1 m)
      have hall2 : all.length ≤ 1000000 := by rw [hperm.length_eq]; exact hol
      obtain ⟨A, c, rfl, hlc⟩ := Row.slice hrow1
      have HF := Lib.hid (And.intro hsrt (And.intro hall (And.intro hB1 hrow1)))
      clear hsrt hall hB1 hrow1 hg1 hperm
      go_wp2_with fail
      go_loopw [6, 8, 26] (fun v6 _ v26 W => ∃ (i : Nat) (ks : List Mt), v26 = .int .i64 i ∧ i ≤ all.length ∧ ks.length ≤ i ∧ RowM W w1.heap.size v6 ks ∧ RowM W (w.heap.size + 1) (.slice A all.length c) all ∧ ks.map toP ++ keepF (lastO ks) ((all.drop i).map toP) = keepF none (all.map toP) ∧ Below w.heap.size w W ∧ w1.heap.size ≤ W.heap.size) (fun _ _ v26 _ => all.length - (intOf v26).toNat)
      case atStart => exact ⟨0, [], rfl, Nat.zero_le _, Nat.le_refl _, Row.nil _ _ _ _, HF.out.2.2.2, rfl, HF.out.2.2.1, Nat.le_refl _⟩
      case round =>
        obtain ⟨i, ks, rfl, hi, hks, hrk, hra, hke, hB, hH1⟩ := hrel
        by_cases hil : i < all.length
        · obtain ⟨g, o, rfl⟩ : ∃ g o, A = some ⟨g, o, none⟩ := by
            obtain ⟨g, o, c', e, _⟩ := RowM.form hra (by omega)
            simp only [Value.slice.injEq] at e
            exact ⟨g, o, e.1⟩
          obtain ⟨c0, c1⟩ := RowM.two hra i hil
          have hkl := hks
          obtain ⟨M, hM⟩ : ∃ M : Mt, M = gM all i := ⟨_, rfl⟩
          rw [← hM] at c0 c1
          have hil2 : (i : Int) < (all.length : Int) := by omega
          have hra2 : RowM (wr.alloc (.cells #[.int .i64 (M.len : Nat), .int .i64 (M.dist : Nat)] 31)) (w.heap.size + 1) (.slice (some ⟨g, o, none⟩) all.length c) all := Row.alloc hra _
          have hrk2 : RowM (wr.alloc (.cells #[.int .i64 (M.len : Nat), .int .i64 (M.dist : Nat)] 31)) w1.heap.size u6 ks := Row.alloc hrk _
          have hB2 : Below w.heap.size w (wr.alloc (.cells #[.int .i64 (M.len : Nat), .int .i64 (M.dist : Nat)] 31)) := hB.alloc hB.size _
          have hH2 : w1.heap.size ≤ (wr.alloc (.cells #[.int .i64 (M.len : Nat), .int .i64 (M.dist : Nat)] 31)).heap.size := by simp; omega
          have hbk := Blk.new wr 31 #[.int .i64 (M.len : Nat), .int .i64 (M.dist : Nat)]
          have hbc : (wr.alloc (.cells #[.int .i64 (M.len : Nat), .int .i64 (M.dist : Nat)] 31)).cell? ⟨wr.heap.size, 1, none⟩ = some (.int .i64 (M.dist : Nat)) := Blk.cell hbk 1
          have hbc0 : (wr.alloc (.cells #[.int .i64 (M.len : Nat), .int .i64 (M.dist : Nat)] 31)).cell? ⟨wr.heap.size, 0, none⟩ = some (.int .i64 (M.len : Nat)) := Blk.cell hbk 0
          have HX := Lib.hid (And.intro hra2 (And.intro hrk2 (And.intro hB2 hH2)))
          have HK := Lib.hid (And.intro hke hM)
          have hgw1 : g < w1.heap.size := (Row.lt HF.out.2.2.2 g rfl).2
          clear hra hrk hB hH1 hra2 hB2 hke hM hks hH2
          go_upto_region 11 with (fail)
          generalize (wr.alloc (.cells #[.int .i64 (M.len : Nat), .int .i64 (M.dist : Nat)] 31)) = W2 at *
          obtain ⟨A6, c6, rfl, hlc6⟩ := Row.slice hrk2
          have HX2 := Lib.hid hrk2
          clear hrk2
          by_cases hk0 : ks.length = 0
          · have hk1 : decide ((ks.length : Int) = 0) = true := decide_eq_true (by omega)
            have hk2 : ((ks.length : Int) == 0) = true := beq_iff_eq.2 (by omega)
            have hk3 : (ks.length : Int) = 0 := by omega
            have HY := Lib.hid (show ∀ d, lastO ks = some d → M.dist < d from fun d hd => by rw [List.eq_nil_of_length_eq_zero hk0] at hd; cases hd)
            clear hk0
            go_quiet (fail)
            obtain ⟨W3, hW3⟩ : ∃ W3, W3 = W2.drewN nq := ⟨_, rfl⟩
            have hra3 : RowM W3 (w.heap.size + 1) (.slice (some ⟨g, o, none⟩) all.length c) all := by rw [hW3]; exact Row.drewN HX.out.1 nq
            have hrk3 : RowM W3 w1.heap.size (.slice A6 ks.length c6) ks := by rw [hW3]; exact Row.drewN HX2.out nq
            have hB3 : Below w.heap.size w W3 := by rw [hW3]; exact bl_drewN HX.out.2.2.1 nq
            have hH3 : w1.heap.size ≤ W3.heap.size := by rw [hW3]; exact HX.out.2.2.2
            have hb0 : W3.cell? ⟨wr.heap.size, 0, none⟩ = some (.int .i64 (M.len : Nat)) := by rw [hW3]; exact hbc0
            have hb1 : W3.cell? ⟨wr.heap.size, 1, none⟩ = some (.int .i64 (M.dist : Nat)) := by rw [hW3]; exact hbc
            rw [← hW3]
            have hra4 : RowM (W3.alloc (.cells #[.int .i64 (M.len : Nat), .int .i64 (M.dist : Nat)] 31)) (w.heap.size + 1) (.slice (some ⟨g, o, none⟩) all.length c) all := Row.alloc hra3 _
            have hrk4 : RowM (W3.alloc (.cells #[.int .i64 (M.len : Nat), .int .i64 (M.dist : Nat)] 31)) w1.heap.size (.slice A6 ks.length c6) ks := Row.alloc hrk3 _
            have hB4 : Below w.heap.size w (W3.alloc (.cells #[.int .i64 (M.len : Nat), .int .i64 (M.dist : Nat)] 31)) := hB3.alloc hB3.size _
            have hH4 : w1.heap.size ≤ (W3.alloc (.cells #[.int .i64 (M.len : Nat), .int .i64 (M.dist : Nat)] 31)).heap.size := by simp; omega
            have hblk := Blk.new W3 31 #[.int .i64 (M.len : Nat), .int .i64 (M.dist : Nat)]
            have hkb := fun k e => (Row.lt hrk4 k e).1
            have HZ := Lib.hid (And.intro hra4 (And.intro hB4 (And.intro hkb hH4)))
            have hkl3 : ks.length ≤ 1000000000000 := by omega
            clear hra3 hrk3 hB3 hW3 hbc hbc0 hra4 hB4 hkb c0 c1 hbk hH3
            go_wp2_with (at_builtin; go_must (refine wpList_append_mt rfl (.tmp 45) (.tmp 47) rfl w1.heap.size _ ks rfl hrk4 W3.heap.size M rfl hblk hkl3 hH4 ?_); intro v3 w3 hr3 hg3 ho3)
            go_wp2
            go_roundw
            case rel =>
              refine ⟨i + 1, ks ++ [M], by go_num, by omega, by simp; omega, hr3, Row.kept HZ.out.1 hg3 ?_, ?_, HZ.out.2.1.grown hg3 HZ.out.2.1.size (fun k e => ?_), ?_⟩
              · right
                intro e
                have := HZ.out.2.2.1 g e.symm
                omega
              · rw [HK.out.2, ← HK.out.1]
                exact keep_yes ks all i hil (by rw [← HK.out.2]; exact HY.out)
              · have := HZ.out.2.2.1 k e
                have := HF.out.2.2.1.size
                omega
              · have := hg3.size
                have := HZ.out.2.2.2
                omega
            case measure => simp [intOf]; omega
          · have hk1 : decide ((ks.length : Int) = 0) = false := decide_eq_false (by omega)
            have hk2 : ((ks.length : Int) == 0) = false := beq_eq_false_iff_ne.2 (by omega)
            have hk3 : ¬ (ks.length : Int) = 0 := by omega
            obtain ⟨g6, o6, rfl⟩ : ∃ g o, A6 = some ⟨g, o, none⟩ := by
              obtain ⟨g, o, c', e, _⟩ := RowM.form HX2.out (by omega)
              simp only [Value.slice.injEq] at e
              exact ⟨g, o, e.1⟩
            obtain ⟨j, hj⟩ : ∃ j, j = ks.length - 1 := ⟨_, rfl⟩
            have hjl : j < ks.length := by omega
            have hj2 : (ks.length : Int) - 1 = (j : Int) := by omega
            have hlo := lastO_at ks (by omega)
            rw [← hj] at hlo
            obtain ⟨d0, d1⟩ := RowM.two HX2.out j hjl
            generalize gM ks j = N at *
            have hjl2 : (j : Int) < (ks.length : Int) := by omega
            have hj0 : (0 : Int) ≤ (j : Int) := by omega
            by_cases hlt : M.dist < N.dist
            · have b1 : decide ((M.dist : Int) < (N.dist : Int)) = true := decide_eq_true (by omega)
              have b1n : decide (M.dist < N.dist) = true := decide_eq_true hlt
              have HY := Lib.hid (show ∀ d, lastO ks = some d → M.dist < d from fun d hd => by rw [hlo] at hd; cases hd; exact hlt)
              clear hk0 hlt hlo hj hjl
              go_quiet (fail)
              obtain ⟨W3, hW3⟩ : ∃ W3, W3 = W2.drewN nq := ⟨_, rfl⟩
              have hra3 : RowM W3 (w.heap.size + 1) (.slice (some ⟨g, o, none⟩) all.length c) all := by rw [hW3]; exact Row.drewN HX.out.1 nq
              have hrk3 : RowM W3 w1.heap.size (.slice (some ⟨g6, o6, none⟩) ks.length c6) ks := by rw [hW3]; exact Row.drewN HX2.out nq
              have hB3 : Below w.heap.size w W3 := by rw [hW3]; exact bl_drewN HX.out.2.2.1 nq
              have hH3 : w1.heap.size ≤ W3.heap.size := by rw [hW3]; exact HX.out.2.2.2
              have hb0 : W3.cell? ⟨wr.heap.size, 0, none⟩ = some (.int .i64 (M.len : Nat)) := by rw [hW3]; exact hbc0
              have hb1 : W3.cell? ⟨wr.heap.size, 1, none⟩ = some (.int .i64 (M.dist : Nat)) := by rw [hW3]; exact hbc
              rw [← hW3]
              have hra4 : RowM (W3.alloc (.cells #[.int .i64 (M.len : Nat), .int .i64 (M.dist : Nat)] 31)) (w.heap.size + 1) (.slice (some ⟨g, o, none⟩) all.length c) all := Row.alloc hra3 _
              have hrk4 : RowM (W3.alloc (.cells #[.int .i64 (M.len : Nat), .int .i64 (M.dist : Nat)] 31)) w1.heap.size (.slice (some ⟨g6, o6, none⟩) ks.length c6) ks := Row.alloc hrk3 _
              have hB4 : Below w.heap.size w (W3.alloc (.cells #[.int .i64 (M.len : Nat), .int .i64 (M.dist : Nat)] 31)) := hB3.alloc hB3.size _
              have hH4 : w1.heap.size ≤ (W3.alloc (.cells #[.int .i64 (M.len : Nat), .int .i64 (M.dist : Nat)] 31)).heap.size := by simp; omega
              have hblk := Blk.new W3 31 #[.int .i64 (M.len : Nat), .int .i64 (M.dist : Nat)]
              have hkb := fun k e => (Row.lt hrk4 k e).1
              have HZ := Lib.hid (And.intro hra4 (And.intro hB4 (And.intro hkb hH4)))
              have hkl3 : ks.length ≤ 1000000000000 := by omega
              clear hra3 hrk3 hB3 hW3 hbc hbc0 hra4 hB4 hkb c0 c1 d0 d1 hbk hH3
              go_wp2_with (at_builtin; go_must (refine wpList_append_mt rfl (.tmp 45) (.tmp 47) rfl w1.heap.size _ ks rfl hrk4 W3.heap.size M rfl hblk hkl3 hH4 ?_); intro v3 w3 hr3 hg3 ho3)
              go_wp2
              go_roundw
              case rel =>
                refine ⟨i + 1, ks ++ [M], by go_num, by omega, by simp; omega, hr3, Row.kept HZ.out.1 hg3 ?_, ?_, HZ.out.2.1.grown hg3 HZ.out.2.1.size (fun k e => ?_), ?_⟩
                · right
                  intro e
                  have := HZ.out.2.2.1 g e.symm
                  omega
                · rw [HK.out.2, ← HK.out.1]
                  exact keep_yes ks all i hil (by rw [← HK.out.2]; exact HY.out)
                · have := HZ.out.2.2.1 k e
                  have := HF.out.2.2.1.size
                  omega
                · have := hg3.size
                  have := HZ.out.2.2.2
                  omega
              case measure => simp [intOf]; omega
            · have b1 : decide ((M.dist : Int) < (N.dist : Int)) = false := decide_eq_false (by omega)
              have b1n : decide (M.dist < N.dist) = false := decide_eq_false hlt
              have HY := Lib.hid (And.intro hlo hlt)
              clear hk0 hlt hlo hj hjl
              go_quiet (fail)
              have hra3 : RowM (W2.drewN nq) (w.heap.size + 1) (.slice (some ⟨g, o, none⟩) all.length c) all := Row.drewN HX.out.1 nq
              have hrk3 : RowM (W2.drewN nq) w1.heap.size (.slice (some ⟨g6, o6, none⟩) ks.length c6) ks := Row.drewN HX2.out nq
              have hB3 : Below w.heap.size w (W2.drewN nq) := bl_drewN HX.out.2.2.1 nq
              have hH3 : w1.heap.size ≤ (W2.drewN nq).heap.size := HX.out.2.2.2
              have HZ := Lib.hid (And.intro hra3 (And.intro hrk3 (And.intro hB3 hH3)))
              clear hra3 hrk3 hB3 hH3 hbc hbc0 c0 c1 d0 d1 hbk
              go_wp2
              go_roundw
              case rel =>
                refine ⟨i + 1, ks, by go_num, by omega, by omega, HZ.out.2.1, HZ.out.1, ?_, HZ.out.2.2.1, HZ.out.2.2.2⟩
                rw [← HK.out.1]
                exact keep_no ks all i hil HY.out.1 (by rw [← HK.out.2]; exact HY.out.2)
              case measure => simp [intOf]; omega
        · obtain rfl : i = all.length := by omega
          rw [List.drop_length] at hke
          have hke2 : ks.map toP = keepF none (all.map toP) := by
            rw [← hke]
            cases lastO ks <;> simp [keepF]
          have hlt : ¬ ((all.length : Nat) : Int) < (all.length : Int) := by omega
          have HK := Lib.hid (And.intro hke2 hB)
          have hcon := p_ReverseM hrk (by omega)
          have HLK := Lib.hid (Row.lt hrk)
          clear hke hke2 hB hra
          go_wp2_with fail
          refine hcon.mono ?_
          rintro e w2 ⟨rfl, hrv, hg2⟩
          go_wp2
          go_ret
          have hw1 := HF.out.2.2.1.size
          exact ⟨u6, ks.reverse, all, rfl, Row.mono hrv hw1, by rw [List.map_reverse, HK.out.1], HF.out.1, HF.out.2.1, HK.out.2.grown hg2 HK.out.2.size (fun k e => by have := (HLK.out k e).1; omega)⟩
    · intro x c w2 cnt2 hwx hwc hlk hat hrg2 hlt hg2 hs2 hen
      have hhas := has_true_of_atKey hat
      obtain ⟨n, rfl⟩ := HB.out.1.nat x hhas
      obtain ⟨d, hbn⟩ : ∃ d, b n = some d := by
        rw [HB.out.1.has] at hhas
        exact Option.isSome_iff_exists.1 hhas
      obtain rfl : (d : Int) = c := lit_inj' ((HB.out.1.at_ n d hbn (.lit (.int .i64 0))).symm.trans (hat _))
      have hcol2 := HCO.out.1.step hlk hbn
      have hne1 : u3.ownBlock = none ∨ u3.ownBlock ≠ some w.heap.size := by
        cases hv8 : u3.ownBlock with
        | none => exact .inl rfl
        | some k => exact .inr (fun e => by have := (Row.lt hrow k hv8).1; injection e with e; omega)
      have hrow2 : RowM w2 (w.heap.size + 1) u3 out := Row.kept hrow hg2 hne1
      have hB2 : Below w.heap.size w w2 := HCO.out.2.1.grown hg2 HCO.out.2.1.size (fun k e => by cases e; omega)
      have hrow3 : RowM (w2.alloc (.cells #[.int .i64 (n : Int), .int .i64 (d : Int)] 31)) (w.heap.size + 1) u3 out := Row.alloc hrow2 _
      have hblk := Blk.new w2 31 #[.int .i64 (n : Int), .int .i64 (d : Int)]
      have hrg3 := hrg2.alloc (.cells #[.int .i64 (n : Int), .int .i64 (d : Int)] 31)
      have HC2 := Lib.hid (And.intro hcol2 (And.intro hB2 hrg3))
      have HLT := Lib.hid (Row.lt hrow3)
      have HLC := Lib.hid (And.intro hlt hcnt)
      have HRG2 := Lib.hid hrg2
      have hsz2 : w.heap.size + 1 ≤ (w2.alloc (.cells #[.int .i64 (n : Int), .int .i64 (d : Int)] 31)).heap.size := by simp; omega
      have hol : out.length ≤ 1000000000000 := by have := HB.out.2; omega
      clear hs2 hcol2 hB2 hrg3 hrg2 hrow2 hrow hg2 hlk hat hne1 hlt hcnt hrg hhas hbn
      go_wp2_with (at_builtin; go_must (refine wpList_append_mt rfl (.tmp 16) (.tmp 20) rfl (w.heap.size + 1) _ out rfl hrow3 w2.heap.size ⟨n, d⟩ rfl hblk hol hsz2 ?_); intro v3 w3 hr3 hg3 ho3)
      have hq : ∀ k, u3.ownBlock = some k → w.heap.size + 1 ≤ k := fun k hk => (HLT.out k hk).1
      have hrg4 := HC2.out.2.2.kept hg3 (fun e => by have := hq _ e.symm; omega) (fun e => by have := hq _ e.symm; omega)
      go_roundw
      case rel =>
        refine ⟨_, cnt2, _, hrg4, hr3, HC2.out.1, ?_, ?_⟩
        · have := HLC.out; rw [List.length_append]; simp; omega
        · have hb := HC2.out.2.1
          exact (hb.alloc hb.size _).grown hg3 (by have := hb.size; simp; omega) (fun k hk => by have := hq k hk; omega)
      case measure => rw [hrg4.left_eq, HRG.out.left_eq]; exact HLC.out.1
end Go.Proofs.Ytbalodhgbpagfaa
