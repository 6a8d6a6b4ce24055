/- Chapter 29's first law: whatever deeds: by a walk. -/
import Derived.Test.YtiohdgckmolmnaaLaw29b
set_option linter.unusedSimpArgs false
set_option linter.unusedVariables false
namespace Go.Proofs.Ytiohdgckmolmnaa
open Go.RowKit

def deedCells (x : Deed) : List Value := [.int .i64 x.kind, .int .i64 x.n, .int .i64 x.d, .string (str x.s)]
def dvals (l : List Deed) : List Value := l.flatMap deedCells
theorem dvals_length (l : List Deed) : (dvals l).length = l.length * 4 := by
  induction l with
  | nil => rfl
  | cons t l ih => simp only [dvals, List.flatMap_cons, List.length_append, List.length_cons] at *; rw [ih]; simp [deedCells]; omega
theorem dvals_get : ∀ (l : List Deed) (i j : Nat) (hi : i < l.length), j < 4 → (dvals l)[i * 4 + j]? = (deedCells l[i])[j]?
  | t :: l, 0, j, _, hj => by
    simp only [dvals, List.flatMap_cons, Nat.zero_mul, Nat.zero_add, List.getElem_cons_zero]
    rw [List.getElem?_append_left (by simp [deedCells]; omega)]
  | t :: l, i + 1, j, hi, hj => by
    simp only [dvals, List.flatMap_cons]
    rw [List.getElem?_append_right (by simp [deedCells]; omega)]
    have e : (i + 1) * 4 + j - (deedCells t).length = i * 4 + j := by simp [deedCells]; omega
    rw [e]
    exact dvals_get l i j (by simpa using hi) hj
/-- The slice at A reads as the deeds l. -/
def ReadsD (w : World) (A : Option Addr) (l : List Deed) : Prop := Reads w w.heap.size 4 A l.length (dvals l)
theorem ReadsD.below {w w' : World} {A : Option Addr} {l : List Deed} (h : ReadsD w A l) (hb : Below w.heap.size w w') : ReadsD w' A l := Reads.more (Reads.below h hb) hb.size
theorem ReadsD.four {w : World} {A : Option Addr} {l : List Deed} (h : ReadsD w A l) (i : Nat) (hi : i < l.length) : ∃ ad, A = some ad ∧ ad.block < w.heap.size ∧
    w.cell? (ad.add (i * 4)) = some (.int .i64 l[i].kind) ∧ w.cell? ⟨(ad.add (i * 4)).block, (ad.add (i * 4)).off + 1, none⟩ = some (.int .i64 l[i].n) ∧ w.cell? ⟨(ad.add (i * 4)).block, (ad.add (i * 4)).off + 2, none⟩ = some (.int .i64 l[i].d) ∧
    w.cell? ⟨(ad.add (i * 4)).block, (ad.add (i * 4)).off + 3, none⟩ = some (.string (str l[i].s)) := by
  obtain ⟨ad, e1, e2, e3⟩ := h.2 (by omega)
  have key : ∀ j v, (deedCells l[i])[j]? = some v → w.cell? ((ad.add (i * 4)).add j) = some v := by
    intro j v hv
    rw [add_of_add]
    have hj : j < 4 := by have := (List.getElem?_eq_some_iff.1 hv).1; simpa [deedCells] using this
    exact e3 _ _ ((dvals_get l i j hi hj).trans hv)
  exact ⟨ad, e1, e2, key 0 _ rfl, key 1 _ rfl, key 2 _ rfl, key 3 _ rfl⟩

theorem deedMore_length (size : Nat) (all : List UInt8) (x : Deed) (hs : x.s.length ≤ 1000) : (deedMore size all x).length ≤ 1000 := by
  unfold deedMore
  split
  · exact hs
  · have := wOut_length (lastN size all) x.n x.d; omega

set_option maxHeartbeats 4000000 in
set_option maxRecDepth 100000 in
theorem law_WindowPlays_main (sz : Nat) (T : Option Addr) (c : Nat) (l : List Deed) (n : Int) (w : World) (hT : ReadsD w T l) (h1 : 1 ≤ sz) (h2 : sz ≤ 5000) (h3 : l.length ≤ 60) :
    Calls Try.prog 7 #[.int .i64 sz, .slice T l.length c, .int .i64 n] w fun e w' => e = .returned (.bool true) ∧ Below w.heap.size w w' := by
  have hi1 : ¬ (60 : Int) < (l.length : Int) := by omega
  have hi2 : ¬ (5000 : Int) < (sz : Int) := by omega
  have hi3 : ¬ (sz : Int) < 1 := by omega
  go_enter Try.func7, Try.ntmps7
  go_wp2_with fail
  refine (p_New_yes sz h1 (by omega) _).mono ?_
  rintro e w1 ⟨g, b, ring, rfl, hW1, hg, hb, hB1⟩
  have hW1' : Win w1 g b sz ring 0 (lastN sz []) := by rw [show lastN sz [] = [] by simp [lastN]]; exact hW1
  clear hW1
  go_wp2_with fail
  go_loopw [9, 10] (fun v9 v10 wr => ∃ (k : Nat) (all : List UInt8) (b' : Nat) (ring : List UInt8) (at_ : Nat), k ≤ l.length ∧ v10 = .int .i64 k ∧ v9 = .string (str all) ∧ Win wr g b' sz ring at_ (lastN sz all) ∧ all.length ≤ 1000 * k ∧ w.heap.size ≤ b' ∧ Below w.heap.size w wr) (fun _ v10 _ => l.length - (intOf v10).toNat)
  case atStart => exact ⟨0, [], b, ring, 0, Nat.zero_le _, rfl, rfl, hW1', Nat.zero_le _, hb, hB1⟩
  case round =>
    obtain ⟨k, all, b', ring', at_, hk, rfl, rfl, hW, hal, hb', hBr⟩ := hrel
    clear hW1' hB1
    have HBr := Lib.hid hBr
    by_cases hkl : k < l.length
    · obtain ⟨ad, hA, had, q0, q1, q2, q3⟩ := (hT.below hBr).four k hkl
      generalize l[k] = x at *
      obtain ⟨xk, xn, xd, xs⟩ := x
      subst hA
      have hxs := str_size xs
      have HW := Lib.hid hW
      clear hW hBr
      by_cases hxl : 1000 < xs.length
      · go_wp2_with fail
        go_roundw
        case rel => exact ⟨k + 1, all, b', ring', at_, by omega, by go_num, rfl, HW.out, by omega, hb', HBr.out⟩
        case measure => simp [intOf]; omega
      · have hml := deedMore_length sz all ⟨xk, xn, xd, xs⟩ (by simp only; omega)
        go_wp2_with fail
        refine (p_deed g b' sz ring' at_ all ⟨xk, xn, xd, xs⟩ wr HW.out (by omega) (by simp only; omega)).mono ?_
        rintro e w2 ⟨b2, ring2, at2, rfl, hW2, hb2, hT2⟩
        have hal2 : (all ++ deedMore sz all ⟨xk, xn, xd, xs⟩).length ≤ 1000 * (k + 1) := by rw [List.length_append]; omega
        generalize all ++ deedMore sz all ⟨xk, xn, xd, xs⟩ = all2 at *
        clear hml
        have hB2 : Below w.heap.size w w2 := HBr.out.trans (hT2.below HBr.out.size hg hb')
        have hb2' : w.heap.size ≤ b2 := by have := HBr.out.size; omega
        have HW2 := Lib.hid hW2
        have HB2 := Lib.hid hB2
        have hsz := str_size all2
        have hLL := lastN_length sz all2
        clear hW2 hB2 hT2 hb2 q0 q1 q2 q3
        go_wp2_with fail
        refine (p_Have g b2 sz ring2 at2 (lastN sz all2) w2 HW2.out).mono ?_
        rintro e w2' ⟨rfl, rfl⟩
        rw [hLL]
        have HLL := Lib.hid hLL
        clear hLL
        by_cases hm : sz ≤ all2.length
        · rw [Nat.min_eq_left hm]
          go_wp2_with fail
          refine (p_Last g b2 sz ring2 at2 (lastN sz all2) n w2 HW2.out).mono ?_
          rintro e w3 ⟨rfl, hb3⟩
          have HB3 := Lib.hid (bl_then HB2.out HB2.out.size hb3)
          have HW3 := Lib.hid (HW2.out.below hb3)
          clear hb3
          go_wp2_with fail
          refine (p_lastS all2 sz w3 (by omega)).mono ?_
          rintro e w3' ⟨rfl, rfl⟩
          rw [show lastI (sz : Int) all2 = lastN sz all2 from rfl]
          have hL3 : (lastN sz all2).length ≤ 1000000000 := by rw [HLL.out]; omega
          go_wp2_with fail
          refine (p_lastS (lastN sz all2) n w3 hL3).mono ?_
          rintro e w3' ⟨rfl, rfl⟩
          have hse := str_self (lastI n (lastN sz all2))
          go_wp2_with fail
          go_roundw
          case rel => exact ⟨k + 1, all2, b2, ring2, at2, by omega, by go_num, rfl, HW3.out, hal2, hb2', HB3.out⟩
          case measure => simp [intOf]; omega
        · rw [Nat.min_eq_right (by omega)]
          go_wp2_with fail
          refine (p_Last g b2 sz ring2 at2 (lastN sz all2) n w2 HW2.out).mono ?_
          rintro e w3 ⟨rfl, hb3⟩
          have HB3 := Lib.hid (bl_then HB2.out HB2.out.size hb3)
          have HW3 := Lib.hid (HW2.out.below hb3)
          clear hb3
          go_wp2_with fail
          refine (p_lastS all2 sz w3 (by omega)).mono ?_
          rintro e w3' ⟨rfl, rfl⟩
          rw [show lastI (sz : Int) all2 = lastN sz all2 from rfl]
          have hL3 : (lastN sz all2).length ≤ 1000000000 := by rw [HLL.out]; omega
          go_wp2_with fail
          refine (p_lastS (lastN sz all2) n w3 hL3).mono ?_
          rintro e w3' ⟨rfl, rfl⟩
          have hse := str_self (lastI n (lastN sz all2))
          go_wp2_with fail
          go_roundw
          case rel => exact ⟨k + 1, all2, b2, ring2, at2, by omega, by go_num, rfl, HW3.out, hal2, hb2', HB3.out⟩
          case measure => simp [intOf]; omega
    · obtain rfl : k = l.length := by omega
      have hLL := lastN_length sz all
      go_wp2_with fail
      refine (p_Last g b' sz ring' at_ (lastN sz all) sz wr hW).mono ?_
      rintro e w2 ⟨rfl, hb2⟩
      rw [show lastI (sz : Int) (lastN sz all) = lastN sz all from lastN_lastN sz all]
      have HB2 := Lib.hid (bl_then hBr hBr.size hb2)
      clear hW hBr hb2 hLL
      go_wp2_with fail
      refine (p_lastS all sz w2 (by omega)).mono ?_
      rintro e w2' ⟨rfl, rfl⟩
      rw [show lastI (sz : Int) all = lastN sz all from rfl]
      have hse := str_self (lastN sz all)
      go_wp2_with fail
      refine (awake29 w2).mono ?_
      rintro e w3 ⟨rfl, hb3⟩
      go_wp2
      go_ret
      exact ⟨rfl, bl_then HB2.out HB2.out.size hb3⟩

set_option maxRecDepth 100000 in
theorem law_WindowPlays (size : Int) (T : Option Addr) (c : Nat) (l : List Deed) (n : Int) (w : World) (hT : ReadsD w T l) :
    Calls Try.prog 7 #[.int .i64 size, .slice T l.length c, .int .i64 n] w fun e w' => e = .returned (.bool true) ∧ Below w.heap.size w w' := by
  by_cases h1 : l.length ≤ 60
  · by_cases h2 : size ≤ 5000
    · by_cases h3 : 1 ≤ size
      · obtain ⟨sz, rfl⟩ : ∃ n : Nat, size = n := ⟨size.toNat, by omega⟩
        exact law_WindowPlays_main sz T c l n w hT (by omega) (by omega) h1
      · have h4 : size < 1 := by omega
        have h5 : (l.length : Int) ≤ 60 := by omega
        clear hT h1
        go_enter Try.func7, Try.ntmps7
        go_wp2_with fail
        refine (p_New_no size (by omega) _).mono ?_
        rintro e w1 ⟨rfl, rfl⟩
        go_wp2_with fail
        refine (awake29 _).mono ?_
        rintro e w1 ⟨rfl, hb1⟩
        go_wp2
        go_ret
        exact ⟨rfl, hb1⟩
    · have h4 : 5000 < size := by omega
      have h5 : (l.length : Int) ≤ 60 := by omega
      clear hT h1 h2
      go_enter Try.func7, Try.ntmps7
      go_wp2_with fail
      refine (awake29 _).mono ?_
      rintro e w1 ⟨rfl, hb1⟩
      go_wp2
      go_ret
      exact ⟨rfl, hb1⟩
  · have h5 : 60 < l.length := by omega
    clear hT h1
    go_enter Try.func7, Try.ntmps7
    go_wp2_with fail
    refine (awake29 _).mono ?_
    rintro e w1 ⟨rfl, hb1⟩
    go_wp2
    go_ret
    exact ⟨rfl, hb1⟩

set_option maxRecDepth 100000 in
theorem law_WindowNone (x : Deed) (w : World) :
    Calls Try.prog 9 #[deedV x] w fun e w' => e = .returned (.bool true) ∧ Below w.heap.size w w' := by
  obtain ⟨k, n, d, s⟩ := x
  unfold deedV
  simp only
  have hB := bl_alloc (Below.refl w.heap.size w) (.cells #[.int .i64 k, .int .i64 n, .int .i64 d, .string (str s)] 55)
  have HB := Lib.hid hB
  clear hB
  go_enter Try.func9, Try.ntmps9
  go_wp2_with fail
  refine (p_Put_nil (str s) _).mono ?_
  rintro e w1 ⟨rfl, rfl⟩
  go_wp2_with fail
  refine (p_WCopy_nil n d _).mono ?_
  rintro e w1 ⟨rfl, rfl⟩
  rw [show str ([] : List UInt8) = ⟨#[]⟩ from rfl]
  go_wp2_with fail
  refine (p_Have_nil _).mono ?_
  rintro e w1 ⟨rfl, rfl⟩
  go_wp2_with fail
  refine (p_Last_nil n _).mono ?_
  rintro e w1 ⟨rfl, rfl⟩
  rw [show str ([] : List UInt8) = ⟨#[]⟩ from rfl]
  go_wp2_with fail
  refine (awake29 _).mono ?_
  rintro e w1 ⟨rfl, hb1⟩
  go_wp2
  go_ret
  exact ⟨rfl, bl_then HB.out (by simp) hb1⟩

end Go.Proofs.Ytiohdgckmolmnaa
