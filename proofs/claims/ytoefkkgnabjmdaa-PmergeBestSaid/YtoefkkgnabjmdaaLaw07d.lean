/- Chapter 07 (pmerge): the law PmergeBest: by a walk; an argument that is a slice of uint32. -/
import Derived.Test.YtoefkkgnabjmdaaBestEq
import Derived.Test.YtoefkkgnabjmdaaBestC07
import Derived.Test.YtoefkkgnabjmdaaOpen
set_option linter.unusedSimpArgs false
set_option linter.unusedVariables false
set_option maxRecDepth 100000
namespace Go.Proofs.Ytoefkkgnabjmdaa
open Go.RowKit Go.ChangeShapes Go.WideShapes Go.Deep

def uval (z : Int) : Value := .int .u32 z
/-- The slice at A reads as these uint32. -/
def ReadsU (w : World) (A : Option Addr) (xs : List Int) : Prop := Reads w w.heap.size 1 A xs.length (xs.map uval)
theorem ReadsU.below {w w' : World} {A : Option Addr} {xs : List Int} (h : ReadsU w A xs) (hb : Below w.heap.size w w') : ReadsU w' A xs := Reads.more (Reads.below h hb) hb.size
theorem ReadsU.at_ {w : World} {A : Option Addr} {xs : List Int} (h : ReadsU w A xs) (i : Nat) (hi : i < xs.length) : ∃ ad, A = some ad ∧ ad.block < w.heap.size ∧ w.cell? (ad.add i) = some (.int .u32 xs[i]) := by
  obtain ⟨ad, e1, e2, e3⟩ := h.2 (by omega)
  exact ⟨ad, e1, e2, e3 i _ (by simp [uval, hi])⟩
section
variable {H : Type} {enc : TypeId × Value → H} {w : World} {held : Bool}
theorem trod_u32s {fuel : Nat} {v : Value} {x : DataW H × List MemPlace} (h : DataW.trod enc Try.prog w 0 (fun _ => true) held fuel 32 [v] = some x) : ∃ A c l, v = .slice A (List.length l) c ∧ ReadsU w A l ∧ ∀ z ∈ l, 0 ≤ z ∧ z ≤ 4294967295 := by
  have hC : Try.prog.cellsOf 33 = 1 := by kernel_rfl
  rcases open_slice Try.underlying32 h with ⟨h0, _⟩ | ⟨a, len, cap, m, n, D, Pl, hcs, hb, hl, hm, hmm, hx, hi⟩
  · simp only [List.cons.injEq, and_true] at h0
    exact ⟨none, 0, [], h0, ⟨rfl, fun h => absurd h (by simp)⟩, fun z hz => by cases hz⟩
  · simp only [List.cons.injEq, and_true] at hcs
    rw [hcs]
    have key : ∀ i, ∃ z : Int, (0 ≤ z ∧ z ≤ 4294967295) ∧ (i < len → w.cell? (a.add i) = some (.int .u32 z)) := by
      intro i
      by_cases hil : i < len
      · obtain ⟨cs', hc, ht'⟩ := hi i (by rw [hmm]; simp; omega)
        rw [hC, Nat.mul_one] at hc
        obtain ⟨_, hcl, hat⟩ := World.cells?_some hc
        match cs', hcl with
        | [u], _ =>
        obtain ⟨z, e1, _, hw⟩ := DataW.trod_int Try.underlying33 ht'
        simp only [List.cons.injEq, and_true] at e1
        subst e1
        have := hat 0 (by omega)
        rw [Go.Deep.add_add, Nat.add_zero] at this
        exact ⟨z, bounds_u32 hw, fun _ => this⟩
      · exact ⟨0, by omega, fun h => absurd h hil⟩
    have hl' : ((List.range len).map fun i => Classical.choose (key i)).length = len := by simp
    refine ⟨some a, cap, (List.range len).map fun i => Classical.choose (key i), by rw [hl'], ⟨by rw [List.length_map, Nat.mul_one], fun hn0 => ⟨a, rfl, ?_, fun j u hu => ?_⟩⟩, fun z hz => ?_⟩
    · rw [hl'] at hn0
      have := World.block_lt_of_cell? w _ ((Classical.choose_spec (key 0)).2 hn0)
      rwa [block_of_add] at this
    · have hj : j < len := by have := (List.getElem?_eq_some_iff.1 hu).1; rw [List.length_map, hl'] at this; exact this
      rw [List.getElem?_map, List.getElem?_eq_getElem (by rw [hl']; exact hj)] at hu
      simp only [List.getElem_map, List.getElem_range, Option.map_some, Option.some.injEq] at hu
      rw [← hu]
      exact (Classical.choose_spec (key j)).2 hj
    · obtain ⟨i, hi, rfl⟩ := List.mem_map.1 hz
      exact (Classical.choose_spec (key i)).1
/-- An argument that is a slice of uint32. -/
theorem open_u32s {base : Nat} {v : Value} {d : DataW H} {p : List MemPlace} (hv : Value.okWide Try.prog w .any base 32 v)
    (h : DataW.Trod enc Try.prog w 0 (fun _ => true) true 32 v d p) : ∃ A c l, v = .slice A (List.length l) c ∧ ReadsU w A l ∧ ∀ z ∈ l, 0 ≤ z ∧ z ≤ 4294967295 := by
  obtain ⟨ad, ln, cp, rfl⟩ := okWide_slice Try.underlying32 hv
  obtain ⟨fu, hf⟩ := h
  exact trod_u32s hf
end

set_option maxHeartbeats 8000000 in
theorem law_PmergeBest_main (A : Option Addr) (f : List Int) (c : Nat) (z : Int) (hz0 : 0 ≤ z) (hz1 : z ≤ 255) (w : World) (hf : ReadsU w A f) (hfb : ∀ x ∈ f, 0 ≤ x ∧ x ≤ 4294967295) (l0 : f.length ≤ 8) :
    Calls Try.prog 5 #[.slice A f.length c, .int .u8 z] w fun e w' => e = .returned (.bool true) ∧ Below w.heap.size w w' := by
  obtain ⟨n, hn⟩ : ∃ n : Nat, (n : Int) = z % 8 + 1 := ⟨(z % 8 + 1).toNat, by omega⟩
  have hn1 : 1 ≤ n ∧ n ≤ 8 := by omega
  have HNN := Lib.hid hn
  have HFB := Lib.hid hfb
  clear hn hfb
  go_enter Try.func5, Try.ntmps5
  go_upto_region 1 with (fail)
  go_cut [5] (fun v5 wc => v5 = .int .i64 (n : Int) ∧ wc = w)
  case first =>
    go_wp2
    go_meet
    case rel => exact ⟨congrArg (Value.int .i64) (by have := HNN.out; omega), rfl⟩
  obtain ⟨rfl, rfl⟩ := hcut
  clear hz0 hz1
  go_wp2_with fail
  go_loopw [6, 7] (fun v6 v7 wr => ∃ i : Nat, i ≤ f.length ∧ v7 = .int .i64 i ∧ RowI wr wc.heap.size v6 (f.take i) ∧ Below wc.heap.size wc wr) (fun _ v7 _ => f.length - (intOf v7).toNat)
  case atStart => exact ⟨0, Nat.zero_le _, rfl, Row.nil _ _ _ _, Below.refl _ _⟩
  case round =>
    obtain ⟨i, hi, rfl, hrow, hbr⟩ := hrel
    by_cases hif : i < f.length
    · obtain ⟨ad, rfl, had, a1⟩ := (hf.below hbr).at_ i hif
      have HT : Hid (f.take (i + 1) = f.take i ++ [f[i]]) := Lib.hid (List.take_succ_eq_append_getElem hif)
      have hxb := HFB.out f[i] (List.getElem_mem hif)
      have hrl : (f.take i).length = i := by rw [List.length_take]; omega
      have HRL := Lib.hid hrl
      generalize f.take i = out at *
      generalize f[i] = x at *
      have hrx := reads_ints (Blk.new wr 3 (ivals [x]).toArray)
      have hrow3 := hrow.alloc (.cells (ivals [x]).toArray 3)
      have hlt := hrow.lt
      have HB3 := Lib.hid (bl_alloc hbr (.cells (ivals [x]).toArray 3))
      have hsz := hbr.size
      have hwx : IntKind.i64.wrap x = x := Go.IntWalk.i64_in _ (by omega)
      have hi1 : (i : Int) < (f.length : Int) := by omega
      clear hrow hbr hrl hf
      go_wp2_with (at_builtin; go_must (refine wpList_append_ints rfl (.tmp 24) (.tmp 30) rfl wc.heap.size _ out rfl hrow3 (some ⟨wr.heap.size, 0, none⟩) 1 1 [x] rfl rfl hrx (by have := HRL.out; simp; omega) (by simp; omega) ?_); intro v3 w3 hr3 hg3 ho3)
      go_roundw
      case rel =>
        refine ⟨i + 1, by omega, by go_num, ?_, ?_⟩
        · rw [HT.out]; exact hr3
        · exact HB3.out.grown hg3 (by simp; omega) (fun j hj => (hlt j hj).1)
      case measure => simp [intOf]; omega
    · obtain rfl : i = f.length := by omega
      rw [List.take_length] at hrow
      obtain ⟨B, c2, rfl, hc2, hr⟩ := RowI.slice hrow
      have HBR := Lib.hid hbr
      clear hbr hrow hf
      go_wp2_with fail
      refine (r_PmCheck B c2 f (n : Int) _ hr (by omega)).mono ?_
      rintro e w' ⟨rfl, rfl⟩
      by_cases h0 : chkPm f (n : Int) = 0
      · have HE := Lib.hid (best_pm h0)
        have HL := Lib.hid h0
        rw [h0]
        clear h0
        go_wp2_with fail
        refine (p_Lengths B c2 f (n : Int) _ hr (by omega)).mono ?_
        intro e w1 hp
        obtain ⟨hb1, ⟨h1, _⟩ | ⟨_, b1, rfl, hbi, _⟩⟩ := hp
        · exact absurd HL.out h1
        · have hf1 := hr.below hb1
          have HB1 := Lib.hid (bl_then HBR.out HBR.out.size hb1)
          have hll : (lensP f (n : Int)).length = f.length := lensP_length
          have hc := p_CostPm B (some ⟨b1, 0, none⟩) c2 f.length f (lensP f (n : Int)) w1 hf1 (reads_ints hbi) (by omega) (by omega)
          rw [hll, show min f.length f.length = f.length by omega, HE.out] at hc
          have hB := fun W h => r_Best B c2 f n hn1.1 hn1.2 W h (by omega) (fun x hx => by have := HFB.out x hx; omega)
          have HB := Lib.hid hB
          have HF1 := Lib.hid hf1
          generalize bestP f n = X at *
          clear hb1 hbi hr hll hB hf1 HE
          go_wp2_with fail
          refine hc.mono ?_
          rintro e w2 ⟨rfl, hb2⟩
          have hB := HB.out w2 (HF1.out.below hb2)
          have HB2 := Lib.hid (bl_then HB1.out HB1.out.size hb2)
          clear hb2 hc
          go_wp2_with fail
          refine hB.mono ?_
          rintro e w3 ⟨rfl, hb3⟩
          have HB3 := Lib.hid (bl_then HB2.out HB2.out.size hb3)
          clear hb3 hB
          go_wp2_with fail
          refine (awake07 _).mono ?_
          rintro e w5 ⟨rfl, hb5⟩
          have HB5 := Lib.hid (bl_then HB3.out HB3.out.size hb5)
          clear hb5
          go_wp2
          go_ret
          exact ⟨rfl, HB5.out⟩
      · have hne : (chkPm f (n : Int) != 0) = true := by simpa using h0
        generalize chkPm f (n : Int) = X at *
        clear h0
        go_wp2_with fail
        refine (awake07 _).mono ?_
        rintro e w5 ⟨rfl, hb5⟩
        have HB5 := Lib.hid (bl_then HBR.out HBR.out.size hb5)
        clear hb5
        go_wp2
        go_ret
        exact ⟨rfl, HB5.out⟩

theorem law_PmergeBest (A : Option Addr) (f : List Int) (c : Nat) (z : Int) (hz0 : 0 ≤ z) (hz1 : z ≤ 255) (w : World) (hf : ReadsU w A f) (hfb : ∀ x ∈ f, 0 ≤ x ∧ x ≤ 4294967295) :
    Calls Try.prog 5 #[.slice A f.length c, .int .u8 z] w fun e w' => e = .returned (.bool true) ∧ Below w.heap.size w w' := by
  by_cases l0 : f.length ≤ 8
  · exact law_PmergeBest_main A f c z hz0 hz1 w hf hfb l0
  · go_enter Try.func5, Try.ntmps5
    go_wp2_with fail
    refine (awake07 _).mono ?_
    rintro e w5 ⟨rfl, hb5⟩
    go_wp2
    go_ret
    exact ⟨rfl, hb5⟩

end Go.Proofs.Ytoefkkgnabjmdaa
