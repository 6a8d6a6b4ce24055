/- Chapter 29 (window): a window in memory; place, halves, one, Have: what they give, by walks. -/
import Derived.Test.YtiohdgckmolmnaaBytes
import Derived.Test.YtiohdgckmolmnaaPlain29
import Derived.StillTailTactics
import Derived.Deep.RegionHeld3
import Derived.BigRegion
set_option linter.unusedSimpArgs false
set_option linter.unusedVariables false
namespace Go.Proofs.Ytiohdgckmolmnaa
open Go.RowKit

/-- The four cells of a window. -/
def winC (size b n at_ have_ : Nat) : Array Value := #[.int .i64 size, .slice (some ⟨b, 0, none⟩) n n, .int .i64 at_, .int .i64 have_]
/-- A window lies in block g, its ring in block b; it holds these bytes. -/
structure Win (w : World) (g b size : Nat) (ring : List UInt8) (at_ : Nat) (held : List UInt8) : Prop where
  rg : Ring size ring at_ held
  blk : Blk w g 96 (winC size b ring.length at_ held.length)
  row : Blk w b 5 (bvals ring).toArray
  ne : g ≠ b
/-- Nothing but blocks g and b, of what was, is changed. -/
structure Touch (w w' : World) (g b : Nat) : Prop where
  os : w'.os = w.os
  tape : w'.tape = w.tape
  output : w'.output = w.output
  size : w.heap.size ≤ w'.heap.size
  block : ∀ k, k < w.heap.size → k ≠ g → k ≠ b → w'.heap[k]? = w.heap[k]?
theorem Touch.refl (w : World) (g b : Nat) : Touch w w g b := ⟨rfl, rfl, rfl, Nat.le_refl _, fun _ _ _ _ => rfl⟩
theorem Touch.trans {w w1 w2 : World} {g b b1 : Nat} (h : Touch w w1 g b) (k : Touch w1 w2 g b1) (hb : b1 = b ∨ w.heap.size ≤ b1) : Touch w w2 g b :=
  ⟨k.os.trans h.os, k.tape.trans h.tape, k.output.trans h.output, Nat.le_trans h.size k.size, fun i hi h1 h2 => (k.block i (Nat.lt_of_lt_of_le hi h.size) h1 (by rcases hb with rfl | hb; exact h2; omega)).trans (h.block i hi h1 h2)⟩
theorem Touch.drew {w w' : World} {g b : Nat} (h : Touch w w' g b) : Touch w w'.drew g b := ⟨h.os, h.tape, h.output, h.size, h.block⟩
theorem Touch.drewN {w w' : World} {g b : Nat} (h : Touch w w' g b) (n : Nat) : Touch w (w'.drewN n) g b := ⟨h.os, h.tape, h.output, h.size, h.block⟩
theorem Touch.alloc {w w' : World} {g b : Nat} (h : Touch w w' g b) (o : Obj) : Touch w (w'.alloc o) g b :=
  ⟨h.os, h.tape, h.output, by rw [World.size_alloc]; have := h.size; omega, fun k hk h1 h2 => (Below.heap_alloc w' o k (Nat.lt_of_lt_of_le hk h.size)).trans (h.block k hk h1 h2)⟩
theorem Touch.set {w w' : World} {g b : Nat} (h : Touch w w' g b) {p : Addr} (hp : p.block = g ∨ p.block = b ∨ w.heap.size ≤ p.block) (v : Value) : Touch w (w'.setCell p v) g b :=
  ⟨h.os, h.tape, h.output, by simpa [World.setCell] using h.size, fun k hk h1 h2 => (Below.heap_setCell w' p v k (by rcases hp with hp | hp | hp <;> omega)).trans (h.block k hk h1 h2)⟩
theorem Touch.below {w w' : World} {g b B : Nat} (h : Touch w w' g b) (hB : B ≤ w.heap.size) (hg : B ≤ g) (hb : B ≤ b) : Below B w w' :=
  ⟨h.os, h.tape, h.output, by have := h.size; omega, fun k hk => h.block k (by omega) (by omega) (by omega)⟩
theorem Touch.of_below {w w' : World} {g b : Nat} (h : Below w.heap.size w w') : Touch w w' g b := ⟨h.os, h.tape, h.output, h.size, fun k hk _ _ => h.block k hk⟩
theorem Blk.touch {w w' : World} {g b k : Nat} {t : TypeId} {cs : Array Value} (h : Blk w k t cs) (hT : Touch w w' g b) (h1 : k ≠ g) (h2 : k ≠ b) : Blk w' k t cs := (hT.block k h.lt h1 h2).trans h
theorem Win.keep {w w' : World} {g b g2 b2 size : Nat} {ring : List UInt8} {at_ : Nat} {held : List UInt8} (h : Win w g2 b2 size ring at_ held) (hT : Touch w w' g b) (h1 : g2 ≠ g) (h2 : g2 ≠ b) (h3 : b2 ≠ g) (h4 : b2 ≠ b) : Win w' g2 b2 size ring at_ held :=
  ⟨h.rg, h.blk.touch hT h1 h2, h.row.touch hT h3 h4, h.ne⟩
theorem Win.below {w w' : World} {g b size : Nat} {ring : List UInt8} {at_ : Nat} {held : List UInt8} (h : Win w g b size ring at_ held) (hb : Below w.heap.size w w') : Win w' g b size ring at_ held :=
  ⟨h.rg, h.blk.below hb h.blk.lt, h.row.below hb h.row.lt, h.ne⟩
theorem Win.drew {w : World} {g b size : Nat} {ring : List UInt8} {at_ : Nat} {held : List UInt8} (h : Win w g b size ring at_ held) : Win w.drew g b size ring at_ held := ⟨h.rg, h.blk, h.row, h.ne⟩
theorem Win.byte {w : World} {g b size : Nat} {ring : List UInt8} {at_ : Nat} {held : List UInt8} (h : Win w g b size ring at_ held) (i : Nat) (hi : i < ring.length) : w.cell? ⟨b, i, none⟩ = some (bval ring[i]) := by
  rw [h.row.cell, List.getElem?_toArray, bvals_get ring i hi]

set_option maxRecDepth 100000 in
theorem p_place (g b size : Nat) (ring : List UInt8) (at_ : Nat) (held : List UInt8) (d : Nat) (w : World) (h : Win w g b size ring at_ held) (hd : d ≤ ring.length) :
    Calls Try.prog 56 #[.pointer (some ⟨g, 0, none⟩), .int .i64 d] w fun e w' => e = .returned (.int .i64 (wplace ring.length at_ d)) ∧ w = w' := by
  have kc := Blk.cell h.blk
  have h1 := h.rg.hat
  have h2 := h.rg.hn
  have h3 := h.rg.hmax
  simp only [winC] at kc
  have HP := Lib.hid (show wplace ring.length at_ d = if d ≤ at_ then at_ - d else at_ + ring.length - d from rfl)
  clear h
  go_enter Try.func56, Try.ntmps56
  go_wp2
  all_goals
    go_ret
    refine ⟨ret_int ?_, rfl⟩
    rw [HP.out]
    split <;> omega

theorem p_place0 (g b size : Nat) (ring : List UInt8) (at_ : Nat) (held : List UInt8) (w : World) (h : Win w g b size ring at_ held) :
    Calls Try.prog 56 #[.pointer (some ⟨g, 0, none⟩), .int .i64 0] w fun e w' => e = .returned (.int .i64 at_) ∧ w = w' := by
  have := p_place g b size ring at_ held 0 w h (by omega)
  rwa [show wplace ring.length at_ 0 = at_ by unfold wplace; simp] at this

set_option maxRecDepth 100000 in
theorem p_Have (g b size : Nat) (ring : List UInt8) (at_ : Nat) (held : List UInt8) (w : World) (h : Win w g b size ring at_ held) :
    Calls Try.prog 34 #[.pointer (some ⟨g, 0, none⟩)] w fun e w' => e = .returned (.int .i64 held.length) ∧ w = w' := by
  have kc := Blk.cell h.blk
  simp only [winC] at kc
  clear h
  go_enter Try.func34, Try.ntmps34
  go_wp2
  go_ret
  exact ⟨rfl, rfl⟩

set_option maxRecDepth 100000 in
theorem p_Have_nil (w : World) : Calls Try.prog 34 #[.pointer none] w fun e w' => e = .returned (.int .i64 0) ∧ w = w' := by
  go_enter Try.func34, Try.ntmps34
  go_wp2
  go_ret
  exact ⟨rfl, rfl⟩

/-- The last bytes, in two parts. -/
def GivesHalves (xs : List UInt8) (w : World) (e : Ending) (w' : World) : Prop :=
  ∃ A c B d p q, e = .returned (.tuple #[.slice A (List.length p) c, .slice B (List.length q) d]) ∧ ReadsB w' A p ∧ ReadsB w' B q ∧ p ++ q = xs ∧ ∃ n, w' = w.drewN n

theorem Win.reads {w : World} {g b size : Nat} {ring : List UInt8} {at_ : Nat} {held : List UInt8} (h : Win w g b size ring at_ held) : ReadsB w (some ⟨b, 0, none⟩) ring :=
  ⟨by rw [bvals_length, Nat.mul_one], fun _ => ⟨_, rfl, h.row.lt, fun j u hu => by
    have e1 : ((⟨b, 0, none⟩ : Addr).add j) = ⟨b, j, none⟩ := by unfold Addr.add; split <;> simp_all
    rw [e1, h.row.cell, List.getElem?_toArray]; exact hu⟩⟩
theorem reads_nil (w : World) (A : Option Addr) : ReadsB w A [] := ⟨rfl, fun h => absurd h (by simp)⟩
theorem Win.part {w : World} {g b size : Nat} {ring : List UInt8} {at_ : Nat} {held : List UInt8} (h : Win w g b size ring at_ held) (i j : Nat) (hij : i ≤ j) (hj : j ≤ ring.length) : ReadsB w (some ⟨b, i, none⟩) ((ring.drop i).take (j - i)) := by
  have h1 := h.reads.cut i j (ring.length + i + 1) hij hj (by omega)
  rw [if_neg (by omega)] at h1
  have e1 : ((⟨b, 0, none⟩ : Addr).add i) = ⟨b, i, none⟩ := by unfold Addr.add; split <;> simp_all
  simpa only [Option.map_some, e1] using h1

set_option maxHeartbeats 1000000 in
set_option maxRecDepth 100000 in
theorem p_halves (g b size : Nat) (ring : List UInt8) (at_ : Nat) (held : List UInt8) (k : Nat) (w : World) (h : Win w g b size ring at_ held) (hk : k ≤ held.length) :
    Calls Try.prog 54 #[.pointer (some ⟨g, 0, none⟩), .int .i64 k] w (GivesHalves (lastN k held) w) := by
  have kc := Blk.cell h.blk
  have h1 := h.rg.hat
  have h2 := h.rg.hn
  have h3 := h.rg.hmax
  have h4 := h.rg.hh
  simp only [winC] at kc
  have HW := Lib.hid h
  clear h
  rcases Nat.eq_zero_or_pos k with h0 | h0
  · subst h0
    show Calls _ _ #[_, .int .i64 0] _ _
    go_enter Try.func54, Try.ntmps54
    go_wp2_with ((with_reducible refine (p_place0 g b size ring at_ held _ HW.out).mono ?_); rintro e w' ⟨rfl, rfl⟩)
    go_quiet (fail)
    go_wp2
    go_ret2
    exact ⟨some ⟨b, 0, none⟩, 0, none, 0, [], [], rfl, reads_nil _ _, reads_nil _ _, by rw [lastN_zero]; rfl, _, rfl⟩
  · by_cases hka : k ≤ at_
    · have hp : wplace ring.length at_ k = at_ - k := if_pos hka
      have HR := Lib.hid (HW.out.rg.half1 hka hk)
      have HP := Lib.hid (HW.out.part (at_ - k) at_ (by omega) (by omega))
      have i0 : (0 : Int) ≤ ((at_ - k : Nat) : Int) := by omega
      have i1 : ((at_ - k : Nat) : Int) ≤ at_ := by omega
      have i2 : (at_ : Int) ≤ (ring.length : Int) := by omega
      have i3 : at_ - k < at_ := by omega
      have i4 : ¬ at_ = at_ - k := by omega
      have i5 : at_ - (at_ - k) = k := by omega
      have hk1 : ((k : Int) == 0) = false := by rw [beq_eq_false_iff_ne]; omega
      go_enter Try.func54, Try.ntmps54
      go_wp2_with ((with_reducible refine (p_place g b size ring at_ held k _ HW.out (by omega)).mono ?_); rintro e w' ⟨rfl, rfl⟩; rw [hp])
      generalize at_ - k = from_ at *
      go_quiet (fail)
      go_wp2
      go_ret2
      have hl : ((ring.drop from_).take k).length = k := by rw [List.length_take, List.length_drop]; omega
      have hP := HP.out
      rw [i5] at hP
      refine ⟨some ⟨b, from_, none⟩, k, none, 0, (ring.drop from_).take k, [], by rw [hl]; rfl, hP, reads_nil _ _, by rw [List.append_nil]; exact HR.out, _, rfl⟩
    · have hp : wplace ring.length at_ k = at_ + ring.length - k := if_neg hka
      have HR := Lib.hid (HW.out.rg.half2 (Nat.lt_of_not_le hka) hk)
      have HP := Lib.hid (HW.out.part (at_ + ring.length - k) ring.length (by omega) (by omega))
      have HP2 := Lib.hid (HW.out.part 0 at_ (by omega) (by omega))
      have i0 : (0 : Int) ≤ ((at_ + ring.length - k : Nat) : Int) := by omega
      have i1 : ((at_ + ring.length - k : Nat) : Int) ≤ ring.length := by omega
      have i2 : (at_ : Int) ≤ (ring.length : Int) := by omega
      have i3 : ¬ at_ + ring.length - k < at_ := by omega
      have i4 : ¬ ring.length = at_ + ring.length - k := by omega
      have hk1 : ((k : Int) == 0) = false := by rw [beq_eq_false_iff_ne]; omega
      go_enter Try.func54, Try.ntmps54
      go_wp2_with ((with_reducible refine (p_place g b size ring at_ held k _ HW.out (by omega)).mono ?_); rintro e w' ⟨rfl, rfl⟩; rw [hp])
      generalize at_ + ring.length - k = from_ at *
      go_quiet (fail)
      go_wp2
      go_ret2
      have hl1 : (ring.drop from_).length = ring.length - from_ := List.length_drop
      have hl2 : (ring.take at_).length = at_ := by rw [List.length_take]; omega
      have hP := HP.out
      rw [List.take_of_length_le (by omega)] at hP
      have hP2 := HP2.out
      rw [Nat.sub_zero, List.drop_zero] at hP2
      refine ⟨some ⟨b, from_, none⟩, ring.length - from_, some ⟨b, 0, none⟩, at_, ring.drop from_, ring.take at_, by rw [hl1, hl2]; rfl, hP, hP2, HR.out, _, rfl⟩

end Go.Proofs.Ytiohdgckmolmnaa
