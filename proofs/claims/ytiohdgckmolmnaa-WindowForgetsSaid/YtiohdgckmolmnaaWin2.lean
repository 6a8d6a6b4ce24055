/- Chapter 29 (window): one, grow: what they do, by walks. -/
import Derived.Test.YtiohdgckmolmnaaWin
import Derived.RegionTactic
import Derived.ChangeAlike
import Derived.Laws.CopyOwn
set_option linter.unusedSimpArgs false
set_option linter.unusedVariables false
namespace Go.Proofs.Ytiohdgckmolmnaa
open Go.RowKit

/-- Behind a call the window holds these bytes. -/
def GivesWin (w : World) (g b size : Nat) (held : List UInt8) (room : Nat) (e : Ending) (w' : World) : Prop :=
  ∃ b' ring at_, e = .returned (.tuple #[]) ∧ Win w' g b' size ring at_ held ∧ (b' = b ∨ w.heap.size ≤ b') ∧ Touch w w' g b ∧ (room ≤ ring.length ∨ ring.length = size)

theorem set_splice (l : List UInt8) (i : Nat) (c : UInt8) (h : i < l.length) : l.set i c = l.take i ++ ([c] ++ l.drop (i + [c].length)) := by
  rw [List.set_eq_take_append_cons_drop, if_pos h]; rfl
theorem bvals_set (l : List UInt8) (i : Nat) (c : UInt8) : (bvals l).toArray.setIfInBounds i (.int .u8 c.toNat) = (bvals (l.set i c)).toArray := by
  apply Array.ext'
  simp [bvals, List.map_set, bval]

theorem Blk.as {w : World} {g : Nat} {t : TypeId} {cs cs' : Array Value} (h : Blk w g t cs) (e : cs = cs') : Blk w g t cs' := e ▸ h
def OneDone (w : World) (g b size n : Nat) (held : List UInt8) (e : Ending) (w' : World) : Prop :=
  ∃ ring' at', ring'.length = n ∧ e = .returned (.tuple #[]) ∧ Win w' g b size ring' at' held ∧ Touch w w' g b

/-- What 'one' leaves in memory. -/
theorem one_close {w w' : World} {g b size : Nat} {ring : List UInt8} {at_ : Nat} {held : List UInt8} {c : UInt8} (h : Win w g b size ring at_ held) (hr : held.length + 1 ≤ ring.length ∨ ring.length = size)
    (h1 : Blk (w.setCell ⟨b, at_, none⟩ (.int .u8 c.toNat)) b 5 (bvals (ring.set at_ c)).toArray → Blk w' b 5 (bvals (ring.set at_ c)).toArray)
    (h2 : Blk (w.setCell ⟨b, at_, none⟩ (.int .u8 c.toNat)) g 96 (winC size b ring.length at_ held.length) → Blk w' g 96 (winC size b ring.length (if at_ + 1 = ring.length then 0 else at_ + 1) (min size (held.length + 1))))
    (h3 : Touch w w' g b) : OneDone w g b size ring.length (lastN size (held ++ [c])) (.returned (.tuple #[])) w' := by
  have e1 := set_splice ring at_ c h.rg.hat
  have hl : (ring.set at_ c).length = ring.length := List.length_set
  have hc := h.rg.chunk [c] (by have := h.rg.hat; simp; omega) (by simpa using hr)
  rw [← e1] at hc
  refine ⟨ring.set at_ c, if at_ + 1 = ring.length then 0 else at_ + 1, hl, rfl, ⟨hc, ?_, h1 ?_, h.ne⟩, h3⟩
  · have := h2 (h.blk.far (p := ⟨b, at_, none⟩) h.ne _)
    rw [hl, lastN_length, List.length_append]
    exact this
  · have := h.row.set_ at_ (.int .u8 c.toNat)
    rwa [bvals_set] at this

set_option maxHeartbeats 1000000 in
set_option maxRecDepth 100000 in
theorem p_one (g b size : Nat) (ring : List UInt8) (at_ : Nat) (held : List UInt8) (c : UInt8) (w : World) (h : Win w g b size ring at_ held) (hr : held.length + 1 ≤ ring.length ∨ ring.length = size) :
    Calls Try.prog 57 #[.pointer (some ⟨g, 0, none⟩), .int .u8 c.toNat] w (OneDone w g b size ring.length (lastN size (held ++ [c]))) := by
  have kc := Blk.cell h.blk
  have kf := Blk.frozen h.blk
  have h1 := h.rg.hat
  have h2 := h.rg.hn
  have h3 := h.rg.hmax
  have h4 := h.rg.hh
  have kb := h.byte at_ h1
  have kbf := h.row.frozen at_
  have hne : ¬ g = b := h.ne
  have hne' : ¬ b = g := fun e => h.ne e.symm
  simp only [winC] at kc
  have HW := Lib.hid h
  have HR := Lib.hid hr
  clear h hr
  by_cases hw : at_ + 1 = ring.length
  · have hw1 : ((at_ : Int) + 1 == (ring.length : Int)) = true := by rw [beq_iff_eq]; omega
    have HH := Lib.hid hw
    clear hw
    go_enter Try.func57, Try.ntmps57
    go_wp2
    go_region
    go_wp2
    go_quiet (fail)
    go_wp2
    go_region
    go_wp2
    all_goals
      go_end0
      refine one_close HW.out HR.out (fun k => ?_) (fun k => ?_) ?_
      · exact (((((k.far (p := ⟨g, 2, none⟩) hne' _).drewN _).far (p := ⟨g, 2, none⟩) hne' _).far (p := ⟨g, 3, none⟩) hne' _).drew)
      · refine Blk.as (((((k.set_ 2 _).drewN _).set_ 2 _).set_ 3 _).drew) ?_
        rw [if_pos HH.out]
        simp [winC]
        omega
      · exact ((((((Touch.refl w g b).set (p := ⟨b, at_, none⟩) (.inr (.inl rfl)) _).set (p := ⟨g, 2, none⟩) (.inl rfl) _).drewN _).set (p := ⟨g, 2, none⟩) (.inl rfl) _).set (p := ⟨g, 3, none⟩) (.inl rfl) _).drew
  · have hw1 : ((at_ : Int) + 1 == (ring.length : Int)) = false := by rw [beq_eq_false_iff_ne]; omega
    have HH := Lib.hid hw
    clear hw
    go_enter Try.func57, Try.ntmps57
    go_wp2
    go_region
    go_wp2
    go_quiet (fail)
    go_wp2
    go_region
    go_wp2
    all_goals
      go_end0
      refine one_close HW.out HR.out (fun k => ?_) (fun k => ?_) ?_
      · exact ((((k.far (p := ⟨g, 2, none⟩) hne' _).drewN _).far (p := ⟨g, 3, none⟩) hne' _))
      · refine Blk.as ((((k.set_ 2 _).drewN _).set_ 3 _)) ?_
        rw [if_neg HH.out]
        simp [winC]
        omega
      · exact ((((Touch.refl w g b).set (p := ⟨b, at_, none⟩) (.inr (.inl rfl)) _).set (p := ⟨g, 2, none⟩) (.inl rfl) _).drewN _).set (p := ⟨g, 3, none⟩) (.inl rfl) _

theorem splice_two (r : Nat) (p q : List UInt8) (h : p.length + q.length ≤ r) : splice (splice (bvals (List.replicate r 0)) 0 (bvals p)) p.length (bvals q) = bvals ((p ++ q) ++ List.replicate (r - (p ++ q).length) 0) := by
  have e1 : splice (bvals (List.replicate r 0)) 0 (bvals p) = bvals p ++ bvals (List.replicate (r - p.length) 0) := by
    unfold splice
    rw [List.take_zero, List.nil_append, bvals_length, Nat.zero_add]
    simp [bvals]
  rw [e1]
  unfold splice
  have hl : (bvals p).length = p.length := bvals_length p
  rw [List.take_append_of_le_length (by omega), List.take_of_length_le (by omega), bvals_length, ← hl, List.drop_append, hl]
  simp [bvals, List.drop_eq_nil_of_le, Nat.sub_sub]
theorem ReadsB.pos {w : World} {A : Option Addr} {p : List UInt8} (h : ReadsB w A p) : 0 < (bvals p).length → ∃ ad, A = some ad ∧ ∀ (j : Nat) (v : Value), (bvals p)[j]? = some v → w.cell? (ad.add j) = some v := by
  rw [bvals_length]
  intro h0
  obtain ⟨ad, e1, _, e3⟩ := h.2 h0
  exact ⟨ad, e1, e3⟩
theorem run_make_u8 (w : World) (n : Nat) (hn : n ≤ 1000000000) :
    (Instr.makeSlice 68 (.int .i64 n) (.int .i64 n)).run Try.prog w = .ok (.slice (some ⟨w.heap.size, 0, none⟩) n n) (w.alloc (.cells (bvals (List.replicate n 0)).toArray 5)) := by
  obtain ⟨i0, hi, hz0, hz1, hz2⟩ := info_parts info_u8
  have h := run_make (P := Try.prog) w 68 5 i0 _ Try.underlying68 hi hz0 .i64 .i64 n n (by omega) (Int.le_refl _) (by rw [hz2]; omega) (by omega)
  rw [h]
  have e : madeCells (Value.cells (.int .u8 0)) ((n : Int).toNat * i0.size) = (bvals (List.replicate n 0)).toArray := by
    apply Array.ext
    · simp [size_madeCells, bvals, hz1]
    · intro i h1 h2
      simp [madeCells, bvals, bval, Value.cells, Nat.mod_one]
  rw [e]
  simp

def GrowMid (w : World) (size : Nat) (held : List UInt8) (more : Nat) (v : Value) (w' : World) : Prop := v = .int .i64 (min size (held.length + more) : Nat) ∧ w' = w.drew

set_option maxHeartbeats 2000000 in
set_option maxRecDepth 100000 in
theorem p_grow (g b size : Nat) (ring : List UInt8) (at_ : Nat) (held : List UInt8) (more : Nat) (w : World) (h : Win w g b size ring at_ held) (hm : more ≤ 1000000000) :
    Calls Try.prog 55 #[.pointer (some ⟨g, 0, none⟩), .int .i64 more] w (GivesWin w g b size held (held.length + more)) := by
  have kc := Blk.cell h.blk
  have kf := Blk.frozen h.blk
  have h1 := h.rg.hat
  have h2 := h.rg.hn
  have h3 := h.rg.hmax
  have h4 := h.rg.hh
  have h5 := h.rg.hn0
  have hne : ¬ g = b := h.ne
  have hgl := h.blk.lt
  simp only [winC] at kc
  have HW := Lib.hid h
  clear h
  go_enter Try.func55, Try.ntmps55
  go_upto_region 0 with (fail)
  go_cut [4] (fun v wc => GrowMid w size held more v wc)
  case first =>
    go_region
    go_wp2
    all_goals
      go_meet
      case rel =>
        exact ⟨congrArg (Value.int .i64) (by omega), rfl⟩
  case rest =>
    obtain ⟨rfl, rfl⟩ := hcut
    have hN1 : min size (held.length + more) ≤ size := by omega
    have hN2 : min size (held.length + more) = size ∨ min size (held.length + more) = held.length + more := by omega
    generalize min size (held.length + more) = N at *
    have HN := Lib.hid hN2
    clear hN2
    by_cases hle : N ≤ ring.length
    · go_wp2
      go_end0
      exact ⟨b, ring, at_, rfl, HW.out.drew, .inl rfl, (Touch.refl w g b).drew, by have := HN.out; omega⟩
    · go_wp2
      go_loop [5] (fun v => ∃ r : Nat, v = .int .i64 r ∧ ring.length ≤ r ∧ r ≤ size) (fun v => N - (intOf v).toNat)
      case atStart => exact ⟨ring.length, rfl, Nat.le_refl _, h2⟩
      case round =>
        obtain ⟨r, rfl, hr1, hr2⟩ := hrel
        by_cases hrN : r < N
        · go_wp2
          all_goals
            go_round
            case rel => exact ⟨if 2 * r < size then 2 * r else size, congrArg (Value.int .i64) (by split <;> split <;> omega), by split <;> omega, by split <;> omega⟩
            case measure => simp [intOf]; split <;> omega
        · have hmk := Lib.hid (fun w => run_make_u8 w r (by omega))
          go_wp2_with fail
          refine (p_halves g b size ring at_ held held.length w.drew HW.out.drew (Nat.le_refl _)).mono ?_
          rintro e w1' ⟨A, c1, B, c2, p, q, rfl, hp, hq, hpq, n, rfl⟩
          rw [lastN_all (Nat.le_refl _)] at hpq
          have HW1 : Win (w.drew.drewN n) g b size ring at_ held := ⟨HW.out.rg, HW.out.blk, HW.out.row, HW.out.ne⟩
          have hT1 : Touch w (w.drew.drewN n) g b := (Touch.refl w g b).drew.drewN n
          have hs1 : w.heap.size ≤ (w.drew.drewN n).heap.size := hT1.size
          generalize w.drew.drewN n = w1 at *
          have hll : p.length + q.length = held.length := by rw [← hpq, List.length_append]
          have HPQ := Lib.hid hpq
          have kc1 := Blk.cell HW1.blk
          simp only [winC] at kc1
          have hg1 : g < w1.heap.size := by omega
          have hmk1 := hmk.out w1
          have hpr : p.length < r := by omega
          have hpr2 : (p.length : Int) ≤ r := by omega
          have hpr3 : ¬ r = p.length := by omega
          have HL := Lib.hid hll
          have h45 : held.length < r := by omega
          have hlt1 : (p.length : Int) + q.length < r := by omega
          have hlt2 : ((p.length : Int) + q.length == (r : Int)) = false := by rw [beq_eq_false_iff_ne]; omega
          clear hpq kc kf
          have hsz5 : (Try.prog.info? 5).map (·.size) = some 1 := by kernel_rfl
          have hm1 : (bvals p).length = Nat.min p.length r := by rw [bvals_length]; exact (Nat.min_eq_left (by omega)).symm
          have hf1 : 0 + (bvals p).length ≤ (bvals (List.replicate r 0)).length := by rw [bvals_length, bvals_length, List.length_replicate]; omega
          have hm2 : (bvals q).length = Nat.min q.length (r - p.length) := by rw [bvals_length]; exact (Nat.min_eq_left (by omega)).symm
          have hf2 : p.length + (bvals q).length ≤ (splice (bvals (List.replicate r 0)) 0 (bvals p)).length := by rw [length_splice _ _ _ hf1, bvals_length, bvals_length, List.length_replicate]; omega
          have hp' := (hp.alloc (.cells (bvals (List.replicate r 0)).toArray 5)).pos
          have Hm1 := Lib.hid hm1
          have Hf1 := Lib.hid hf1
          have Hm2 := Lib.hid hm2
          have Hf2 := Lib.hid hf2
          have Hp := Lib.hid hp'
          have Hq := Lib.hid hq
          clear hm1 hf1 hm2 hf2 hp' hp hq hll
          go_wp2_with (first
            | (with_reducible refine wpList_copy_splice rfl (.tmp 54) (.tmp 55) 68 68 rfl 5 Try.underlying68 hsz5 (some ⟨w1.heap.size, 0, none⟩) A r r p.length c1 rfl rfl w1.heap.size 0 (bvals (List.replicate r 0)) 5 (heap_alloc_new w1 _) (bvals p) Hm1.out (fun h0 => ⟨rfl, Hp.out h0⟩) Hf1.out (bvals_one _) w1.heap.size w1 ((Below.refl _ _).alloc (Nat.le_refl _) _) (Nat.le_refl _) ?_
               intro w2 HG2 hB2
               have hs2 : w1.heap.size ≤ w2.heap.size := hB2.size
               rw [bvals_length])
            | (with_reducible refine wpList_copy_splice rfl (.tmp 60) (.tmp 61) 68 68 rfl 5 Try.underlying68 hsz5 (some ⟨w1.heap.size, p.length, none⟩) B (r - p.length) (r - p.length) q.length c2 rfl rfl w1.heap.size p.length (splice (bvals (List.replicate r 0)) 0 (bvals p)) 5 HG2.out (bvals q) Hm2.out (fun h0 => ⟨rfl, (Hq.out.below hB2).pos h0⟩) Hf2.out (bvals_one _) w1.heap.size w1 hB2 (Nat.le_refl _) ?_
               intro w3 HG3 hB3
               have hs3 : w1.heap.size ≤ w3.heap.size := hB3.size
               have HT3 := HW1.blk.below hB3 hg1
               have kc3 := Blk.cell HT3
               have kf3 := Blk.frozen HT3
               simp only [winC] at kc3
               clear kc1
               rw [bvals_length]))
          go_quiet (fail)
          go_wp2
          go_end0
          have e1 : splice (splice (bvals (List.replicate r 0)) 0 (bvals p)) p.length (bvals q) = bvals (held ++ List.replicate (r - held.length) 0) := by
            rw [← HPQ.out]
            exact splice_two r p q (by omega)
          have hring := HW1.rg.grown h45 hr2
          have hlen : (held ++ List.replicate (r - held.length) (0 : UInt8)).length = r := by rw [List.length_append, List.length_replicate]; omega
          have hrow : Blk w3 w1.heap.size 5 (bvals (held ++ List.replicate (r - held.length) 0)).toArray := by rw [← e1]; exact HG3.out
          have hne3 : w1.heap.size ≠ g := by omega
          refine ⟨w1.heap.size, _, _, rfl, ⟨hring, ?_, ((hrow.far (p := ⟨g, 1, none⟩) hne3 _).far (p := ⟨g, 2, none⟩) hne3 _).drewN _, fun e => hne3 e.symm⟩, .inr hs1, ?_, ?_⟩
          · rw [hlen]
            refine Blk.as (((HT3.set_ 1 _).set_ 2 _).drewN _) ?_
            simp [winC]
            have := HL.out
            omega
          · exact (((hT1.trans (.of_below hB3) (.inl rfl)).set (p := ⟨g, 1, none⟩) (.inl rfl) _).set (p := ⟨g, 2, none⟩) (.inl rfl) _).drewN _
          · have := HN.out
            rw [hlen]
            omega

end Go.Proofs.Ytiohdgckmolmnaa
