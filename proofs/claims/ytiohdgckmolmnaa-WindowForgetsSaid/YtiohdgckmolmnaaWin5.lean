/- Chapter 29 (window): Copy: what it does, by a walk. -/
import Derived.Test.YtiohdgckmolmnaaWin4
set_option linter.unusedSimpArgs false
set_option linter.unusedVariables false
namespace Go.Proofs.Ytiohdgckmolmnaa
open Go.RowKit

/-- The bytes that a copy tells, and what is held behind it. -/
def wOut (held : List UInt8) (n d : Int) : List UInt8 := if copyE held.length n d 67108864 = 0 then (cpy d.toNat n.toNat held).drop held.length else []
def wHeld (size : Nat) (held : List UInt8) (n d : Int) : List UInt8 := if copyE held.length n d 67108864 = 0 then lastN size (cpy d.toNat n.toNat held) else held
def CopyDone (w : World) (g b size : Nat) (held : List UInt8) (n d : Int) (e : Ending) (w' : World) : Prop :=
  ∃ b' ring at_, e = .returned (.tuple #[.string (str (wOut held n d)), .int .i64 (copyE held.length n d 67108864)]) ∧ Win w' g b' size ring at_ (wHeld size held n d) ∧ (b' = b ∨ w.heap.size ≤ b') ∧ Touch w w' g b

theorem set_next (a : List UInt8) (k m : Nat) (x : UInt8) (ha : a.length = k) (hk : k < m) : (a ++ List.replicate (m - k) 0).set k x = (a ++ [x]) ++ List.replicate (m - (k + 1)) 0 := by
  subst ha
  rw [List.set_append_right _ _ (Nat.le_refl _), Nat.sub_self]
  obtain ⟨j, hj⟩ : ∃ j, m - a.length = j + 1 := ⟨m - a.length - 1, by omega⟩
  rw [hj, List.replicate_succ, List.set_cons_zero, show m - (a.length + 1) = j by omega, List.append_assoc]
  rfl
theorem reads_row {w : World} {b : Nat} {l : List UInt8} (h : Blk w b 5 (bvals l).toArray) : ReadsB w (some ⟨b, 0, none⟩) l :=
  ⟨by rw [bvals_length, Nat.mul_one], fun _ => ⟨_, rfl, h.lt, fun j u hu => by
    have e1 : ((⟨b, 0, none⟩ : Addr).add j) = ⟨b, j, none⟩ := by unfold Addr.add; split <;> simp_all
    rw [e1, h.cell, List.getElem?_toArray]; exact hu⟩⟩

theorem p_WCopy_nil (n d : Int) (w : World) : Calls Try.prog 38 #[.pointer none, .int .i64 n, .int .i64 d] w fun e w' => e = .returned (.tuple #[.string (str []), .int .i64 1]) ∧ w = w' := by
  go_enter Try.func38, Try.ntmps38
  go_wp2
  go_ret2
  exact ⟨rfl, rfl⟩

set_option maxHeartbeats 4000000 in
set_option maxRecDepth 100000 in
theorem p_WCopy (g b size : Nat) (ring : List UInt8) (at_ : Nat) (held : List UInt8) (n d : Int) (w : World) (h : Win w g b size ring at_ held) :
    Calls Try.prog 38 #[.pointer (some ⟨g, 0, none⟩), .int .i64 n, .int .i64 d] w (CopyDone w g b size held n d) := by
  have h1 := h.rg.hh
  have h2 := h.rg.hn
  have h3 := h.rg.hmax
  have HW := Lib.hid h
  clear h
  by_cases hn : n < 0 ∨ 258 < n
  · have he : copyE held.length n d 67108864 = 1 := if_pos (by omega)
    have HE := Lib.hid he
    clear he
    rcases hn with hn | hn
    · go_enter Try.func38, Try.ntmps38
      go_wp2
      go_ret2
      exact ⟨b, ring, at_, by unfold wOut; rw [HE.out]; rfl, by unfold wHeld; rw [HE.out]; exact HW.out, .inl rfl, Touch.refl _ _ _⟩
    · have hn0 : ¬ n < 0 := by omega
      go_enter Try.func38, Try.ntmps38
      go_wp2
      go_ret2
      exact ⟨b, ring, at_, by unfold wOut; rw [HE.out]; rfl, by unfold wHeld; rw [HE.out]; exact HW.out, .inl rfl, Touch.refl _ _ _⟩
  · have hn1 : ¬ n < 0 := by omega
    have hn2 : ¬ 258 < n := by omega
    by_cases hd : d < 1 ∨ held.length < d
    · have he : copyE held.length n d 67108864 = 10 := by unfold copyE; rw [if_neg (by omega), if_pos (by omega)]
      have HE := Lib.hid he
      clear he hn
      by_cases hd0 : d < 1
      · clear hd
        go_enter Try.func38, Try.ntmps38
        go_wp2_with fail
        (try (refine (p_Have g b size ring at_ held _ HW.out).mono ?_; rintro e w' ⟨rfl, rfl⟩; go_wp2_with fail))
        go_ret2
        exact ⟨b, ring, at_, by unfold wOut; rw [HE.out]; rfl, by unfold wHeld; rw [HE.out]; exact HW.out, .inl rfl, Touch.refl _ _ _⟩
      · have hd1 : (held.length : Int) < d := by omega
        clear hd
        go_enter Try.func38, Try.ntmps38
        go_wp2_with fail
        refine (p_Have g b size ring at_ held _ HW.out).mono ?_
        rintro e w' ⟨rfl, rfl⟩
        go_wp2
        go_ret2
        exact ⟨b, ring, at_, by unfold wOut; rw [HE.out]; rfl, by unfold wHeld; rw [HE.out]; exact HW.out, .inl rfl, Touch.refl _ _ _⟩
    · have he : copyE held.length n d 67108864 = 0 := by unfold copyE; rw [if_neg (by omega), if_neg (by omega)]
      have HE := Lib.hid he
      clear he
      obtain ⟨m, rfl⟩ : ∃ m : Nat, n = m := ⟨n.toNat, by omega⟩
      obtain ⟨dd, rfl⟩ : ∃ x : Nat, d = x := ⟨d.toNat, by omega⟩
      have hd0 : ¬ (dd : Int) < 1 := by omega
      have hd1 : ¬ (held.length : Int) < (dd : Int) := by omega
      have hd2 : 1 ≤ dd := by omega
      have hd3 : dd ≤ held.length := by omega
      have hm : m ≤ 258 := by omega
      clear hd hn
      have hmk := Lib.hid (fun w => run_make_u8 w m (by omega))
      go_enter Try.func38, Try.ntmps38
      go_wp2_with fail
      refine (p_Have g b size ring at_ held _ HW.out).mono ?_
      rintro e w' ⟨rfl, rfl⟩
      go_wp2_with fail
      refine (p_grow g b size ring at_ held m w HW.out (by omega)).mono ?_
      rintro e w1 ⟨b1, ring1, at1, rfl, hW1, hb1, hT1, hroom⟩
      have hmk1 := hmk.out w1
      go_wp2_with fail
      have hob1 : g ≠ w1.heap.size := by have := hW1.blk.lt; omega
      have hob2 : b1 ≠ w1.heap.size := by have := hW1.row.lt; omega
      have HR := Lib.hid hroom
      have HT1 := Lib.hid hT1
      have hrl := hW1.rg.hh
      have hrn := hW1.rg.hn
      go_loopw [37] (fun v37 wr => ∃ (k : Nat) (ring2 : List UInt8) (at2 : Nat), k ≤ m ∧ v37 = .int .i64 k ∧ Win wr g b1 size ring2 at2 (lastN size (cpy dd k held)) ∧ ring2.length = ring1.length ∧ Blk wr w1.heap.size 5 (bvals ((cpy dd k held).drop held.length ++ List.replicate (m - k) 0)).toArray ∧ Touch w1 wr g b1) (fun v37 _ => m - (intOf v37).toNat)
      case atStart =>
        refine ⟨0, ring1, at1, Nat.zero_le _, rfl, ?_, rfl, ?_, (Touch.refl _ _ _).alloc _⟩
        · rw [show cpy dd 0 held = held from rfl, lastN_all (by omega)]
          exact hW1.below (bl_alloc (Below.refl _ _) _)
        · rw [show cpy dd 0 held = held from rfl, List.drop_length, List.nil_append, Nat.sub_zero]
          exact Blk.new w1 _ _
      case round =>
        obtain ⟨k, ring2, at2, hk, rfl, hW2, hl2, hO, hT2⟩ := hrel
        have HL2 := Lib.hid hl2
        have HT2 := Lib.hid hT2
        have HO := Lib.hid hO
        clear hl2 hT2 hroom hT1
        by_cases hkm : k < m
        · obtain ⟨c1, c2, c3⟩ := cpy_next (size := size) (i := k) hd2 hd3 (by omega)
          have HC := Lib.hid c3
          have HLL := Lib.hid (lastN_length size (cpy dd k held))
          clear c3
          have HLA : Hid (∀ c, lastN size (lastN size (cpy dd k held) ++ c) = lastN size (cpy dd k held ++ c)) := Lib.hid fun c => lastN_append _ _ _
          generalize lastN size (cpy dd k held) = H at *
          obtain ⟨x, hx⟩ : ∃ x, x = H.getD (H.length - dd) 0 := ⟨_, rfl⟩
          rw [← hx] at HC
          have hpl := hW2.rg.place_lt hd2 (by have := hW2.rg.hh; omega)
          have hxc : wr.cell? ⟨b1, wplace ring2.length at2 dd, none⟩ = some (.int .u8 x.toNat) := by
            have e1 := hW2.rg.hc dd hd2 c2
            have e2 := hW2.byte _ hpl
            rw [e2]
            rw [List.getElem?_eq_getElem hpl, List.getElem?_eq_getElem c1] at e1
            injection e1 with e1
            rw [e1, hx, List.getD_eq_getElem?_getD, List.getElem?_eq_getElem c1]
            rfl
          have HPL : Hid (∀ W, Win W g b1 size ring2 at2 H → Calls Try.prog 56 #[.pointer (some ⟨g, 0, none⟩), .int .i64 dd] W fun e w' => e = .returned (.int .i64 (wplace ring2.length at2 dd)) ∧ W = w') :=
            Lib.hid fun W hW => p_place g b1 size ring2 at2 H dd W hW (by have := hW.rg.hh; omega)
          generalize wplace ring2.length at2 dd = pl at *
          have kc := Blk.cell hW2.blk
          simp only [winC] at kc
          have hok : k < ((cpy dd k held).drop held.length ++ List.replicate (m - k) (0 : UInt8)).length := by rw [List.length_append, List.length_drop, cpy_length, List.length_replicate]; omega
          have ho : wr.cell? ⟨w1.heap.size, k, none⟩ = some (bval ((cpy dd k held).drop held.length ++ List.replicate (m - k) (0 : UInt8))[k]) := by rw [hO.cell, List.getElem?_toArray, bvals_get _ k hok]
          have hof := hO.frozen k
          have HW2 := Lib.hid hW2
          have i1 : (pl : Int) < ring2.length := by omega
          have i2 : (k : Int) < m := by omega
          clear hW2 hO hx
          go_upto_region 10 with (fail)
          go_region_with (go_at_call 56; refine (HPL.out _ HW2.out.drew).mono ?_; rintro e w' ⟨rfl, rfl⟩)
          all_goals
            go_wp2_with fail
            have HW3 : Win (wr.setCell ⟨w1.heap.size, k, none⟩ (.int .u8 x.toNat)).drew g b1 size ring2 at2 H :=
              ⟨HW2.out.rg, (HW2.out.blk.far (p := ⟨w1.heap.size, k, none⟩) hob1 _).drew, (HW2.out.row.far (p := ⟨w1.heap.size, k, none⟩) hob2 _).drew, HW2.out.ne⟩
            refine (p_one g b1 size ring2 at2 H x _ HW3 (by have e1 := HLL.out; rw [cpy_length] at e1; have := HR.out; have := HL2.out; omega)).mono ?_
            rintro e w5 ⟨ring3, at3, hl3, rfl, hW5, hT5⟩
            have HL3 := Lib.hid hl3
            clear hl3
            go_wp2_with fail
            go_roundw
            case rel =>
              refine ⟨k + 1, ring3, at3, by omega, by go_num, ?_, HL3.out.trans HL2.out, ?_, ?_⟩
              · rw [HC.out, ← HLA.out]
                exact hW5
              · have q1 := ((HO.out.set_ k (.int .u8 x.toNat)).drew).touch hT5 (fun e => hob1 e.symm) (fun e => hob2 e.symm)
                rw [bvals_set] at q1
                refine Blk.as q1 ?_
                rw [HC.out, set_next _ _ _ _ (by rw [List.length_drop, cpy_length]; omega) hkm, List.drop_append_of_le_length (by rw [cpy_length]; omega)]
              · exact (((HT2.out).set (p := ⟨w1.heap.size, k, none⟩) (.inr (.inr (Nat.le_refl _))) _).drew).trans hT5 (.inl rfl)
            case measure => simp [intOf]; omega
        · obtain rfl : k = m := by omega
          have hrd := reads_row HO.out
          rw [Nat.sub_self, List.replicate_zero, List.append_nil] at hrd
          have hol : ((cpy dd k held).drop held.length).length = k := by rw [List.length_drop, cpy_length]; omega
          have s1 := run_str wr _ (some ⟨w1.heap.size, 0, none⟩) k k _ (by have := hrd; unfold ReadsB at this; rw [hol] at this; exact this)
          clear hrd hol
          go_wp2
          go_ret2
          refine ⟨b1, ring2, at2, by unfold wOut; rw [if_pos HE.out, HE.out]; rfl, by unfold wHeld; rw [if_pos HE.out]; exact hW2, hb1, HT1.out.trans HT2.out hb1⟩

end Go.Proofs.Ytiohdgckmolmnaa
