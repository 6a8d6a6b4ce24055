/- Chapter 29's laws: one deed of a window, and of all bytes: by a walk. -/
import Derived.Test.YtiohdgckmolmnaaLaw29
set_option linter.unusedSimpArgs false
set_option linter.unusedVariables false
namespace Go.Proofs.Ytiohdgckmolmnaa
open Go.RowKit

structure Deed where
  kind : Int
  n : Int
  d : Int
  s : List UInt8
def deedV (x : Deed) : Value := .agg #[.int .i64 x.kind, .int .i64 x.n, .int .i64 x.d, .string (str x.s)]
/-- The bytes that a deed adds. -/
def deedMore (size : Nat) (all : List UInt8) (x : Deed) : List UInt8 := if x.kind ≠ 1 then x.s else wOut (lastN size all) x.n x.d
theorem cpy_prefix (d : Nat) : ∀ (n : Nat) (h : List UInt8), ∃ m, cpy d n h = h ++ m
  | 0, h => ⟨[], by simp [cpy]⟩
  | n + 1, h => by
    obtain ⟨m, hm⟩ := cpy_prefix d n (h ++ [h.getD (h.length - d) 0])
    exact ⟨[h.getD (h.length - d) 0] ++ m, by rw [← List.append_assoc]; exact hm⟩
theorem cpy_split (d n : Nat) (h : List UInt8) : cpy d n h = h ++ (cpy d n h).drop h.length := by
  obtain ⟨m, hm⟩ := cpy_prefix d n h
  rw [hm, List.drop_left]
theorem wHeld_eq (size : Nat) (all : List UInt8) (n d : Int) : wHeld size (lastN size all) n d = lastN size (all ++ wOut (lastN size all) n d) := by
  unfold wHeld wOut
  split
  · rename_i h
    conv => lhs; rw [cpy_split]
    rw [lastN_append]
  · rw [List.append_nil]
theorem wOut_length (held : List UInt8) (n d : Int) : (wOut held n d).length ≤ 258 := by
  unfold wOut
  split
  · rename_i h
    obtain ⟨h1, h2, _⟩ := copyE_zero h
    rw [List.length_drop, cpy_length]
    omega
  · simp
theorem str_self (x : List UInt8) : ((str x).toList == (str x).toList) = true := by simp

def OneDeed (w : World) (g b size : Nat) (all : List UInt8) (e : Ending) (w' : World) : Prop :=
  ∃ b' ring at_, e = .returned (.tuple #[.string (str all), .bool true]) ∧ Win w' g b' size ring at_ (lastN size all) ∧ (b' = b ∨ w.heap.size ≤ b') ∧ Touch w w' g b

set_option maxHeartbeats 4000000 in
set_option maxRecDepth 100000 in
theorem p_deed (g b size : Nat) (ring : List UInt8) (at_ : Nat) (all : List UInt8) (x : Deed) (w : World) (h : Win w g b size ring at_ (lastN size all)) (ha : all.length ≤ 1000000) (hs : x.s.length ≤ 1000000) :
    Calls Try.prog 33 #[.pointer (some ⟨g, 0, none⟩), .string (str all), .int .i64 size, deedV x] w (OneDeed w g b size (all ++ deedMore size all x)) := by
  obtain ⟨k, n, d, s⟩ := x
  unfold deedV
  simp only at hs ⊢
  have hsz1 := str_size all
  have hsz2 := str_size s
  have h3 := h.rg.hmax
  have hW0 := h.below (bl_alloc (Below.refl _ _) (.cells #[.int .i64 k, .int .i64 n, .int .i64 d, .string (str s)] 55))
  have hgl := h.blk.lt
  have hbl := h.row.lt
  have hT0 : Touch w (w.alloc (.cells #[.int .i64 k, .int .i64 n, .int .i64 d, .string (str s)] 55)) g b := (Touch.refl _ _ _).alloc _
  have hD0 := Blk.new w 55 #[.int .i64 k, .int .i64 n, .int .i64 d, .string (str s)]
  have H1 := Lib.hid hW0
  have H2 := Lib.hid hT0
  have H3 := Lib.hid hD0
  clear h hW0 hT0 hD0
  by_cases hk : k = 1
  · subst hk
    have HM : Hid (deedMore size all ⟨1, n, d, s⟩ = wOut (lastN size all) n d) := Lib.hid (if_neg (by simp))
    have hn1 : (g : Nat) ≠ w.heap.size := by omega
    go_enter Try.func33, Try.ntmps33
    go_wp2_with fail
    refine (p_WCopy g b size ring at_ (lastN size all) n d _ H1.out).mono ?_
    rintro e w1 ⟨b1, ring1, at1, rfl, hW1, hb1, hT1⟩
    have hD1 := H3.out.touch hT1 (fun e => hn1 e.symm) (by omega)
    have kc := Blk.cell hD1
    have HW := Lib.hid hW1
    have HT := Lib.hid (H2.out.trans hT1 (.inl rfl))
    have hsw : w.heap.size < w1.heap.size := by have := hT1.size; simp at this; omega
    have HB := Lib.hid hb1
    clear hW1 hT1 hb1 hD1
    go_wp2_with fail
    refine (p_lastS all size w1 (by omega)).mono ?_
    rintro e w' ⟨rfl, rfl⟩
    rw [show lastI (size : Int) all = lastN size all from rfl]
    generalize hH : lastN size all = H at *
    have hHl : H.length ≤ 1000000 := by rw [← hH, lastN_length]; omega
    have HH := Lib.hid hH
    clear hH
    have hszH := str_size H
    go_wp2_with fail
    refine (r_Copy (str H) n d 67108864 w1 (by rw [hszH]; omega)).mono ?_
    rintro e w2 ⟨rfl, hb2⟩
    rw [str_data, hszH]
    have HB2 := Lib.hid hb2
    by_cases hc : copyE H.length n d 67108864 = 0
    · have e1 : copyB H n d 67108864 = cpy d.toNat n.toNat H := if_pos hc
      have e2 : wOut H n d = (cpy d.toNat n.toNat H).drop H.length := if_pos hc
      have hx := str_extract (cpy d.toNat n.toNat H) H.length
      rw [str_size, ← e2] at hx
      have hlo := wOut_length H n d
      have hcl := cpy_length d.toNat n.toNat H
      have hn258 : n.toNat ≤ 258 := by have := copyE_zero hc; omega
      have hszc := str_size (cpy d.toNat n.toNat H)
      have hcp : H.length ≤ (cpy d.toNat n.toNat H).length := by omega
      have hcm : (cpy d.toNat n.toNat H).length ≤ 2000000 := by omega
      have hadd := hadd29 all (wOut H n d) (by omega)
      have haz : (str all).size + (str (wOut H n d)).size ≤ 9223372036854775807 := by rw [str_size, str_size]; omega
      have hself := str_self (wOut H n d)
      rw [e1, hc]
      have HX := Lib.hid hx
      have HC := Lib.hid hc
      have HHl := Lib.hid hlo
      clear hx hc e1 e2 hcl hlo hb2
      generalize cpy d.toNat n.toNat H = CP at *
      generalize hO : wOut H n d = O at *
      have HO := Lib.hid hO
      clear hO
      go_wp2
      go_ret2
      have eA : str all ++ (str CP).extract H.length CP.length = str (all ++ O) := by rw [HX.out, str_append29]
      have eB : ((str O).toList == ((str CP).extract H.length CP.length).toList) = true := by rw [HX.out]; exact hself
      refine ⟨b1, ring1, at1, ?_, ?_, ?_, ?_⟩
      · show Ending.returned (.tuple #[.string (str all ++ (str CP).extract H.length CP.length), .bool ((str O).toList == ((str CP).extract H.length CP.length).toList)]) = _
        rw [eA, eB, HM.out]
      · rw [HM.out, ← HO.out, ← HH.out, ← wHeld_eq, HH.out]
        exact HW.out.below HB2.out
      · have := HB.out
        rw [World.size_alloc] at this
        omega
      · exact HT.out.trans (.of_below HB2.out) (.inl rfl)
    · have e1 : copyB H n d 67108864 = [] := if_neg hc
      have e2 : wOut H n d = [] := if_neg hc
      have hne : (copyE H.length n d 67108864 != 0) = true := by rw [bne_iff_ne]; exact hc
      rw [e1, e2, show str ([] : List UInt8) = ⟨#[]⟩ from rfl]
      have HO := Lib.hid e2
      clear e1 e2 hc hb2
      generalize copyE H.length n d 67108864 = er at *
      go_wp2
      go_ret2
      refine ⟨b1, ring1, at1, ?_, ?_, ?_, ?_⟩
      · rw [HM.out, HO.out, List.append_nil]
        rfl
      · rw [HM.out, ← HH.out, ← wHeld_eq, HH.out]
        exact HW.out.below HB2.out
      · have := HB.out
        rw [World.size_alloc] at this
        omega
      · exact HT.out.trans (.of_below HB2.out) (.inl rfl)
  · have HM : Hid (deedMore size all ⟨k, n, d, s⟩ = s) := Lib.hid (if_pos hk)
    have hk1 : (k != 1) = true := by rw [bne_iff_ne]; exact hk
    have hn1 : (g : Nat) ≠ w.heap.size := by omega
    have hadd := hadd29 all s (by omega)
    have haz : (str all).size + (str s).size ≤ 9223372036854775807 := by rw [str_size, str_size]; omega
    clear hk
    go_enter Try.func33, Try.ntmps33
    go_wp2_with fail
    refine (p_Put g b size ring at_ (lastN size all) s _ H1.out (by omega)).mono ?_
    rintro e w1 ⟨b1, ring1, at1, rfl, hW1, hb1, hT1, -⟩
    rw [lastN_append] at hW1
    have hD1 := H3.out.touch hT1 (fun e => hn1 e.symm) (by omega)
    have kc := Blk.cell hD1
    have HW := Lib.hid hW1
    have HT := Lib.hid (H2.out.trans hT1 (.inl rfl))
    have hsw : w.heap.size < w1.heap.size := by have := hT1.size; simp at this; omega
    have HB := Lib.hid hb1
    clear hW1 hT1 hb1 hD1
    go_wp2
    go_ret2
    refine ⟨b1, ring1, at1, ?_, ?_, ?_, HT.out⟩
    · rw [HM.out]
      first | rfl | (rw [← str_append29]; rfl)
    · rw [HM.out]
      exact HW.out
    · have := HB.out
      rw [World.size_alloc] at this
      omega

end Go.Proofs.Ytiohdgckmolmnaa
