/- Chapter 21 (near): awake, and the law NearNone: by walks. -/
import Derived.Test.YtbalodhgbpagfaaNearSame
set_option linter.unusedSimpArgs false
set_option linter.unusedVariables false
set_option maxRecDepth 100000
namespace Go.Proofs.Ytbalodhgbpagfaa
open Go.RowKit

theorem toP_inj : ∀ (a b : List Mt), a.map toP = b.map toP → a = b
  | [], [], _ => rfl
  | [], _ :: _, h => by simp at h
  | _ :: _, [], h => by simp at h
  | ⟨x, y⟩ :: a, ⟨z, u⟩ :: b, h => by
    simp only [List.map_cons, List.cons.injEq, toP, Prod.mk.injEq] at h
    obtain ⟨⟨rfl, rfl⟩, h⟩ := h
    rw [toP_inj a b h]
def awN : List UInt8 := [97, 98, 99, 97, 98, 97, 98]
theorem at_aw {w : World} {fb g1 g2 g3 : Nat} {a : List Nat} (h : FndI w fb g1 g2 g3 awN a) (i W : Nat) (most : Int) (l : List Mt) (hi : i < 7) (hW : 1 ≤ W) (hm : 2 ≤ most) (hl : recF (fAt (codesB awN) i (min most 258).toNat) (min i W) 1 1 = l.map toP) :
    Calls Try.prog 9 #[.pointer (some ⟨fb, 0, none⟩), .int .i64 (i : Nat), .int .i64 (W : Nat), .int .i64 most] w fun e w' => ∃ v, e = .returned v ∧ RowM w' w.heap.size v l ∧ Below w.heap.size w w' := by
  refine (p_At h i W most hi hW hm (by decide)).mono ?_
  rintro e w' ⟨v, res, rfl, hr, hm, hb⟩
  rw [hl] at hm
  rw [toP_inj _ _ hm] at hr
  exact ⟨v, rfl, hr, hb⟩
set_option maxHeartbeats 4000000 in
theorem p_awake21 (w : World) : Calls Try.prog 6 #[] w fun e w' => e = .returned (.bool true) ∧ Below w.heap.size w w' := by
  have hnew : Calls Try.prog 7 #[.string ⟨#[97, 98, 99, 97, 98, 97, 98]⟩] w (NewDone w awN) := p_New awN (sort_few awN (by decide)) (by decide) w
  go_enter Try.func6, Try.ntmps6
  go_wp2_with fail
  refine hnew.mono ?_
  rintro e w1 ⟨fb, g1, g2, g3, a, rfl, hF, hB1⟩
  have a1 : Calls Try.prog 9 #[.pointer (some ⟨fb, 0, none⟩), .int .i64 5, .int .i64 9, .int .i64 9] w1 fun e w' => ∃ v, e = .returned v ∧ RowM w' w1.heap.size v [⟨2, 2⟩] ∧ Below w1.heap.size w1 w' := at_aw hF 5 9 9 [⟨2, 2⟩] (by decide) (by decide) (by decide) (by decide)
  have H1 := Lib.hid (And.intro hF hB1)
  clear hnew hF hB1
  go_wp2_with fail
  refine a1.mono ?_
  rintro e w2 ⟨v, rfl, r2, b2⟩
  have f2 := H1.out.1.below b2
  have r2a : RowM (w2.alloc (.cells #[.int .i64 2, .int .i64 2] 31)) w1.heap.size v [⟨2, 2⟩] := Row.alloc r2 _
  have r2b : RowM (w2.alloc (.cells #[.int .i64 2, .int .i64 2] 31)) w2.heap.size (.slice (some ⟨w2.heap.size, 0, none⟩) 1 1) [⟨2, 2⟩] := RowM.lit [⟨2, 2⟩] (Blk.new w2 _ _) (Nat.le_refl _) (by decide)
  have s2 := p_SameM r2a r2b (by decide)
  have B2 := bl_then H1.out.2 H1.out.2.size b2
  have H2 := Lib.hid (And.intro f2 B2)
  clear a1 r2 b2 f2 r2a r2b B2
  go_wp2_with fail
  refine s2.mono ?_
  rintro e w3 ⟨rfl, b3⟩
  have F3 : FndI w3 fb g1 g2 g3 awN a := (H2.out.1.below ((Below.refl _ w2).alloc (Nat.le_refl _) _)).below b3
  have B3' : Below w.heap.size w (w2.alloc (.cells #[.int .i64 2, .int .i64 2] 31)) := H2.out.2.alloc H2.out.2.size _
  have B3 : Below w.heap.size w w3 := bl_then B3' B3'.size b3
  have a3 : Calls Try.prog 9 #[.pointer (some ⟨fb, 0, none⟩), .int .i64 3, .int .i64 9, .int .i64 9] w3 fun e w' => ∃ v, e = .returned v ∧ RowM w' w3.heap.size v [⟨2, 3⟩] ∧ Below w3.heap.size w3 w' := at_aw F3 3 9 9 [⟨2, 3⟩] (by decide) (by decide) (by decide) (by decide)
  have H3 := Lib.hid (And.intro F3 B3)
  clear s2 b3 F3 B3' B3
  go_wp2_with fail
  refine a3.mono ?_
  rintro e w4 ⟨v3, rfl, r4, b4⟩
  have f4 := H3.out.1.below b4
  have r4a : RowM (w4.alloc (.cells #[.int .i64 2, .int .i64 3] 31)) w3.heap.size v3 [⟨2, 3⟩] := Row.alloc r4 _
  have r4b : RowM (w4.alloc (.cells #[.int .i64 2, .int .i64 3] 31)) w4.heap.size (.slice (some ⟨w4.heap.size, 0, none⟩) 1 1) [⟨2, 3⟩] := RowM.lit [⟨2, 3⟩] (Blk.new w4 _ _) (Nat.le_refl _) (by decide)
  have s4 := p_SameM r4a r4b (by decide)
  have B4 := bl_then H3.out.2 H3.out.2.size b4
  have H4 := Lib.hid (And.intro f4 B4)
  clear a3 r4 b4 f4 r4a r4b B4
  go_wp2_with fail
  refine s4.mono ?_
  rintro e w5 ⟨rfl, b5⟩
  have F5 : FndI w5 fb g1 g2 g3 awN a := (H4.out.1.below ((Below.refl _ w4).alloc (Nat.le_refl _) _)).below b5
  have B5' : Below w.heap.size w (w4.alloc (.cells #[.int .i64 2, .int .i64 3] 31)) := H4.out.2.alloc H4.out.2.size _
  have B5 : Below w.heap.size w w5 := bl_then B5' B5'.size b5
  have a5 : Calls Try.prog 9 #[.pointer (some ⟨fb, 0, none⟩), .int .i64 0, .int .i64 9, .int .i64 9] w5 fun e w' => ∃ v, e = .returned v ∧ RowM w' w5.heap.size v [] ∧ Below w5.heap.size w5 w' := at_aw F5 0 9 9 [] (by decide) (by decide) (by decide) (by decide)
  have H5 := Lib.hid (And.intro F5 B5)
  clear s4 b5 F5 B5' B5
  go_wp2_with fail
  refine a5.mono ?_
  rintro e w6 ⟨v5, rfl, r6, b6⟩
  obtain ⟨A6, c6, rfl, -⟩ := Row.slice r6
  have F6 := H5.out.1.below b6
  have B6 := bl_then H5.out.2 H5.out.2.size b6
  have a6 : Calls Try.prog 9 #[.pointer (some ⟨fb, 0, none⟩), .int .i64 5, .int .i64 1, .int .i64 9] w6 fun e w' => ∃ v, e = .returned v ∧ RowM w' w6.heap.size v [] ∧ Below w6.heap.size w6 w' := at_aw F6 5 1 9 [] (by decide) (by decide) (by decide) (by decide)
  have H6 := Lib.hid (And.intro F6 B6)
  clear r6 a5 b6 F6 B6
  go_wp2_with fail
  refine a6.mono ?_
  rintro e w7 ⟨v7, rfl, r7, b7⟩
  obtain ⟨A7, c7, rfl, -⟩ := Row.slice r7
  have F7 := H6.out.1.below b7
  have B7 := bl_then H6.out.2 H6.out.2.size b7
  have a7 := p_At_bad F7 5 9 1 (by omega)
  have a8 := p_At_bad F7 7 9 9 (.inr (.inl (by decide)))
  have H7 := Lib.hid B7
  clear r7 a6 b7 F7 B7
  go_wp2_with fail
  refine a7.mono ?_
  rintro e w8 ⟨rfl, rfl⟩
  go_wp2_with fail
  refine a8.mono ?_
  rintro e w9 ⟨rfl, rfl⟩
  go_wp2
  go_ret
  exact ⟨rfl, H7.out⟩
theorem law_NearNone (i W most : Int) (w : World) : Calls Try.prog 5 #[.int .i64 i, .int .i64 W, .int .i64 most] w fun e w' => e = .returned (.bool true) ∧ Below w.heap.size w w' := by
  have h1 := p_At_nil i W most w
  have h2 := p_awake21 w
  go_enter Try.func5, Try.ntmps5
  go_wp2_with fail
  refine h1.mono ?_
  rintro e w1 ⟨rfl, rfl⟩
  go_wp2_with fail
  refine h2.mono ?_
  rintro e w2 ⟨rfl, hb⟩
  have HB := Lib.hid hb
  clear h1 h2 hb
  go_wp2
  go_ret
  exact ⟨rfl, HB.out⟩
end Go.Proofs.Ytbalodhgbpagfaa
