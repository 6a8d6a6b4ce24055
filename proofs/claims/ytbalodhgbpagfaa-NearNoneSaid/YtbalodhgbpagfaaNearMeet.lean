/- Package near: a map of sources, and meet: by a walk. -/
import Derived.Test.YtbalodhgbpagfaaSufRow
import Derived.Test.YtbalodhgbpagfaaNearPlain
import Derived.Maps.Own
import Derived.Maps.OwnOps
import Derived.Maps.OwnSet
import Derived.Maps.RangeWalk
import Derived.Maps.Keyed
set_option linter.unusedSimpArgs false
set_option linter.unusedVariables false
set_option maxRecDepth 100000
namespace Go.Proofs.Ytbalodhgbpagfaa
open Go.RowKit Go.Maps

abbrev DN := DataW Unit
structure MapB (D : DN) (b : Nat → Option Nat) : Prop where
  has : ∀ n : Nat, has D (.int .i64 (n : Int)) = (b n).isSome
  at_ : ∀ n d : Nat, b n = some d → ∀ z, D.atKey (.int .i64 (n : Int)) z = .lit (.int .i64 (d : Int))
  nat : ∀ z : Int, Go.Maps.has D (.int .i64 z) = true → ∃ n : Nat, z = n
theorem MapB.start : MapB (.map []) (fun _ => none) := ⟨fun n => rfl, fun n d h => (by cases h), fun z h => (by cases h)⟩
theorem MapB.put {D : DN} {b : Nat → Option Nat} (hD : IsMap D) (h : MapB D b) (n d : Nat) : MapB (D.put (.int .i64 (n : Int)) (.lit (.int .i64 (d : Int)))) (fun m => if m = n then some d else b m) := by
  have hk : WideAt.IsKeyLit (Lit.int .i64 (n : Int)) := trivial
  have hne : ∀ m : Nat, m ≠ n → (Lit.int .i64 (m : Int)) ≠ Lit.int .i64 (n : Int) := fun m hm e => hm (by injection e; omega)
  refine ⟨fun m => ?_, fun m d' hb z => ?_, fun z hz => ?_⟩
  · by_cases q : m = n
    · subst q
      rw [has_put_same hD hk, if_pos rfl]
      rfl
    · rw [has_put_other (hne m q), if_neg q]
      exact h.has m
  · by_cases q : m = n
    · subst q
      rw [if_pos rfl] at hb
      cases hb
      rw [atKey_put_same hD hk]
    · rw [if_neg q] at hb
      rw [atKey_put_other (hne m q)]
      exact h.at_ m d' hb z
  · by_cases q : z = n
    · exact ⟨n, q⟩
    · rw [has_put_other (fun e => q (by injection e))] at hz
      exact h.nat z hz
theorem meetB_none {b : Nat → Option Nat} {n d : Nat} (h : b n = none) : meetB b n d = fun m => if m = n then some d else b m := by unfold meetB; rw [h]
theorem meetB_less {b : Nat → Option Nat} {n d d' : Nat} (h : b n = some d') (hl : d < d') : meetB b n d = fun m => if m = n then some d else b m := by unfold meetB; rw [h]; exact if_pos hl
theorem meetB_not {b : Nat → Option Nat} {n d d' : Nat} (h : b n = some d') (hl : ¬ d < d') : meetB b n d = b := by unfold meetB; rw [h]; exact if_neg hl
theorem wf_smallN {z : Int} (h0 : 0 ≤ z) (h1 : z ≤ 1000000000) : (Lit.int .i64 z).wf = true := by
  have e : IntKind.i64.min = -9223372036854775808 := by decide
  simp [Lit.wf, e]
  omega
def OwnB (w : World) (mb nn : Nat) (b : Nat → Option Nat) : Prop := ∃ D : DN, w.ownsMap Try.prog 3 (plainElem Try.prog 3) mb nn D ∧ MapB D b
def meetI (b : Nat → Option Nat) (i k n : Nat) (window : Int) : Nat → Option Nat := if (i : Int) - k < 1 ∨ window < (i : Int) - k then b else meetB b n (i - k)
theorem lit_inj' {a b : Int} (h : (DataW.lit (Lit.int .i64 a) : DN) = .lit (.int .i64 b)) : a = b := by injection h with h; injection h
set_option maxHeartbeats 4000000 in
theorem p_meet (mb nn : Nat) (b : Nat → Option Nat) (i k n : Nat) (window : Int) (w : World) (h : OwnB w mb nn b) (hnn : nn ≤ 1000000000) (hi : i ≤ 1000000000) (hk : k ≤ 1000000000) (hn : n ≤ 1000000000) :
    Calls Try.prog 15 #[.map (some mb), .int .i64 i, .int .i64 k, .int .i64 n, .int .i64 window] w fun e w' => (∃ v, e = .returned v) ∧ OwnB w' mb (nn + 1) (meetI b i k n window) ∧ w.grownBy w' (some mb) := by
  have e1 : IntKind.i64.wrap ((i : Int) - (k : Int)) = (i : Int) - (k : Int) := Go.IntWalk.i64_in _ (by omega)
  obtain ⟨D, hown, hB⟩ := h
  have HSAME : Hid (meetI b i k n window = b → OwnB w mb (nn + 1) (meetI b i k n window) ∧ w.grownBy w (some mb)) := Lib.hid (fun e => ⟨by rw [e]; exact ⟨D, hown.mono (by omega), hB⟩, World.grownBy.refl _ _⟩)
  by_cases h1 : (i : Int) - k < 1
  · have b1 : decide ((i : Int) - (k : Int) < 1) = true := decide_eq_true h1
    have HR := Lib.hid (HSAME.out (if_pos (.inl h1)))
    clear h1 hown hB
    go_enter Try.func15, Try.ntmps15
    go_wp2
    refine bodyPost_ret (results_none rfl _ _ _) rfl ?_
    exact ⟨⟨_, rfl⟩, HR.out⟩
  · have b1 : decide ((i : Int) - (k : Int) < 1) = false := decide_eq_false h1
    by_cases h2 : window < (i : Int) - k
    · have b2 : decide (window < (i : Int) - (k : Int)) = true := decide_eq_true h2
      have HR := Lib.hid (HSAME.out (if_pos (.inr h2)))
      clear h1 h2 hown hB
      go_enter Try.func15, Try.ntmps15
      go_wp2
      refine bodyPost_ret (results_none rfl _ _ _) rfl ?_
      exact ⟨⟨_, rfl⟩, HR.out⟩
    · have b2 : decide (window < (i : Int) - (k : Int)) = false := decide_eq_false h2
      obtain ⟨d, hd⟩ : ∃ d, d = i - k := ⟨_, rfl⟩
      have hdi : (i : Int) - (k : Int) = (d : Int) := by omega
      have HM : Hid (meetI b i k n window = meetB b n d) := Lib.hid (by unfold meetI; rw [if_neg (by omega), ← hd])
      have e1d : IntKind.i64.wrap ((i : Int) - (k : Int)) = (d : Int) := by rw [e1, hdi]
      rw [hdi] at b1 b2
      clear e1
      have hkey : keyOf Try.prog 3 (.int .i64 (n : Int)) = some (.int .i64 (n : Int)) := keyOf_int_mk Try.underlying3 (wf_smallN (by omega) (by omega))
      have HWF := Lib.hid (wf_smallN (z := (d : Int)) (by omega) (by omega))
      have HHAS := Lib.hid (hB.has n)
      have HB := Lib.hid hB
      clear h1 h2 hd hdi hB
      have HNL := Lib.hid (show nn < maxLen by simp only [maxLen]; omega)
      cases hb : b n with
      | none =>
        have hh : has D (.int .i64 (n : Int)) = false := by rw [HHAS.out, hb]; rfl
        have HX := Lib.hid (HM.out.trans (meetB_none hb))
        clear hb
        go_enter Try.func15, Try.ntmps15
        go_wp2_with (first | (at_lookup; refine wpList_lookup_own_ok_int _ rfl _ _ 42 rfl 3 3 .i64 (int_keyed Try.underlying3) Try.underlying42 Try.underlying3 (Try.zeroValue3 _) mb nn D rfl hown _ _ rfl hkey ?_; intro c hat hwc; rw [hh]; clear hat hwc) | (at_mapUpdate; refine wpList_mapUpdate_own _ rfl _ _ _ 42 rfl 3 3 (int_keyed Try.underlying3) Try.underlying42 _ mb nn D rfl hown HNL.out _ _ _ rfl rfl hkey _ [] (plainElem_int Try.underlying3 HWF.out) ?_; intro w1 hown1 hgrow1))
        go_wp2
        go_end0
        exact ⟨⟨_, rfl⟩, ⟨_, hown1, by rw [HX.out]; exact HB.out.put hown.isMap n d⟩, hgrow1⟩
      | some d' =>
        have hh : has D (.int .i64 (n : Int)) = true := by rw [HHAS.out, hb]; rfl
        have HAT := Lib.hid (HB.out.at_ n d' hb (.lit (.int .i64 0)))
        by_cases hl : d < d'
        · have HX := Lib.hid (HM.out.trans (meetB_less hb hl))
          have b3 : decide ((d : Int) < (d' : Int)) = true := decide_eq_true (by omega)
          have b3n : decide (d < d') = true := decide_eq_true hl
          clear hb hl
          go_enter Try.func15, Try.ntmps15
          go_wp2_with (first | (at_lookup; refine wpList_lookup_own_ok_int _ rfl _ _ 42 rfl 3 3 .i64 (int_keyed Try.underlying3) Try.underlying42 Try.underlying3 (Try.zeroValue3 _) mb nn D rfl hown _ _ rfl hkey ?_; intro c hat hwc; rw [hh]; obtain rfl := lit_inj' (HAT.out.symm.trans hat); clear hat hwc) | (at_mapUpdate; refine wpList_mapUpdate_own _ rfl _ _ _ 42 rfl 3 3 (int_keyed Try.underlying3) Try.underlying42 _ mb nn D rfl hown HNL.out _ _ _ rfl rfl hkey _ [] (plainElem_int Try.underlying3 HWF.out) ?_; intro w1 hown1 hgrow1))
          go_wp2
          go_end0
          exact ⟨⟨_, rfl⟩, ⟨_, hown1, by rw [HX.out]; exact HB.out.put hown.isMap n d⟩, hgrow1⟩
        · have HX := Lib.hid (HSAME.out (HM.out.trans (meetB_not hb hl)))
          have b3 : decide ((d : Int) < (d' : Int)) = false := decide_eq_false (by omega)
          have b3n : decide (d < d') = false := decide_eq_false hl
          clear hb hl
          go_enter Try.func15, Try.ntmps15
          go_wp2_with (first | (at_lookup; refine wpList_lookup_own_ok_int _ rfl _ _ 42 rfl 3 3 .i64 (int_keyed Try.underlying3) Try.underlying42 Try.underlying3 (Try.zeroValue3 _) mb nn D rfl hown _ _ rfl hkey ?_; intro c hat hwc; rw [hh]; obtain rfl := lit_inj' (HAT.out.symm.trans hat); clear hat hwc) | (at_mapUpdate; refine wpList_mapUpdate_own _ rfl _ _ _ 42 rfl 3 3 (int_keyed Try.underlying3) Try.underlying42 _ mb nn D rfl hown HNL.out _ _ _ rfl rfl hkey _ [] (plainElem_int Try.underlying3 HWF.out) ?_; intro w1 hown1 hgrow1))
          go_wp2
          go_end0
          exact ⟨⟨_, rfl⟩, HX.out⟩
end Go.Proofs.Ytbalodhgbpagfaa
