/- Chapter 57 (spread): Quantile, the program's and the reference's: by walks. -/
import Derived.Test.YtoefkkgnabjmdaaSprIter
import Derived.Test.YtoefkkgnabjmdaaSprPlain
import Derived.Deep.RegionHeld3
import Derived.Deep.AppendLies
import Derived.BigQuiet
import Derived.Deep.QuietTactic
import Derived.Deep.CutBlock
set_option linter.unusedSimpArgs false
set_option linter.unusedVariables false
set_option maxRecDepth 100000
namespace Go.Proofs.Ytoefkkgnabjmdaa
open Go.RowKit

def QuantDone (w : World) (l : List Int) (n f : Int) : Ending → World → Prop := fun e w' => e = .returned (.tuple #[.int .i64 (qVal l n f), .int .i64 (qErr l n f)]) ∧ Below w.heap.size w w'
theorem at_tdiv {len : Nat} {n f : Int} (h1 : 1 ≤ f) (h2 : 0 ≤ n) (h4 : 1 ≤ len) : Int.tdiv (n * ((len : Int) - 1)) f = (qAt len n f : Nat) := by
  have e1 : n = (n.toNat : Int) := by omega
  have e2 : f = (f.toNat : Int) := by omega
  have e3 : (len : Int) - 1 = ((len - 1 : Nat) : Int) := by omega
  unfold qAt
  rw [e3]
  generalize n.toNat = a at *
  generalize f.toNat = b at *
  subst e1
  subst e2
  rw [← Int.natCast_mul]
  exact (Int.ofNat_tdiv _ _).symm
set_option maxHeartbeats 4000000 in
theorem p_Quantile (A : Option Addr) (c : Nat) (l : List Int) (n f : Int) (w : World) (h : ReadsI w A l) (hl : l.length ≤ 1000000) :
    Calls Try.prog 21 #[.slice A l.length c, .int .i64 n, .int .i64 f] w (QuantDone w l n f) := by
  by_cases h1 : f < 1 ∨ 1048576 < f ∨ n < 0 ∨ f < n
  · have e1 : qErr l n f = 1 := if_pos h1
    have e2 : qVal l n f = 0 := if_neg (by omega)
    have HE := Lib.hid (show QuantDone w l n f (.returned (.tuple #[.int .i64 0, .int .i64 1])) w from ⟨by rw [e1, e2], Below.refl _ _⟩)
    clear e1 e2 h
    by_cases c1 : f < 1
    · clear h1
      go_enter Try.func21, Try.ntmps21
      go_wp2
      go_ret2
      exact HE.out
    · by_cases c2 : 1048576 < f
      · clear h1
        go_enter Try.func21, Try.ntmps21
        go_wp2
        go_ret2
        exact HE.out
      · by_cases c3 : n < 0
        · clear h1
          go_enter Try.func21, Try.ntmps21
          go_wp2
          go_ret2
          exact HE.out
        · have c4 : f < n := by omega
          clear h1
          go_enter Try.func21, Try.ntmps21
          go_wp2
          go_ret2
          exact HE.out
  · have c1 : ¬ f < 1 := fun q => h1 (.inl q)
    have c2 : ¬ 1048576 < f := fun q => h1 (.inr (.inl q))
    have c3 : ¬ n < 0 := fun q => h1 (.inr (.inr (.inl q)))
    have c4 : ¬ f < n := fun q => h1 (.inr (.inr (.inr q)))
    by_cases h2 : l.length = 0
    · have e1 : qErr l n f = 7 := (if_neg h1).trans (if_pos h2)
      have e2 : qVal l n f = 0 := if_neg (by omega)
      have HE := Lib.hid (show QuantDone w l n f (.returned (.tuple #[.int .i64 0, .int .i64 7])) w from ⟨by rw [e1, e2], Below.refl _ _⟩)
      obtain rfl := List.length_eq_zero_iff.1 h2
      clear e1 e2 h h1 h2
      go_enter Try.func21, Try.ntmps21
      go_wp2
      go_ret2
      exact HE.out
    · have e1 : qErr l n f = 0 := (if_neg h1).trans (if_neg h2)
      have HV : Hid (qVal l n f = (sortI l).getD (qAt l.length n f) 0) := Lib.hid (if_pos e1)
      have HE := Lib.hid e1
      have hq := qAt_lt (len := l.length) (n := n) (f := f) (by omega) (by omega) (by omega) (by omega)
      have ht := at_tdiv (len := l.length) (n := n) (f := f) (by omega) (by omega) (by omega)
      have hm0 : 0 ≤ n * ((l.length : Int) - 1) := Int.mul_nonneg (by omega) (by omega)
      have hm1 : n * ((l.length : Int) - 1) ≤ 1048576 * 1000000 := Int.le_trans (Int.mul_le_mul_of_nonneg_right (show n ≤ 1048576 by omega) (by omega)) (Int.mul_le_mul_of_nonneg_left (by omega) (by decide))
      generalize hp : n * ((l.length : Int) - 1) = p at *
      have hw1 : wrap64 ((l.length : Int) - 1) = (l.length : Int) - 1 := by unfold wrap64; omega
      have hw2 : IntKind.i64.wrap ((l.length : Int) - 1) = (l.length : Int) - 1 := Go.IntWalk.i64_in _ (by omega)
      generalize hat : qAt l.length n f = k at *
      have hwp : wrap64 p = p := by clear ht; unfold wrap64; omega
      have hwp2 : IntKind.i64.wrap p = p := Go.IntWalk.i64_in _ (by clear hwp; omega)
      have hf0 : (f == 0) = false := by rw [beq_eq_false_iff_ne]; omega
      have hf1 : ¬ f = 0 := by omega
      have hdv : p / f = (k : Int) := by rw [← ht, Int.tdiv_eq_ediv_of_nonneg hm0]
      have hk0 : (0 : Int) ≤ (k : Int) := Int.natCast_nonneg _
      have hk1 : (k : Int) < (l.length : Int) := Int.ofNat_lt.2 hq
      have hwk : IntKind.i64.wrap (k : Int) = (k : Int) := Go.IntWalk.i64_in _ (by clear hwp hwp2 hdv; omega)
      have hBa : Below w.heap.size w (w.alloc (.cells #[.slice A l.length c] 22)).drew := bl_drewN (bl_alloc (Below.refl _ _) _) 1
      have cs := Lib.hid (p_sorted w.heap.size c A l hl (w.alloc (.cells #[.slice A l.length c] 22)).drew (by show w.heap.size < (w.alloc _).heap.size; simp) (by show (w.alloc _).cell? _ = _; simp) (h.below hBa))
      have HBA := Lib.hid hBa
      clear hBa h
      have HK := Lib.hid (show ∀ hh, (l.mergeSort (fun x y => decide (x ≤ y)))[k]'hh = (sortI l).getD k 0 from fun hh => by rw [List.getD_eq_getElem?_getD]; unfold sortI; rw [List.getElem?_eq_getElem hh]; rfl)
      clear h1 h2 e1 hat
      go_enter Try.func21, Try.ntmps21
      go_upto_region 5 with (fail)
      go_region_law (first | (go_simp; go_at_call 52; refine (p_values A l.length c _).mono ?_; rintro e w1 ⟨rfl, rfl⟩) | (go_simp; go_at_call 51; refine cs.out.mono ?_; rintro e w1 ⟨v, rfl, hrow, hb⟩; obtain ⟨B, c2, rfl, hc2, hr⟩ := RowI.slice hrow; obtain ⟨ad, rfl, had, hca⟩ := hr.at_ k (by rw [List.length_mergeSort]; exact hq); rw [HK.out] at hca; have HB1 := Lib.hid (bl_then HBA.out HBA.out.size hb); clear hb hrow hr))
      all_goals
        go_wp2
        go_ret2
        exact ⟨by rw [HV.out, HE.out]; rfl, HB1.out⟩

theorem lessN_snoc (l : List Int) (y x : Int) : lessN (l ++ [y]) x = lessN l x + if y < x then 1 else 0 := by unfold lessN; rw [List.countP_append, List.countP_cons]; simp
theorem alikeN_snoc (l : List Int) (y x : Int) : alikeN (l ++ [y]) x = alikeN l x + if y = x then 1 else 0 := by unfold alikeN; rw [List.countP_append, List.countP_cons]; simp
theorem lessN_le (l : List Int) (x : Int) : lessN l x ≤ l.length := List.countP_le_length
theorem alikeN_le (l : List Int) (x : Int) : alikeN l x ≤ l.length := List.countP_le_length
def foundQ (l : List Int) (k : Nat) (x : Int) : Prop := lessN l x ≤ k ∧ k < lessN l x + alikeN l x
set_option maxHeartbeats 4000000 in
theorem r_Quantile (A : Option Addr) (c : Nat) (l : List Int) (n f : Int) (w : World) (h : ReadsI w A l) (hl : l.length ≤ 1000000) :
    Calls Try.prog 22 #[.slice A l.length c, .int .i64 n, .int .i64 f] w (QuantDone w l n f) := by
  by_cases h1 : f < 1 ∨ 1048576 < f ∨ n < 0 ∨ f < n
  · have e1 : qErr l n f = 1 := if_pos h1
    have e2 : qVal l n f = 0 := if_neg (by omega)
    have HE := Lib.hid (show QuantDone w l n f (.returned (.tuple #[.int .i64 0, .int .i64 1])) w from ⟨by rw [e1, e2], Below.refl _ _⟩)
    clear e1 e2 h
    by_cases c1 : f < 1
    · clear h1
      go_enter Try.func22, Try.ntmps22
      go_wp2
      go_ret2
      exact HE.out
    · by_cases c2 : 1048576 < f
      · clear h1
        go_enter Try.func22, Try.ntmps22
        go_wp2
        go_ret2
        exact HE.out
      · by_cases c3 : n < 0
        · clear h1
          go_enter Try.func22, Try.ntmps22
          go_wp2
          go_ret2
          exact HE.out
        · have c4 : f < n := by omega
          clear h1
          go_enter Try.func22, Try.ntmps22
          go_wp2
          go_ret2
          exact HE.out
  · have c1 : ¬ f < 1 := fun q => h1 (.inl q)
    have c2 : ¬ 1048576 < f := fun q => h1 (.inr (.inl q))
    have c3 : ¬ n < 0 := fun q => h1 (.inr (.inr (.inl q)))
    have c4 : ¬ f < n := fun q => h1 (.inr (.inr (.inr q)))
    by_cases h2 : l.length = 0
    · have e1 : qErr l n f = 7 := (if_neg h1).trans (if_pos h2)
      have e2 : qVal l n f = 0 := if_neg (by omega)
      have HE := Lib.hid (show QuantDone w l n f (.returned (.tuple #[.int .i64 0, .int .i64 7])) w from ⟨by rw [e1, e2], Below.refl _ _⟩)
      obtain rfl := List.length_eq_zero_iff.1 h2
      clear e1 e2 h h1 h2
      go_enter Try.func22, Try.ntmps22
      go_wp2
      go_ret2
      exact HE.out
    · have e1 : qErr l n f = 0 := (if_neg h1).trans (if_neg h2)
      have HV : Hid (qVal l n f = (sortI l).getD (qAt l.length n f) 0) := Lib.hid (if_pos e1)
      have HE := Lib.hid e1
      have hq := qAt_lt (len := l.length) (n := n) (f := f) (by omega) (by omega) (by omega) (by omega)
      have ht := at_tdiv (len := l.length) (n := n) (f := f) (by omega) (by omega) (by omega)
      have hm0 : 0 ≤ n * ((l.length : Int) - 1) := Int.mul_nonneg (by omega) (by omega)
      have hm1 : n * ((l.length : Int) - 1) ≤ 1048576 * 1000000 := Int.le_trans (Int.mul_le_mul_of_nonneg_right (show n ≤ 1048576 by omega) (by omega)) (Int.mul_le_mul_of_nonneg_left (by omega) (by decide))
      generalize hp : n * ((l.length : Int) - 1) = p at *
      have hw1 : wrap64 ((l.length : Int) - 1) = (l.length : Int) - 1 := by unfold wrap64; omega
      have hw2 : IntKind.i64.wrap ((l.length : Int) - 1) = (l.length : Int) - 1 := Go.IntWalk.i64_in _ (by omega)
      generalize hat : qAt l.length n f = k at *
      have hwp : wrap64 p = p := by clear ht; unfold wrap64; omega
      have hwp2 : IntKind.i64.wrap p = p := Go.IntWalk.i64_in _ (by clear hwp; omega)
      have hf0 : (f == 0) = false := by rw [beq_eq_false_iff_ne]; omega
      have hf1 : ¬ f = 0 := by omega
      have hdv : p / f = (k : Int) := by rw [← ht, Int.tdiv_eq_ediv_of_nonneg hm0]
      have hk0 : (0 : Int) ≤ (k : Int) := Int.natCast_nonneg _
      have hk1 : (k : Int) < (l.length : Int) := Int.ofNat_lt.2 hq
      have hwk : IntKind.i64.wrap (k : Int) = (k : Int) := Go.IntWalk.i64_in _ (by clear hwp hwp2 hdv; omega)
      have HF := Lib.hid (show ∀ x, foundQ l k x → (sortI l).getD k 0 = x from fun x hx => (quant_at l k x hq).2 hx)
      have HEX := Lib.hid (show ∃ i, i < l.length ∧ foundQ l k (l.getD i 0) by
        obtain ⟨i, hi, e⟩ := quant_mem l k hq
        exact ⟨i, hi, by rw [e]; exact (quant_at l k _ hq).1 rfl⟩)
      clear h1 h2 e1 hat
      go_enter Try.func22, Try.ntmps22
      go_wp2_with fail
      clear hp hwp hwp2 hdv ht hw1 hw2 hm0 hm1
      go_loopw [9, 10, 11, 12] (fun v9 _ _ _ wr => ∃ i : Nat, i ≤ l.length ∧ v9 = .int .i64 i ∧ Below w.heap.size w wr ∧ ∀ j, j < i → ¬ foundQ l k (l.getD j 0)) (fun v9 _ _ _ _ => l.length - (intOf v9).toNat)
      case atStart => exact ⟨0, Nat.zero_le _, rfl, Below.refl _ _, fun j hj => by omega⟩
      case round =>
        obtain ⟨i, hi, rfl, hbr, hno⟩ := hrel
        have HNO := Lib.hid hno
        clear hno
        by_cases hil : i < l.length
        · obtain ⟨ad, rfl, had, a0⟩ := (h.below hbr).at_ i hil
          have hg := show l.getD i 0 = l[i] by rw [List.getD_eq_getElem?_getD, List.getElem?_eq_getElem hil]; rfl
          have HNS := Lib.hid (show ∀ hn : ¬ foundQ l k l[i], ∀ j, j < i + 1 → ¬ foundQ l k (l.getD j 0) from fun hn j hj => by
            by_cases e : j = i
            · rw [e, hg]; exact hn
            · exact HNO.out j (by omega))
          have HX := Lib.hid (show ∀ W, Below wr.heap.size wr W → W.cell? (ad.add i) = some (.int .i64 l[i]) from fun W hW => (hW.cell (p := ad.add i) (by rw [block_of_add]; exact had)).trans a0)
          have hi1 : (i : Int) < (l.length : Int) := Int.ofNat_lt.2 hil
          generalize l[i] = x at *
          have HH := Lib.hid (And.intro h hbr)
          clear hg a0 h hbr
          obtain ⟨wo, rfl⟩ : ∃ wo : World, wo = wr := ⟨_, rfl⟩
          go_wp2_with fail
          go_loopw [10, 11, 12] (fun v10 v11 v12 wr => ∃ m : Nat, m ≤ l.length ∧ v12 = .int .i64 m ∧ v10 = .int .i64 (lessN (l.take m) x : Nat) ∧ v11 = .int .i64 (alikeN (l.take m) x : Nat) ∧ Below wo.heap.size wo wr) (fun _ _ v12 _ => l.length - (intOf v12).toNat)
          case atStart => exact ⟨0, Nat.zero_le _, rfl, rfl, rfl, Below.refl _ _⟩
          case round =>
            obtain ⟨m, hm, rfl, rfl, rfl, hbr⟩ := hrel
            have a0 := HX.out wr hbr
            have b1 := lessN_le (l.take m) x
            have b2 := alikeN_le (l.take m) x
            rw [List.length_take] at b1 b2
            have b3 : lessN (l.take m) x ≤ 1000000 := by omega
            have b4 : alikeN (l.take m) x ≤ 1000000 := by omega
            by_cases hml : m < l.length
            · obtain ⟨ad2, e2, _, a1⟩ := (HH.out.1.below (bl_then HH.out.2 HH.out.2.size hbr)).at_ m hml
              obtain rfl : ad2 = ad := by simpa using e2.symm
              have HT := Lib.hid (show lessN (l.take (m + 1)) x = lessN (l.take m) x + (if l[m] < x then 1 else 0) ∧ alikeN (l.take (m + 1)) x = alikeN (l.take m) x + (if l[m] = x then 1 else 0) by
                rw [List.take_succ_eq_append_getElem hml, lessN_snoc, alikeN_snoc]; exact ⟨rfl, rfl⟩)
              generalize lessN (l.take m) x = p at *
              generalize alikeN (l.take m) x = q at *
              generalize l[m] = y at *
              have hm1 : (m : Int) < (l.length : Int) := Int.ofNat_lt.2 hml
              have HB := Lib.hid hbr
              clear hbr b1 b2 e2
              by_cases c1 : y < x
              · have d1 : decide (y < x) = true := decide_eq_true c1
                have d2 : (y == x) = false := by rw [beq_eq_false_iff_ne]; omega
                have HT2 := Lib.hid (show lessN (l.take (m + 1)) x = p + 1 ∧ alikeN (l.take (m + 1)) x = q by rw [HT.out.1, HT.out.2, if_pos c1, if_neg (by omega)]; exact ⟨rfl, rfl⟩)
                go_wp2_with fail
                go_quiet (fail)
                all_goals
                  go_wp2_with fail
                  go_quiet (fail)
                all_goals
                  go_wp2
                  go_roundw
                  case rel => exact ⟨m + 1, by omega, by go_num, by rw [HT2.out.1]; go_num, by rw [HT2.out.2], bl_drewN HB.out _⟩
                  case measure => simp [intOf]; omega
              · have d1 : decide (y < x) = false := decide_eq_false c1
                by_cases c2 : y = x
                · have d2 : (y == x) = true := by rw [beq_iff_eq]; exact c2
                  have HT2 := Lib.hid (show lessN (l.take (m + 1)) x = p ∧ alikeN (l.take (m + 1)) x = q + 1 by rw [HT.out.1, HT.out.2, if_neg c1, if_pos c2]; exact ⟨rfl, rfl⟩)
                  clear c1 c2
                  go_wp2_with fail
                  go_quiet (fail)
                  all_goals
                    go_wp2_with fail
                    go_quiet (fail)
                  all_goals
                    go_wp2
                    go_roundw
                    case rel => exact ⟨m + 1, by omega, by go_num, by rw [HT2.out.1], by rw [HT2.out.2]; go_num, bl_drewN HB.out _⟩
                    case measure => simp [intOf]; omega
                · have d2 : (y == x) = false := by rw [beq_eq_false_iff_ne]; exact c2
                  have HT2 := Lib.hid (show lessN (l.take (m + 1)) x = p ∧ alikeN (l.take (m + 1)) x = q by rw [HT.out.1, HT.out.2, if_neg c1, if_neg c2]; exact ⟨rfl, rfl⟩)
                  clear c1 c2
                  go_wp2_with fail
                  go_quiet (fail)
                  all_goals
                    go_wp2_with fail
                    go_quiet (fail)
                  all_goals
                    go_wp2
                    go_roundw
                    case rel => exact ⟨m + 1, by omega, by go_num, by rw [HT2.out.1], by rw [HT2.out.2], bl_drewN HB.out _⟩
                    case measure => simp [intOf]; omega
            · obtain rfl : m = l.length := by omega
              have HFO := Lib.hid (show (foundQ l k x ↔ (lessN l x ≤ k ∧ k < lessN l x + alikeN l x)) from Iff.rfl)
              rw [List.take_length] at b3 b4 ⊢
              have HB := Lib.hid (bl_then HH.out.2 HH.out.2.size hbr)
              generalize lessN l x = p at *
              generalize alikeN l x = q at *
              clear b1 b2 hbr
              by_cases c1 : p ≤ k
              · have d1 : decide ((p : Int) ≤ (k : Int)) = true := decide_eq_true (Int.ofNat_le.2 c1)
                have d1n : decide (p ≤ k) = true := decide_eq_true c1
                by_cases c2 : k < p + q
                · have d2 : decide ((k : Int) < (p : Int) + (q : Int)) = true := decide_eq_true (by omega)
                  have d2n : decide (k < p + q) = true := decide_eq_true c2
                  have HR := Lib.hid (HF.out x (HFO.out.2 ⟨c1, c2⟩))
                  clear c1 c2
                  go_wp2
                  go_ret2
                  exact ⟨by rw [HV.out, HE.out, HR.out]; rfl, HB.out⟩
                · have d2 : decide ((k : Int) < (p : Int) + (q : Int)) = false := decide_eq_false (by omega)
                  have d2n : decide (k < p + q) = false := decide_eq_false c2
                  have HN := Lib.hid (HNS.out (fun q => c2 (HFO.out.1 q).2))
                  clear c1 c2
                  go_wp2
                  go_roundw
                  case rel => exact ⟨i + 1, by omega, by go_num, HB.out, HN.out⟩
                  case measure => simp [intOf]; omega
              · have d1 : decide ((p : Int) ≤ (k : Int)) = false := decide_eq_false (by omega)
                have d1n : decide (p ≤ k) = false := decide_eq_false c1
                have HN := Lib.hid (HNS.out (fun q => c1 (HFO.out.1 q).1))
                clear c1
                go_wp2
                go_roundw
                case rel => exact ⟨i + 1, by omega, by go_num, HB.out, HN.out⟩
                case measure => simp [intOf]; omega
        · obtain ⟨j, hj, hf⟩ := HEX.out
          exact absurd hf (HNO.out j (by omega))

end Go.Proofs.Ytoefkkgnabjmdaa
