/- Chapter 23 (price): the calls bad, IndexFunc, ContainsFunc, Check, and the reference's: what they give, by walks. · Chapter 23 (price): Flat and what it calls, by walks. · Chapter 23 (price): Flat; sum, one, Token, All: what they give, by walks. · Chapter 23 (price): Token, All: what they give, by walks. -/
import Derived.Test.YtndkgjoaljcijaaInts
import Derived.Test.YtndkgjoaljcijaaPlain23
import Derived.Test.YtndkgjoaljcijaaSlots
import Derived.Laws.CopyOwn
import Derived.RegionTactic
import Derived.ChangeAlike
import Derived.BigRegion
import Derived.Test.YtndkgjoaljcijaaToks
import Derived.Deep.RegionHeld3
set_option linter.unusedSimpArgs false
set_option linter.unusedVariables false
set_option maxRecDepth 100000
namespace Go.Proofs.Ytndkgjoaljcijaa

/-! Price -/
section
open Go.RowKit

theorem p_bad (n : Int) (w : World) : Calls Try.prog 44 #[.int .i64 n] w fun e w' => e = .returned (.bool (priceBad n)) ∧ w = w' := by
  have HB := Lib.hid (show priceBad n = (decide (n < 1) || decide (1048576 < n)) by unfold priceBad; simp)
  by_cases h : n < 1
  · have h1 : decide (n < 1) = true := by simpa using h
    have HB1 : Hid (priceBad n = true) := Lib.hid (by rw [HB.out, h1]; rfl)
    go_enter Try.func44, Try.ntmps44
    go_wp2
    go_ret
    exact ⟨by rw [HB1.out]; rfl, rfl⟩
  · have h1 : decide (n < 1) = false := by simpa using h
    go_enter Try.func44, Try.ntmps44
    go_wp2
    go_ret
    exact ⟨by rw [HB.out, h1]; first | rfl | simp, rfl⟩

theorem enters_bad : Enters 44 := fun _ _ => by kernel_rfl

theorem findIdx_le {l : List Int} {k : Nat} (h : ∀ i (hi : i < l.length), i < k → priceBad l[i] = false) (hk : k ≤ l.length) : (l.take k).any priceBad = false := by
  rw [List.any_eq_false]
  intro x hx
  obtain ⟨i, hi, rfl⟩ := List.getElem_of_mem hx
  rw [List.length_take] at hi
  rw [List.getElem_take]
  simp [h i (by omega) (by omega)]

set_option maxRecDepth 100000 in
theorem p_IndexFunc (A : Option Addr) (c : Nat) (l : List Int) (w : World) (h : ReadsI w A l) (hl : l.length ≤ 1000000000) :
    Calls Try.prog 55 #[.slice A l.length c, .func (.func 44) #[] #[]] w fun e w' => ∃ k : Int, e = .returned (.int .i64 k) ∧ w = w' ∧ (decide (0 ≤ k) = l.any priceBad) := by
  go_enter Try.func55, Try.ntmps55
  go_wp2_with fail
  go_loop [8] (fun v => ∃ k : Nat, k ≤ l.length ∧ v = .int .i64 k ∧ (l.take k).any priceBad = false) (fun v => l.length - (intOf v).toNat)
  case atStart => exact ⟨0, Nat.zero_le _, rfl, by simp⟩
  case round =>
    obtain ⟨k, hk, rfl, hno⟩ := hrel
    have HN := Lib.hid hno
    clear hno
    by_cases hkl : k < l.length
    · obtain ⟨ad, rfl, had, hc⟩ := h.at_ k hkl
      have HT := Lib.hid (show l.take (k + 1) = l.take k ++ [l[k]] from List.take_succ_eq_append_getElem hkl)
      have HM := Lib.hid (show l[k] ∈ l from List.getElem_mem hkl)
      generalize l[k] = z at *
      have hent := enters_bad #[.int .i64 z] w
      go_wp2_with fail
      refine (p_bad z _).mono ?_
      rintro e w' ⟨rfl, rfl⟩
      by_cases hb : priceBad z = true
      · have HB := Lib.hid hb
        rw [hb]
        clear hb
        go_wp2
        go_ret
        refine ⟨k, rfl, rfl, ?_⟩
        rw [decide_eq_true (by omega), eq_comm, List.any_eq_true]
        exact ⟨z, HM.out, HB.out⟩
      · have hb' : priceBad z = false := by simpa using hb
        have HB := Lib.hid hb'
        rw [hb']
        clear hb hb'
        go_wp2_with fail
        go_round
        case rel => exact ⟨k + 1, by omega, by go_num, by rw [HT.out, List.any_append, HN.out]; simp [HB.out]⟩
        case measure => simp [intOf]; omega
    · obtain rfl : k = l.length := by omega
      go_wp2
      go_ret
      have hn := HN.out
      rw [List.take_length] at hn
      exact ⟨-1, rfl, rfl, by rw [hn]; rfl⟩

theorem p_ContainsFunc (A : Option Addr) (c : Nat) (l : List Int) (w : World) (h : ReadsI w A l) (hl : l.length ≤ 1000000000) :
    Calls Try.prog 43 #[.slice A l.length c, .func (.func 44) #[] #[]] w fun e w' => e = .returned (.bool (l.any priceBad)) ∧ w = w' := by
  go_enter Try.func43, Try.ntmps43
  go_wp2_with fail
  refine (p_IndexFunc A c l w h hl).mono ?_
  rintro e w' ⟨k, rfl, rfl, hk⟩
  have HK := Lib.hid hk
  clear hk
  go_wp2
  go_ret
  exact ⟨by rw [← HK.out]; rfl, rfl⟩

/-- Prices as a value. -/
def priceV (M D : Option Addr) (m d : List Int) (c1 c2 : Nat) : Value := .agg #[.slice M m.length c1, .slice D d.length c2]
theorem chk_form {m d : List Int} (h : m.length ≠ 401 ∨ d.length ≠ 52) : chkE m d = 4 := if_pos h
theorem chk_range {m d : List Int} (h : ¬ (m.length ≠ 401 ∨ d.length ≠ 52)) (h2 : (m.any priceBad || d.any priceBad) = true) : chkE m d = 2 := by
  unfold chkE
  rw [if_neg h, if_neg]
  rintro ⟨k1, k2⟩
  rw [← any_bad] at k1 k2
  rw [k1, k2] at h2
  cases h2
theorem chk_ok {m d : List Int} (h : ¬ (m.length ≠ 401 ∨ d.length ≠ 52)) (h2 : m.any priceBad = false) (h3 : d.any priceBad = false) : chkE m d = 0 := by
  unfold chkE
  rw [if_neg h, if_pos ⟨(any_bad m).1 h2, (any_bad d).1 h3⟩]

set_option maxRecDepth 100000 in
theorem p_PCheck (M D : Option Addr) (m d : List Int) (c1 c2 : Nat) (w : World) (hm : ReadsI w M m) (hd : ReadsI w D d) (l1 : m.length ≤ 1000000000) (l2 : d.length ≤ 1000000000) :
    Calls Try.prog 30 #[priceV M D m d c1 c2] w fun e w' => e = .returned (.int .i64 (chkE m d)) ∧ Below w.heap.size w w' := by
  unfold priceV
  have hm' := hm.alloc (.cells #[.slice M m.length c1, .slice D d.length c2] 32)
  have hd' := hd.alloc (.cells #[.slice M m.length c1, .slice D d.length c2] 32)
  have HM := Lib.hid hm'
  have HD := Lib.hid hd'
  clear hm hd hm' hd'
  by_cases hf : m.length ≠ 401 ∨ d.length ≠ 52
  · have HE := Lib.hid (chk_form hf)
    by_cases h1 : m.length = 401
    · have h2 : d.length ≠ 52 := by omega
      have b1 : ((m.length : Int) != 401) = false := by rw [bne_eq_false_iff_eq]; omega
      have b2 : ((d.length : Int) != 52) = true := by rw [bne_iff_ne]; omega
      clear hf h1 h2
      go_enter Try.func30, Try.ntmps30
      go_wp2
      go_ret
      exact ⟨by rw [HE.out]; rfl, bl_alloc (Below.refl _ _) _⟩
    · have b1 : ((m.length : Int) != 401) = true := by rw [bne_iff_ne]; omega
      clear hf h1
      go_enter Try.func30, Try.ntmps30
      go_wp2
      go_ret
      exact ⟨by rw [HE.out]; rfl, bl_alloc (Below.refl _ _) _⟩
  · have H2 := Lib.hid (fun h => chk_range hf h)
    have H3 := Lib.hid (fun h h' => chk_ok hf h h')
    have b1 : ((m.length : Int) != 401) = false := by rw [bne_eq_false_iff_eq]; omega
    have b2 : ((d.length : Int) != 52) = false := by rw [bne_eq_false_iff_eq]; omega
    clear hf
    have hent := fun w => enters_bad #[] w
    go_enter Try.func30, Try.ntmps30
    go_wp2_with fail
    refine (p_ContainsFunc M c1 m _ HM.out l1).mono ?_
    rintro e w' ⟨rfl, rfl⟩
    by_cases hb1 : m.any priceBad = true
    · have HE := Lib.hid (H2.out (by rw [hb1]; rfl))
      rw [hb1]
      clear hb1
      go_wp2
      go_ret
      exact ⟨by rw [HE.out]; rfl, bl_alloc (Below.refl _ _) _⟩
    · have hb1' : m.any priceBad = false := by simpa using hb1
      have HB1 := Lib.hid hb1'
      rw [hb1']
      clear hb1 hb1'
      go_wp2_with fail
      refine (p_ContainsFunc D c2 d _ HD.out l2).mono ?_
      rintro e w' ⟨rfl, rfl⟩
      by_cases hb2 : d.any priceBad = true
      · have HE := Lib.hid (H2.out (by rw [hb2]; simp))
        rw [hb2]
        clear hb2
        go_wp2
        go_ret
        exact ⟨by rw [HE.out]; rfl, bl_alloc (Below.refl _ _) _⟩
      · have hb2' : d.any priceBad = false := by simpa using hb2
        have HE := Lib.hid (H3.out HB1.out hb2')
        rw [hb2']
        clear hb2 hb2'
        go_wp2
        go_ret
        exact ⟨by rw [HE.out]; rfl, bl_alloc (Below.refl _ _) _⟩
end

/-! Price2 -/
section
open Go.RowKit

/-- copy of ints into a row of the call's own. -/
theorem copy_ints (w : World) (b o dLen dCap : Nat) (A : Option Addr) (sLen sCap : Nat) (l src : List Int) (hb : Blk w b 3 (ivals l).toArray) (hs : ReadsI w A src) (hl : src.length = sLen) (hm : 0 < min sLen dLen) (hfit : o + min sLen dLen ≤ l.length) :
    ∃ W', (Builtin.copy_ #[28, 28] 3 #[.slice (some ⟨b, o, none⟩) dLen dCap, .slice A sLen sCap]).run Try.prog w = .ok (.int .i64 (min sLen dLen : Nat)) W' ∧
      Blk W' b 3 (ivals (l.take o ++ (src.take (min sLen dLen) ++ l.drop (o + min sLen dLen)))).toArray ∧ Below b w W' ∧ (∀ k, k ≠ b → W'.heap[k]? = w.heap[k]?) ∧ W'.heap.size = w.heap.size := by
  have hsz5 : (Try.prog.info? 3).map (·.size) = some 1 := by kernel_rfl
  obtain ⟨ad, rfl, hab, hac⟩ := hs.2 (by omega)
  have hcl : (ivals (src.take (min sLen dLen))).length = min sLen dLen := by rw [ivals_length, List.length_take]; omega
  have hr := run_copy_row (P := Try.prog) w 28 28 3 3 b o dLen dCap ad sLen sCap _ 3 (ivals (src.take (min sLen dLen))) Try.underlying28 hsz5 hb (hcl.trans rfl) (fun j v hj => by
    apply hac j v
    simp only [ivals, List.map_take] at hj ⊢
    rw [List.getElem?_take] at hj
    split at hj
    · exact hj
    · cases hj) (by rw [hcl]; simp only [List.size_toArray, ivals_length]; exact hfit) (ivals_one _)
  rw [hcl] at hr
  refine ⟨_, hr, ?_, ⟨rfl, rfl, rfl, by simp [World.setRow], fun k hk => setRow_other w b k _ (by omega)⟩, fun k hk => setRow_other w b k _ hk, by simp [World.setRow]⟩
  have := setRow_heap w b _ ((ivals l).toArray.toList.take o ++ ivals (src.take (min sLen dLen)) ++ (ivals l).toArray.toList.drop (o + min sLen dLen)).toArray 3 _ hb
  have e : ((ivals l).toArray.toList.take o ++ ivals (src.take (min sLen dLen)) ++ (ivals l).toArray.toList.drop (o + min sLen dLen)).toArray = (ivals (l.take o ++ (src.take (min sLen dLen) ++ l.drop (o + min sLen dLen)))).toArray := by simp [ivals]
  rw [e] at this ⊢
  exact this

theorem ReadsI.left {w : World} {A : Option Addr} {xs ys : List Int} (h : ReadsI w A (xs ++ ys)) : ReadsI w A xs := by
  refine ⟨by rw [ivals_length, Nat.mul_one], fun hn => ?_⟩
  obtain ⟨ad, e1, e2, e3⟩ := h.2 (by rw [List.length_append]; omega)
  refine ⟨ad, e1, e2, fun j u hu => e3 j u ?_⟩
  rw [ivals_append, List.getElem?_append_left (by exact (List.getElem?_eq_some_iff.1 hu).1)]
  exact hu
theorem repeat_step (v : Int) (k n m : Nat) (hm : m = min k (n - k)) (hk : k ≤ n) :
    (List.replicate k v ++ List.replicate (n - k) 0).take k ++ ((List.replicate k v).take m ++ (List.replicate k v ++ List.replicate (n - k) (0 : Int)).drop (k + m)) = List.replicate (k + m) v ++ List.replicate (n - (k + m)) 0 := by
  rw [List.take_append_of_le_length (by simp), List.take_of_length_le (by simp), List.take_replicate, List.drop_append, List.drop_eq_nil_of_le (by simp), List.length_replicate, List.nil_append, List.drop_replicate, ← List.append_assoc, List.replicate_append_replicate]
  congr 2 <;> omega

def RepeatDone (w : World) (n : Nat) (v : Int) (e : Ending) (w' : World) : Prop :=
  ∃ b, e = .returned (.slice (some ⟨b, 0, none⟩) n n) ∧ w.heap.size ≤ b ∧ Blk w' b 3 (ivals (List.replicate n v)).toArray ∧ Below w.heap.size w w'

end

/-! Price3 -/
section
open Go.RowKit

def FlatDone (a b : Int) (w : World) (e : Ending) (w' : World) : Prop :=
  ∃ b1 b2, e = .returned (.agg #[.slice (some ⟨b1, 0, none⟩) 401 401, .slice (some ⟨b2, 0, none⟩) 52 52]) ∧ Blk w' b1 3 (ivals (List.replicate 401 (flatP a))).toArray ∧ Blk w' b2 3 (ivals (List.replicate 52 (flatP b))).toArray ∧ w.heap.size ≤ b1 ∧ w.heap.size ≤ b2 ∧ Below w.heap.size w w'
theorem tokSym_bd {t : Tok} (h : tokOk t) : 0 ≤ tokSym t ∧ tokSym t ≤ 400 := by
  unfold tokSym
  rw [if_pos h]
  have h1 := lenS_bd t.len
  unfold tokOk at h
  split
  · omega
  · split <;> omega
theorem lenX_bd (n : Int) : 0 ≤ lenX n ∧ lenX n ≤ 5 := by
  unfold lenX
  split
  · rename_i h
    have h3 := (lenSlot_spec n h).2.2
    have := lenBits_le (lenSlot n) h3
    omega
  · omega
theorem lenX_pos (n : Int) : 0 ≤ lenX n := (lenX_bd n).1
theorem distX_bd (n : Int) : 0 ≤ distX n ∧ distX n ≤ 24 := by
  unfold distX
  split
  · rename_i h
    have h3 := (distSlot_spec n h).2.2
    have := distBits_le (distSlot n) h3
    omega
  · omega
def one23 (m d : List Int) (t : Tok) : Int := if tokCheck t = 0 then cost m d t else 0

end

/-! Price4 -/
section
open Go.RowKit

noncomputable def tokenE (m d : List Int) (t : Tok) : Int := if chkE m d = 0 then tokCheck t else chkE m d
noncomputable def tokenC (m d : List Int) (t : Tok) : Int := if chkE m d = 0 then one23 m d t else 0
noncomputable def allE (m d : List Int) (l : List Tok) : Int := if chkE m d = 0 then tokErr l else chkE m d
noncomputable def allC (m d : List Int) (l : List Tok) : Int := if chkE m d = 0 then (if tokErr l = 0 then costs m d l else 0) else 0

theorem tokErr_append (a b : List Tok) : tokErr (a ++ b) = if tokErr a = 0 then tokErr b else tokErr a := by
  induction a with
  | nil => simp [tokErr]
  | cons t a ih =>
    rw [List.cons_append]
    have e : ∀ x, tokErr (t :: x) = if tokCheck t = 0 then tokErr x else tokCheck t := fun x => rfl
    rw [e, e]
    by_cases h : tokCheck t = 0
    · rw [if_pos h, if_pos h]; exact ih
    · rw [if_neg h, if_neg h, if_neg h]
theorem cost_bd {m d : List Int} (l1 : m.length = 401) (l2 : d.length = 52) (k1 : pricesOk m) (k2 : pricesOk d) {t : Tok} (h : tokOk t) : 0 ≤ cost m d t ∧ cost m d t ≤ 1099511627776 := by
  have hs := tokSym_bd h
  have hg : ∀ (l : List Int) (i : Nat), pricesOk l → 0 ≤ l.getD i 0 ∧ l.getD i 0 ≤ 1048576 := by
    intro l i hl
    rw [List.getD_eq_getElem?_getD]
    by_cases hi : i < l.length
    · rw [List.getElem?_eq_getElem hi]
      have := hl l[i] (List.getElem_mem hi)
      simp only [Option.getD_some]
      omega
    · rw [List.getElem?_eq_none (by omega)]
      simp
  have h1 := hg m (tokSym t).toNat k1
  have h2 := hg d (distS t.dist).toNat k2
  have h3 := lenX_bd t.len
  have h4 := distX_bd t.dist
  unfold cost
  split <;> split <;> omega
theorem tokErr_ok : ∀ {l : List Tok}, tokErr l = 0 → ∀ t ∈ l, tokOk t
  | [], _, _, ht => by cases ht
  | a :: l, h, t, ht => by
    unfold tokErr at h
    by_cases hc : tokCheck a = 0
    · rw [if_pos hc] at h
      rcases List.mem_cons.1 ht with rfl | ht
      · unfold tokCheck at hc
        split at hc
        · assumption
        · omega
      · exact tokErr_ok h t ht
    · rw [if_neg hc] at h
      exact absurd h hc

end

end Go.Proofs.Ytndkgjoaljcijaa
