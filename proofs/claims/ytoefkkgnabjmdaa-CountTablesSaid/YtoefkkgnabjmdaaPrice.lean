/- Chapter 23 (price): the calls bad, IndexFunc, ContainsFunc, Check, and the reference's: what they give, by walks. · Chapter 23 (price): Flat and what it calls, by walks. · Chapter 23 (price): Flat; sum, one, Token, All: what they give, by walks. · Chapter 23 (price): Token, All: what they give, by walks. -/
import Derived.Test.YtoefkkgnabjmdaaInts
import Derived.Test.YtoefkkgnabjmdaaPlain23
import Derived.Test.YtoefkkgnabjmdaaSlots
import Derived.Laws.CopyOwn
import Derived.RegionTactic
import Derived.ChangeAlike
import Derived.BigRegion
import Derived.Test.YtoefkkgnabjmdaaToks
import Derived.Deep.RegionHeld3
set_option linter.unusedSimpArgs false
set_option linter.unusedVariables false
set_option maxRecDepth 100000
namespace Go.Proofs.Ytoefkkgnabjmdaa

/-! Price -/
section
open Go.RowKit

theorem findIdx_le {l : List Int} {k : Nat} (h : ∀ i (hi : i < l.length), i < k → priceBad l[i] = false) (hk : k ≤ l.length) : (l.take k).any priceBad = false := by
  rw [List.any_eq_false]
  intro x hx
  obtain ⟨i, hi, rfl⟩ := List.getElem_of_mem hx
  rw [List.length_take] at hi
  rw [List.getElem_take]
  simp [h i (by omega) (by omega)]

/-- Prices as a value. -/
def priceV (M D : Option Addr) (m d : List Int) (c1 c2 : Nat) : Value := .agg #[.slice M m.length c1, .slice D d.length c2]
theorem chk_form {m d : List Int} (h : m.length ≠ 401 ∨ d.length ≠ 52) : chkE m d = 4 := if_pos h
theorem chk_range {m d : List Int} (h : ¬ (m.length ≠ 401 ∨ d.length ≠ 52)) (h2 : (m.any priceBad || d.any priceBad) = true) : chkE m d = 2 := by
  unfold chkE
  rw [if_neg h, if_neg]
  rintro ⟨k1, k2⟩
  rw [← any_bad] at k1 k2
  rw [k1, k2] at h2
  cases h2
theorem chk_ok {m d : List Int} (h : ¬ (m.length ≠ 401 ∨ d.length ≠ 52)) (h2 : m.any priceBad = false) (h3 : d.any priceBad = false) : chkE m d = 0 := by
  unfold chkE
  rw [if_neg h, if_pos ⟨(any_bad m).1 h2, (any_bad d).1 h3⟩]

end

/-! Price2 -/
section
open Go.RowKit

/-- copy of ints into a row of the call's own. -/
theorem copy_ints (w : World) (b o dLen dCap : Nat) (A : Option Addr) (sLen sCap : Nat) (l src : List Int) (hb : Blk w b 3 (ivals l).toArray) (hs : ReadsI w A src) (hl : src.length = sLen) (hm : 0 < min sLen dLen) (hfit : o + min sLen dLen ≤ l.length) :
    ∃ W', (Builtin.copy_ #[22, 22] 3 #[.slice (some ⟨b, o, none⟩) dLen dCap, .slice A sLen sCap]).run Try.prog w = .ok (.int .i64 (min sLen dLen : Nat)) W' ∧
      Blk W' b 3 (ivals (l.take o ++ (src.take (min sLen dLen) ++ l.drop (o + min sLen dLen)))).toArray ∧ Below b w W' ∧ (∀ k, k ≠ b → W'.heap[k]? = w.heap[k]?) ∧ W'.heap.size = w.heap.size := by
  have hsz5 : (Try.prog.info? 3).map (·.size) = some 1 := by kernel_rfl
  obtain ⟨ad, rfl, hab, hac⟩ := hs.2 (by omega)
  have hcl : (ivals (src.take (min sLen dLen))).length = min sLen dLen := by rw [ivals_length, List.length_take]; omega
  have hr := run_copy_row (P := Try.prog) w 22 22 3 3 b o dLen dCap ad sLen sCap _ 3 (ivals (src.take (min sLen dLen))) Try.underlying22 hsz5 hb (hcl.trans rfl) (fun j v hj => by
    apply hac j v
    simp only [ivals, List.map_take] at hj ⊢
    rw [List.getElem?_take] at hj
    split at hj
    · exact hj
    · cases hj) (by rw [hcl]; simp only [List.size_toArray, ivals_length]; exact hfit) (ivals_one _)
  rw [hcl] at hr
  refine ⟨_, hr, ?_, ⟨rfl, rfl, rfl, by simp [World.setRow], fun k hk => setRow_other w b k _ (by omega)⟩, fun k hk => setRow_other w b k _ hk, by simp [World.setRow]⟩
  have := setRow_heap w b _ ((ivals l).toArray.toList.take o ++ ivals (src.take (min sLen dLen)) ++ (ivals l).toArray.toList.drop (o + min sLen dLen)).toArray 3 _ hb
  have e : ((ivals l).toArray.toList.take o ++ ivals (src.take (min sLen dLen)) ++ (ivals l).toArray.toList.drop (o + min sLen dLen)).toArray = (ivals (l.take o ++ (src.take (min sLen dLen) ++ l.drop (o + min sLen dLen)))).toArray := by simp [ivals]
  rw [e] at this ⊢
  exact this

theorem p_Mul64_401 (w : World) : Calls Try.prog 131 #[.int .u64 1, .int .u64 401] w fun e w' => e = .returned (.tuple #[.int .u64 0, .int .u64 401]) ∧ w = w' := by
  go_enter Try.func131, Try.ntmps131
  go_wp2
  go_ret2
  exact ⟨rfl, rfl⟩
theorem p_Mul401 (w : World) : Calls Try.prog 107 #[.int .u64 1, .int .u64 401] w fun e w' => e = .returned (.tuple #[.int .u64 0, .int .u64 401]) ∧ w = w' := by
  go_enter Try.func107, Try.ntmps107
  go_wp2_with fail
  refine (p_Mul64_401 _).mono ?_
  rintro e w' ⟨rfl, rfl⟩
  go_wp2
  go_ret2
  exact ⟨rfl, rfl⟩

theorem p_Mul64_52 (w : World) : Calls Try.prog 131 #[.int .u64 1, .int .u64 52] w fun e w' => e = .returned (.tuple #[.int .u64 0, .int .u64 52]) ∧ w = w' := by
  go_enter Try.func131, Try.ntmps131
  go_wp2
  go_ret2
  exact ⟨rfl, rfl⟩
theorem p_Mul52 (w : World) : Calls Try.prog 107 #[.int .u64 1, .int .u64 52] w fun e w' => e = .returned (.tuple #[.int .u64 0, .int .u64 52]) ∧ w = w' := by
  go_enter Try.func107, Try.ntmps107
  go_wp2_with fail
  refine (p_Mul64_52 _).mono ?_
  rintro e w' ⟨rfl, rfl⟩
  go_wp2
  go_ret2
  exact ⟨rfl, rfl⟩

theorem ReadsI.left {w : World} {A : Option Addr} {xs ys : List Int} (h : ReadsI w A (xs ++ ys)) : ReadsI w A xs := by
  refine ⟨by rw [ivals_length, Nat.mul_one], fun hn => ?_⟩
  obtain ⟨ad, e1, e2, e3⟩ := h.2 (by rw [List.length_append]; omega)
  refine ⟨ad, e1, e2, fun j u hu => e3 j u ?_⟩
  rw [ivals_append, List.getElem?_append_left (by exact (List.getElem?_eq_some_iff.1 hu).1)]
  exact hu
theorem repeat_step (v : Int) (k n m : Nat) (hm : m = min k (n - k)) (hk : k ≤ n) :
    (List.replicate k v ++ List.replicate (n - k) 0).take k ++ ((List.replicate k v).take m ++ (List.replicate k v ++ List.replicate (n - k) (0 : Int)).drop (k + m)) = List.replicate (k + m) v ++ List.replicate (n - (k + m)) 0 := by
  rw [List.take_append_of_le_length (by simp), List.take_of_length_le (by simp), List.take_replicate, List.drop_append, List.drop_eq_nil_of_le (by simp), List.length_replicate, List.nil_append, List.drop_replicate, ← List.append_assoc, List.replicate_append_replicate]
  congr 2 <;> omega

def RepeatDone (w : World) (n : Nat) (v : Int) (e : Ending) (w' : World) : Prop :=
  ∃ b, e = .returned (.slice (some ⟨b, 0, none⟩) n n) ∧ w.heap.size ≤ b ∧ Blk w' b 3 (ivals (List.replicate n v)).toArray ∧ Below w.heap.size w w'

set_option maxHeartbeats 1000000 in
set_option maxRecDepth 100000 in
theorem p_Repeat (A : Option Addr) (c : Nat) (v : Int) (n : Nat) (hn : 1 ≤ n) (hn2 : n ≤ 1000) (w : World) (h : ReadsI w A [v])
    (hmul : ∀ w, Calls Try.prog 107 #[.int .u64 1, .int .u64 n] w fun e w' => e = .returned (.tuple #[.int .u64 0, .int .u64 n]) ∧ w = w') :
    Calls Try.prog 90 #[.slice A 1 c, .int .i64 n] w (RepeatDone w n v) := by
  have hmk := run_make_int w n (by omega)
  have hb0 := Blk.new w 3 (ivals (List.replicate n 0)).toArray
  obtain ⟨W', hcp, hrow, hB1, _, hsz⟩ := copy_ints (w.alloc (.cells (ivals (List.replicate n 0)).toArray 3)) w.heap.size 0 n n A 1 c (List.replicate n 0) [v] hb0 (h.alloc _) rfl (by omega) (by rw [List.length_replicate]; omega)
  rw [show min 1 n = 1 by omega] at hcp hrow
  have e0 : (List.replicate n (0 : Int)).take 0 ++ (List.take 1 [v] ++ (List.replicate n (0 : Int)).drop (0 + 1)) = List.replicate 1 v ++ List.replicate (n - 1) 0 := by
    rw [List.take_zero, List.nil_append, List.drop_replicate]; rfl
  rw [e0] at hrow
  have HR := Lib.hid hrow
  have HB := Lib.hid ((bl_alloc (Below.refl w.heap.size w) (.cells (ivals (List.replicate n 0)).toArray 3)).trans hB1)
  have hi1 : (0 : Int) ≤ n := by omega
  have hi2 : (n : Int) ≤ 1000 := by omega
  have hmul' := hmul w
  have hcp' : (Builtin.copy_ #[22, 22] 3 #[.slice (some ⟨w.heap.size, 0, none⟩) n n, .slice A 1 c]).run Try.prog (w.alloc (.cells (ivals (List.replicate n 0)).toArray 3)) = .ok (.int .i64 1) W' := hcp
  clear hb0 h hrow hB1 e0 hsz hcp
  go_enter Try.func90, Try.ntmps90
  go_wp2_with fail
  refine hmul'.mono ?_
  rintro e w' ⟨rfl, rfl⟩
  go_wp2_with fail
  go_loopw [8] (fun v8 wr => ∃ k : Nat, 1 ≤ k ∧ k ≤ n ∧ v8 = .int .i64 k ∧ Blk wr w.heap.size 3 (ivals (List.replicate k v ++ List.replicate (n - k) 0)).toArray ∧ Below w.heap.size w wr) (fun v8 _ => n - (intOf v8).toNat)
  case atStart => exact ⟨1, Nat.le_refl _, hn, rfl, HR.out, HB.out⟩
  case round =>
    obtain ⟨k, hk1, hk2, rfl, hBk, hBe⟩ := hrel
    clear hmul hmul' hcp' hmk
    by_cases hkn : k < n
    · have hrd := (reads_ints hBk).left
      obtain ⟨W2, hcp, hrow, hB1, _, hsz⟩ := copy_ints wr.drew w.heap.size k (n - k) (n - k) (some ⟨w.heap.size, 0, none⟩) k n (List.replicate k v ++ List.replicate (n - k) 0) (List.replicate k v) hBk hrd.drew (by rw [List.length_replicate]) (by omega) (by rw [List.length_append, List.length_replicate, List.length_replicate]; omega)
      have e1 := repeat_step v k n (min k (n - k)) rfl hk2
      rw [e1] at hrow
      have hm1 : 0 < min k (n - k) := by omega
      have hm2 : k + min k (n - k) ≤ n := by omega
      generalize min k (n - k) = m at *
      have HR := Lib.hid hrow
      have HB := Lib.hid (hBe.drew.trans hB1)
      have i1 : (k : Int) ≤ n := by omega
      have i2 : ¬ n = k := by omega
      clear hBk hBe hrd hrow hB1 e1 hsz
      go_wp2
      go_region
      all_goals
        go_wp2
        go_roundw
        case rel => exact ⟨k + m, by omega, hm2, by go_num, HR.out, HB.out⟩
        case measure => simp [intOf]; omega
    · obtain rfl : k = n := by omega
      go_wp2
      go_ret
      rw [Nat.sub_self, List.replicate_zero, List.append_nil] at hBk
      exact ⟨w.heap.size, rfl, Nat.le_refl _, hBk, hBe⟩
end

/-! Price3 -/
section
open Go.RowKit

def FlatDone (a b : Int) (w : World) (e : Ending) (w' : World) : Prop :=
  ∃ b1 b2, e = .returned (.agg #[.slice (some ⟨b1, 0, none⟩) 401 401, .slice (some ⟨b2, 0, none⟩) 52 52]) ∧ Blk w' b1 3 (ivals (List.replicate 401 (flatP a))).toArray ∧ Blk w' b2 3 (ivals (List.replicate 52 (flatP b))).toArray ∧ w.heap.size ≤ b1 ∧ w.heap.size ≤ b2 ∧ Below w.heap.size w w'
theorem p_Repeat401 (A : Option Addr) (c : Nat) (v : Int) (w : World) (h : ReadsI w A [v]) : Calls Try.prog 90 #[.slice A 1 c, .int .i64 401] w (RepeatDone w 401 v) := p_Repeat A c v 401 (by omega) (by omega) w h p_Mul401
theorem p_Repeat52 (A : Option Addr) (c : Nat) (v : Int) (w : World) (h : ReadsI w A [v]) : Calls Try.prog 90 #[.slice A 1 c, .int .i64 52] w (RepeatDone w 52 v) := p_Repeat A c v 52 (by omega) (by omega) w h p_Mul52

theorem tokSym_bd {t : Tok} (h : tokOk t) : 0 ≤ tokSym t ∧ tokSym t ≤ 400 := by
  unfold tokSym
  rw [if_pos h]
  have h1 := lenS_bd t.len
  unfold tokOk at h
  split
  · omega
  · split <;> omega
theorem lenX_bd (n : Int) : 0 ≤ lenX n ∧ lenX n ≤ 5 := by
  unfold lenX
  split
  · rename_i h
    have h3 := (lenSlot_spec n h).2.2
    have := lenBits_le (lenSlot n) h3
    omega
  · omega
theorem lenX_pos (n : Int) : 0 ≤ lenX n := (lenX_bd n).1
theorem distX_bd (n : Int) : 0 ≤ distX n ∧ distX n ≤ 24 := by
  unfold distX
  split
  · rename_i h
    have h3 := (distSlot_spec n h).2.2
    have := distBits_le (distSlot n) h3
    omega
  · omega
def one23 (m d : List Int) (t : Tok) : Int := if tokCheck t = 0 then cost m d t else 0

end

/-! Price4 -/
section
open Go.RowKit

noncomputable def tokenE (m d : List Int) (t : Tok) : Int := if chkE m d = 0 then tokCheck t else chkE m d
noncomputable def tokenC (m d : List Int) (t : Tok) : Int := if chkE m d = 0 then one23 m d t else 0
noncomputable def allE (m d : List Int) (l : List Tok) : Int := if chkE m d = 0 then tokErr l else chkE m d
noncomputable def allC (m d : List Int) (l : List Tok) : Int := if chkE m d = 0 then (if tokErr l = 0 then costs m d l else 0) else 0

theorem tokErr_append (a b : List Tok) : tokErr (a ++ b) = if tokErr a = 0 then tokErr b else tokErr a := by
  induction a with
  | nil => simp [tokErr]
  | cons t a ih =>
    rw [List.cons_append]
    have e : ∀ x, tokErr (t :: x) = if tokCheck t = 0 then tokErr x else tokCheck t := fun x => rfl
    rw [e, e]
    by_cases h : tokCheck t = 0
    · rw [if_pos h, if_pos h]; exact ih
    · rw [if_neg h, if_neg h, if_neg h]
theorem cost_bd {m d : List Int} (l1 : m.length = 401) (l2 : d.length = 52) (k1 : pricesOk m) (k2 : pricesOk d) {t : Tok} (h : tokOk t) : 0 ≤ cost m d t ∧ cost m d t ≤ 1099511627776 := by
  have hs := tokSym_bd h
  have hg : ∀ (l : List Int) (i : Nat), pricesOk l → 0 ≤ l.getD i 0 ∧ l.getD i 0 ≤ 1048576 := by
    intro l i hl
    rw [List.getD_eq_getElem?_getD]
    by_cases hi : i < l.length
    · rw [List.getElem?_eq_getElem hi]
      have := hl l[i] (List.getElem_mem hi)
      simp only [Option.getD_some]
      omega
    · rw [List.getElem?_eq_none (by omega)]
      simp
  have h1 := hg m (tokSym t).toNat k1
  have h2 := hg d (distS t.dist).toNat k2
  have h3 := lenX_bd t.len
  have h4 := distX_bd t.dist
  unfold cost
  split <;> split <;> omega
theorem tokErr_ok : ∀ {l : List Tok}, tokErr l = 0 → ∀ t ∈ l, tokOk t
  | [], _, _, ht => by cases ht
  | a :: l, h, t, ht => by
    unfold tokErr at h
    by_cases hc : tokCheck a = 0
    · rw [if_pos hc] at h
      rcases List.mem_cons.1 ht with rfl | ht
      · unfold tokCheck at hc
        split at hc
        · assumption
        · omega
      · exact tokErr_ok h t ht
    · rw [if_neg hc] at h
      exact absurd h hc

end

end Go.Proofs.Ytoefkkgnabjmdaa
