/- Chapter 43 (grams): the reference's functions, as the print tells them: what they give. -/
import Derived.Test.YtoefkkgnabjmdaaGrPure
import Derived.Test.YtoefkkgnabjmdaaPGramsCountx2
import Derived.Test.YtoefkkgnabjmdaaPGramsCountx18
import Derived.Test.YtoefkkgnabjmdaaPGramsCountx26
set_option linter.unusedSimpArgs false
set_option linter.unusedVariables false
namespace Go.Proofs.Ytoefkkgnabjmdaa
open Go.RowKit PGramsCount Go.Proofs.YtoefkkgnabjmdaaW.PrintWords

theorem w64 {x : Int} (h1 : -9223372036854775808 ≤ x) (h2 : x ≤ 9223372036854775807) : wrap64 x = x := by unfold wrap64; omega
theorem rd64 (out : List S64) (i : Nat) : rd_T64 out (i : Int) = out.getD i z64 := by unfold rd_T64; rw [Int.toNat_natCast]
theorem tl (s : ByteArray) : s.toList = T s := ByteArray.toList_eq s
theorem T_extract (s : ByteArray) (i j : Nat) : T (s.extract i j) = ((T s).drop i).take (j - i) := by
  unfold T
  rw [ByteArray.data_extract, Array.toList_extract, List.extract_eq_take_drop]
/-! Find -/
def occ (s p : List UInt8) (i : Nat) : Nat := (List.range' i (s.length + 1 - p.length - i)).countP (fun j => decide ((s.drop j).take p.length = p))
theorem occ_out {s p : List UInt8} {i : Nat} (h : s.length < i + p.length) : occ s p i = 0 := by
  unfold occ
  rw [show s.length + 1 - p.length - i = 0 by omega]; rfl
theorem occ_in {s p : List UInt8} {i : Nat} (h : i + p.length ≤ s.length) : occ s p i = (if (s.drop i).take p.length = p then 1 else 0) + occ s p (i + 1) := by
  unfold occ
  obtain ⟨m, hm⟩ : ∃ m, s.length + 1 - p.length - i = m + 1 := ⟨s.length - p.length - i, by omega⟩
  rw [hm, show s.length + 1 - p.length - (i + 1) = m by omega, List.range'_succ, List.countP_cons]
  simp only [decide_eq_true_eq]
  omega
theorem occ_le (s p : List UInt8) (i : Nat) : occ s p i ≤ s.length + 1 := by
  unfold occ
  refine Nat.le_trans List.countP_le_length ?_
  rw [List.length_range']; omega
theorem occ_count (s p : List UInt8) : occ s p 0 = (gramsOf s p.length).count p := by
  unfold occ gramsOf
  rw [List.count, List.countP_map, ← List.range_eq_range', Nat.sub_zero]
  congr 1
  funext j
  rw [Bool.eq_iff_iff, decide_eq_true_eq, Function.comp, beq_iff_eq]
theorem find_run (s p : ByteArray) (hs : s.size ≤ 1000000) (hp : p.size ≤ 1000000) : ∀ (d i : Nat) (out : List Int) (k : Nat), i + d = s.size + 1 → d < k → out.length ≤ i →
    ∃ l, gladstoneref42_Find.l0 k s p out (i : Int) = some l ∧ l.length = out.length + occ (T s) (T p) i
  | d, i, out, 0, h1, h2, h3 => by omega
  | d, i, out, k + 1, h1, h2, h3 => by
    have hz := T_size s
    have hq := T_size p
    simp only [gladstoneref42_Find.l0]
    rw [w64 (x := (i : Int) + (p.size : Int)) (by omega) (by omega)]
    by_cases hin : i + p.size ≤ s.size
    · obtain ⟨d, rfl⟩ : ∃ e, d = e + 1 := ⟨d - 1, by omega⟩
      rw [if_pos (by omega), if_pos (by omega), if_pos (by omega), w64 (x := (i : Int) + 1) (by omega) (by omega), occ_in (by omega)]
      have e1 : ((i : Int) + (p.size : Int)).toNat = i + p.size := by omega
      rw [e1, Int.toNat_natCast, tl, tl, T_extract, show i + p.size - i = p.size by omega, ← hq]
      have e2 : (i : Int) + 1 = ((i + 1 : Nat) : Int) := by omega
      by_cases hm : ((T s).drop i).take (T p).length = T p
      · rw [if_pos hm, if_pos hm, if_pos (by omega), e2]
        obtain ⟨l, r1, r2⟩ := find_run s p hs hp d (i + 1) (out ++ [(i : Int)]) k (by omega) (by omega) (by simp; omega)
        exact ⟨l, r1, by rw [r2]; simp; omega⟩
      · rw [if_neg hm, if_neg hm, e2]
        obtain ⟨l, r1, r2⟩ := find_run s p hs hp d (i + 1) out k (by omega) (by omega) (by omega)
        exact ⟨l, r1, by rw [r2]; omega⟩
    · rw [if_neg (by omega)]
      exact ⟨out, rfl, by rw [occ_out (by omega)]; rfl⟩
theorem find_ok (s p : ByteArray) (hs : s.size ≤ 1000000) (hp : p.size ≤ 1000000) (k : Nat) (hk : s.size + 1 < k) : ∃ l, gladstoneref42_Find.f k s p = some l ∧ l.length = occ (T s) (T p) 0 := by
  obtain ⟨l, h1, h2⟩ := find_run s p hs hp (s.size + 1) 0 [] k (by omega) hk (by simp)
  exact ⟨l, h1, by rw [h2]; simp⟩
/-! many -/
theorem many_run (l : List ByteArray) (p : ByteArray) (hl : l.length ≤ 1000) (hs : ∀ s ∈ l, s.size ≤ 1000) (hp : p.size ≤ 1000) : ∀ (d i : Nat) (acc : Nat) (k : Nat), i + d = l.length → d + 1003 < k → acc ≤ i * 1001 →
    gladstoneref43_many.l0 k l p (acc : Int) (i : Int) = some (((acc + (rowsK (l.drop i) p.size).count (T p) : Nat)) : Int)
  | d, i, acc, 0, h1, h2, h3 => by omega
  | d, i, acc, k + 1, h1, h2, h3 => by
    simp only [gladstoneref43_many.l0]
    by_cases hin : i < l.length
    · obtain ⟨d, rfl⟩ : ∃ e, d = e + 1 := ⟨d - 1, by omega⟩
      have hsz := hs l[i] (List.getElem_mem hin)
      rw [if_pos (by omega), if_pos (by omega)]
      have e0 : rdOf ByteArray.empty l (i : Int) = l[i] := by unfold rdOf; rw [Int.toNat_natCast, List.getD_eq_getElem?_getD, List.getElem?_eq_getElem hin]; rfl
      rw [e0]
      obtain ⟨r, h4, h5⟩ := find_ok l[i] p (by omega) (by omega) k (by omega)
      have h6 := occ_le (T l[i]) (T p) 0
      rw [T_size] at h6
      have h7 : acc + r.length ≤ (i + 1) * 1001 := by omega
      rw [h4, Option.bind_some, w64 (x := (acc : Int) + (r.length : Int)) (by omega) (by omega), w64 (x := (i : Int) + 1) (by omega) (by omega)]
      have e1 : (acc : Int) + (r.length : Int) = ((acc + r.length : Nat) : Int) := by omega
      have e2 : (i : Int) + 1 = ((i + 1 : Nat) : Int) := by omega
      rw [e1, e2, many_run l p hl hs hp d (i + 1) (acc + r.length) k (by omega) (by omega) h7]
      rw [List.drop_eq_getElem_cons hin]
      have e3 : (rowsK (l[i] :: l.drop (i + 1)) p.size).count (T p) = r.length + (rowsK (l.drop (i + 1)) p.size).count (T p) := by
        unfold rowsK
        rw [List.flatMap_cons, List.count_append, h5, occ_count, T_size]
      rw [e3, Nat.add_assoc]
    · rw [if_neg (by omega), List.drop_of_length_le (by omega)]
      rfl
theorem many_ok (l : List ByteArray) (p : ByteArray) (hl : l.length ≤ 1000) (hs : ∀ s ∈ l, s.size ≤ 1000) (hp : p.size ≤ 1000) (k : Nat) (hk : l.length + 1003 < k) :
    gladstoneref43_many.f k l p = some (((rowsK l p.size).count (T p) : Nat) : Int) := by
  have := many_run l p hl hs hp l.length 0 0 k (by omega) hk (by omega)
  unfold gladstoneref43_many.f
  simpa using this
/-! met -/
theorem met_run (out : List S64) (p : ByteArray) (ho : out.length ≤ 1000000) : ∀ (d i : Nat) (k : Nat), i + d = out.length → d < k →
    gladstoneref43_met.l0 k out p (i : Int) = some (decide (∃ g ∈ out.drop i, T g.f0 = T p))
  | d, i, 0, h1, h2 => by omega
  | d, i, k + 1, h1, h2 => by
    simp only [gladstoneref43_met.l0]
    by_cases hin : i < out.length
    · obtain ⟨d, rfl⟩ : ∃ e, d = e + 1 := ⟨d - 1, by omega⟩
      rw [if_pos (by omega), if_pos (by omega), rd64, tl, tl]
      have e0 : out.getD i z64 = out[i] := by rw [List.getD_eq_getElem?_getD, List.getElem?_eq_getElem hin]; rfl
      rw [e0]
      by_cases hm : T out[i].f0 = T p
      · have hex : ∃ g ∈ out.drop i, T g.f0 = T p := ⟨out[i], by rw [List.drop_eq_getElem_cons hin]; exact List.mem_cons_self, hm⟩
        rw [if_pos hm, decide_eq_true hex]
      · rw [if_neg hm, w64 (by omega) (by omega)]
        have e2 : (i : Int) + 1 = ((i + 1 : Nat) : Int) := by omega
        rw [e2, met_run out p ho d (i + 1) k (by omega) (by omega)]
        congr 1
        rw [List.drop_eq_getElem_cons hin]
        simp only [List.mem_cons, decide_eq_decide]
        constructor
        · rintro ⟨g, hg, e⟩; exact ⟨g, .inr hg, e⟩
        · rintro ⟨g, rfl | hg, e⟩
          · exact absurd e hm
          · exact ⟨g, hg, e⟩
    · rw [if_neg (by omega), List.drop_of_length_le (by omega)]
      simp
theorem met_ok (out : List S64) (p : ByteArray) (ho : out.length ≤ 1000000) (k : Nat) (hk : out.length < k) : gladstoneref43_met.f k out p = some (decide (∃ g ∈ out, T g.f0 = T p)) := met_run out p ho out.length 0 k (by omega) hk
/-! put -/
theorem ahead_ok (a b : S64) : gladstoneref43_ahead.f a.f0 a.f1 b.f0 b.f1 = some (decide (aheadP a b)) := by
  unfold gladstoneref43_ahead.f
  rw [tl, tl, bytesLess_eq]
  by_cases h1 : a.f1 > b.f1
  · rw [if_pos h1, decide_eq_true (show aheadP a b from .inl h1)]
  · rw [if_neg h1]
    by_cases h2 : a.f1 = b.f1
    · rw [if_pos h2]
      by_cases h3 : T a.f0 < T b.f0
      · rw [decide_eq_true h3, decide_eq_true (show aheadP a b from .inr ⟨h2, h3⟩)]
      · rw [decide_eq_false h3, decide_eq_false (show ¬ aheadP a b from fun h => h.elim (fun q => h1 q) (fun q => h3 q.2))]
    · rw [if_neg h2, decide_eq_false (show ¬ aheadP a b from fun h => h.elim (fun q => h1 q) (fun q => h2 q.1))]
theorem put_run (out : List S64) (g : S64) (ho : out.length ≤ 1000000) : ∀ (i : Nat) (k : Nat), i ≤ out.length → i < k →
    gladstoneref43_put.l0 k out (i : Int) g.f0 g.f1 = some (out.take (insAt g out i) ++ [g] ++ out.drop (insAt g out i))
  | i, 0, h1, h2 => by omega
  | i, k + 1, h1, h2 => by
    have fin : ∀ q, q ≤ out.length → (if 0 ≤ (q : Int) then (if (q : Int) ≤ (out.length : Int) then ((some (out.take (q : Int).toNat : List (S64))).bind fun y130 => (if ([] : List (S64)).length + y130.length < 5864062014805 then ((some (([] : List (S64)) ++ y130 : List (S64))).bind fun y134 => (if y134.length < 5864062014805 then ((some (y134 ++ [(⟨g.f0, g.f1⟩ : S64)] : List (S64))).bind fun y137 => ((some (out.drop (q : Int).toNat : List (S64))).bind fun y140 => (if y137.length + y140.length < 5864062014805 then (some (y137 ++ y140)) else (none)))) else (none))) else (none))) else (none)) else (none)) = some (out.take q ++ [g] ++ out.drop q) := fun q hq => by
      rw [if_pos (by omega), if_pos (by omega)]
      simp only [Option.bind_some, Int.toNat_natCast, List.nil_append, List.length_nil, Nat.zero_add]
      rw [if_pos (by rw [List.length_take]; omega), if_pos (by rw [List.length_take]; omega), if_pos (by simp; omega)]
    simp only [gladstoneref43_put.l0]
    cases i with
    | zero =>
      rw [if_neg (by omega)]
      exact fin 0 (by omega)
    | succ i =>
      have e1 : wrap64 (((i + 1 : Nat) : Int) - 1) = (i : Int) := by rw [w64 (by omega) (by omega)]; omega
      rw [if_pos (by omega), e1, if_pos (by omega), if_pos (by omega), rd64, ahead_ok, Option.bind_some]
      unfold insAt
      by_cases h : aheadP g (out.getD i z64)
      · rw [if_pos (decide_eq_true h), if_pos h]
        exact put_run out g ho i k (by omega) (by omega)
      · rw [if_neg (by simpa using h), if_neg h]
        exact fin (i + 1) h1
theorem put_ok (out : List S64) (g : S64) (ho : out.length ≤ 1000000) (k : Nat) (hk : out.length < k) : gladstoneref43_put.f k out g.f0 g.f1 = some (insG g out) := put_run out g ho out.length k (Nat.le_refl _) hk

end Go.Proofs.Ytoefkkgnabjmdaa
