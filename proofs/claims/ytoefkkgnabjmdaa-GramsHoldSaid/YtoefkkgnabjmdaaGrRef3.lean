/- Chapter 43 (grams): Same and few, as the print tells them; what a dictionary holds: the plain part. -/
import Derived.Test.YtoefkkgnabjmdaaGrRef2
import Derived.Lib.IndexMore
set_option linter.unusedSimpArgs false
set_option linter.unusedVariables false
namespace Go.Proofs.Ytoefkkgnabjmdaa
open Go.RowKit PGramsCount Go.Proofs.YtoefkkgnabjmdaaW.PrintWords

theorem s64_ext {a b : S64} (h : T a.f0 = T b.f0) (k : a.f1 = b.f1) : a = b := by
  cases a; cases b
  simp only at h k
  rw [T_inj h, k]
instance : DecidableEq S64 := fun a b => if h : T a.f0 = T b.f0 ∧ a.f1 = b.f1 then isTrue (s64_ext h.1 h.2) else isFalse (fun e => h (by rw [e]; exact ⟨rfl, rfl⟩))
theorem same_run (a b : List S64) (hl : a.length = b.length) (ha : a.length ≤ 1000000) : ∀ (d i : Nat) (k : Nat), i + d = a.length → d < k → gladstoneref43_Same.l0 k a b (i : Int) = some (decide (a.drop i = b.drop i))
  | d, i, 0, h1, h2 => by omega
  | d, i, k + 1, h1, h2 => by
    simp only [gladstoneref43_Same.l0]
    by_cases hi : i < a.length
    · obtain ⟨d, rfl⟩ : ∃ e, d = e + 1 := ⟨d - 1, by omega⟩
      have hb : i < b.length := by omega
      have e0 : a.getD i z64 = a[i] := by rw [List.getD_eq_getElem?_getD, List.getElem?_eq_getElem hi]; rfl
      have e1 : b.getD i z64 = b[i] := by rw [List.getD_eq_getElem?_getD, List.getElem?_eq_getElem hb]; rfl
      rw [if_pos (by omega), if_pos (by omega), if_pos (by omega), rd64, rd64, e0, e1, tl, tl, w64 (by omega) (by omega)]
      have e2 : (i : Int) + 1 = ((i + 1 : Nat) : Int) := by omega
      rw [e2, same_run a b hl ha d (i + 1) k (by omega) (by omega)]
      have hd : a.drop i = b.drop i ↔ a[i] = b[i] ∧ a.drop (i + 1) = b.drop (i + 1) := by
        rw [List.drop_eq_getElem_cons hi, List.drop_eq_getElem_cons hb, List.cons.injEq]
      by_cases hm : a[i] = b[i]
      · rw [hm, if_neg (by simp)]
        congr 1
        rw [decide_eq_decide, hd]
        exact ⟨fun h => ⟨hm, h⟩, fun h => h.2⟩
      · rw [if_pos, decide_eq_false (fun h => hm (hd.1 h).1)]
        simp only [Bool.or_eq_true, Bool.not_eq_true', beq_eq_false_iff_ne]
        by_cases hx : T a[i].f0 = T b[i].f0
        · exact .inr (fun hy => hm (s64_ext hx hy))
        · exact .inl hx
    · rw [if_neg (by omega), List.drop_of_length_le (by omega), List.drop_of_length_le (by omega)]
      simp
theorem same_ok (a b : List S64) (ha : a.length ≤ 1000000) (k : Nat) (hk : a.length < k) : gladstoneref43_Same.f k a b = some (decide (a = b)) := by
  unfold gladstoneref43_Same.f
  by_cases hl : a.length = b.length
  · rw [if_pos (by omega)]
    have := same_run a b hl ha a.length 0 k (by omega) hk
    simpa using this
  · rw [if_neg (by omega), decide_eq_false (fun h => hl (by rw [h]))]
def fewP (l : List ByteArray) : Prop := l.length ≤ 12 ∧ ∀ s ∈ l, s.size ≤ 60
instance (l : List ByteArray) : Decidable (fewP l) := by unfold fewP; infer_instance
theorem few_run (l : List ByteArray) (hl : l.length ≤ 12) : ∀ (d i : Nat) (k : Nat), i + d = l.length → d < k → gladstonelaw43_few.l0 k l (i : Int) = some (decide (∀ s ∈ l.drop i, s.size ≤ 60))
  | d, i, 0, h1, h2 => by omega
  | d, i, k + 1, h1, h2 => by
    simp only [gladstonelaw43_few.l0]
    by_cases hi : i < l.length
    · obtain ⟨d, rfl⟩ : ∃ e, d = e + 1 := ⟨d - 1, by omega⟩
      have e0 : rdOf ByteArray.empty l (i : Int) = l[i] := by unfold rdOf; rw [Int.toNat_natCast, List.getD_eq_getElem?_getD, List.getElem?_eq_getElem hi]; rfl
      rw [if_pos (by omega), if_pos (by omega), e0, w64 (by omega) (by omega)]
      have e2 : (i : Int) + 1 = ((i + 1 : Nat) : Int) := by omega
      rw [e2, few_run l hl d (i + 1) k (by omega) (by omega), List.drop_eq_getElem_cons hi]
      by_cases hm : l[i].size ≤ 60
      · rw [if_neg (by omega)]
        congr 1
        rw [decide_eq_decide]
        simp only [List.mem_cons]
        constructor
        · rintro h s (rfl | hs)
          · exact hm
          · exact h s hs
        · exact fun h s hs => h s (.inr hs)
      · rw [if_pos (by omega), decide_eq_false (fun h => hm (h _ (List.mem_cons_self)))]
    · rw [if_neg (by omega), List.drop_of_length_le (by omega)]
      simp
theorem few_ok (l : List ByteArray) (k : Nat) (hk : 13 < k) : gladstonelaw43_few.f k l = some (decide (fewP l)) := by
  unfold gladstonelaw43_few.f
  by_cases h : l.length ≤ 12
  · rw [if_neg (by omega)]
    have := few_run l h l.length 0 k (by omega) (by omega)
    rw [show ((0 : Nat) : Int) = 0 from rfl, List.drop_zero] at this
    rw [this]
    congr 1
    rw [decide_eq_decide]
    exact ⟨fun q => ⟨h, q⟩, fun q => q.2⟩
  · rw [if_pos (by omega), decide_eq_false (fun q => h q.1)]
/-! What the dictionary holds. -/
theorem occ_pos_iff (s p : List UInt8) (i : Nat) : 0 < occ s p i ↔ ∃ j, i ≤ j ∧ j + p.length ≤ s.length ∧ (s.drop j).take p.length = p := by
  unfold occ
  rw [List.countP_pos_iff]
  constructor
  · rintro ⟨j, hj, hp⟩
    have := List.mem_range'_1.1 hj
    exact ⟨j, this.1, by omega, by simpa using hp⟩
  · rintro ⟨j, h1, h2, h3⟩
    exact ⟨j, List.mem_range'_1.2 (by omega), by simpa using h3⟩
theorem occ_append (a s p : List UInt8) (h : 0 < occ s p 0) : 0 < occ (a ++ s) p 0 := by
  obtain ⟨j, h1, h2, h3⟩ := (occ_pos_iff s p 0).1 h
  refine (occ_pos_iff _ p 0).2 ⟨a.length + j, by omega, by rw [List.length_append]; omega, ?_⟩
  rw [List.drop_append, List.drop_of_length_le (by omega), List.nil_append, show a.length + j - a.length = j by omega]; exact h3
theorem occ_front (p s : List UInt8) : 0 < occ (p ++ s) p 0 := (occ_pos_iff _ p 0).2 ⟨0, Nat.le_refl _, by rw [List.length_append]; omega, by simp⟩
theorem T_append (a b : ByteArray) : T (a ++ b) = T a ++ T b := by
  unfold T
  rw [ByteArray.data_append, Array.toList_append]
theorem build_le (n : Nat) (size : Int) : ∀ (G : List S64) (out : ByteArray), (∀ g ∈ G, g.f0.size = n) → (out.size : Int) ≤ size → ((G.foldl (bStep n size) out).size : Int) ≤ size
  | [], out, _, h => h
  | g :: G, out, hn, h => by
    rw [List.foldl_cons]
    refine build_le n size G _ (fun x hx => hn x (by simp [hx])) ?_
    unfold bStep
    split
    · rename_i hc
      rw [ByteArray.size_append, hn g (by simp)]; omega
    · exact h
theorem build_keeps (n : Nat) (size : Int) (p : List UInt8) : ∀ (G : List S64) (out : ByteArray), 0 < occ (T out) p 0 → 0 < occ (T (G.foldl (bStep n size) out)) p 0
  | [], out, h => h
  | g :: G, out, h => by
    rw [List.foldl_cons]
    refine build_keeps n size p G _ ?_
    unfold bStep
    split
    · rw [T_append]; exact occ_append _ _ _ h
    · exact h
theorem build_holds (n : Nat) : ∀ (G : List S64) (out : ByteArray), n ≤ 16 → (∀ g ∈ G, g.f0.size = n) → out.size + G.length * 16 ≤ 67108864 → ∀ g ∈ G, 2 ≤ g.f1 → 0 < occ (T (G.foldl (bStep n 67108864) out)) (T g.f0) 0
  | [], _, _, _, _, g, hg, _ => by cases hg
  | x :: G, out, h16, hn, hsz, g, hg, h2 => by
    rw [List.foldl_cons]
    have hx := hn x (by simp)
    have hb := bStep_size n 67108864 out x hx
    rw [List.length_cons] at hsz
    rcases List.mem_cons.1 hg with rfl | hg
    · refine build_keeps n 67108864 _ G _ ?_
      unfold bStep
      by_cases h0 : occ (T out) (T g.f0) 0 = 0
      · rw [if_pos ⟨h2, h0, by omega⟩, T_append]; exact occ_front _ _
      · rw [if_neg (fun h => h0 h.2.1)]; omega
    · exact build_holds n G _ h16 (fun y hy => hn y (by simp [hy])) (by omega) g hg h2
/-- The library's Contains is the reference's Find. -/
theorem contains_occ (s p : List UInt8) (hp : 1 ≤ p.length) : Lib.contains s p = decide (¬ occ s p 0 = 0) := by
  unfold Lib.contains
  rw [decide_eq_decide]
  rcases Lib.index_spec s p with ⟨h1, h2⟩ | ⟨i, h1, h2, h3⟩
  · rw [h1]
    constructor
    · intro h; omega
    · intro h
      obtain ⟨j, q1, q2, q3⟩ := (occ_pos_iff s p 0).1 (by omega)
      have := h2 j (by omega)
      rw [Lib.occAt_iff_take s p j q2] at this
      simp [q3] at this
  · obtain ⟨h3, _⟩ := h3
    rw [h1]
    constructor
    · intro _
      have hroom := Lib.occAt_room h3
      have : 0 < occ s p 0 := (occ_pos_iff s p 0).2 ⟨i, by omega, by rcases hroom with h | h; exact h; rw [h] at hp; simp at hp, by
        rw [Lib.occAt_iff_take s p i (by rcases hroom with h | h; exact h; rw [h] at hp; simp at hp)] at h3
        simpa using h3⟩
      omega
    · intro _; omega

end Go.Proofs.Ytoefkkgnabjmdaa
