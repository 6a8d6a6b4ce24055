/- Chapter 43 (grams): the reference's Count and Build, as the print tells them: what they give. -/
import Derived.Test.YtoefkkgnabjmdaaGrRef
set_option linter.unusedSimpArgs false
set_option linter.unusedVariables false
namespace Go.Proofs.Ytoefkkgnabjmdaa
open Go.RowKit PGramsCount Go.Proofs.YtoefkkgnabjmdaaW.PrintWords

theorem gramsOf_length (s : List UInt8) (n : Nat) : (gramsOf s n).length = s.length + 1 - n := by simp [gramsOf]
theorem gramsOf_get (s : List UInt8) (n i : Nat) (h : i < s.length + 1 - n) : (gramsOf s n)[i]'(by rw [gramsOf_length]; exact h) = (s.drop i).take n := by simp [gramsOf]
theorem gram_len {l : List ByteArray} {n : Nat} {p : List UInt8} (hn : 1 ≤ n) (h : p ∈ rowsK l n) : p.length = n := by
  unfold rowsK at h
  obtain ⟨s, _, hp⟩ := List.mem_flatMap.1 h
  unfold gramsOf at hp
  obtain ⟨i, hi, rfl⟩ := List.mem_map.1 hp
  have := List.mem_range.1 hi
  simp; omega
def InvG (l : List ByteArray) (n : Nat) (seen : List (List UInt8)) (out : List S64) : Prop := out.Pairwise aheadP ∧ (∀ g : S64, g ∈ out ↔ (T g.f0 ∈ seen ∧ g.f1 = ((rowsK l n).count (T g.f0) : Nat))) ∧ out.length ≤ seen.length
theorem InvG.met {l : List ByteArray} {n : Nat} {seen : List (List UInt8)} {out : List S64} {p : ByteArray} (h : InvG l n seen out) (hm : ∃ g ∈ out, T g.f0 = T p) : InvG l n (seen ++ [T p]) out := by
  obtain ⟨g, hg, e⟩ := hm
  refine ⟨h.1, fun x => (h.2.1 x).trans ?_, by have := h.2.2; simp; omega⟩
  have hs : T p ∈ seen := by rw [← e]; exact ((h.2.1 g).1 hg).1
  constructor
  · rintro ⟨h1, h2⟩; exact ⟨List.mem_append_left _ h1, h2⟩
  · rintro ⟨h1, h2⟩
    refine ⟨?_, h2⟩
    rcases List.mem_append.1 h1 with h1 | h1
    · exact h1
    · rw [List.mem_singleton] at h1; rw [h1]; exact hs
theorem InvG.new {l : List ByteArray} {n : Nat} {seen : List (List UInt8)} {out : List S64} {p : ByteArray} (h : InvG l n seen out) (hm : ¬ ∃ g ∈ out, T g.f0 = T p) : InvG l n (seen ++ [T p]) (insG ⟨p, ((rowsK l n).count (T p) : Nat)⟩ out) := by
  have hne : ∀ x ∈ out, T (⟨p, ((rowsK l n).count (T p) : Nat)⟩ : S64).f0 ≠ T x.f0 := fun x hx e => hm ⟨x, hx, e.symm⟩
  refine ⟨insG_srt _ out h.1 hne, fun x => ?_, ?_⟩
  · rw [(insG_perm _ out).mem_iff, List.mem_cons, h.2.1 x, List.mem_append, List.mem_singleton]
    constructor
    · rintro (rfl | ⟨h1, h2⟩)
      · exact ⟨.inr rfl, rfl⟩
      · exact ⟨.inl h1, h2⟩
    · rintro ⟨h1 | h1, h2⟩
      · exact .inr ⟨h1, h2⟩
      · left
        obtain ⟨a, b⟩ := x
        have := T_inj h1
        simp only at this h2
        subst this
        rw [h2]
  · have := h.2.2
    rw [(insG_perm _ out).length_eq]; simp; omega
theorem rows_len : ∀ (l : List ByteArray) (n : Nat), 1 ≤ n → (∀ s ∈ l, s.size ≤ 60) → (rowsK l n).length ≤ 60 * l.length
  | [], _, _, _ => by simp [rowsK]
  | s :: l, n, hn, h => by
    have ih := rows_len l n hn (fun x hx => h x (by simp [hx]))
    have hs := h s (by simp)
    have e : rowsK (s :: l) n = gramsOf (T s) n ++ rowsK l n := by simp [rowsK]
    rw [e, List.length_append, gramsOf_length, T_size, List.length_cons]
    omega
section
variable (l : List ByteArray) (n : Nat) (hl : l.length ≤ 12) (hs : ∀ s ∈ l, s.size ≤ 60) (h1 : 1 ≤ n) (h16 : n ≤ 16)
include hl hs h1 h16
theorem inner_run (i : Nat) (hi : i < l.length) : ∀ (d x : Nat) (out : List S64) (k : Nat), x + d = (gramsOf (T l[i]) n).length → d + 2001 ≤ k → InvG l n (rowsK (l.take i) n ++ (gramsOf (T l[i]) n).take x) out →
    ∃ out', gladstoneref43_Count.l1 k l (n : Int) out (i : Int) (x : Int) = gladstoneref43_Count.l0 (k - d - 1) l (n : Int) out' ((i + 1 : Nat) : Int) ∧ InvG l n (rowsK (l.take i) n ++ gramsOf (T l[i]) n) out'
  | d, x, out, 0, q1, q2, q3 => by omega
  | d, x, out, k + 1, q1, q2, q3 => by
    have hsz := hs l[i] (List.getElem_mem hi)
    have hg := gramsOf_length (T l[i]) n
    rw [T_size] at hg
    have hol : out.length ≤ 800 := by
      have a := q3.2.2
      have b := rows_len (l.take i) n h1 (fun s hs' => hs s (List.mem_of_mem_take hs'))
      rw [List.length_append, List.length_take] at a
      rw [List.length_take] at b
      omega
    simp only [gladstoneref43_Count.l1]
    have e0 : rdOf ByteArray.empty l (i : Int) = l[i] := by unfold rdOf; rw [Int.toNat_natCast, List.getD_eq_getElem?_getD, List.getElem?_eq_getElem hi]; rfl
    rw [if_pos (by omega), if_pos (by omega), e0, w64 (x := (x : Int) + (n : Int)) (by omega) (by omega)]
    cases d with
    | zero =>
      rw [if_neg (by omega), w64 (by omega) (by omega)]
      refine ⟨out, by simp, ?_⟩
      rwa [List.take_of_length_le (l := gramsOf (T l[i]) n) (by omega)] at q3
    | succ d =>
      rw [if_pos (by omega), if_pos (by omega), if_pos (by omega)]
      have e1 : ((x : Int) + (n : Int)).toNat = x + n := by omega
      rw [e1, Int.toNat_natCast]
      have hx : x < (T l[i]).length + 1 - n := by rw [T_size]; omega
      have hTp : T (l[i].extract x (x + n)) = (gramsOf (T l[i]) n)[x]'(by omega) := by
        rw [T_extract, gramsOf_get _ _ _ hx, show x + n - x = n by omega]
      have htk : (gramsOf (T l[i]) n).take (x + 1) = (gramsOf (T l[i]) n).take x ++ [T (l[i].extract x (x + n))] := by
        rw [hTp]; exact List.take_succ_eq_append_getElem _
      have hpn : (l[i].extract x (x + n)).size = n := by rw [ByteArray.size_extract]; omega
      generalize l[i].extract x (x + n) = p at *
      rw [met_ok out p (by omega) k (by omega), Option.bind_some, w64 (x := (x : Int) + 1) (by omega) (by omega)]
      have e2 : (x : Int) + 1 = ((x + 1 : Nat) : Int) := by omega
      rw [e2]
      by_cases hm : ∃ g ∈ out, T g.f0 = T p
      · rw [if_pos (decide_eq_true hm)]
        obtain ⟨out', r1, r2⟩ := inner_run i hi d (x + 1) out k (by omega) (by omega) (by rw [htk, ← List.append_assoc]; exact q3.met hm)
        exact ⟨out', by rw [r1]; congr 1; omega, r2⟩
      · rw [if_neg (by simpa using hm), many_ok l p (by omega) (fun s h => by have := hs s h; omega) (by omega) k (by omega), Option.bind_some, hpn]
        have hput := put_ok out ⟨p, ((rowsK l n).count (T p) : Nat)⟩ (by omega) k (by omega)
        rw [hput, Option.bind_some]
        obtain ⟨out', r1, r2⟩ := inner_run i hi d (x + 1) _ k (by omega) (by omega) (by rw [htk, ← List.append_assoc]; exact q3.new hm)
        exact ⟨out', by rw [r1]; congr 1; omega, r2⟩
theorem outer_run : ∀ (d i : Nat) (out : List S64) (k : Nat), i + d = l.length → d * 63 + 2003 ≤ k → InvG l n (rowsK (l.take i) n) out →
    ∃ out', gladstoneref43_Count.l0 k l (n : Int) out (i : Int) = some out' ∧ GoodG l n out' ∧ out'.length ≤ 10000
  | d, i, out, 0, q1, q2, q3 => by omega
  | d, i, out, k + 1, q1, q2, q3 => by
    simp only [gladstoneref43_Count.l0]
    cases d with
    | zero =>
      rw [if_neg (by omega)]
      refine ⟨out, rfl, ?_⟩
      rw [List.take_of_length_le (by omega)] at q3
      have hb := rows_len l n h1 hs
      exact ⟨⟨q3.1, q3.2.1⟩, by have := q3.2.2; omega⟩
    | succ d =>
      have hi : i < l.length := by omega
      have hsz := hs l[i] (List.getElem_mem hi)
      have hg := gramsOf_length (T l[i]) n
      rw [T_size] at hg
      rw [if_pos (by omega)]
      obtain ⟨out1, r1, r2⟩ := inner_run l n hl hs h1 h16 i hi (gramsOf (T l[i]) n).length 0 out k (by omega) (by omega) (by simpa using q3)
      have e0 : ((0 : Nat) : Int) = 0 := rfl
      rw [e0] at r1
      rw [r1]
      refine outer_run d (i + 1) out1 _ (by omega) (by omega) ?_
      have e : rowsK (l.take (i + 1)) n = rowsK (l.take i) n ++ gramsOf (T l[i]) n := by
        unfold rowsK
        rw [List.take_succ_eq_append_getElem hi, List.flatMap_append]; simp
      rw [e]; exact r2
theorem count_ok (k : Nat) (hk : 3000 ≤ k) : ∃ out, gladstoneref43_Count.f k l (n : Int) = some out ∧ GoodG l n out ∧ out.length ≤ 10000 := by
  obtain ⟨k, rfl⟩ : ∃ m, k = m + 1 := ⟨k - 1, by omega⟩
  unfold gladstoneref43_Count.f
  rw [if_neg (by omega)]
  simp only [gladstoneref43_Count.j0]
  rw [if_neg (by simp; omega)]
  exact outer_run l n hl hs h1 h16 l.length 0 [] k (by omega) (by omega) ⟨List.Pairwise.nil, fun g => by simp [rowsK], by simp⟩
end
theorem count_none (l : List ByteArray) (n : Int) (h : n < 1 ∨ 16 < n) (k : Nat) (hk : 1 ≤ k) : gladstoneref43_Count.f k l n = some [] := by
  obtain ⟨k, rfl⟩ : ∃ m, k = m + 1 := ⟨k - 1, by omega⟩
  unfold gladstoneref43_Count.f
  by_cases h1 : n < 1
  · rw [if_pos h1]; simp only [gladstoneref43_Count.j0]; rw [if_pos trivial]
  · rw [if_neg h1]; simp only [gladstoneref43_Count.j0]; rw [if_pos (by simp; omega)]
/-! Build -/
def bStep (n : Nat) (size : Int) (out : ByteArray) (g : S64) : ByteArray := if 2 ≤ g.f1 ∧ occ (T out) (T g.f0) 0 = 0 ∧ (out.size : Int) + n ≤ size then g.f0 ++ out else out
def buildR (n : Nat) (size : Int) (G : List S64) : ByteArray := G.foldl (bStep n size) ⟨#[]⟩
theorem bStep_size (n : Nat) (size : Int) (out : ByteArray) (g : S64) (h : g.f0.size = n) : (bStep n size out g).size ≤ out.size + n := by
  unfold bStep
  split
  · rw [ByteArray.size_append]; omega
  · omega
theorem build_run (n : Nat) (size : Int) (G : List S64) (h16 : n ≤ 16) (hG : G.length ≤ 10000) (hs : size ≤ 67108864) (hn : ∀ g ∈ G, g.f0.size = n) : ∀ (d i : Nat) (out : ByteArray) (k : Nat), i + d = G.length → d + 200000 ≤ k → out.size ≤ i * 16 →
    gladstoneref43_Build.l0 k size (n : Int) G out (i : Int) = some ((G.drop i).foldl (bStep n size) out, 0)
  | d, i, out, 0, q1, q2, q3 => by omega
  | d, i, out, k + 1, q1, q2, q3 => by
    simp only [gladstoneref43_Build.l0]
    cases d with
    | zero =>
      rw [if_neg (by omega), List.drop_of_length_le (by omega)]; rfl
    | succ d =>
      have hi : i < G.length := by omega
      have e0 : rd_T64 G (i : Int) = G[i] := by rw [rd64, List.getD_eq_getElem?_getD, List.getElem?_eq_getElem hi]; rfl
      have hgs := hn G[i] (List.getElem_mem hi)
      have hbs := bStep_size n size out G[i] hgs
      rw [if_pos (by omega), if_pos (by omega), e0, List.drop_eq_getElem_cons hi, List.foldl_cons, w64 (x := (i : Int) + 1) (by omega) (by omega), w64 (x := (out.size : Int) + (n : Int)) (by omega) (by omega)]
      have e2 : (i : Int) + 1 = ((i + 1 : Nat) : Int) := by omega
      rw [e2]
      have step := build_run n size G h16 hG hs hn d (i + 1) (bStep n size out G[i]) k (by omega) (by omega) (by omega)
      by_cases c1 : G[i].f1 ≥ 2
      · obtain ⟨r, f1, f2⟩ := find_ok out G[i].f0 (by omega) (by omega) k (by omega)
        rw [if_pos c1, f1, Option.bind_some]
        by_cases c2 : (r.length : Int) = 0
        · rw [if_pos c2]
          by_cases c3 : (out.size : Int) + (n : Int) ≤ size
          · have eb : bStep n size out G[i] = G[i].f0 ++ out := if_pos ⟨c1, by omega, c3⟩
            rw [if_pos c3, if_pos (by omega), ← eb]; exact step
          · have eb : bStep n size out G[i] = out := if_neg (fun h => c3 h.2.2)
            rw [if_neg c3]; rw [eb] at step ⊢; exact step
        · have eb : bStep n size out G[i] = out := if_neg (fun h => c2 (by have := h.2.1; omega))
          rw [if_neg c2]; rw [eb] at step ⊢; exact step
      · have eb : bStep n size out G[i] = out := if_neg (fun h => c1 h.1)
        rw [if_neg c1]; rw [eb] at step ⊢; exact step
def bErr (size n : Int) : Int := if n < 2 ∨ 16 < n ∨ size < 0 ∨ 67108864 < size then 1 else 0
theorem build_err (l : List ByteArray) (size n : Int) (h : bErr size n ≠ 0) (k : Nat) (hk : 1 ≤ k) : gladstoneref43_Build.f k l size n = some (⟨#[]⟩, 1) := by
  obtain ⟨k, rfl⟩ : ∃ m, k = m + 1 := ⟨k - 1, by omega⟩
  have h' : n < 2 ∨ 16 < n ∨ size < 0 ∨ 67108864 < size := Classical.byContradiction fun q => h (if_neg q)
  unfold gladstoneref43_Build.f
  simp only [gladstoneref43_Build.j0]
  by_cases c1 : n < 2
  · rw [if_pos c1, if_pos trivial]
  · rw [if_neg c1]
    by_cases c2 : n > 16
    · rw [if_pos c2, if_pos trivial]
    · rw [if_neg c2]
      by_cases c3 : size < 0
      · rw [if_pos c3, if_pos trivial]
      · rw [if_neg c3, if_pos (by simp; omega)]
theorem good_size {l : List ByteArray} {n : Nat} {G : List S64} (h1 : 1 ≤ n) (h : GoodG l n G) : ∀ g ∈ G, g.f0.size = n := fun g hg => by
  have := gram_len h1 ((h.2 g).1 hg).1
  rwa [T_size] at this
theorem build_ok (l : List ByteArray) (size : Int) (n : Nat) (hl : l.length ≤ 12) (hs : ∀ s ∈ l, s.size ≤ 60) (h : bErr size (n : Int) = 0) (k : Nat) (hk : 300000 ≤ k) : ∃ G, gladstoneref43_Count.f k l (n : Int) = some G ∧ GoodG l n G ∧ gladstoneref43_Build.f k l size (n : Int) = some (buildR n size G, 0) := by
  have h' : ¬ ((n : Int) < 2 ∨ 16 < (n : Int) ∨ size < 0 ∨ 67108864 < size) := fun q => by unfold bErr at h; rw [if_pos q] at h; omega
  obtain ⟨G, g1, g2, hlen⟩ := count_ok l n hl hs (by omega) (by omega) k (by omega)
  refine ⟨G, g1, g2, ?_⟩
  obtain ⟨k, rfl⟩ : ∃ m, k = m + 1 := ⟨k - 1, by omega⟩
  obtain ⟨G', g3, g4, _⟩ := count_ok l n hl hs (by omega) (by omega) k (by omega)
  obtain rfl := g2.unique g4
  unfold gladstoneref43_Build.f
  rw [if_neg (by omega), if_neg (by omega), if_neg (by omega)]
  simp only [gladstoneref43_Build.j0]
  rw [if_neg (by simp; omega), g3, Option.bind_some]
  have := build_run n size G (by omega) hlen (by omega) (good_size (by omega) g2) G.length 0 ⟨#[]⟩ k (by omega) (by omega) (Nat.le_refl _)
  rw [List.drop_zero] at this
  exact this

end Go.Proofs.Ytoefkkgnabjmdaa
