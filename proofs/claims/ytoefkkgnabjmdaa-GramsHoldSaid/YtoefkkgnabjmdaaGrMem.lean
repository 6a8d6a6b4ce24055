/- Chapter 43 (grams): slices of grams of the call's own; a map from rows of bytes to numbers; what is kept of it. -/
import Derived.Test.YtoefkkgnabjmdaaGrOrder
import Derived.Test.YtoefkkgnabjmdaaMemR
import Derived.Maps.RangeWalk
import Derived.Maps.OwnOps
import Derived.Maps.OwnSet
import Derived.StringKeys
import Derived.Carry
set_option linter.unusedSimpArgs false
set_option linter.unusedVariables false
set_option maxRecDepth 100000
namespace Go.Proofs.Ytoefkkgnabjmdaa
open Go.RowKit PGramsCount Go.Sort Go.Maps Go.Proofs.YtoefkkgnabjmdaaW.PrintWords

def gvals (l : List S64) : List Value := l.flatMap encG
theorem gvals_length (l : List S64) : (gvals l).length = l.length * 2 := by
  induction l with
  | nil => rfl
  | cons t l ih => simp only [gvals, List.flatMap_cons, List.length_append, List.length_cons] at *; rw [ih]; simp [encG]; omega
theorem gvals_append (a b : List S64) : gvals (a ++ b) = gvals a ++ gvals b := by simp [gvals]
theorem gvals_get : ∀ (l : List S64) (i j : Nat) (hi : i < l.length), j < 2 → (gvals l)[i * 2 + j]? = (encG l[i])[j]?
  | t :: l, 0, j, _, hj => by
    simp only [gvals, List.flatMap_cons, Nat.zero_mul, Nat.zero_add, List.getElem_cons_zero]
    rw [List.getElem?_append_left (by simp [encG]; omega)]
  | t :: l, i + 1, j, hi, hj => by
    simp only [gvals, List.flatMap_cons]
    rw [List.getElem?_append_right (by simp [encG]; omega)]
    have e : (i + 1) * 2 + j - (encG t).length = i * 2 + j := by simp [encG]; omega
    rw [e]
    exact gvals_get l i j (by simpa using hi) hj
theorem gvals_one (l : List S64) : ∀ u ∈ gvals l, u.oneCell' = true := by
  intro u hu
  obtain ⟨g, _, hg⟩ := List.mem_flatMap.1 hu
  simp [encG] at hg
  rcases hg with rfl | rfl <;> rfl
/-- The slice value v holds these grams in memory of the call's own. -/
def RowG (w : World) (base : Nat) (v : Value) (l : List S64) : Prop := Row w base 64 2 v l.length (gvals l)
theorem RowG.below {w w' : World} {base : Nat} {v : Value} {l : List S64} (h : RowG w base v l) (hb : Below w.heap.size w w') : RowG w' base v l := Row.below h hb
theorem wpList_append_gram {w : World} {ops : Array Oper} {rest : List Oper} {o : Oper} {a : Act} {Q : Exit → Act → World → Prop} (hgd : o.guard = none) (s x : Operand)
    (ho : o.op = .call { callee := .builtin .append, args := #[s, x], argTypes := #[60, 60] })
    (base : Nat) (v : Value) (xs : List S64) (hs : a.eval s = v) (hown : RowG w base v xs) (B : Nat) (g : S64) (hx : a.eval x = .slice (some ⟨B, 0, none⟩) 1 1)
    (hB : Blk w B 64 (encG g).toArray) (hlen : xs.length + 1 ≤ 1000000) (hbase : base ≤ w.heap.size)
    (h : ∀ v' w', RowG w' base v' (xs ++ [g]) → w.grownBy w' v.ownBlock → (v'.ownBlock = v.ownBlock ∨ v'.ownBlock = some w.heap.size) → wpList Try.prog ops Q rest (a.put o.dst v') w') : wpList Try.prog ops Q (o :: rest) a w := by
  obtain ⟨i0, hi, hz0, hz1, hz2⟩ := info_parts PGramsCount.info64
  have hr : Reads w w.heap.size 2 (some ⟨B, 0, none⟩) 1 (gvals [g]) := ⟨by rw [gvals_length]; rfl, fun _ => ⟨_, rfl, hB.lt, fun j u hu => by
    have e1 : ((⟨B, 0, none⟩ : Addr).add j) = ⟨B, j, none⟩ := by unfold Addr.add; split <;> simp_all
    rw [e1, hB.cell, List.getElem?_toArray]; simpa [gvals] using hu⟩⟩
  refine wpList_append_row w hgd s x 60 ho base 64 i0 _ 2 24 Try.underlying60 hi hz0 hz1 hz2 rfl (by omega) v xs.length (gvals xs) hs hown w.heap.size (some ⟨B, 0, none⟩) 1 1 (gvals [g]) hx hr (gvals_one _) (by simp only [maxLen]; omega) (by omega) hbase ?_
  intro v' w' h1 h2 h3
  rw [← gvals_append] at h1
  exact h v' w' (by unfold RowG; rw [List.length_append]; exact h1) h2 h3
/-- What the print's contracts ask of a slice of grams. -/
theorem C_grams {w : World} {B : Nat} {A : Option Addr} {l : List S64} (h : Reads w B 2 A l.length (gvals l)) (hl : l.length ≤ 1000000) : Kd.C k64 w A l.length l := by
  refine ⟨rfl, by omega, fun hn => ?_⟩
  obtain ⟨ad, e, _, hc⟩ := h.2 hn
  refine ⟨ad, e, fun j p hp => ⟨encG p, rfl, k64_mk w p, fun i u hu => ?_⟩⟩
  have hj := (List.getElem?_eq_some_iff.1 hp)
  obtain ⟨hj, e2⟩ := hj
  have hi : i < 2 := by have := (List.getElem?_eq_some_iff.1 hu).1; simpa [encG] using this
  exact hc (j * 2 + i) u (by rw [gvals_get l j i hj hi, e2]; exact hu)
/-! A map that counts. -/
abbrev DU := DataW Unit
def CntD (D : DU) (seen : List (List UInt8)) : Prop := ∀ p : List UInt8, has D (.string p) = decide (p ∈ seen) ∧ D.atKey (.string p) (.lit (.int .i64 0)) = .lit (.int .i64 ((seen.count p : Nat) : Int))
theorem CntD.start : CntD (.map []) [] := fun p => ⟨rfl, rfl⟩
theorem CntD.put {D : DU} {seen : List (List UInt8)} (hD : IsMap D) (h : CntD D seen) (p : List UInt8) : CntD (D.put (.string p) (.lit (.int .i64 ((seen.count p : Nat) + 1 : Int)))) (seen ++ [p]) := by
  intro q
  by_cases e : q = p
  · subst e
    have hk : WideAt.IsKeyLit (Lit.string q) := trivial
    rw [has_put_same hD hk, atKey_put_same hD hk]
    refine ⟨by simp, ?_⟩
    rw [List.count_append, List.count_singleton_self]
    rfl
  · have hne : (Lit.string q) ≠ Lit.string p := fun x => e (by injection x)
    rw [has_put_other hne, atKey_put_other hne, (h q).1, (h q).2]
    refine ⟨by simp [e], ?_⟩
    have e0 : List.count q [p] = 0 := List.count_eq_zero.2 (by simpa using e)
    rw [List.count_append, e0, Nat.add_zero]
/-- What has come out of it so far. -/
def ColG (D : DU) (left : Lit → Bool) (out : List S64) : Prop := out.Pairwise (fun a b => T a.f0 ≠ T b.f0) ∧ (∀ p, (∃ g ∈ out, T g.f0 = p) ↔ has D (.string p) = true ∧ left (.string p) = false) ∧ ∀ g ∈ out, D.atKey (.string (T g.f0)) (.lit (.int .i64 0)) = .lit (.int .i64 g.f1)
theorem ColG.start (D : DU) : ColG D (has D) [] := ⟨List.Pairwise.nil, fun p => by simp, fun g hg => by cases hg⟩
theorem ColG.step {D : DU} {left : Lit → Bool} {out : List S64} (h : ColG D left out) {x : ByteArray} {c : Int} (hl : left (.string (T x)) = true) (hh : has D (.string (T x)) = true) (ha : ∀ z, D.atKey (.string (T x)) z = .lit (.int .i64 c)) :
    ColG D (fun z => left z && !z.sameKey (.string (T x))) (out ++ [⟨x, c⟩]) := by
  have hno : ¬ ∃ g ∈ out, T g.f0 = T x := fun q => by have := ((h.2.1 (T x)).1 q).2; rw [hl] at this; cases this
  refine ⟨List.pairwise_append.2 ⟨h.1, by simp, fun a ha b hb => ?_⟩, fun p => ?_, fun g hg => ?_⟩
  · rw [List.mem_singleton] at hb; subst hb
    exact fun e => hno ⟨a, ha, e⟩
  · by_cases e : p = T x
    · subst e
      refine ⟨fun _ => ⟨hh, by simp [Lit.sameKey]⟩, fun _ => ⟨⟨x, c⟩, by simp, rfl⟩⟩
    · have hs : (Lit.string p).sameKey (.string (T x)) = false := by simp [Lit.sameKey]; exact e
      simp only [hs, Bool.not_false, Bool.and_true]
      rw [← h.2.1 p]
      constructor
      · rintro ⟨g, hg, q⟩
        rcases List.mem_append.1 hg with hg | hg
        · exact ⟨g, hg, q⟩
        · rw [List.mem_singleton] at hg; subst hg; exact absurd q.symm e
      · rintro ⟨g, hg, q⟩; exact ⟨g, List.mem_append_left _ hg, q⟩
  · rcases List.mem_append.1 hg with hg | hg
    · exact h.2.2 g hg
    · rw [List.mem_singleton] at hg; subst hg; exact ha _
/-- All has come: it is what the reference tells, but for the order. -/
theorem ColG.all {D : DU} {left : Lit → Bool} {out : List S64} {l : List ByteArray} {n : Nat} (h : ColG D left out) (hl : ∀ k, left k = false) (hD : CntD D (rowsK l n)) : ∀ g : S64, g ∈ out ↔ (T g.f0 ∈ rowsK l n ∧ g.f1 = ((rowsK l n).count (T g.f0) : Nat)) := by
  have key : ∀ g ∈ out, T g.f0 ∈ rowsK l n ∧ g.f1 = ((rowsK l n).count (T g.f0) : Nat) := fun g hg => by
    have h1 := ((h.2.1 (T g.f0)).1 ⟨g, hg, rfl⟩).1
    rw [(hD _).1] at h1
    have h2 := h.2.2 g hg
    rw [(hD _).2] at h2
    injection h2 with h2; injection h2 with _ h2
    exact ⟨by simpa using h1, h2.symm⟩
  intro g
  refine ⟨key g, fun ⟨h1, h2⟩ => ?_⟩
  obtain ⟨x, hx, e⟩ := (h.2.1 (T g.f0)).2 ⟨by rw [(hD _).1]; simpa using h1, hl _⟩
  obtain ⟨_, k2⟩ := key x hx
  have : x = g := s64_ext e (by rw [k2, h2, e])
  rwa [← this]
theorem aheadP_tot {a b : S64} (h : ¬ aheadP a b) (hne : ¬ (T a.f0 = T b.f0 ∧ a.f1 = b.f1)) : aheadP b a := by
  by_cases e : T a.f0 = T b.f0
  · rcases Int.lt_trichotomy a.f1 b.f1 with q | q | q
    · exact .inl q
    · exact absurd ⟨e, q⟩ hne
    · exact absurd (.inl q) h
  · exact aheadP_total h e
theorem swoG : SWO (ltOf cfG) where
  irrefl x := by rw [ltG]; simp; exact aheadP_irrefl x
  trans x y z h1 h2 := by rw [ltG] at *; simp at *; exact aheadP_trans h1 h2
  ntrans x y z h1 h2 := by
    rw [ltG] at *
    simp at *
    intro h
    by_cases e1 : T x.f0 = T y.f0 ∧ x.f1 = y.f1
    · have := s64_ext e1.1 e1.2; subst this; exact h2 h
    · by_cases e2 : T y.f0 = T z.f0 ∧ y.f1 = z.f1
      · have := s64_ext e2.1 e2.2; subst this; exact h1 h
      · exact aheadP_irrefl x (aheadP_trans h (aheadP_trans (aheadP_tot h2 e2) (aheadP_tot h1 e1)))
end Go.Proofs.Ytoefkkgnabjmdaa
