/- The nearest source of each length: what the reference reckons, and what is kept of the sources that were met: the plain part. -/
import Derived.Test.YtbalodhgbpagfaaSaPlain
set_option linter.unusedSimpArgs false
set_option linter.unusedVariables false
namespace Go.Proofs.Ytbalodhgbpagfaa

/-- The reference: records as the distance grows. -/
def recF (f : Nat → Nat) : Nat → Nat → Nat → List (Nat × Nat)
  | 0, _, _ => []
  | c + 1, d, b => if b < f d then (f d, d) :: recF f c (d + 1) (f d) else recF f c (d + 1) b
theorem mem_recF (f : Nat → Nat) : ∀ (c d0 b : Nat) (x : Nat × Nat), x ∈ recF f c d0 b ↔ d0 ≤ x.2 ∧ x.2 < d0 + c ∧ f x.2 = x.1 ∧ b < x.1 ∧ ∀ d', d0 ≤ d' → d' < x.2 → f d' < x.1
  | 0, d0, b, x => by simp only [recF, List.not_mem_nil, false_iff]; omega
  | c + 1, d0, b, x => by
    unfold recF
    split
    · rename_i h
      rw [List.mem_cons, mem_recF f c (d0 + 1) (f d0) x]
      constructor
      · rintro (rfl | ⟨h1, h2, h3, h4, h5⟩)
        · exact ⟨Nat.le_refl _, by simp only; omega, rfl, h, fun d' a b => by simp only at b; omega⟩
        · refine ⟨by omega, by omega, h3, by omega, fun d' a b => ?_⟩
          by_cases q : d' = d0
          · subst q; exact h4
          · exact h5 d' (by omega) b
      · rintro ⟨h1, h2, h3, h4, h5⟩
        by_cases q : x.2 = d0
        · left
          obtain ⟨n, d⟩ := x
          simp only at q h3
          subst q
          rw [h3]
        · right
          exact ⟨by omega, by omega, h3, h5 d0 (Nat.le_refl _) (by omega), fun d' a b => h5 d' (by omega) b⟩
    · rename_i h
      rw [mem_recF f c (d0 + 1) b x]
      constructor
      · rintro ⟨h1, h2, h3, h4, h5⟩
        refine ⟨by omega, by omega, h3, h4, fun d' a b => ?_⟩
        by_cases q : d' = d0
        · subst q; omega
        · exact h5 d' (by omega) b
      · rintro ⟨h1, h2, h3, h4, h5⟩
        by_cases q : x.2 = d0
        · rw [q] at h3; omega
        · exact ⟨by omega, by omega, h3, h4, fun d' a b => h5 d' (by omega) b⟩
theorem recF_sorted (f : Nat → Nat) : ∀ (c d0 b : Nat), (recF f c d0 b).Pairwise (fun x y => x.1 < y.1)
  | 0, _, _ => .nil
  | c + 1, d0, b => by
    unfold recF
    split
    · refine List.Pairwise.cons (fun y hy => ((mem_recF f c (d0 + 1) (f d0) y).1 hy).2.2.2.1) (recF_sorted f c _ _)
    · exact recF_sorted f c _ _
theorem recF_dist (f : Nat → Nat) : ∀ (c d0 b : Nat), (recF f c d0 b).Pairwise (fun x y => x.2 < y.2)
  | 0, _, _ => .nil
  | c + 1, d0, b => by
    unfold recF
    split
    · refine List.Pairwise.cons (fun y hy => ?_) (recF_dist f c _ _)
      have := ((mem_recF f c (d0 + 1) (f d0) y).1 hy).1
      simp only
      omega
    · exact recF_dist f c _ _
/-- Two rows that rise and hold the same are the same. -/
theorem eq_of_rises {α : Type} (g : α → Nat) : ∀ (a b : List α), a.Pairwise (fun x y => g x < g y) → b.Pairwise (fun x y => g x < g y) → (∀ x, x ∈ a ↔ x ∈ b) → a = b
  | [], [], _, _, _ => rfl
  | [], y :: b, _, _, h => absurd ((h y).2 List.mem_cons_self) (by simp)
  | x :: a, [], _, _, h => absurd ((h x).1 List.mem_cons_self) (by simp)
  | x :: a, y :: b, ha, hb, h => by
    rw [List.pairwise_cons] at ha hb
    have hxy : x = y := by
      rcases List.mem_cons.1 ((h x).1 List.mem_cons_self) with q | q
      · exact q
      · rcases List.mem_cons.1 ((h y).2 List.mem_cons_self) with p | p
        · exact p.symm
        · have := hb.1 x q
          have := ha.1 y p
          omega
    subst hxy
    rw [eq_of_rises g a b ha.2 hb.2 (fun z => ⟨fun hz => ?_, fun hz => ?_⟩)]
    · rcases List.mem_cons.1 ((h z).1 (List.mem_cons_of_mem _ hz)) with q | q
      · subst q; have := ha.1 z hz; omega
      · exact q
    · rcases List.mem_cons.1 ((h z).2 (List.mem_cons_of_mem _ hz)) with q | q
      · subst q; have := hb.1 z hz; omega
      · exact q
/-- What is kept of the matches, the longest first. -/
def keepF : Option Nat → List (Nat × Nat) → List (Nat × Nat)
  | _, [] => []
  | none, x :: l => x :: keepF (some x.2) l
  | some d, x :: l => if x.2 < d then x :: keepF (some x.2) l else keepF (some d) l
theorem mem_keepF : ∀ (o : Option Nat) (l : List (Nat × Nat)), l.Pairwise (fun x y => y.1 < x.1) → ∀ x, x ∈ keepF o l ↔ x ∈ l ∧ (∀ d, o = some d → x.2 < d) ∧ ∀ y ∈ l, x.1 < y.1 → x.2 < y.2
  | o, [], _, x => by cases o <;> simp [keepF]
  | o, z :: l, h, x => by
    rw [List.pairwise_cons] at h
    have ih := fun o => mem_keepF o l h.2 x
    have key : ∀ (hz : ∀ d, o = some d → z.2 < d), (x ∈ z :: keepF (some z.2) l ↔ x ∈ z :: l ∧ (∀ d, o = some d → x.2 < d) ∧ ∀ y ∈ z :: l, x.1 < y.1 → x.2 < y.2) := by
      intro hz
      rw [List.mem_cons, ih (some z.2)]
      constructor
      · rintro (rfl | ⟨h1, h2, h3⟩)
        · refine ⟨List.mem_cons_self, hz, fun y hy hlt => ?_⟩
          rcases List.mem_cons.1 hy with rfl | hy
          · omega
          · have := h.1 y hy; omega
        · have h4 := h2 z.2 rfl
          refine ⟨List.mem_cons_of_mem _ h1, fun d hd => by have := hz d hd; omega, fun y hy hlt => ?_⟩
          rcases List.mem_cons.1 hy with rfl | hy
          · exact h4
          · exact h3 y hy hlt
      · rintro ⟨h1, h2, h3⟩
        rcases List.mem_cons.1 h1 with rfl | h1
        · exact .inl rfl
        · exact .inr ⟨h1, fun d hd => by cases hd; exact h3 z List.mem_cons_self (h.1 x h1), fun y hy => h3 y (List.mem_cons_of_mem _ hy)⟩
    cases o with
    | none => exact key (fun d hd => by cases hd)
    | some d =>
      unfold keepF
      by_cases q : z.2 < d
      · rw [if_pos q]
        exact key (fun d' hd => by cases hd; exact q)
      · rw [if_neg q, ih (some d)]
        constructor
        · rintro ⟨h1, h2, h3⟩
          refine ⟨List.mem_cons_of_mem _ h1, h2, fun y hy hlt => ?_⟩
          rcases List.mem_cons.1 hy with rfl | hy
          · have := h2 d rfl; omega
          · exact h3 y hy hlt
        · rintro ⟨h1, h2, h3⟩
          rcases List.mem_cons.1 h1 with rfl | h1
          · exact absurd (h2 d rfl) q
          · exact ⟨h1, h2, fun y hy => h3 y (List.mem_cons_of_mem _ hy)⟩
theorem keepF_sorted : ∀ (o : Option Nat) (l : List (Nat × Nat)), l.Pairwise (fun x y => y.1 < x.1) → (keepF o l).Pairwise (fun x y => y.1 < x.1)
  | o, [], _ => by cases o <;> exact .nil
  | o, z :: l, h => by
    have h' := List.pairwise_cons.1 h
    have hc : (z :: keepF (some z.2) l).Pairwise (fun x y => y.1 < x.1) := List.Pairwise.cons (fun y hy => h'.1 y ((mem_keepF _ l h'.2 y).1 hy).1) (keepF_sorted _ l h'.2)
    cases o with
    | none => exact hc
    | some d =>
      unfold keepF
      split
      · exact hc
      · exact keepF_sorted _ l h'.2
theorem keepF_snoc_none (x : Nat × Nat) (l : List (Nat × Nat)) : keepF none (x :: l) = x :: keepF (some x.2) l := rfl
/-- What stands in the map of sources. -/
structure Met (f : Nat → Nat) (D : Nat) (seen : Nat → Prop) (b : Nat → Option Nat) : Prop where
  some : ∀ n d, b n = some d → 1 ≤ d ∧ d ≤ D ∧ f d = n ∧ seen d
  all : ∀ d, 1 ≤ d → d ≤ D → seen d → ∃ d', b (f d) = Option.some d' ∧ d' ≤ d
theorem Met.start (f : Nat → Nat) (D : Nat) : Met f D (fun _ => False) (fun _ => none) := ⟨fun n d h => (by cases h), fun d _ _ h => False.elim h⟩
def meetB (b : Nat → Option Nat) (n d : Nat) : Nat → Option Nat := match b n with
  | none => fun m => if m = n then some d else b m
  | some d' => if d < d' then (fun m => if m = n then some d else b m) else b
theorem Met.out {f : Nat → Nat} {D : Nat} {seen : Nat → Prop} {b : Nat → Option Nat} (h : Met f D seen b) {d : Nat} (hd : d < 1 ∨ D < d) : Met f D (fun x => seen x ∨ x = d) b :=
  ⟨fun n e he => by obtain ⟨a, b, c, s⟩ := h.some n e he; exact ⟨a, b, c, .inl s⟩, fun e a b s => by
    rcases s with s | rfl
    · exact h.all e a b s
    · omega⟩
theorem Met.meet {f : Nat → Nat} {D : Nat} {seen : Nat → Prop} {b : Nat → Option Nat} (h : Met f D seen b) {d : Nat} (h1 : 1 ≤ d) (h2 : d ≤ D) : Met f D (fun x => seen x ∨ x = d) (meetB b (f d) d) := by
  unfold meetB
  cases hb : b (f d) with
  | none =>
    simp only
    refine ⟨fun n e he => ?_, fun e a b' s => ?_⟩
    · by_cases q : n = f d
      · rw [if_pos q] at he
        cases he
        exact ⟨h1, h2, q.symm, .inr rfl⟩
      · rw [if_neg q] at he
        obtain ⟨a, b, c, s⟩ := h.some n e he
        exact ⟨a, b, c, .inl s⟩
    · rcases s with s | rfl
      · obtain ⟨d', he, hl⟩ := h.all e a b' s
        by_cases q : f e = f d
        · rw [q, hb] at he; cases he
        · exact ⟨d', by rw [if_neg q]; exact he, hl⟩
      · exact ⟨e, if_pos rfl, Nat.le_refl _⟩
  | some d' =>
    simp only
    by_cases hlt : d < d'
    · rw [if_pos hlt]
      refine ⟨fun n e he => ?_, fun e a b' s => ?_⟩
      · by_cases q : n = f d
        · rw [if_pos q] at he
          cases he
          exact ⟨h1, h2, q.symm, .inr rfl⟩
        · rw [if_neg q] at he
          obtain ⟨a, b, c, s⟩ := h.some n e he
          exact ⟨a, b, c, .inl s⟩
      · rcases s with s | rfl
        · obtain ⟨d2, he, hl⟩ := h.all e a b' s
          by_cases q : f e = f d
          · rw [q, hb] at he
            cases he
            exact ⟨d, by rw [if_pos q], by omega⟩
          · exact ⟨d2, by rw [if_neg q]; exact he, hl⟩
        · exact ⟨e, if_pos rfl, Nat.le_refl _⟩
    · rw [if_neg hlt]
      refine ⟨fun n e he => ?_, fun e a b' s => ?_⟩
      · obtain ⟨a, b, c, s⟩ := h.some n e he
        exact ⟨a, b, c, .inl s⟩
      · rcases s with s | rfl
        · exact h.all e a b' s
        · exact ⟨d', hb, by omega⟩
/-- What is kept of all that were met is what the reference gives. -/
theorem met_rows {f : Nat → Nat} {D : Nat} {seen : Nat → Prop} {b : Nat → Option Nat} (h : Met f D seen b) (hs : ∀ d, 1 ≤ d → d ≤ D → (seen d ↔ 2 ≤ f d)) (all : List (Nat × Nat)) (hsort : all.Pairwise (fun x y => y.1 < x.1)) (hall : ∀ x, x ∈ all ↔ b x.1 = some x.2) :
    (keepF none all).reverse = recF f D 1 1 := by
  refine eq_of_rises (fun x => x.1) _ _ (by rw [List.pairwise_reverse]; exact keepF_sorted none all hsort) (recF_sorted f D 1 1) (fun x => ?_)
  rw [List.mem_reverse, mem_keepF none all hsort x, mem_recF, hall]
  constructor
  · rintro ⟨h1, _, h3⟩
    obtain ⟨a, b', c, s⟩ := h.some _ _ h1
    have hf := (hs x.2 a b').1 s
    refine ⟨a, by omega, c, by omega, fun d' e1 e2 => ?_⟩
    rcases Nat.lt_or_ge (f d') x.1 with q | q
    · exact q
    · exfalso
      obtain ⟨d2, g1, g2⟩ := h.all d' e1 (by omega) ((hs d' e1 (by omega)).2 (by omega))
      by_cases q2 : f d' = x.1
      · rw [q2, h1] at g1; cases g1; omega
      · have := h3 (f d', d2) ((hall _).2 g1) (by simp only; omega)
        simp only at this
        omega
  · rintro ⟨h1, h2, h3, h4, h5⟩
    have hsx := (hs x.2 h1 (by omega)).2 (by omega)
    obtain ⟨d2, g1, g2⟩ := h.all x.2 h1 (by omega) hsx
    obtain ⟨a, b', c, _⟩ := h.some _ _ g1
    have hd : d2 = x.2 := by
      rcases Nat.lt_or_ge d2 x.2 with q | q
      · have := h5 d2 a q; omega
      · omega
    subst hd
    rw [h3] at g1
    refine ⟨g1, fun d hd => (by cases hd), fun y hy hlt => ?_⟩
    obtain ⟨a2, b2, c2, _⟩ := h.some _ _ ((hall y).1 hy)
    rcases Nat.lt_or_ge x.2 y.2 with q | q
    · exact q
    · by_cases q2 : y.2 = x.2
      · rw [q2] at c2; omega
      · have := h5 y.2 a2 (by omega); omega
end Go.Proofs.Ytbalodhgbpagfaa
