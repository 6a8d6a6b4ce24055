/- Chapter 07 (pmerge): what Lengths gives costs what Best tells: the plain part. -/
import Derived.Test.YtoefkkgnabjmdaaFalls07
import Derived.Test.YtoefkkgnabjmdaaBestPure
set_option linter.unusedSimpArgs false
set_option linter.unusedVariables false
set_option maxRecDepth 100000
namespace Go.Proofs.Ytoefkkgnabjmdaa

theorem srtD_unique : ∀ (a b : List Int), SrtD a → SrtD b → a.Perm b → a = b
  | [], b, _, _, h => h.nil_eq
  | x :: a, [], _, _, h => by have := h.length_eq; simp at this
  | x :: a, y :: b, ha, hb, h => by
    have ha' := List.pairwise_cons.1 ha
    have hb' := List.pairwise_cons.1 hb
    have h1 : x ≤ y := by
      rcases List.mem_cons.1 (h.mem_iff.1 (List.mem_cons_self (a := x) (l := a))) with e | e
      · omega
      · exact hb'.1 x e
    have h2 : y ≤ x := by
      rcases List.mem_cons.1 (h.mem_iff.2 (List.mem_cons_self (a := y) (l := b))) with e | e
      · omega
      · exact ha'.1 y e
    obtain rfl : x = y := by omega
    rw [srtD_unique a b ha'.2 hb'.2 (List.Perm.cons_inv h)]
theorem coinKeys_fst : ∀ (s : Nat) (f : List Int), (∀ x ∈ f, 0 ≤ x) → (coinKeys s f).map (·.1) = f.filter (fun x => x ≠ 0)
  | _, [], _ => rfl
  | s, x :: f, h => by
    have ih := coinKeys_fst (s + 1) f (fun y hy => h y (by simp [hy]))
    have hx := h x (by simp)
    unfold coinKeys
    by_cases h0 : 0 < x
    · rw [if_pos h0, List.map_cons, ih, List.filter_cons, if_pos (by simp; omega)]
    · rw [if_neg h0, ih, List.filter_cons, if_neg (by simp; omega)]
/-- The frequencies above 0 as they fall: the coins' costs the other way round. -/
theorem fallP_ks (f : List Int) (h : ∀ x ∈ f, 0 ≤ x) : fallP f = ((sortK (coinKeys 0 f)).map (·.1)).reverse := by
  obtain ⟨h1, h2⟩ := fallP_ok f
  refine srtD_unique _ _ h1 ?_ ?_
  · have hup : Up (sortK (coinKeys 0 f)) := sortK_up
    exact List.pairwise_reverse.2 (List.pairwise_map.2 hup)
  · refine h2.trans ?_
    rw [← coinKeys_fst 0 f h]
    exact ((sortK_perm _).map _).symm.trans (List.reverse_perm _).symm
theorem isum_one (g : Nat → Int) (a : Nat) (h : ∀ r, r ≠ a → g r = 0) : ∀ n, a < n → isum g n = g a
  | 0, h0 => by omega
  | n + 1, h0 => by
    simp only [isum]
    by_cases e : a = n
    · subst e
      rw [isum_congr (f := g) (g := fun _ => 0) a (fun r hr => h r (by omega)), isum_zero]; omega
    · rw [isum_one g a h n (by omega), h n (fun q => e q.symm)]; omega
theorem best_pm {f : List Int} {n : Nat} (h : chkPm f (n : Int) = 0) : costTo f (lensP f (n : Int)) f.length = bestP f n := by
  obtain ⟨q1, q2, q3, q4, q5, q6⟩ := chkPm_ok h
  have hpos : ∀ x ∈ f, 0 ≤ x := fun x hx => (q4 x hx).1
  have hks := fallP_ks f hpos
  have hn : (sortK (coinKeys 0 f)).length = usedN f := by rw [(sortK_perm (coinKeys 0 f)).length_eq, coinKeys_length]
  have hfl : (fallP f).length = usedN f := by rw [hks, List.length_reverse, List.length_map, hn]
  by_cases hu : usedN f = 1
  · obtain ⟨x, hx⟩ : ∃ x, coinKeys 0 f = [x] := List.length_eq_one_iff.1 (by rw [coinKeys_length, hu])
    have hB : bestP f n = x.1 := by
      unfold bestP
      rw [if_pos (hfl.trans hu), hks, hx]
      rfl
    obtain ⟨i, hi, e⟩ := coinKeys_mem 0 f x (by rw [hx]; simp)
    rw [hB]
    unfold lensP
    rw [if_pos hu, hx, costTo_sum]
    have ho : ∀ k, (oneLens f x).getD k 0 = if k = i then 1 else 0 := fun k => by
      unfold oneLens
      have e0 : (x.2.getD 0 0).toNat = i := by rw [e]; simp
      rw [e0]
      simp only [List.getD_eq_getElem?_getD, List.getElem?_set, zeros_length]
      by_cases hk : i = k
      · subst hk; rw [if_pos rfl, if_pos rfl, if_pos hi]; rfl
      · rw [if_neg hk, if_neg (fun q => hk q.symm)]
        have := zeros_getD f.length k
        rwa [List.getD_eq_getElem?_getD] at this
    rw [isum_one _ i (fun r hr => by
      show costT _ _ = _
      rw [show ([x].headD (0, [])) = x from rfl, ho, if_neg hr]; unfold costT; split <;> simp) _ hi]
    show costT _ _ = _
    rw [show ([x].headD (0, [])) = x from rfl, ho, if_pos rfl, e]
    have hb : 0 ≤ f.getD i 0 ∧ f.getD i 0 ≤ 4294967295 := by
      rw [List.getD_eq_getElem?_getD, List.getElem?_eq_getElem hi]; exact q4 _ (List.getElem_mem hi)
    unfold costT
    rw [if_pos (by omega)]
    simp
  · obtain ⟨L, g, hmin⟩ := lens_least h (by omega)
    rw [good_cost g q4 q2]
    unfold bestP
    rw [if_neg (by omega)]
    have hbd := g.bd
    have hkr := g.kraft
    rw [hn] at hbd hkr ⊢
    simp only [Int.toNat_natCast] at hmin hkr
    have hget : ∀ r, r < usedN f → (fallP f).getD (usedN f - 1 - r) 0 = ((sortK (coinKeys 0 f)).getD r (0, [])).1 := fun r hr => by
      rw [hks, List.getD_eq_getElem?_getD, List.getElem?_reverse (by rw [List.length_map, hn]; omega), List.length_map, hn, List.getElem?_map, show usedN f - 1 - (usedN f - 1 - r) = r by omega, List.getD_eq_getElem?_getD,
        List.getElem?_eq_getElem (by omega)]
      rfl
    have conv : ∀ M : Nat → Nat, isum (fun r => ((sortK (coinKeys 0 f)).getD r (0, [])).1 * (M r : Int)) (usedN f) = isum (fun r => (fallP f).getD r 0 * (M (usedN f - 1 - r) : Int)) (usedN f) := fun M => by
      rw [isum_rev (usedN f) (fun r => (fallP f).getD r 0 * (M (usedN f - 1 - r) : Int))]
      refine isum_congr _ (fun r hr => ?_)
      show _ = (fallP f).getD (usedN f - 1 - r) 0 * (M (usedN f - 1 - (usedN f - 1 - r)) : Int)
      rw [hget r hr, show usedN f - 1 - (usedN f - 1 - r) = r by omega]
    have key := leastP_eq n (fallP f) (fun x hx => by
        have := (fallP_ok f).2.mem_iff.1 hx
        exact hpos x (List.mem_filter.1 this).1) (fallP_ok f).1 (fun r => L (usedN f - 1 - r)) (by
        rw [hfl]; intro r hr; have := hbd (usedN f - 1 - r) (by omega); omega) (by
        rw [hfl]
        have := sumTo_rev (usedN f) (fun r => 2 ^ (n - L r))
        rw [← this]; exact hkr) (by
        rw [hfl]
        intro L' h1 h2
        have := hmin (fun r => L' (usedN f - 1 - r)) (fun r hr => h1 _ (by omega)) (by
          rw [sumTo_rev (usedN f)]
          rw [← h2]
          exact sumTo_congr _ (fun r hr => by rw [show usedN f - 1 - (usedN f - 1 - r) = r by omega]))
        rw [conv L, conv (fun r => L' (usedN f - 1 - r))] at this
        refine Int.le_trans this (Int.le_of_eq (isum_congr _ (fun r hr => ?_)))
        show _ * ((L' (usedN f - 1 - (usedN f - 1 - r)) : Nat) : Int) = _
        rw [show usedN f - 1 - (usedN f - 1 - r) = r by omega])
    rw [hfl] at key
    rw [key, conv L]

end Go.Proofs.Ytoefkkgnabjmdaa
