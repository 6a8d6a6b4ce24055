/- Chapter 07 (pmerge): of the lengths that may be, those that Lengths gives cost least; what follows from it: the plain part. -/
import Derived.Test.YtoefkkgnabjmdaaLaw07
import Derived.Test.YtoefkkgnabjmdaaOpt07
set_option linter.unusedSimpArgs false
set_option linter.unusedVariables false
set_option maxRecDepth 100000
namespace Go.Proofs.Ytoefkkgnabjmdaa

theorem costTo_sum (f l : List Int) : ∀ k, costTo f l k = isum (fun i => costT (f.getD i 0) (l.getD i 0)) k
  | 0 => rfl
  | k + 1 => by simp only [costTo, isum, costTo_sum f l k]
theorem isum_nat (g : Nat → Nat) : ∀ n, isum (fun i => (g i : Int)) n = ((sumTo g n : Nat) : Int)
  | 0 => rfl
  | n + 1 => by simp only [isum, sumTo, isum_nat g n]; push_cast; rfl
/-- What lengths cost, by ranks. -/
theorem good_cost {f : List Int} {limit : Int} {ks : List Coin} {out : List Int} {L : Nat → Nat} (g : GoodLens f limit ks out L) (hf : ∀ x ∈ f, 0 ≤ x ∧ x ≤ 4294967295) (h2 : limit ≤ 16) :
    costTo f out f.length = isum (fun r => (ks.getD r (0, [])).1 * (L r : Int)) ks.length := by
  have hfi : ∀ i, i < f.length → 0 ≤ f.getD i 0 ∧ f.getD i 0 ≤ 4294967295 := fun i hi => by
    rw [List.getD_eq_getElem?_getD, List.getElem?_eq_getElem hi]; exact hf _ (List.getElem_mem hi)
  have hck : ∀ r, r < ks.length → (ks.getD r (0, [])).1 = f.getD (syN (ks.getD r (0, []))) 0 := fun r hr => by
    have hm : ks.getD r (0, []) ∈ coinKeys 0 f := g.perm.mem_iff.1 (by rw [List.getD_eq_getElem?_getD, List.getElem?_eq_getElem hr]; exact List.getElem_mem hr)
    obtain ⟨i, hi, e⟩ := coinKeys_mem 0 f _ hm
    rw [e]
    simp [syN]
  rw [costTo_sum]
  have e1 := isum_congr (f := fun i => costT (f.getD i 0) (out.getD i 0)) (g := fun i => (((if 0 < f.getD i 0 then (f.getD i 0).toNat * (out.getD i 0).toNat else 0 : Nat)) : Int)) f.length (fun i hi => by
    have hb := hfi i hi
    by_cases h0 : 0 < f.getD i 0
    · obtain ⟨r, hr, e⟩ := coin_at g.perm i hi h0
      have h1 := g.at_ r hr
      rw [e] at h1
      have hbd := g.bd r hr
      rw [if_pos h0, h1]
      unfold costT
      rw [if_pos (by omega)]
      have e3 : (f.getD i 0) = ((f.getD i 0).toNat : Int) := by omega
      rw [Int.toNat_natCast, Int.natCast_mul, ← e3]
    · rw [if_neg h0, show f.getD i 0 = 0 by omega, g.rest i hi h0]
      rfl)
  rw [e1, isum_nat, coins_sum (fun i => (f.getD i 0).toNat * (out.getD i 0).toNat), ← sumL_perm _ g.perm, sumL_to, ← isum_nat]
  refine isum_congr _ (fun r hr => ?_)
  have h1 := g.at_ r hr
  have h3 := coin_of g.perm r hr
  rw [h1, hck r hr]
  have hb := hfi _ h3.1
  have e3 : f.getD (syN (ks.getD r (0, []))) 0 = ((f.getD (syN (ks.getD r (0, []))) 0).toNat : Int) := by omega
  rw [Int.toNat_natCast, Int.natCast_mul, ← e3]
theorem pcost_range (ks : List Coin) (L : Nat → Nat) : ∀ n, n ≤ ks.length → pcost ((List.range n).map (fun r => ((ks.getD r (0, [])).1, L r))) = isum (fun r => (ks.getD r (0, [])).1 * (L r : Int)) n
  | 0, _ => rfl
  | n + 1, h => by
    have ih := pcost_range ks L n (by omega)
    have ha : ∀ a b : List (Int × Nat), pcost (a ++ b) = pcost a + pcost b := fun a b => by
      induction a with
      | nil => simp [pcost]
      | cons x a ih => simp only [List.cons_append, pcost, ih]; omega
    rw [List.range_succ, List.map_append, ha, ih]
    simp [pcost, isum]
theorem pkr_range (ks : List Coin) (L : Nat → Nat) (M : Nat) : ∀ n, pkr M ((List.range n).map (fun r => ((ks.getD r (0, [])).1, L r))) = sumTo (fun r => 2 ^ (M - L r)) n
  | 0 => rfl
  | n + 1 => by
    have ih := pkr_range ks L M n
    have ha : ∀ a b : List (Int × Nat), pkr M (a ++ b) = pkr M a + pkr M b := fun a b => by
      induction a with
      | nil => simp [pkr]
      | cons x a ih => simp only [List.cons_append, pkr, ih]; omega
    rw [List.range_succ, List.map_append, ha, ih]
    simp [pkr, sumTo]
/-- Of two symbols and more: what Lengths gives, by ranks, and that it costs least. -/
theorem lens_least {f : List Int} {limit : Int} (h : chkPm f limit = 0) (hu : 2 ≤ usedN f) : ∃ L, GoodLens f limit (sortK (coinKeys 0 f)) (lensP f limit) L ∧
    ∀ L' : Nat → Nat, (∀ r, r < usedN f → L' r ≤ limit.toNat) → sumTo (fun r => 2 ^ (limit.toNat - L' r)) (usedN f) = 2 ^ limit.toNat →
      isum (fun r => ((sortK (coinKeys 0 f)).getD r (0, [])).1 * (L r : Int)) (usedN f) ≤ isum (fun r => ((sortK (coinKeys 0 f)).getD r (0, [])).1 * (L' r : Int)) (usedN f) := by
  obtain ⟨h1, h2, h3, h4, h5, h6⟩ := chkPm_ok h
  have hperm := sortK_perm (coinKeys 0 f)
  have hn : (sortK (coinKeys 0 f)).length = usedN f := by rw [hperm.length_eq, coinKeys_length]
  have hup : Up (sortK (coinKeys 0 f)) := sortK_up
  have hpos : ∀ p ∈ sortK (coinKeys 0 f), 0 ≤ p.1 := fun p hp => by have := coinKeys_pos 0 f p (hperm.mem_iff.1 hp); omega
  have hL : lensP f limit = lensOf (sortK (coinKeys 0 f)) f.length limit := if_neg (by omega)
  rw [hL]
  unfold lensOf
  rw [← hn] at hu h6 ⊢
  generalize sortK (coinKeys 0 f) = ks at *
  split
  · rename_i hw
    refine ⟨_, depths_good h1 _ hperm hu hw, fun L' hL' hk' => ?_⟩
    have hlen : (ks.map (·.1)).length = ks.length := List.length_map ..
    have hs : SrtI (ks.map (·.1)) := List.pairwise_map.2 hup
    have hc := huff_cost (ks.map (·.1)) (by rw [hlen]; exact hu) hs (fun x hx => by obtain ⟨p, hp, rfl⟩ := List.mem_map.1 hx; exact hpos p hp)
    have hl := hsum_least ks.length (ks.map (·.1)) ((List.range ks.length).map (fun r => ((ks.getD r (0, [])).1, L' r))) limit.toNat hlen hs (by
      rw [List.map_map]
      have e : (List.range ks.length).map ((fun x => x.1) ∘ fun r => ((ks.getD r (0, [])).1, L' r)) = ks.map (·.1) := by
        apply List.ext_getElem
        · simp
        · intro i a b
          simp only [List.getElem_map, List.getElem_range, Function.comp]
          rw [List.getD_eq_getElem?_getD, List.getElem?_eq_getElem (by simpa using b)]; rfl
      rw [e]) (fun p hp => by
        obtain ⟨r, hr, rfl⟩ := List.mem_map.1 hp
        exact hL' r (List.mem_range.1 hr)) (by rw [pkr_range]; exact hk')
    rw [pcost_range ks L' _ (Nat.le_refl _)] at hl
    rw [hlen] at hc
    have e2 := isum_congr (f := fun i => (ks.map (·.1)).getD i 0 * (((depthsH (ks.map (·.1))).getD i 0 : Nat) : Int)) (g := fun r => (ks.getD r (0, [])).1 * (((depthsH (ks.map (·.1))).getD r 0 : Nat) : Int)) ks.length (fun r hr => by
      have : (ks.map (·.1)).getD r 0 = (ks.getD r (0, [])).1 := by
        simp only [List.getD_eq_getElem?_getD, List.getElem?_map, List.getElem?_eq_getElem hr]; rfl
      simp only [this])
    rw [← e2, hc]
    exact hl
  · refine ⟨_, levels_good h1 _ hperm hup hu h6, fun L' hL' hk' => ?_⟩
    obtain ⟨j, hj⟩ : ∃ j, limit.toNat = j + 1 := ⟨limit.toNat - 1, by omega⟩
    rw [hj] at h6 hL' hk' ⊢
    exact pm_opt ks hup j hu h6 L' hL' hk'

/-! A sum in which two terms are turned. -/
theorem isum_two (g g' : Nat → Int) (a b : Nat) (hab : a ≠ b) (h : ∀ r, r ≠ a → r ≠ b → g' r = g r) : ∀ n, a < n → b < n → isum g' n = isum g n + (g' a - g a) + (g' b - g b) := by
  have one : ∀ (g g' : Nat → Int) (a : Nat), (∀ r, r ≠ a → g' r = g r) → ∀ n, a < n → isum g' n = isum g n + (g' a - g a) := by
    intro g g' a h n
    induction n with
    | zero => intro h0; omega
    | succ n ih =>
      intro h0
      simp only [isum]
      by_cases e : a = n
      · subst e
        rw [isum_congr (f := g') (g := g) a (fun r hr => h r (by omega))]
        omega
      · rw [ih (by omega), h n (fun h => e h.symm)]; omega
  intro n ha hb
  have h1 := one g (fun r => if r = a then g' a else g r) a (fun r hr => if_neg hr) n ha
  have h2 := one (fun r => if r = a then g' a else g r) g' b (fun r hr => by
    by_cases e : r = a
    · rw [if_pos e, e]
    · rw [if_neg e]; exact h r e hr) n hb
  simp only [if_true] at h1
  rw [h2, h1]
  simp only [if_neg (fun e : b = a => hab e.symm)]
/-- Of two symbols the one that is more frequent has no longer code. -/
theorem lens_falls {f : List Int} {limit : Int} (h : chkPm f limit = 0) (i k : Nat) (hi : i < f.length) (hk : k < f.length) (h1 : f.getD k 0 < f.getD i 0) (h2 : 0 < f.getD k 0) : (lensP f limit).getD i 0 ≤ (lensP f limit).getD k 0 := by
  have hperm := sortK_perm (coinKeys 0 f)
  have hn : (sortK (coinKeys 0 f)).length = usedN f := by rw [hperm.length_eq, coinKeys_length]
  obtain ⟨ri, hri, ei⟩ := coin_at hperm i hi (by omega)
  obtain ⟨rk, hrk, ek⟩ := coin_at hperm k hk h2
  have hne : ri ≠ rk := by
    intro e; subst e
    rw [ei] at ek; subst ek; omega
  have hu : 2 ≤ usedN f := by omega
  obtain ⟨L, g, hmin⟩ := lens_least h hu
  have a1 := g.at_ ri hri
  have a2 := g.at_ rk hrk
  rw [ei] at a1
  rw [ek] at a2
  rw [a1, a2]
  have hck : ∀ r, r < (sortK (coinKeys 0 f)).length → ((sortK (coinKeys 0 f)).getD r (0, [])).1 = f.getD (syN ((sortK (coinKeys 0 f)).getD r (0, []))) 0 := fun r hr => by
    have hm : (sortK (coinKeys 0 f)).getD r (0, []) ∈ coinKeys 0 f := hperm.mem_iff.1 (by rw [List.getD_eq_getElem?_getD, List.getElem?_eq_getElem hr]; exact List.getElem_mem hr)
    obtain ⟨i, hi, e⟩ := coinKeys_mem 0 f _ hm
    rw [e]
    simp [syN]
  have c1 := hck ri hri
  have c2 := hck rk hrk
  rw [ei] at c1
  rw [ek] at c2
  have hkr := g.kraft
  have hbd := g.bd
  rw [hn] at hri hrk hkr hbd
  rcases Nat.lt_or_ge (L rk) (L ri) with hlt | hge
  · exfalso
    have hsw := hmin (fun r => if r = ri then L rk else if r = rk then L ri else L r) (fun r hr => by
      have b1 := (hbd ri hri).2
      have b2 := (hbd rk hrk).2
      have b3 := (hbd r hr).2
      split
      · omega
      · split <;> omega) (by
      rw [← hkr]
      have e := isum_two (fun r => ((2 ^ (limit.toNat - L r) : Nat) : Int)) (fun r => ((2 ^ (limit.toNat - (if r = ri then L rk else if r = rk then L ri else L r)) : Nat) : Int)) ri rk hne (fun r q1 q2 => by simp only [if_neg q1, if_neg q2]) (usedN f) hri hrk
      rw [isum_nat, isum_nat] at e
      simp only [if_true, if_neg (fun e : rk = ri => hne e.symm)] at e
      omega)
    have e := isum_two (fun r => ((sortK (coinKeys 0 f)).getD r (0, [])).1 * (L r : Int)) (fun r => ((sortK (coinKeys 0 f)).getD r (0, [])).1 * ((if r = ri then L rk else if r = rk then L ri else L r : Nat) : Int)) ri rk hne (fun r q1 q2 => by simp only [if_neg q1, if_neg q2]) (usedN f) hri hrk
    rw [e] at hsw
    simp only [if_true, if_neg (fun e : rk = ri => hne e.symm), c1, c2] at hsw
    have hp : 0 < (f.getD i 0 - f.getD k 0) * ((L ri : Int) - (L rk : Int)) := Int.mul_pos (by omega) (by omega)
    rw [Int.sub_mul, Int.mul_sub, Int.mul_sub] at hp
    omega
  · omega
theorem chkPm_more {f : List Int} {limit : Int} (h : chkPm f limit = 0) (h1 : limit < 16) : chkPm f (limit + 1) = 0 := by
  obtain ⟨q1, q2, q3, q4, q5, q6⟩ := chkPm_ok h
  have hnb : ¬ f.any fBad = true := by
    intro ha
    obtain ⟨x, hx, hb⟩ := List.any_eq_true.1 ha
    have := q4 x hx
    simp only [fBad, decide_eq_true_eq] at hb
    omega
  unfold chkPm
  rw [if_neg (by omega), if_neg (by omega), if_neg hnb, if_neg (by omega), if_neg]
  rw [show (limit + 1).toNat = limit.toNat + 1 by omega, Nat.pow_succ]
  omega
/-- A greater limit costs no more. -/
theorem lens_more {f : List Int} {limit : Int} (h : chkPm f limit = 0) (h1 : limit < 16) : costTo f (lensP f (limit + 1)) f.length ≤ costTo f (lensP f limit) f.length := by
  have h' := chkPm_more h h1
  obtain ⟨q1, q2, q3, q4, q5, q6⟩ := chkPm_ok h
  by_cases hu : usedN f = 1
  · have e : lensP f (limit + 1) = lensP f limit := by unfold lensP; rw [if_pos hu, if_pos hu]
    rw [e]; exact Int.le_refl _
  · obtain ⟨L, g, _⟩ := lens_least h (by omega)
    obtain ⟨L', g', hmin⟩ := lens_least h' (by omega)
    have hn : (sortK (coinKeys 0 f)).length = usedN f := by rw [(sortK_perm (coinKeys 0 f)).length_eq, coinKeys_length]
    rw [good_cost g q4 (by omega), good_cost g' q4 (by omega), hn]
    have hbd := g.bd
    have hkr := g.kraft
    rw [hn] at hbd hkr
    refine hmin L (fun r hr => by have := hbd r hr; omega) ?_
    have e : (limit + 1).toNat = limit.toNat + 1 := by omega
    rw [e, Nat.pow_succ, ← hkr, ← sumTo_mul]
    exact sumTo_congr _ (fun r hr => by
      have := hbd r hr
      rw [show limit.toNat + 1 - L r = (limit.toNat - L r) + 1 by omega, Nat.pow_succ])

end Go.Proofs.Ytoefkkgnabjmdaa
