/- Chapter 07 (pmerge): the lengths that Lengths gives are such as are asked for: the plain part. -/
import Derived.Test.YtoefkkgnabjmdaaLens3
import Derived.Test.YtoefkkgnabjmdaaRef06
set_option linter.unusedSimpArgs false
set_option linter.unusedVariables false
set_option maxRecDepth 100000
namespace Go.Proofs.Ytoefkkgnabjmdaa

/-- The symbol of a coin. -/
def syN (p : Coin) : Nat := (p.2.headD 0).toNat
theorem krS_sum (limit : Int) : ∀ l : List Int, krS limit l = sumTo (fun i => krT limit (l.getD i 0)) l.length := by
  intro l
  obtain ⟨n, hn⟩ : ∃ n, n = l.length := ⟨_, rfl⟩
  induction n generalizing l with
  | zero => obtain rfl := List.length_eq_zero_iff.1 hn.symm; rfl
  | succ n ih =>
    obtain ⟨a, x, rfl⟩ : ∃ a x, l = a ++ [x] := ⟨l.dropLast, l.getLast (by intro h; subst h; simp at hn), (List.dropLast_concat_getLast _).symm⟩
    have hl : n = a.length := by simpa using hn
    rw [krS_append, ih a hl, List.length_append, List.length_singleton]
    simp only [sumTo]
    have e1 := sumTo_congr (f := fun i => krT limit (a.getD i 0)) (g := fun i => krT limit ((a ++ [x]).getD i 0)) a.length (fun r hr => by rw [getD_app, if_neg (by omega)])
    rw [e1, getD_app, if_pos rfl]
    simp [krS]
def sumL (h : Coin → Nat) : List Coin → Nat
  | [] => 0
  | p :: l => h p + sumL h l
theorem sumL_append (h : Coin → Nat) : ∀ a b, sumL h (a ++ b) = sumL h a + sumL h b
  | [], b => by simp [sumL]
  | p :: a, b => by simp only [List.cons_append, sumL, sumL_append h a b]; omega
theorem sumL_perm (h : Coin → Nat) {a b : List Coin} (p : a.Perm b) : sumL h a = sumL h b := by
  induction p with
  | nil => rfl
  | cons x _ ih => simp only [sumL, ih]
  | swap x y l => simp only [sumL]; omega
  | trans _ _ ih1 ih2 => exact ih1.trans ih2
theorem sumL_to (h : Coin → Nat) : ∀ l : List Coin, sumL h l = sumTo (fun r => h (l.getD r (0, []))) l.length := by
  intro l
  obtain ⟨n, hn⟩ : ∃ n, n = l.length := ⟨_, rfl⟩
  induction n generalizing l with
  | zero => obtain rfl := List.length_eq_zero_iff.1 hn.symm; rfl
  | succ n ih =>
    obtain ⟨a, x, rfl⟩ : ∃ a x, l = a ++ [x] := ⟨l.dropLast, l.getLast (by intro h; subst h; simp at hn), (List.dropLast_concat_getLast _).symm⟩
    have hl : n = a.length := by simpa using hn
    rw [sumL_append, ih a hl, List.length_append, List.length_singleton]
    simp only [sumTo, sumL]
    have e1 := sumTo_congr (f := fun r => h (a.getD r (0, []))) (g := fun r => h ((a ++ [x]).getD r (0, []))) a.length (fun r hr => by
      simp only [List.getD_eq_getElem?_getD]; rw [List.getElem?_append_left hr])
    rw [e1]
    simp [List.getD_eq_getElem?_getD]
theorem coins_sum (g : Nat → Nat) : ∀ f : List Int, sumTo (fun i => if 0 < f.getD i 0 then g i else 0) f.length = sumL (fun p => g (syN p)) (coinKeys 0 f) := by
  intro f
  obtain ⟨n, hn⟩ : ∃ n, n = f.length := ⟨_, rfl⟩
  induction n generalizing f with
  | zero => obtain rfl := List.length_eq_zero_iff.1 hn.symm; rfl
  | succ n ih =>
    obtain ⟨a, x, rfl⟩ : ∃ a x, f = a ++ [x] := ⟨f.dropLast, f.getLast (by intro h; subst h; simp at hn), (List.dropLast_concat_getLast _).symm⟩
    have hl : n = a.length := by simpa using hn
    rw [coinKeys_append, sumL_append, ← ih a hl, List.length_append, List.length_singleton]
    simp only [sumTo]
    have e1 := sumTo_congr (f := fun i => if 0 < (a ++ [x]).getD i 0 then g i else 0) (g := fun i => if 0 < a.getD i 0 then g i else 0) a.length (fun r hr => by
      have e : (a ++ [x]).getD r 0 = a.getD r 0 := by rw [getD_app, if_neg (by omega)]
      simp only [e])
    rw [e1, getD_app, if_pos rfl, Nat.zero_add]
    congr 1
    unfold coinKeys
    split
    · simp [sumL, syN, coinKeys]
    · simp [sumL, coinKeys]
theorem usedN_same : ∀ a b : List Int, a.length = b.length → (∀ i, i < a.length → (0 < a.getD i 0 ↔ 0 < b.getD i 0)) → usedN a = usedN b
  | [], [], _, _ => rfl
  | [], y :: b, h, _ => by simp at h
  | x :: a, [], h, _ => by simp at h
  | x :: a, y :: b, h, hp => by
    have h0 := hp 0 (by simp)
    simp only [List.getD_cons_zero] at h0
    have ih := usedN_same a b (by simpa using h) (fun i hi => by simpa using hp (i + 1) (by simpa using hi))
    unfold usedN at *
    rw [List.countP_cons, List.countP_cons, ih]
    congr 1
    by_cases hx : 0 < x
    · simp [hx, h0.1 hx]
    · have : ¬ 0 < y := fun hy => hx (h0.2 hy)
      simp [hx, this]

/-- What is asked of lengths: of symbols by their ranks. -/
structure GoodLens (f : List Int) (limit : Int) (ks : List Coin) (out : List Int) (L : Nat → Nat) : Prop where
  perm : ks.Perm (coinKeys 0 f)
  len : out.length = f.length
  at_ : ∀ r, r < ks.length → out.getD (syN (ks.getD r (0, []))) 0 = (L r : Int)
  rest : ∀ i, i < f.length → ¬ 0 < f.getD i 0 → out.getD i 0 = 0
  bd : ∀ r, r < ks.length → 1 ≤ L r ∧ (L r : Int) ≤ limit
  kraft : sumTo (fun r => 2 ^ (limit.toNat - L r)) ks.length = 2 ^ limit.toNat
theorem krT_zero (limit : Int) : krT limit 0 = 0 := if_neg (fun h => by omega)
theorem coin_at {f : List Int} {ks : List Coin} (h : ks.Perm (coinKeys 0 f)) (i : Nat) (hi : i < f.length) (h0 : 0 < f.getD i 0) : ∃ r, r < ks.length ∧ syN (ks.getD r (0, [])) = i := by
  have key : ∀ (s : Nat) (g : List Int) (i : Nat), i < g.length → 0 < g.getD i 0 → (g.getD i 0, [((s + i : Nat) : Int)]) ∈ coinKeys s g := by
    intro s g
    induction g generalizing s with
    | nil => intro i hi; simp at hi
    | cons x g ih =>
      intro i hi h0
      cases i with
      | zero =>
        simp only [List.getD_cons_zero] at h0
        unfold coinKeys
        rw [if_pos h0]
        simp
      | succ i =>
        have := ih (s + 1) i (by simpa using hi) (by simpa using h0)
        have e : s + 1 + i = s + (i + 1) := by omega
        rw [e] at this
        unfold coinKeys
        split
        · exact List.mem_cons_of_mem _ (by simpa using this)
        · simpa using this
  have hm := h.mem_iff.2 (key 0 f i hi h0)
  obtain ⟨r, hr⟩ := List.mem_iff_getElem?.1 hm
  obtain ⟨hr1, hr2⟩ := List.getElem?_eq_some_iff.1 hr
  refine ⟨r, hr1, ?_⟩
  rw [List.getD_eq_getElem?_getD, hr]
  simp [syN]
theorem coin_of {f : List Int} {ks : List Coin} (h : ks.Perm (coinKeys 0 f)) (r : Nat) (hr : r < ks.length) : syN (ks.getD r (0, [])) < f.length ∧ 0 < f.getD (syN (ks.getD r (0, []))) 0 := by
  have hm : ks.getD r (0, []) ∈ coinKeys 0 f := h.mem_iff.1 (by rw [List.getD_eq_getElem?_getD, List.getElem?_eq_getElem hr]; exact List.getElem_mem hr)
  obtain ⟨i, hi, e⟩ := coinKeys_mem 0 f _ hm
  have h0 := coinKeys_pos 0 f _ hm
  rw [e] at h0 ⊢
  simp only [syN, Nat.zero_add, List.headD_cons, Int.toNat_natCast] at h0 ⊢
  exact ⟨hi, h0⟩
theorem GoodLens.pos {f : List Int} {limit : Int} {ks : List Coin} {out : List Int} {L : Nat → Nat} (g : GoodLens f limit ks out L) (i : Nat) (hi : i < f.length) : 0 < out.getD i 0 ↔ 0 < f.getD i 0 := by
  constructor
  · intro h
    by_cases h0 : 0 < f.getD i 0
    · exact h0
    · rw [g.rest i hi h0] at h; omega
  · intro h
    obtain ⟨r, hr, e⟩ := coin_at g.perm i hi h
    have h1 := g.at_ r hr
    rw [e] at h1
    have := (g.bd r hr).1
    omega
theorem GoodLens.check {f : List Int} {limit : Int} {ks : List Coin} {out : List Int} {L : Nat → Nat} (g : GoodLens f limit ks out L) (h1 : 1 ≤ limit) (h2 : limit ≤ 16) (h3 : f.length ≤ 1024) (hu : 2 ≤ usedN f) : chk06 out limit = 0 := by
  have hus : usedN out = usedN f := usedN_same out f g.len (fun i hi => g.pos i (by rw [← g.len]; exact hi))
  have hin : ∀ i, i < f.length → 0 ≤ out.getD i 0 ∧ out.getD i 0 ≤ limit := fun i hi => by
    by_cases h0 : 0 < f.getD i 0
    · obtain ⟨r, hr, e⟩ := coin_at g.perm i hi h0
      have h1 := g.at_ r hr
      rw [e] at h1
      have := g.bd r hr
      omega
    · rw [g.rest i hi h0]; omega
  have hkr : krS limit out = 2 ^ limit.toNat := by
    rw [krS_sum, g.len]
    have e1 := sumTo_congr (f := fun i => krT limit (out.getD i 0)) (g := fun i => if 0 < f.getD i 0 then krT limit (out.getD i 0) else 0) f.length (fun i hi => by
      split
      · rfl
      · rename_i h0; rw [g.rest i hi h0, krT_zero])
    rw [e1, coins_sum (fun i => krT limit (out.getD i 0)), ← sumL_perm _ g.perm, sumL_to]
    rw [← g.kraft]
    exact sumTo_congr _ (fun r hr => by
      rw [g.at_ r hr]
      have := g.bd r hr
      unfold krT
      rw [if_pos (by omega), show (limit - (L r : Int)).toNat = limit.toNat - L r by omega])
  unfold chk06
  rw [if_neg (by omega), if_neg (by rw [g.len]; omega), if_neg ?_, hus, if_neg (by omega), if_neg (fun h => by omega), if_neg (fun h => h.2 hkr)]
  intro ha
  obtain ⟨x, hx, hb⟩ := List.any_eq_true.1 ha
  obtain ⟨i, hi⟩ := List.mem_iff_getElem?.1 hx
  obtain ⟨hi1, _⟩ := List.getElem?_eq_some_iff.1 hi
  have := hin i (by rw [← g.len]; exact hi1)
  rw [List.getD_eq_getElem?_getD, hi] at this
  simp only [Option.getD_some, lBad, decide_eq_true_eq] at this hb
  omega

/-- Symbols are unlike. -/
theorem syms_inj {f : List Int} {ks : List Coin} (h : ks.Perm (coinKeys 0 f)) : (ks.map syN).Nodup := by
  have h1 : ((coinKeys 0 f).map syN).Nodup := by
    have := coinKeys_inc 0 f
    refine List.pairwise_map.2 ?_
    refine this.imp_of_mem ?_
    intro a b ha hb hab
    obtain ⟨i, _, rfl⟩ := coinKeys_mem 0 f a ha
    obtain ⟨j, _, rfl⟩ := coinKeys_mem 0 f b hb
    simp only [syN, List.headD_cons, Int.toNat_natCast] at hab ⊢
    omega
  exact (h.map syN).nodup_iff.2 h1
theorem sy_ne {ks : List Coin} (h : (ks.map syN).Nodup) {r k : Nat} (hr : r < ks.length) (hk : k < ks.length) (hne : r ≠ k) : syN (ks.getD r (0, [])) ≠ syN (ks.getD k (0, [])) := by
  intro e
  have h1 := List.pairwise_iff_getElem.1 h
  simp only [List.getD_eq_getElem?_getD, List.getElem?_eq_getElem hr, List.getElem?_eq_getElem hk, Option.getD_some] at e
  rcases Nat.lt_or_gt_of_ne hne with hlt | hlt
  · exact h1 r k (by simpa using hr) (by simpa using hk) hlt (by simpa using e)
  · exact h1 k r (by simpa using hk) (by simpa using hr) hlt (by simpa using e.symm)
theorem head_getD (p : Coin) : p.2.getD 0 0 = p.2.headD 0 := by cases p.2 <;> rfl
theorem layTo_at {ks : List Coin} (h : (ks.map syN).Nodup) (D : List Nat) (z : List Int) (hz : ∀ r, r < ks.length → syN (ks.getD r (0, [])) < z.length) : ∀ k, k ≤ ks.length →
    (∀ r, r < k → (layTo ks D z k).getD (syN (ks.getD r (0, []))) 0 = (D.getD r 0 : Int)) ∧ (∀ i, (∀ r, r < k → syN (ks.getD r (0, [])) ≠ i) → (layTo ks D z k).getD i 0 = z.getD i 0)
  | 0, _ => ⟨fun r hr => by omega, fun i _ => rfl⟩
  | k + 1, hk => by
    obtain ⟨h1, h2⟩ := layTo_at h D z hz k (by omega)
    have e : ((ks.getD k (0, [])).2.getD 0 0).toNat = syN (ks.getD k (0, [])) := by rw [head_getD]; rfl
    have hlt := hz k (by omega)
    unfold layTo
    rw [e]
    refine ⟨fun r hr => ?_, fun i hi => ?_⟩
    · by_cases hrk : r = k
      · subst hrk
        rw [List.getD_eq_getElem?_getD, List.getElem?_set, if_pos rfl, if_pos (by rw [layTo_length]; exact hlt)]
        rfl
      · rw [List.getD_eq_getElem?_getD, List.getElem?_set, if_neg (sy_ne h (by omega) (by omega) (fun e => hrk e.symm)), ← List.getD_eq_getElem?_getD]
        exact h1 r (by omega)
    · rw [List.getD_eq_getElem?_getD, List.getElem?_set, if_neg (hi k (by omega)), ← List.getD_eq_getElem?_getD]
      exact h2 i (fun r hr => hi r (by omega))
theorem zeros_getD (n i : Nat) : (zeros n).getD i 0 = 0 := by
  rw [List.getD_eq_getElem?_getD, zeros, List.getElem?_replicate]; split <;> rfl

/-! Of the levels: how often a symbol stands in what is taken. -/
def symsOf (l : List Coin) : List Int := l.flatMap (·.2)
theorem symsOf_append (a b : List Coin) : symsOf (a ++ b) = symsOf a ++ symsOf b := by simp [symsOf]
theorem symsOf_pairs : ∀ (l : List Coin) (m : Nat), 2 * m ≤ l.length → symsOf ((pairK l).take m) = symsOf (l.take (2 * m))
  | l, 0, _ => by simp [symsOf]
  | [], m + 1, h => by simp at h
  | [a], m + 1, h => by simp at h; omega
  | a :: b :: r, m + 1, h => by
    have ih := symsOf_pairs r m (by simp at h; omega)
    rw [show 2 * (m + 1) = 2 * m + 1 + 1 by omega]
    simp only [pairK, List.take_succ_cons]
    unfold symsOf at *
    simp only [List.flatMap_cons, ih]
    simp
theorem syms_perm {a b : List Coin} (h : a.Perm b) : (symsOf a).Perm (symsOf b) := h.flatMap_right _
theorem taken (first : List Coin) : ∀ (j c : Nat), c ≤ (levelK first j).length → (symsOf ((levelK first j).take c)).Perm ((ksOf first j c).flatMap (fun k => symsOf (first.take k)))
  | 0, c, h => by simp [levelK, ksOf]
  | j + 1, c, h => by
    unfold levelK at h
    rw [mergeK_length] at h
    obtain ⟨h1, h2, h3, h4⟩ := merge_take c first (pairK (levelK first j)) h
    have hL := pairK_length (levelK first j)
    have ih := taken first j (2 * (c - coinsOf first (pairK (levelK first j)) c)) (by omega)
    simp only [ksOf, levelK, List.flatMap_cons]
    refine (syms_perm h1).trans ?_
    rw [symsOf_append, symsOf_pairs _ _ (by omega)]
    exact List.Perm.append_left _ ih
theorem bumps_count : ∀ (l : List Int) (out : List Int) (i : Nat), (∀ s ∈ l, 0 ≤ s) → i < out.length → (l.foldl bumpS out).getD i 0 = out.getD i 0 + (l.count (i : Int) : Nat)
  | [], out, i, _, _ => by simp
  | s :: l, out, i, h, hi => by
    rw [List.foldl_cons, bumps_count l (bumpS out s) i (fun t ht => h t (by simp [ht])) (by rw [bumpS_length]; exact hi), List.count_cons]
    have hs := h s (by simp)
    unfold bumpS
    by_cases e : s.toNat = i
    · have e2 : s = (i : Int) := by omega
      rw [List.getD_eq_getElem?_getD, List.getElem?_set, if_pos e, if_pos (by omega), e2]
      simp
      omega
    · have e2 : ¬ s = (i : Int) := by omega
      rw [List.getD_eq_getElem?_getD, List.getElem?_set, if_neg e, ← List.getD_eq_getElem?_getD]
      simp [e2]
theorem bumpAll_flat : ∀ (ks : List Coin) (out : List Int), bumpAll out ks = (symsOf ks).foldl bumpS out
  | [], _ => rfl
  | p :: ks, out => by
    show bumpAll (p.2.foldl bumpS out) ks = _
    rw [bumpAll_flat ks]
    simp [symsOf, List.foldl_append]
theorem count_flat (x : Int) (g : Nat → List Int) : ∀ l : List Nat, (l.flatMap g).count x = (l.map (fun k => (g k).count x)).sum
  | [] => rfl
  | k :: l => by simp only [List.flatMap_cons, List.count_append, List.map_cons, List.sum_cons, count_flat x g l]
theorem sum_lenOf (r : Nat) : ∀ l : List Nat, (l.map (fun k => if r < k then 1 else 0)).sum = lenOf l r
  | [] => rfl
  | k :: l => by
    have ih := sum_lenOf r l
    unfold lenOf at *
    simp only [List.map_cons, List.sum_cons, List.countP_cons, ih]
    by_cases h : r < k <;> simp [h] <;> omega


/-! The lengths themselves. -/
theorem sortK_up {f : List Int} : Up (sortK (coinKeys 0 f)) := by
  have := sortK_srt _ (coinKeys_inc 0 f)
  exact this.imp (fun h => by unfold lexK at h; omega)
theorem depths_good {f : List Int} {limit : Int} (hlim : 1 ≤ limit) (ks : List Coin) (hp : ks.Perm (coinKeys 0 f)) (hn : 2 ≤ ks.length) (hw : within (depthsH (ks.map (·.1))) limit ks.length) :
    GoodLens f limit ks (layTo ks (depthsH (ks.map (·.1))) (zeros f.length) ks.length) (fun r => (depthsH (ks.map (·.1))).getD r 0) := by
  have hlen : (ks.map (·.1)).length = ks.length := List.length_map ..
  obtain ⟨d1, d2⟩ := depthsH_ok (ks.map (·.1)) (by rw [hlen]; exact hn)
  rw [hlen] at d1 d2
  obtain ⟨a1, a2⟩ := layTo_at (syms_inj hp) (depthsH (ks.map (·.1))) (zeros f.length) (fun r hr => by rw [zeros_length]; exact (coin_of hp r hr).1) ks.length (Nat.le_refl _)
  refine ⟨hp, by rw [layTo_length, zeros_length], a1, fun i hi h0 => ?_, fun r hr => ⟨(d1 r hr).1, hw r hr⟩, d2 limit.toNat (fun i hi => by have := hw i hi; omega)⟩
  rw [a2 i (fun r hr e => h0 (by rw [← e]; exact (coin_of hp r hr).2)), zeros_getD]
theorem take_syms (ks : List Coin) (hs : ∀ p ∈ ks, ∃ i : Nat, p.2 = [(i : Int)]) : ∀ k, symsOf (ks.take k) = (ks.take k).map (fun p => (syN p : Int)) := by
  intro k
  have key : ∀ l : List Coin, (∀ p ∈ l, ∃ i : Nat, p.2 = [(i : Int)]) → symsOf l = l.map (fun p => (syN p : Int)) := by
    intro l
    induction l with
    | nil => intro _; rfl
    | cons p l ih =>
      intro h
      obtain ⟨i, hi⟩ := h p (by simp)
      have := ih (fun q hq => h q (by simp [hq]))
      unfold symsOf at *
      simp only [List.flatMap_cons, List.map_cons, this, hi, syN]
      simp
  exact key _ (fun p hp => hs p (List.mem_of_mem_take hp))
theorem count_take (ks : List Coin) (hs : ∀ p ∈ ks, ∃ i : Nat, p.2 = [(i : Int)]) (hnd : (ks.map syN).Nodup) (k r : Nat) (hr : r < ks.length) : (symsOf (ks.take k)).count ((syN (ks.getD r (0, [])) : Nat) : Int) = if r < k then 1 else 0 := by
  rw [take_syms ks hs k]
  have hnd2 : ((ks.take k).map (fun p => (syN p : Int))).Nodup := by
    have h1 : ((ks.map syN).map (fun n : Nat => (n : Int))).Nodup := List.pairwise_map.2 (hnd.imp (fun h e => h (by omega)))
    rw [List.map_map] at h1
    rw [List.map_take]
    exact h1.sublist (List.take_sublist _ _)
  by_cases h : r < k
  · rw [if_pos h]
    have hm : ((syN (ks.getD r (0, [])) : Nat) : Int) ∈ (ks.take k).map (fun p => (syN p : Int)) := by
      refine List.mem_map.2 ⟨ks.getD r (0, []), ?_, rfl⟩
      rw [List.mem_iff_getElem?]
      exact ⟨r, by rw [List.getElem?_take, if_pos h, List.getD_eq_getElem?_getD, List.getElem?_eq_getElem hr]; rfl⟩
    have h1 : 0 < ((ks.take k).map (fun p => (syN p : Int))).count ((syN (ks.getD r (0, [])) : Nat) : Int) := List.count_pos_iff.2 hm
    have h2 : ((ks.take k).map (fun p => (syN p : Int))).count ((syN (ks.getD r (0, [])) : Nat) : Int) ≤ 1 := List.nodup_iff_count.1 hnd2 _
    omega
  · rw [if_neg h, List.count_eq_zero]
    intro hm
    obtain ⟨p, hp, e⟩ := List.mem_map.1 hm
    obtain ⟨q, hq⟩ := List.mem_iff_getElem?.1 hp
    rw [List.getElem?_take] at hq
    split at hq
    · rename_i hqk
      obtain ⟨hq1, hq2⟩ := List.getElem?_eq_some_iff.1 hq
      have := sy_ne hnd hq1 hr (by omega)
      apply this
      rw [List.getD_eq_getElem?_getD, hq]
      simp only [Option.getD_some]
      omega
    · cases hq
theorem levels_good {f : List Int} {limit : Int} (hlim : 1 ≤ limit) (ks : List Coin) (hp : ks.Perm (coinKeys 0 f)) (hup : Up ks) (hn : 2 ≤ ks.length) (hen : ks.length ≤ 2 ^ limit.toNat) :
    GoodLens f limit ks (bumpAll (zeros f.length) ((levelK ks (limit.toNat - 1)).take (2 * ks.length - 2))) (lenOf (ksOf ks (limit.toNat - 1) (2 * ks.length - 2))) := by
  have hs : ∀ p ∈ ks, ∃ i : Nat, p.2 = [(i : Int)] := fun p hp' => by
    obtain ⟨i, _, rfl⟩ := coinKeys_mem 0 f p (hp.mem_iff.1 hp')
    exact ⟨i, by simp⟩
  have hsf : ∀ p ∈ ks, ∀ s ∈ p.2, 0 ≤ s ∧ s < (f.length : Int) := fun p hp' s hs' => by
    obtain ⟨i, hi, rfl⟩ := coinKeys_mem 0 f p (hp.mem_iff.1 hp')
    simp only [List.mem_singleton] at hs'
    subst hs'
    omega
  have hpos : ∀ p ∈ ks, 0 ≤ p.1 := fun p hp' => by have := coinKeys_pos 0 f p (hp.mem_iff.1 hp'); omega
  have hnd := syms_inj hp
  obtain ⟨j, hj⟩ : ∃ j, limit.toNat = j + 1 := ⟨limit.toNat - 1, by omega⟩
  rw [hj, Nat.add_sub_cancel]
  have hen2 := level_enough ks j (by rw [← hj]; exact hen)
  have htk := taken ks j (2 * ks.length - 2) hen2
  obtain ⟨k1, k2, _⟩ := ksOf_ok ks hup hpos j (2 * ks.length - 2) hen2
  have kw := ksOf_wsum ks j (2 * ks.length - 2) hen2
  have kl := ksOf_length ks j (2 * ks.length - 2)
  have hkr := kraft_ks _ ks.length k1 k2
  have hall : ∀ s ∈ symsOf ((levelK ks j).take (2 * ks.length - 2)), 0 ≤ s ∧ s < (f.length : Int) := by
    intro s hs'
    have := htk.mem_iff.1 hs'
    obtain ⟨k, _, hk⟩ := List.mem_flatMap.1 this
    obtain ⟨p, hp', hs2⟩ := List.mem_flatMap.1 hk
    exact hsf p (List.mem_of_mem_take hp') s hs2
  have hget : ∀ i, i < f.length → (bumpAll (zeros f.length) ((levelK ks j).take (2 * ks.length - 2))).getD i 0 = (((ksOf ks j (2 * ks.length - 2)).map (fun k => (symsOf (ks.take k)).count (i : Int))).sum : Nat) := fun i hi => by
    rw [bumpAll_flat, bumps_count _ _ _ (fun s hs' => (hall s hs').1) (by rw [zeros_length]; exact hi), zeros_getD, htk.count_eq, count_flat]
    omega
  generalize hK : ksOf ks j (2 * ks.length - 2) = K at *
  have hsum : sumTo (fun r => 2 ^ (j + 1 - lenOf K r)) ks.length = 2 ^ (j + 1) := by
    rw [kl, kw] at hkr
    obtain ⟨m, hm⟩ : ∃ m, ks.length = m + 2 := ⟨ks.length - 2, by omega⟩
    have e : (2 * ks.length - 2) * 2 ^ j = ks.length * 2 ^ (j + 1) - 2 ^ (j + 1) := by
      rw [hm, Nat.pow_succ, show 2 * (m + 2) - 2 = (m + 1) * 2 by omega, Nat.mul_assoc, Nat.mul_comm 2, show m + 2 = (m + 1) + 1 by omega, Nat.add_mul (m + 1) 1]
      omega
    have : 2 ^ (j + 1) ≤ ks.length * 2 ^ (j + 1) := Nat.le_mul_of_pos_left _ (by omega)
    omega
  refine ⟨hp, by rw [bumpAll_length, zeros_length], fun r hr => ?_, fun i hi h0 => ?_, fun r hr => ⟨?_, ?_⟩, by rw [hj]; exact hsum⟩
  · rw [hget _ (coin_of hp r hr).1]
    congr 1
    rw [← sum_lenOf]
    congr 1
    exact List.map_congr_left (fun k _ => count_take ks hs hnd k r hr)
  · rw [hget i hi]
    have hz : ∀ k, (symsOf (ks.take k)).count (i : Int) = 0 := fun k => by
      rw [List.count_eq_zero]
      intro hm
      rw [take_syms ks hs k] at hm
      obtain ⟨p, hp', e⟩ := List.mem_map.1 hm
      obtain ⟨q, hq⟩ := List.mem_iff_getElem?.1 (List.mem_of_mem_take hp')
      obtain ⟨hq1, _⟩ := List.getElem?_eq_some_iff.1 hq
      have := (coin_of hp q hq1).2
      have e2 : ks.getD q (0, []) = p := by rw [List.getD_eq_getElem?_getD, hq]; rfl
      rw [e2] at this
      exact h0 (by rwa [show syN p = i by omega] at this)
    have : (K.map (fun k => (symsOf (ks.take k)).count (i : Int))) = K.map (fun _ => 0) := List.map_congr_left (fun k _ => hz k)
    rw [this]
    have e : ∀ l : List Nat, (l.map (fun _ => 0)).sum = 0 := fun l => by induction l with | nil => rfl | cons a l ih => simpa using ih
    rw [e]; rfl
  · rcases Nat.eq_zero_or_pos (lenOf K r) with h0 | h0
    · exfalso
      -- one term alone would be all
      have hge : ∀ n r, r < n → ∀ g : Nat → Nat, g r ≤ sumTo g n := by
        intro n
        induction n with
        | zero => intro r hr; omega
        | succ n ih =>
          intro r hr g
          simp only [sumTo]
          by_cases e : r = n
          · subst e; omega
          · have := ih r (by omega) g; omega
      obtain ⟨q, hq, hqr⟩ : ∃ q, q < ks.length ∧ q ≠ r := by
        by_cases e : r = 0
        · exact ⟨1, by omega, by omega⟩
        · exact ⟨0, by omega, fun h => e h.symm⟩
      have hge2 : ∀ n r q, r < n → q < n → r ≠ q → ∀ g : Nat → Nat, g r + g q ≤ sumTo g n := by
        intro n
        induction n with
        | zero => intro r q hr; omega
        | succ n ih =>
          intro r q hr hq hne g
          simp only [sumTo]
          by_cases e : r = n
          · subst e
            have := hge r q (by omega) g
            omega
          · by_cases e2 : q = n
            · subst e2
              have := hge q r (by omega) g
              omega
            · have := ih r q (by omega) (by omega) hne g; omega
      have := hge2 ks.length r q hr hq (fun e => hqr e.symm) (fun r => 2 ^ (j + 1 - lenOf K r))
      simp only [h0, Nat.sub_zero] at this
      have hp1 : 0 < 2 ^ (j + 1 - lenOf K q) := Nat.pow_pos (by decide)
      omega
    · exact h0
  · have := lenOf_le K r
    rw [kl] at this
    omega
/-- What Lengths gives is what is asked for. -/
theorem lensP_may {f : List Int} {limit : Int} (h : chkPm f limit = 0) : chk06 (lensP f limit) limit = 0 ∧ ∀ i, i < f.length → (0 < (lensP f limit).getD i 0 ↔ 0 < f.getD i 0) := by
  obtain ⟨h1, h2, h3, h4, h5, h6⟩ := chkPm_ok h
  by_cases hu : usedN f = 1
  · obtain ⟨x, hx⟩ : ∃ x, coinKeys 0 f = [x] := List.length_eq_one_iff.1 (by rw [coinKeys_length, hu])
    have hl : lensP f limit = (zeros f.length).set (syN x) 1 := by
      unfold lensP
      rw [if_pos hu, hx]
      unfold oneLens
      rw [List.headD_cons, head_getD]
      rfl
    have hc := coin_of (List.Perm.refl (coinKeys 0 f)) 0 (by rw [hx]; simp)
    rw [hx] at hc
    have hat : ∀ i, i < f.length → (0 < f.getD i 0 ↔ i = syN x) := fun i hi => by
      constructor
      · intro h0
        obtain ⟨r, hr, e⟩ := coin_at (List.Perm.refl (coinKeys 0 f)) i hi h0
        rw [hx] at hr e
        simp only [List.length_singleton] at hr
        have : r = 0 := by omega
        subst this
        exact e.symm
      · intro e; rw [e]; exact hc.2
    have hget : ∀ i, i < f.length → (lensP f limit).getD i 0 = if i = syN x then 1 else 0 := fun i hi => by
      rw [hl, List.getD_eq_getElem?_getD, List.getElem?_set]
      by_cases e : syN x = i
      · rw [if_pos e, if_pos (by rw [zeros_length]; have := hc.1; simpa using this), if_pos e.symm]; rfl
      · rw [if_neg e, if_neg (fun h => e h.symm), ← List.getD_eq_getElem?_getD, zeros_getD]
    have hpos : ∀ i, i < f.length → (0 < (lensP f limit).getD i 0 ↔ 0 < f.getD i 0) := fun i hi => by
      rw [hget i hi, hat i hi]
      split <;> simp_all
    refine ⟨?_, hpos⟩
    have hus : usedN (lensP f limit) = 1 := by rw [usedN_same _ f lensP_length (fun i hi => hpos i (by rw [← lensP_length (limit := limit)]; exact hi)), hu]
    have hkr : krS limit (lensP f limit) = 2 ^ limit.toNat / 2 := by
      rw [krS_sum, lensP_length]
      have e1 := sumTo_congr (f := fun i => krT limit ((lensP f limit).getD i 0)) (g := fun i => if 0 < f.getD i 0 then krT limit 1 else 0) f.length (fun i hi => by
        rw [hget i hi]
        by_cases e : i = syN x
        · rw [if_pos e, if_pos ((hat i hi).2 e)]
        · rw [if_neg e, if_neg (fun h => e ((hat i hi).1 h)), krT_zero])
      rw [e1, coins_sum (fun _ => krT limit 1), hx]
      simp only [sumL]
      unfold krT
      obtain ⟨m, hm⟩ : ∃ m, limit.toNat = m + 1 := ⟨limit.toNat - 1, by omega⟩
      rw [if_pos (by omega), show (limit - 1).toNat = m by omega, hm, Nat.pow_succ]
      omega
    unfold chk06
    rw [if_neg (by omega), if_neg (by rw [lensP_length]; omega), if_neg ?_, hus, if_neg (by omega), if_neg (fun h => h.2 hkr), if_neg (fun h => by omega)]
    intro ha
    obtain ⟨y, hy, hb⟩ := List.any_eq_true.1 ha
    obtain ⟨i, hi⟩ := List.mem_iff_getElem?.1 hy
    obtain ⟨hi1, _⟩ := List.getElem?_eq_some_iff.1 hi
    have := hget i (by rw [← lensP_length (limit := limit)]; exact hi1)
    rw [List.getD_eq_getElem?_getD, hi] at this
    simp only [Option.getD_some] at this
    simp only [lBad, decide_eq_true_eq] at hb
    split at this <;> omega
  · have hperm := sortK_perm (coinKeys 0 f)
    have hn : (sortK (coinKeys 0 f)).length = usedN f := by rw [hperm.length_eq, coinKeys_length]
    have hL : lensP f limit = lensOf (sortK (coinKeys 0 f)) f.length limit := if_neg hu
    have hg : ∃ L, GoodLens f limit (sortK (coinKeys 0 f)) (lensP f limit) L := by
      rw [hL]
      unfold lensOf
      split
      · rename_i hw
        exact ⟨_, depths_good h1 _ hperm (by omega) hw⟩
      · exact ⟨_, levels_good h1 _ hperm sortK_up (by omega) (by rw [hn]; exact h6)⟩
    obtain ⟨L, g⟩ := hg
    exact ⟨g.check h1 h2 h3 (by omega), g.pos⟩

end Go.Proofs.Ytoefkkgnabjmdaa
