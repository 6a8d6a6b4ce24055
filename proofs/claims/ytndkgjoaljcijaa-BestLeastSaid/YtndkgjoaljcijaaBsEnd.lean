/- Chapter 26 (best): the search ends, with tokens that cost least: the plain part. -/
import Derived.Test.YtndkgjoaljcijaaBsStep
set_option linter.unusedSimpArgs false
set_option linter.unusedVariables false
namespace Go.Proofs.Ytndkgjoaljcijaa

/-! There are few states. -/
def dists (E : Env) (r : Rp) : List Int := [r.a, r.b, r.c, r.d] ++ (List.range (E.s.length + 1)).map (fun n : Nat => (n : Int))
def allSt (E : Env) (r : Rp) : List St := (List.range (E.s.length + 1)).flatMap fun i => (dists E r).flatMap fun a => (dists E r).flatMap fun b => (dists E r).flatMap fun c => (dists E r).map fun d => ⟨i, ⟨a, b, c, d⟩⟩
def isSt (E : Env) (r : Rp) (s : St) : Prop := s.at_ ≤ E.s.length ∧ s.r.a ∈ dists E r ∧ s.r.b ∈ dists E r ∧ s.r.c ∈ dists E r ∧ s.r.d ∈ dists E r
theorem mem_allSt {E : Env} {r : Rp} {s : St} (h : isSt E r s) : s ∈ allSt E r := by
  obtain ⟨i, ⟨a, b, c, d⟩⟩ := s
  obtain ⟨h0, h1, h2, h3, h4⟩ := h
  unfold allSt
  refine List.mem_flatMap.2 ⟨i, List.mem_range.2 (by simp only at h0; omega), List.mem_flatMap.2 ⟨a, h1, List.mem_flatMap.2 ⟨b, h2, List.mem_flatMap.2 ⟨c, h3, List.mem_map.2 ⟨d, h4, rfl⟩⟩⟩⟩⟩
theorem isSt_start (E : Env) (hE : EnvOk E) (r : Rp) : isSt E r ⟨E.b, r⟩ := ⟨hE.room, by simp [dists], by simp [dists], by simp [dists], by simp [dists]⟩
theorem isSt_ahead {E : Env} {r : Rp} {s : St} (h : isSt E r s) {x : Int} (hx : x ∈ dists E r) (i : Int) : (rpAhead s.r x i).a ∈ dists E r ∧ (rpAhead s.r x i).b ∈ dists E r ∧ (rpAhead s.r x i).c ∈ dists E r ∧ (rpAhead s.r x i).d ∈ dists E r := by
  obtain ⟨_, h1, h2, h3, h4⟩ := h
  unfold rpAhead
  split
  · exact ⟨hx, h2, h3, h4⟩
  · split
    · exact ⟨hx, h1, h3, h4⟩
    · split
      · exact ⟨hx, h1, h2, h4⟩
      · exact ⟨hx, h1, h2, h3⟩
theorem useE_zero' {r : Rp} {t : Tok} (h : useE r t = 0) : useOk r t := by
  unfold useE at h; split at h
  · assumption
  · cases h
theorem isSt_nxt {E : Env} (hE : EnvOk E) {r : Rp} {s : St} {t : Tok} (h : isSt E r s) (hl : s.at_ < E.s.length) (ht : okTok E s t) : isSt E r (nxt s t) := by
  have hn := nxt_ne hE hl ht
  refine ⟨hn.2, ?_⟩
  have hu : useOk s.r t := useE_zero' (okTok_use hE.win2 ht)
  show (useR s.r t).a ∈ _ ∧ (useR s.r t).b ∈ _ ∧ (useR s.r t).c ∈ _ ∧ (useR s.r t).d ∈ _
  unfold useR
  rw [if_pos hu]
  rcases ht with rfl | ⟨n, k, hk, h1, h2, rfl⟩ | ⟨n, x, h1, h2, rfl⟩
  · rw [if_pos (show (litT E s.at_).kind = 0 from rfl)]; exact h.2
  · rw [if_neg (by simp [repT]), if_neg (by simp [repT])]
    refine isSt_ahead h ?_ _
    obtain ⟨_, h1, h2, h3, h4⟩ := h
    simp only [repT]
    unfold Rp.get
    split
    · exact h1
    · split
      · exact h2
      · split
        · exact h3
        · exact h4
  · rw [if_neg (by simp [copyT]), if_pos (by simp [copyT])]
    refine isSt_ahead h ?_ _
    have hp := shr_pos (show 0 < shr E s.at_ x by omega)
    simp only [copyT]
    unfold dists
    exact List.mem_append_right _ (List.mem_map.2 ⟨x, List.mem_range.2 (by omega), rfl⟩)
def known (E : Env) (r : Rp) (p : PS) : Prop := ∀ s x, p.f s = some x → isSt E r s
def maxC (E : Env) : Nat := E.s.length * 4194304
def pot (E : Env) : Option Sp → Nat
  | none => maxC E + 1
  | some x => x.cost.toNat
def sumN (l : List Nat) : Nat := l.foldr (· + ·) 0
def phi (E : Env) (r : Rp) (p : PS) : Nat := 2 * sumN ((allSt E r).map fun s => pot E (p.f s)) + p.L.length
theorem sumN_le : ∀ (l : List St) (f g : St → Nat), (∀ s ∈ l, g s ≤ f s) → sumN (l.map g) ≤ sumN (l.map f)
  | [], f, g, h => Nat.le_refl _
  | s :: l, f, g, h => by
    have h1 := sumN_le l f g (fun x hx => h x (List.mem_cons_of_mem _ hx))
    have h2 := h s (List.mem_cons_self ..)
    simp only [sumN, List.map_cons, List.foldr_cons] at *
    omega
theorem sumN_lt : ∀ (l : List St) (f g : St → Nat) (z : St), z ∈ l → g z < f z → (∀ s ∈ l, g s ≤ f s) → sumN (l.map g) < sumN (l.map f)
  | [], f, g, z, hz, _, _ => by cases hz
  | s :: l, f, g, z, hz, hl, h => by
    have h2 := h s (List.mem_cons_self ..)
    have h3 := sumN_le l f g (fun x hx => h x (List.mem_cons_of_mem _ hx))
    rcases List.mem_cons.1 hz with rfl | hz
    · simp only [sumN, List.map_cons, List.foldr_cons] at *
      omega
    · have h1 := sumN_lt l f g z hz hl (fun x hx => h x (List.mem_cons_of_mem _ hx))
      simp only [sumN, List.map_cons, List.foldr_cons] at *
      omega
theorem reach_phi {E : Env} {r : Rp} (hE : EnvOk E) {p : PS} {cur : St} {c : Int} {t : Tok} (h : Inv E r (some cur) p) (hl : cur.at_ < E.s.length) (ht : okTok E cur t) (hc : ∃ x, p.f cur = some x ∧ x.cost = c) (hk : known E r p) : known E r (reachF E cur c p t) ∧ phi E r (reachF E cur c p t) ≤ phi E r p := by
  have hu := okTok_use hE.win2 ht
  by_cases hq : knows p.f (nxt cur t) (c + cost E.m E.d t)
  · rw [reach_old hq]; exact ⟨hk, Nat.le_refl _⟩
  obtain ⟨hi, _⟩ := reach_inv hE h hl ht hc
  rw [reach_new hu hq] at hi ⊢
  obtain ⟨x0, hx0, _⟩ := hc
  have hto := isSt_nxt hE (hk cur x0 hx0) hl ht
  have hat := hi.at_ (nxt cur t) ⟨c + cost E.m E.d t, cur, t⟩ (if_pos rfl)
  have hmax : c + cost E.m E.d t ≤ (maxC E : Int) := by
    have h1 := hat.2.2.2
    have h2 : ((nxt cur t).at_ - E.b : Int) * bigC ≤ (E.s.length : Int) * bigC := Int.mul_le_mul_of_nonneg_right (by omega) (by unfold bigC; omega)
    simp only at h1
    unfold maxC
    unfold bigC at h1 h2
    omega
  have h0 : 0 ≤ c + cost E.m E.d t := hat.2.2.1
  have hlow : pot E (some ⟨c + cost E.m E.d t, cur, t⟩) < pot E (p.f (nxt cur t)) := by
    cases hf : p.f (nxt cur t) with
    | none => simp only [pot]; omega
    | some y =>
      have : ¬ y.cost ≤ c + cost E.m E.d t := fun q => hq ⟨y, hf, q⟩
      simp only [pot]
      omega
  refine ⟨fun s x hx => ?_, ?_⟩
  · by_cases e : s = nxt cur t
    · subst e; exact hto
    · change setF p.f _ _ _ = some x at hx
      rw [setF_other _ e] at hx
      exact hk s x hx
  · unfold phi
    have hlen : (pushW p.L ⟨nxt cur t, c + cost E.m E.d t, c + cost E.m E.d t + leftAt E ((nxt cur t).at_ - E.b), p.came + 1⟩).length = p.L.length + 1 := by rw [(pushW_perm _ _).length_eq]; simp
    have hs := sumN_lt (allSt E r) (fun s => pot E (p.f s)) (fun s => pot E (setF p.f (nxt cur t) ⟨c + cost E.m E.d t, cur, t⟩ s)) (nxt cur t) (mem_allSt hto) (by simp only [setF_same]; exact hlow) (fun s _ => by
      by_cases e : s = nxt cur t
      · subst e; simp only [setF_same]; omega
      · simp only [setF_other _ e]; exact Nat.le_refl _)
    simp only [hlen]
    omega
theorem spread_phi {E : Env} {r : Rp} (hE : EnvOk E) {cur : St} {c : Int} (hl : cur.at_ < E.s.length) : ∀ (ts : List Tok) (p : PS), (∀ t ∈ ts, okTok E cur t) → Inv E r (some cur) p → (∃ x, p.f cur = some x ∧ x.cost = c) → known E r p →
    known E r (ts.foldl (reachF E cur c) p) ∧ phi E r (ts.foldl (reachF E cur c) p) ≤ phi E r p
  | [], p, _, _, _, hk => ⟨hk, Nat.le_refl _⟩
  | t :: ts, p, hts, h, hc, hk => by
    obtain ⟨h1, h2⟩ := reach_inv hE h hl (hts t (List.mem_cons_self ..)) hc
    obtain ⟨h3, h4⟩ := reach_phi hE h hl (hts t (List.mem_cons_self ..)) hc hk
    obtain ⟨h5, h6⟩ := spread_phi hE hl ts (reachF E cur c p t) (fun x hx => hts x (List.mem_cons_of_mem _ hx)) h1 h2 h3
    rw [List.foldl_cons]
    exact ⟨h5, by omega⟩
theorem loop_run {E : Env} {r : Rp} (hE : EnvOk E) : ∀ (n : Nat) (p : PS), Inv E r none p → known E r p → phi E r p ≤ n →
    ∃ q, Inv E r none q ∧ (gw q.L 0).s.at_ = E.s.length ∧ loopF E (n + 1) p = some (⟨q.f, popW q.L, q.came⟩, gw q.L 0)
  | n, p, h, hk, hn => by
    have hne := h.some_left hE
    have h0 : 0 < p.L.length := List.length_pos_iff.2 hne
    unfold loopF
    rw [if_neg hne]
    by_cases he : (gw p.L 0).s.at_ = E.s.length
    · rw [if_pos he]
      exact ⟨p, h, he, rfl⟩
    · rw [if_neg he]
      obtain ⟨i1, i2, i3⟩ := pop_inv h hne
      obtain ⟨x, hx, _⟩ := h.wait (gw p.L 0) (by rw [gw_at h0]; exact List.getElem_mem _)
      have hat := h.at_ _ x hx
      have hphi : phi E r ⟨p.f, popW p.L, p.came⟩ + 1 = phi E r p := by
        unfold phi
        simp only [popW_length]
        omega
      obtain ⟨n, rfl⟩ : ∃ m, n = m + 1 := ⟨n - 1, by omega⟩
      by_cases hc : (gw p.L 0).cost = costOf p.f (gw p.L 0).s
      · rw [if_pos hc]
        have hl : (gw p.L 0).s.at_ < E.s.length := by omega
        have hkk : known E r ⟨p.f, popW p.L, p.came⟩ := hk
        have j1 := spread_inv hE hl i1 (i3 hc)
        have j2 := spread_phi hE hl (toks E (gw p.L 0).s) _ (fun t ht => (mem_toks E _ t).1 ht) i1 (i3 hc) hkk
        exact loop_run hE n _ j1 j2.1 (by have := j2.2; unfold spreadF; omega)
      · rw [if_neg hc]
        exact loop_run hE n _ (i2 hc) hk (by omega)
theorem back_run {E : Env} {r : Rp} (hE : EnvOk E) {p : PS} (h : Inv E r none p) : ∀ (n k : Nat) (s : St) (x : Sp), s.at_ ≤ E.b + n → n < k → p.f s = some x → ∃ l c, backF p.f ⟨E.b, r⟩ k s = some l ∧ Way E ⟨E.b, r⟩ l s c ∧ c ≤ x.cost
  | n, 0, s, x, h1, h2, hx => by omega
  | n, k + 1, s, x, h1, h2, hx => by
    unfold backF
    by_cases e : s = ⟨E.b, r⟩
    · rw [if_pos e]
      subst e
      obtain ⟨y, hy, hy0⟩ := h.bg
      have : y = x := Option.some.inj (hy.symm.trans hx)
      subst this
      exact ⟨[], 0, rfl, .nil _, by omega⟩
    · rw [if_neg e]
      obtain ⟨y, c1, c2, c3, c4, c5⟩ := h.chain s x hx e
      have e1 : (p.f s).getD sp0 = x := by rw [hx]; rfl
      rw [e1]
      have hn := nxt_ne hE c2 c3
      rw [← c4] at hn
      have hb := (h.at_ _ y c1).1
      obtain ⟨n, rfl⟩ : ∃ m, n = m + 1 := ⟨n - 1, by omega⟩
      obtain ⟨l, c, b1, b2, b3⟩ := back_run hE h n k x.from_ y (by omega) (by omega) c1
      have b4 := b2.snoc c2 c3
      rw [← c4] at b4
      exact ⟨l ++ [x.by_], c + cost E.m E.d x.by_, by rw [b1]; rfl, b4, by omega⟩
/-- What the search gives. -/
theorem parse_ok {E : Env} (hE : EnvOk E) (r : Rp) : ∃ k1 k2 p w l e, loopF E k1 (startF E r) = some (p, w) ∧ backF p.f ⟨E.b, r⟩ k2 w.s = some l ∧ Way E ⟨E.b, r⟩ l e w.cost ∧ e.at_ = E.s.length ∧ ∀ l' e' c', Way E ⟨E.b, r⟩ l' e' c' → e'.at_ = E.s.length → w.cost ≤ c' := by
  have hk : known E r (startF E r) := fun s x hx => by
    by_cases e : s = ⟨E.b, r⟩
    · subst e; exact isSt_start E hE r
    · change setF (fun _ => none) _ _ _ = some x at hx
      rw [setF_other _ e] at hx; cases hx
  obtain ⟨q, h1, h2, h3⟩ := loop_run hE _ _ (start_inv hE r) hk (Nat.le_refl _)
  have hne := h1.some_left hE
  have h0 : 0 < q.L.length := List.length_pos_iff.2 hne
  obtain ⟨x, hx, hxc, _⟩ := h1.wait (gw q.L 0) (by rw [gw_at h0]; exact List.getElem_mem _)
  obtain ⟨l, c, b1, b2, b3⟩ := back_run hE h1 (E.s.length - E.b) (E.s.length - E.b + 1) (gw q.L 0).s x (by omega) (by omega) hx
  have h4 := h1.top hE h2 b2 h2
  have hc : c = (gw q.L 0).cost := by omega
  subst hc
  exact ⟨_, _, _, _, l, _, h3, b1, b2, h2, fun l' e' c' w' he' => h1.top hE h2 w' he'⟩
end Go.Proofs.Ytndkgjoaljcijaa
