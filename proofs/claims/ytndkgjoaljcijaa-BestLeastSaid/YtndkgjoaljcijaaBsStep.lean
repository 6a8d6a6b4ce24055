/- Chapter 26 (best): each round keeps what the search keeps, and there are few rounds: the plain part. -/
import Derived.Test.YtndkgjoaljcijaaBsStar
set_option linter.unusedSimpArgs false
set_option linter.unusedVariables false
namespace Go.Proofs.Ytndkgjoaljcijaa

theorem setF_same (f : St → Option Sp) (s : St) (x : Sp) : setF f s x s = some x := if_pos rfl
theorem setF_other {f : St → Option Sp} {s z : St} (x : Sp) (h : z ≠ s) : setF f s x z = f z := if_neg h
/-- Nothing is dearer than it was. -/
def Better (f g : St → Option Sp) : Prop := ∀ s x, f s = some x → ∃ y, g s = some y ∧ y.cost ≤ x.cost
theorem Better.refl (f : St → Option Sp) : Better f f := fun s x h => ⟨x, h, Int.le_refl _⟩
theorem Better.trans {f g h : St → Option Sp} (a : Better f g) (b : Better g h) : Better f h := fun s x hx => by
  obtain ⟨y, h1, h2⟩ := a s x hx
  obtain ⟨z, h3, h4⟩ := b s y h1
  exact ⟨z, h3, by omega⟩
theorem Better.knows {f g : St → Option Sp} (a : Better f g) {s : St} {c : Int} (h : knows f s c) : knows g s c := by
  obtain ⟨x, h1, h2⟩ := h
  obtain ⟨y, h3, h4⟩ := a s x h1
  exact ⟨y, h3, by omega⟩
theorem reach_new {E : Env} {cur : St} {c : Int} {p : PS} {t : Tok} (hu : useE cur.r t = 0) (hk : ¬ knows p.f (nxt cur t) (c + cost E.m E.d t)) : reachF E cur c p t = ⟨setF p.f (nxt cur t) ⟨c + cost E.m E.d t, cur, t⟩, pushW p.L ⟨nxt cur t, c + cost E.m E.d t, c + cost E.m E.d t + leftAt E ((nxt cur t).at_ - E.b), p.came + 1⟩, p.came + 1⟩ := by
  unfold reachF
  rw [if_neg (by omega), if_neg hk]
theorem reach_old {E : Env} {cur : St} {c : Int} {p : PS} {t : Tok} (hk : knows p.f (nxt cur t) (c + cost E.m E.d t)) : reachF E cur c p t = p := by
  unfold reachF
  split
  · rfl
  · rfl
theorem reach_better (E : Env) (cur : St) (c : Int) (p : PS) (t : Tok) : Better p.f (reachF E cur c p t).f := by
  unfold reachF
  split
  · exact Better.refl _
  · split
    · exact Better.refl _
    · rename_i hk
      intro s x hx
      by_cases e : s = nxt cur t
      · subst e
        refine ⟨_, setF_same _ _ _, ?_⟩
        show c + cost E.m E.d t ≤ x.cost
        exact Classical.byContradiction fun q => hk ⟨x, hx, by omega⟩
      · exact ⟨x, by rw [← hx]; exact setF_other _ e, Int.le_refl _⟩
theorem reach_knows {E : Env} {cur : St} {c : Int} {p : PS} {t : Tok} (hu : useE cur.r t = 0) : knows (reachF E cur c p t).f (nxt cur t) (c + cost E.m E.d t) := by
  by_cases hk : knows p.f (nxt cur t) (c + cost E.m E.d t)
  · rw [reach_old hk]; exact hk
  · rw [reach_new hu hk]
    exact ⟨_, setF_same _ _ _, Int.le_refl _⟩
theorem nxt_ne {E : Env} (hE : EnvOk E) {cur : St} {t : Tok} (hl : cur.at_ < E.s.length) (ht : okTok E cur t) : cur.at_ < (nxt cur t).at_ ∧ (nxt cur t).at_ ≤ E.s.length := by
  have := okTok_size hE.win2 ht hl
  unfold nxt
  simp only
  omega
theorem reach_inv {E : Env} {r : Rp} (hE : EnvOk E) {p : PS} {cur : St} {c : Int} {t : Tok} (h : Inv E r (some cur) p) (hl : cur.at_ < E.s.length) (ht : okTok E cur t) (hc : ∃ x, p.f cur = some x ∧ x.cost = c) :
    Inv E r (some cur) (reachF E cur c p t) ∧ ∃ x, (reachF E cur c p t).f cur = some x ∧ x.cost = c := by
  have hu := okTok_use hE.win2 ht
  by_cases hk : knows p.f (nxt cur t) (c + cost E.m E.d t)
  · rw [reach_old hk]; exact ⟨h, hc⟩
  have hn := nxt_ne hE hl ht
  have hcp := cost_pos hE ht
  obtain ⟨x0, hx0, hx0c⟩ := hc
  have hat := h.at_ cur x0 hx0
  have hne : cur ≠ nxt cur t := fun e => by rw [← e] at hn; omega
  have hbt := reach_better E cur c p t
  rw [reach_new hu hk] at hbt ⊢
  have hto : (c + cost E.m E.d t) ≤ ((nxt cur t).at_ - E.b : Int) * bigC := by
    have e1 : ((cur.at_ : Int) - E.b + 1) * bigC ≤ ((nxt cur t).at_ - E.b : Int) * bigC := Int.mul_le_mul_of_nonneg_right (by omega) (by unfold bigC; omega)
    have e2 : ((cur.at_ : Int) - E.b + 1) * bigC = (cur.at_ - E.b : Int) * bigC + bigC := by rw [Int.add_mul, Int.one_mul]
    omega
  refine ⟨⟨?_, ?_, ?_, ?_, pushW_heap h.heap _, ?_⟩, x0, by rw [← hx0]; exact setF_other _ hne, hx0c⟩
  · obtain ⟨x, hx, hxc⟩ := h.bg
    refine ⟨x, ?_, hxc⟩
    rw [← hx]
    refine setF_other _ (fun e => ?_)
    have : (⟨E.b, r⟩ : St).at_ = (nxt cur t).at_ := by rw [e]
    simp only at this
    omega
  · intro s x hx
    change setF p.f _ _ _ = some x at hx
    by_cases e : s = nxt cur t
    · subst e
      rw [setF_same] at hx
      cases hx
      exact ⟨by omega, hn.2, by show 0 ≤ c + cost E.m E.d t; omega, hto⟩
    · rw [setF_other _ e] at hx
      exact h.at_ s x hx
  · intro s x hx hs
    change setF p.f _ _ _ = some x at hx
    by_cases e : s = nxt cur t
    · subst e
      rw [setF_same] at hx
      cases hx
      exact ⟨x0, by rw [← hx0]; exact setF_other _ hne, hl, ht, rfl, by show x0.cost + cost E.m E.d t ≤ c + cost E.m E.d t; omega⟩
    · rw [setF_other _ e] at hx
      obtain ⟨y, h1, h2, h3, h4, h5⟩ := h.chain s x hx hs
      obtain ⟨z, h6, h7⟩ := hbt _ y h1
      exact ⟨z, h6, h2, h3, h4, by omega⟩
  · intro w hw
    rcases List.mem_cons.1 ((pushW_perm _ _).mem_iff.1 hw) with rfl | hw
    · exact ⟨_, setF_same _ _ _, Int.le_refl _, rfl⟩
    · obtain ⟨x, h1, h2, h3⟩ := h.wait w hw
      obtain ⟨z, h6, h7⟩ := hbt _ x h1
      exact ⟨z, h6, by omega, h3⟩
  · intro s x hx hs
    change setF p.f _ _ _ = some x at hx
    by_cases e : s = nxt cur t
    · subst e
      rw [setF_same] at hx
      cases hx
      exact .inl ⟨_, (pushW_perm _ _).mem_iff.2 (List.mem_cons_self ..), rfl, rfl⟩
    · rw [setF_other _ e] at hx
      rcases h.done s x hx hs with ⟨w, h1, h2, h3⟩ | ⟨h1, h2⟩
      · exact .inl ⟨w, (pushW_perm _ _).mem_iff.2 (List.mem_cons_of_mem _ h1), h2, h3⟩
      · exact .inr ⟨h1, fun t' ht' => hbt.knows (h2 t' ht')⟩
theorem spread_run {E : Env} {r : Rp} (hE : EnvOk E) {cur : St} {c : Int} (hl : cur.at_ < E.s.length) : ∀ (ts : List Tok) (p : PS), (∀ t ∈ ts, okTok E cur t) → Inv E r (some cur) p → (∃ x, p.f cur = some x ∧ x.cost = c) →
    Inv E r (some cur) (ts.foldl (reachF E cur c) p) ∧ (∃ x, (ts.foldl (reachF E cur c) p).f cur = some x ∧ x.cost = c) ∧ Better p.f (ts.foldl (reachF E cur c) p).f ∧ ∀ t ∈ ts, knows (ts.foldl (reachF E cur c) p).f (nxt cur t) (c + cost E.m E.d t)
  | [], p, _, h, hc => ⟨h, hc, Better.refl _, fun t ht => by cases ht⟩
  | t :: ts, p, hts, h, hc => by
    obtain ⟨h1, h2⟩ := reach_inv hE h hl (hts t (List.mem_cons_self ..)) hc
    obtain ⟨h3, h4, h5, h6⟩ := spread_run hE hl ts (reachF E cur c p t) (fun x hx => hts x (List.mem_cons_of_mem _ hx)) h1 h2
    rw [List.foldl_cons]
    refine ⟨h3, h4, (reach_better E cur c p t).trans h5, fun x hx => ?_⟩
    rcases List.mem_cons.1 hx with rfl | hx
    · exact h5.knows (reach_knows (okTok_use hE.win2 (hts x (List.mem_cons_self ..))))
    · exact h6 x hx
theorem spread_inv {E : Env} {r : Rp} (hE : EnvOk E) {cur : St} {c : Int} (hl : cur.at_ < E.s.length) {p : PS} (h : Inv E r (some cur) p) (hc : ∃ x, p.f cur = some x ∧ x.cost = c) : Inv E r none (spreadF E cur c p) := by
  obtain ⟨h1, ⟨x, hx, hxc⟩, _, h4⟩ := spread_run hE hl (toks E cur) p (fun t ht => (mem_toks E cur t).1 ht) h hc
  refine ⟨h1.bg, h1.at_, h1.chain, h1.wait, h1.heap, fun s y hy _ => ?_⟩
  by_cases e : s = cur
  · subst e
    right
    refine ⟨by omega, fun t ht => ?_⟩
    have : y = x := by
      have := hy.symm.trans hx
      exact Option.some.inj this
    rw [this, hxc]
    exact h4 t ((mem_toks E s t).2 ht)
  · exact h1.done s y hy (fun q => e (Option.some.inj q).symm)
/-- The first goes out. -/
theorem pop_inv {E : Env} {r : Rp} {p : PS} (h : Inv E r none p) (hne : p.L ≠ []) : Inv E r (some (gw p.L 0).s) ⟨p.f, popW p.L, p.came⟩ ∧ ((gw p.L 0).cost ≠ costOf p.f (gw p.L 0).s → Inv E r none ⟨p.f, popW p.L, p.came⟩) ∧ ((gw p.L 0).cost = costOf p.f (gw p.L 0).s → ∃ x, p.f (gw p.L 0).s = some x ∧ x.cost = (gw p.L 0).cost) := by
  have h0 : 0 < p.L.length := List.length_pos_iff.2 hne
  have hp := popW_perm h0
  obtain ⟨x, hx, hxc, _⟩ := h.wait (gw p.L 0) (by rw [gw_at h0]; exact List.getElem_mem _)
  have hco : costOf p.f (gw p.L 0).s = x.cost := by unfold costOf; rw [hx]; rfl
  have hw : ∀ w ∈ popW p.L, ∃ x, p.f w.s = some x ∧ x.cost ≤ w.cost ∧ w.all = w.cost + leftAt E (w.s.at_ - E.b) := fun w hw => h.wait w (hp.mem_iff.1 (List.mem_cons_of_mem _ hw))
  have keep : ∀ s y, p.f s = some y → (s ≠ (gw p.L 0).s ∨ (gw p.L 0).cost ≠ y.cost) → (∃ w ∈ popW p.L, w.s = s ∧ w.cost = y.cost) ∨ (s.at_ ≠ E.s.length ∧ ∀ t, okTok E s t → knows p.f (nxt s t) (y.cost + cost E.m E.d t)) := fun s y hy hor => by
    rcases h.done s y hy (by simp) with ⟨w, h1, h2, h3⟩ | h1
    · rcases List.mem_cons.1 (hp.mem_iff.2 h1) with e | e
      · subst e
        rcases hor with q | q
        · exact absurd h2.symm q
        · exact absurd h3 q
      · exact .inl ⟨w, e, h2, h3⟩
    · exact .inr h1
  refine ⟨⟨h.bg, h.at_, h.chain, hw, popW_heap h.heap, fun s y hy hs => keep s y hy (.inl (fun e => hs (by rw [e])))⟩, fun hne2 => ⟨h.bg, h.at_, h.chain, hw, popW_heap h.heap, fun s y hy _ => ?_⟩, fun he => ⟨x, hx, by rw [he, hco]⟩⟩
  by_cases e : s = (gw p.L 0).s
  · subst e
    refine keep _ y hy (.inr ?_)
    rw [hx] at hy
    cases hy
    rwa [hco] at hne2
  · exact keep s y hy (.inl e)
theorem start_inv {E : Env} (hE : EnvOk E) (r : Rp) : Inv E r none (startF E r) := by
  refine ⟨⟨sp0, if_pos rfl, rfl⟩, fun s x hx => ?_, fun s x hx hs => ?_, fun w hw => ?_, fun j h0 hj => ?_, fun s x hx _ => ?_⟩
  · by_cases e : s = ⟨E.b, r⟩
    · subst e
      have : sp0 = x := by have := (setF_same (fun _ => none) (⟨E.b, r⟩ : St) sp0).symm.trans hx; exact Option.some.inj this
      subst this
      refine ⟨Nat.le_refl _, hE.room, Int.le_refl _, ?_⟩
      simp [sp0]
    · have : setF (fun _ => none) (⟨E.b, r⟩ : St) sp0 s = none := setF_other _ e
      rw [startF] at hx
      simp only at hx
      rw [this] at hx; cases hx
  · have : setF (fun _ => none) (⟨E.b, r⟩ : St) sp0 s = none := setF_other _ hs
    rw [startF] at hx
    simp only at hx
    rw [this] at hx; cases hx
  · simp only [startF, List.mem_singleton] at hw
    subst hw
    refine ⟨sp0, if_pos rfl, Int.le_refl _, ?_⟩
    simp
  · simp [startF] at hj; omega
  · by_cases e : s = ⟨E.b, r⟩
    · subst e
      have : sp0 = x := by have := (setF_same (fun _ => none) (⟨E.b, r⟩ : St) sp0).symm.trans hx; exact Option.some.inj this
      subst this
      exact .inl ⟨⟨⟨E.b, r⟩, 0, leftAt E 0, 0⟩, by simp [startF], rfl, rfl⟩
    · have : setF (fun _ => none) (⟨E.b, r⟩ : St) sp0 s = none := setF_other _ e
      rw [startF] at hx
      simp only at hx
      rw [this] at hx; cases hx
end Go.Proofs.Ytndkgjoaljcijaa
