/- Chapter 26 (best): the search: what it keeps, and that it ends with the least: the plain part. -/
import Derived.Test.YtndkgjoaljcijaaBsPure
import Derived.Test.YtndkgjoaljcijaaPrice
set_option linter.unusedSimpArgs false
set_option linter.unusedVariables false
namespace Go.Proofs.Ytndkgjoaljcijaa

theorem left_le {E : Env} {st : St} {t : Tok} (hw : E.win ≤ 67108864) (hd : E.d.length = 52) (h : okTok E st t) (hb : E.b ≤ st.at_) (hl : st.at_ < E.s.length) : leftAt E (st.at_ - E.b) ≤ cost E.m E.d t + leftAt E ((nxt st t).at_ - E.b) := by
  have hsz := okTok_size hw h hl
  obtain ⟨e1, e2⟩ := leftAt_step E (st.at_ - E.b) (by omega)
  rw [e1]
  unfold bestL
  have e3 : E.b + (st.at_ - E.b) = st.at_ := by omega
  rw [e3]
  have hm := foldl_min_le ((List.range' 2 (longest E st.at_ - 1)).map (fun k => cheapF E.m E.d k + (leftsF E (E.s.length - E.b) (E.s.length - E.b - (st.at_ - E.b + 1))).getD (k - 1) 0)) (E.m.getD (E.s.getD st.at_ 0).toNat 0 + (leftsF E (E.s.length - E.b) (E.s.length - E.b - (st.at_ - E.b + 1))).getD 0 0)
  have ho := okTok_ok hw h
  by_cases hk : t.kind = 0
  · have ht : t = litT E st.at_ := by
      rcases h with h | ⟨n, k, _, _, _, rfl⟩ | ⟨n, x, _, _, rfl⟩
      · exact h
      · simp [repT] at hk
      · simp [copyT] at hk
    have hc : cost E.m E.d t = E.m.getD (E.s.getD st.at_ 0).toNat 0 := by
      subst ht
      unfold cost tokSym
      rw [if_pos ho, if_pos hk, if_pos hk, if_neg (by rw [hk]; omega)]
      simp [litT]
    have hs : (tokSize t).toNat = 1 := by unfold tokSize; rw [if_pos ho, if_pos hk]; rfl
    refine Int.le_trans hm.1 ?_
    rw [e2 0, hc]
    unfold nxt
    rw [hs]
    simp only
    rw [show st.at_ - E.b + 1 + 0 = st.at_ + 1 - E.b by omega]
    exact Int.le_refl _
  · have hs : (tokSize t).toNat = t.len.toNat := by unfold tokSize; rw [if_pos ho, if_neg hk]
    have hlen : 2 ≤ t.len.toNat ∧ t.len.toNat ≤ longest E st.at_ := by
      rcases h with rfl | ⟨n, k, _, h1, h2, rfl⟩ | ⟨n, x, h1, h2, rfl⟩
      · simp [litT] at hk
      · have := shr_longest E st.at_ (st.r.get k)
        simp only [repT]; omega
      · have := shr_longest E st.at_ x
        simp only [copyT]; omega
    have hc := cheap_le hw hd h hk
    refine Int.le_trans (hm.2 _ (List.mem_map.2 ⟨t.len.toNat, List.mem_range'_1.2 ⟨hlen.1, by omega⟩, rfl⟩)) ?_
    rw [e2]
    unfold nxt
    rw [hs]
    simp only
    rw [show st.at_ - E.b + 1 + (t.len.toNat - 1) = st.at_ + t.len.toNat - E.b by omega]
    omega

instance : DecidableEq St := fun a b => if h : a.at_ = b.at_ ∧ a.r.a = b.r.a ∧ a.r.b = b.r.b ∧ a.r.c = b.r.c ∧ a.r.d = b.r.d then isTrue (by
  obtain ⟨x, ⟨a1, a2, a3, a4⟩⟩ := a
  obtain ⟨y, ⟨b1, b2, b3, b4⟩⟩ := b
  simp only at h
  obtain ⟨rfl, rfl, rfl, rfl, rfl⟩ := h
  rfl) else isFalse (fun e => h (by rw [e]; exact ⟨rfl, rfl, rfl, rfl, rfl⟩))
structure Sp where
  cost : Int
  from_ : St
  by_ : Tok
def sp0 : Sp := ⟨0, st0, ⟨0, 0, 0, 0, 0⟩⟩
structure PS where
  f : St → Option Sp
  L : List Wt
  came : Int
def setF (f : St → Option Sp) (s : St) (x : Sp) : St → Option Sp := fun z => if z = s then some x else f z
def costOf (f : St → Option Sp) (s : St) : Int := ((f s).getD sp0).cost
def knows (f : St → Option Sp) (s : St) (c : Int) : Prop := ∃ x, f s = some x ∧ x.cost ≤ c
def knowsB (f : St → Option Sp) (s : St) (c : Int) : Bool := match f s with
  | some x => decide (x.cost ≤ c)
  | none => false
instance (f : St → Option Sp) (s : St) (c : Int) : Decidable (knows f s c) := decidable_of_iff (knowsB f s c = true) (by
  unfold knows knowsB
  cases f s <;> simp)
def reachF (E : Env) (cur : St) (c : Int) (p : PS) (t : Tok) : PS :=
  if useE cur.r t ≠ 0 then p
  else if knows p.f (nxt cur t) (c + cost E.m E.d t) then p
  else ⟨setF p.f (nxt cur t) ⟨c + cost E.m E.d t, cur, t⟩, pushW p.L ⟨nxt cur t, c + cost E.m E.d t, c + cost E.m E.d t + leftAt E ((nxt cur t).at_ - E.b), p.came + 1⟩, p.came + 1⟩
def spreadF (E : Env) (cur : St) (c : Int) (p : PS) : PS := (toks E cur).foldl (reachF E cur c) p
def loopF (E : Env) : Nat → PS → Option (PS × Wt)
  | 0, _ => none
  | k + 1, p =>
    if p.L = [] then none
    else if (gw p.L 0).s.at_ = E.s.length then some (⟨p.f, popW p.L, p.came⟩, gw p.L 0)
    else if (gw p.L 0).cost = costOf p.f (gw p.L 0).s then loopF E k (spreadF E (gw p.L 0).s (gw p.L 0).cost ⟨p.f, popW p.L, p.came⟩)
    else loopF E k ⟨p.f, popW p.L, p.came⟩
def backF (f : St → Option Sp) (bg : St) : Nat → St → Option (List Tok)
  | 0, _ => none
  | k + 1, s => if s = bg then some [] else (backF f bg k ((f s).getD sp0).from_).map (· ++ [((f s).getD sp0).by_])
def startF (E : Env) (r : Rp) : PS := ⟨setF (fun _ => none) ⟨E.b, r⟩ sp0, [⟨⟨E.b, r⟩, 0, leftAt E 0, 0⟩], 0⟩

/-! Ways. -/
inductive Way (E : Env) : St → List Tok → St → Int → Prop
  | nil (s : St) : Way E s [] s 0
  | cons {s e : St} {t : Tok} {l : List Tok} {c : Int} (hs : s.at_ < E.s.length) (h : okTok E s t) (w : Way E (nxt s t) l e c) : Way E s (t :: l) e (cost E.m E.d t + c)
theorem Way.snoc {E : Env} {s e : St} {l : List Tok} {c : Int} (w : Way E s l e c) {t : Tok} (he : e.at_ < E.s.length) (h : okTok E e t) : Way E s (l ++ [t]) (nxt e t) (c + cost E.m E.d t) := by
  induction w with
  | nil s =>
    have := Way.cons he h (Way.nil (E := E) (nxt s t))
    rwa [Int.add_zero, ← Int.zero_add (cost E.m E.d t)] at this
  | cons hs h1 w ih =>
    have := Way.cons hs h1 (ih he h)
    rwa [← Int.add_assoc] at this
structure EnvOk (E : Env) : Prop where
  win1 : 1 ≤ E.win
  win2 : E.win ≤ 67108864
  m : E.m.length = 401
  d : E.d.length = 52
  mok : pricesOk E.m
  dok : pricesOk E.d
  room : E.b ≤ E.s.length
def bigC : Int := 4194304
theorem cost_pos {E : Env} (hE : EnvOk E) {st : St} {t : Tok} (h : okTok E st t) : 1 ≤ cost E.m E.d t ∧ cost E.m E.d t ≤ bigC := by
  have ho := okTok_ok hE.win2 h
  have hb := tokSym_bd ho
  have hi : (tokSym t).toNat < E.m.length := by rw [hE.m]; omega
  have h1 := hE.mok E.m[(tokSym t).toNat] (List.getElem_mem hi)
  have h2 := lenX_bd t.len
  have hj : (distS t.dist).toNat < E.d.length := by have := distS_bd t.dist; rw [hE.d]; omega
  have h3 := hE.dok E.d[(distS t.dist).toNat] (List.getElem_mem hj)
  have h4 := distX_bd t.dist
  unfold cost bigC
  rw [List.getD_eq_getElem?_getD, List.getElem?_eq_getElem hi, List.getD_eq_getElem?_getD, List.getElem?_eq_getElem hj]
  simp only [Option.getD_some]
  split <;> split <;> omega
theorem left_way {E : Env} (hE : EnvOk E) {s e : St} {l : List Tok} {c : Int} (w : Way E s l e c) (hb : E.b ≤ s.at_) (he : e.at_ = E.s.length) : leftAt E (s.at_ - E.b) ≤ c := by
  induction w with
  | nil s => rw [he, leftAt_last]; exact Int.le_refl _
  | cons hs h w ih =>
    have h1 := left_le hE.win2 hE.d h hb hs
    have h2 := ih (by unfold nxt; simp only; omega) he
    omega
structure Inv (E : Env) (r : Rp) (ex : Option St) (p : PS) : Prop where
  bg : ∃ x, p.f ⟨E.b, r⟩ = some x ∧ x.cost = 0
  at_ : ∀ s x, p.f s = some x → E.b ≤ s.at_ ∧ s.at_ ≤ E.s.length ∧ 0 ≤ x.cost ∧ x.cost ≤ (s.at_ - E.b : Int) * bigC
  chain : ∀ s x, p.f s = some x → s ≠ ⟨E.b, r⟩ → ∃ y, p.f x.from_ = some y ∧ x.from_.at_ < E.s.length ∧ okTok E x.from_ x.by_ ∧ s = nxt x.from_ x.by_ ∧ y.cost + cost E.m E.d x.by_ ≤ x.cost
  wait : ∀ w ∈ p.L, ∃ x, p.f w.s = some x ∧ x.cost ≤ w.cost ∧ w.all = w.cost + leftAt E (w.s.at_ - E.b)
  heap : HeapW p.L
  done : ∀ s x, p.f s = some x → ex ≠ some s → (∃ w ∈ p.L, w.s = s ∧ w.cost = x.cost) ∨ (s.at_ ≠ E.s.length ∧ ∀ t, okTok E s t → knows p.f (nxt s t) (x.cost + cost E.m E.d t))
theorem Inv.least {E : Env} {r : Rp} {p : PS} (hE : EnvOk E) (h : Inv E r none p) : ∀ {s e : St} {l : List Tok} {c : Int}, Way E s l e c → e.at_ = E.s.length → ∀ x, p.f s = some x → ∃ w ∈ p.L, w.all ≤ x.cost + c := by
  intro s e l c w
  induction w with
  | nil s =>
    intro he x hx
    rcases h.done s x hx (by simp) with ⟨w, hw, h1, h2⟩ | ⟨h1, _⟩
    · obtain ⟨y, _, _, h3⟩ := h.wait w hw
      refine ⟨w, hw, ?_⟩
      rw [h3, h2, h1, he, leftAt_last]
      exact Int.le_refl _
    · exact absurd he h1
  | @cons s e t l c hs ht w ih =>
    intro he x hx
    rcases h.done s x hx (by simp) with ⟨v, hv, h1, h2⟩ | ⟨h1, h2⟩
    · obtain ⟨y, _, _, h3⟩ := h.wait v hv
      have h4 := left_way hE (Way.cons hs ht w) (h.at_ s x hx).1 he
      refine ⟨v, hv, ?_⟩
      rw [h3, h2, h1]
      omega
    · obtain ⟨y, hy, hyc⟩ := h2 t ht
      obtain ⟨v, hv, hva⟩ := ih he y hy
      exact ⟨v, hv, by omega⟩
/-- From everywhere there is a way to the end: by literals. -/
theorem lits_way (E : Env) : ∀ (n : Nat) (s : St), s.at_ + n = E.s.length → ∃ l e c, Way E s l e c ∧ e.at_ = E.s.length
  | 0, s, h => ⟨[], s, 0, .nil s, by omega⟩
  | n + 1, s, h => by
    have ht : okTok E s (litT E s.at_) := .inl rfl
    have hn : (nxt s (litT E s.at_)).at_ = s.at_ + 1 := by
      unfold nxt tokSize
      have hb := UInt8.toNat_lt (E.s.getD s.at_ 0)
      have ho : tokOk (litT E s.at_) := .inl ⟨rfl, by simp [litT], by simp only [litT]; omega, rfl, rfl, rfl⟩
      rw [if_pos ho, if_pos (show (litT E s.at_).kind = 0 from rfl)]; rfl
    obtain ⟨l, e, c, hw, he⟩ := lits_way E n (nxt s (litT E s.at_)) (by omega)
    exact ⟨_, e, _, .cons (by omega) ht hw, he⟩
theorem Inv.some_left {E : Env} {r : Rp} {p : PS} (hE : EnvOk E) (h : Inv E r none p) : p.L ≠ [] := by
  obtain ⟨x, hx, _⟩ := h.bg
  obtain ⟨l, e, c, hw, he⟩ := lits_way E (E.s.length - E.b) ⟨E.b, r⟩ (by have := hE.room; simp only; omega)
  obtain ⟨v, hv, _⟩ := h.least hE hw he x hx
  intro e; rw [e] at hv; cases hv
/-- What is taken at the end costs no more than any way there. -/
theorem Inv.top {E : Env} {r : Rp} {p : PS} (hE : EnvOk E) (h : Inv E r none p) (he : (gw p.L 0).s.at_ = E.s.length) {l : List Tok} {e : St} {c : Int} (w : Way E ⟨E.b, r⟩ l e c) (hel : e.at_ = E.s.length) : (gw p.L 0).cost ≤ c := by
  obtain ⟨x, hx, hx0⟩ := h.bg
  obtain ⟨v, hv, hva⟩ := h.least hE w hel x hx
  have h1 := heap_min h.heap hv
  have hne := h.some_left hE
  have h0 : 0 < p.L.length := List.length_pos_iff.2 hne
  obtain ⟨y, _, _, h3⟩ := h.wait (gw p.L 0) (by rw [gw_at h0]; exact List.getElem_mem _)
  rw [he, leftAt_last] at h3
  omega
end Go.Proofs.Ytndkgjoaljcijaa
