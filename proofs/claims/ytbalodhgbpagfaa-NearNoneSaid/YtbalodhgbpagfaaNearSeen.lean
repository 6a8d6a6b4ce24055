/- The two walks from a place in the order of ends: what was met: the plain part. -/
import Derived.Test.YtbalodhgbpagfaaNearMeet
set_option linter.unusedSimpArgs false
set_option linter.unusedVariables false
namespace Go.Proofs.Ytbalodhgbpagfaa

def seenP (a : List Nat) (i lo hi c : Nat) (d : Nat) : Prop := ∃ p, lo ≤ p ∧ p < hi ∧ p ≠ c ∧ d ≤ i ∧ a.getD p 0 + d = i
theorem Met.congr {f : Nat → Nat} {D : Nat} {seen seen' : Nat → Prop} {b : Nat → Option Nat} (h : Met f D seen b) (hs : ∀ d, 1 ≤ d → (seen d ↔ seen' d)) : Met f D seen' b :=
  ⟨fun n d e => by obtain ⟨x, y, z, s⟩ := h.some n d e; exact ⟨x, y, z, (hs d x).1 s⟩, fun d x y s => h.all d x y ((hs d x).2 s)⟩
theorem Met.pos {f : Nat → Nat} {W i k n : Nat} {seen : Nat → Prop} {b : Nat → Option Nat} (h : Met f (min i W) seen b) (hn : k < i → n = f (i - k)) : Met f (min i W) (fun x => seen x ∨ (x ≤ i ∧ k + x = i)) (meetI b i k n (W : Nat)) := by
  unfold meetI
  by_cases h1 : (i : Int) - k < 1
  · rw [if_pos (.inl h1)]
    exact h.congr fun d hd => ⟨.inl, fun s => by
      rcases s with s | ⟨s1, s2⟩
      · exact s
      · omega⟩
  · by_cases h2 : (W : Int) < (i : Int) - k
    · rw [if_pos (.inr h2)]
      exact (h.out (d := i - k) (.inr (by omega))).congr fun d hd => by
        constructor
        · rintro (s | s)
          · exact .inl s
          · exact .inr (by omega)
        · rintro (s | s)
          · exact .inl s
          · exact .inr (by omega)
    · rw [if_neg (by omega), hn (by omega)]
      exact (h.meet (d := i - k) (by omega) (by omega)).congr fun d hd => by
        constructor
        · rintro (s | s)
          · exact .inl s
          · exact .inr (by omega)
        · rintro (s | s)
          · exact .inl s
          · exact .inr (by omega)
def fAt (t : List Nat) (i M : Nat) (d : Nat) : Nat := min M (lcpT t i (i - d))
theorem lcp_mono_down {t a : List Nat} (h : IsSA t a) {p q c : Nat} (hpq : p ≤ q) (hq : q < c) (hc : c < a.length) : lcpT t (a.getD c 0) (a.getD p 0) ≤ lcpT t (a.getD c 0) (a.getD q 0) := by
  rcases Nat.eq_or_lt_of_le hpq with rfl | hlt
  · exact Nat.le_refl _
  · have e := lcpT_between (h.lt (p := p) (q := q) hlt (by omega)) (h.lt (p := q) (q := c) hq hc)
    have g : ∀ j (hj : j < a.length), a.getD j 0 = a[j] := fun j hj => by rw [List.getD_eq_getElem?_getD, List.getElem?_eq_getElem hj]; rfl
    rw [g c hc, g p (by omega), g q (by omega), lcpT_comm t a[c] a[p], lcpT_comm t a[c] a[q], e]
    exact Nat.min_le_right _ _
theorem lcp_mono_up {t a : List Nat} (h : IsSA t a) {p q c : Nat} (hc : c < p) (hpq : p ≤ q) (hq : q < a.length) : lcpT t (a.getD c 0) (a.getD q 0) ≤ lcpT t (a.getD c 0) (a.getD p 0) := by
  rcases Nat.eq_or_lt_of_le hpq with rfl | hlt
  · exact Nat.le_refl _
  · have e := lcpT_between (h.lt (p := c) (q := p) hc (by omega)) (h.lt (p := p) (q := q) hlt hq)
    have g : ∀ j (hj : j < a.length), a.getD j 0 = a[j] := fun j hj => by rw [List.getD_eq_getElem?_getD, List.getElem?_eq_getElem hj]; rfl
    rw [g c (by omega), g p (by omega), g q hq, e]
    exact Nat.min_le_left _ _
def nDown (t a : List Nat) (c M k : Nat) : Nat := if k = c then M else min M (lcpT t (a.getD c 0) (a.getD k 0))
def nUp (t a : List Nat) (c M k : Nat) : Nat := if k = c + 1 then M else min M (lcpT t (a.getD c 0) (a.getD (k - 1) 0))
theorem nDown_step {t a : List Nat} (h : IsSA t a) {c M k : Nat} (hc : c < a.length) (hk : k ≤ c) (h0 : 0 < k) : min (nDown t a c M k) (nbT t a k) = min M (lcpT t (a.getD c 0) (a.getD (k - 1) 0)) := by
  unfold nDown nbT
  rw [if_neg (by omega : ¬ k = 0)]
  by_cases q : k = c
  · rw [if_pos q, q]
  · rw [if_neg q]
    have e := lcpT_between (h.lt (p := k - 1) (q := k) (by omega) (by omega)) (h.lt (p := k) (q := c) (by omega) hc)
    have g : ∀ j (hj : j < a.length), a.getD j 0 = a[j] := fun j hj => by rw [List.getD_eq_getElem?_getD, List.getElem?_eq_getElem hj]; rfl
    rw [g c hc, g k (by omega), g (k - 1) (by omega), lcpT_comm t a[c] a[k - 1], e, lcpT_comm t a[c] a[k], lcpT_comm t a[k] a[k - 1], Nat.min_assoc]
    congr 1
    exact Nat.min_comm _ _
theorem nUp_step {t a : List Nat} (h : IsSA t a) {c M k : Nat} (hk : c < k) (hl : k < a.length) : min (nUp t a c M k) (nbT t a k) = min M (lcpT t (a.getD c 0) (a.getD k 0)) := by
  unfold nUp nbT
  rw [if_neg (by omega : ¬ k = 0)]
  by_cases q : k = c + 1
  · rw [if_pos q, q]
    simp only [Nat.add_sub_cancel]
    rw [lcpT_comm]
  · rw [if_neg q]
    have e := lcpT_between (h.lt (p := c) (q := k - 1) (by omega) (by omega)) (h.lt (p := k - 1) (q := k) (by omega) hl)
    have g : ∀ j (hj : j < a.length), a.getD j 0 = a[j] := fun j hj => by rw [List.getD_eq_getElem?_getD, List.getElem?_eq_getElem hj]; rfl
    rw [g c (by omega), g k hl, g (k - 1) (by omega), e, lcpT_comm t a[k] a[k - 1], Nat.min_assoc]
/-- The walk down: so far. -/
structure DownI (t a : List Nat) (i c M W k : Nat) (b : Nat → Option Nat) : Prop where
  met : Met (fAt t i M) (min i W) (seenP a i k c c) b
  two : ∀ p, k ≤ p → p < c → 2 ≤ min M (lcpT t i (a.getD p 0))
theorem DownI.start (t a : List Nat) (i c M W : Nat) : DownI t a i c M W c (fun _ => none) :=
  ⟨(Met.start _ _).congr fun d _ => ⟨False.elim, fun ⟨p, h1, h2, _⟩ => by omega⟩, fun p h1 h2 => by omega⟩
theorem DownI.step {t a : List Nat} {i c M W k : Nat} {b : Nat → Option Nat} (h : DownI t a i c M W k b) (h0 : 0 < k) (hk : k ≤ c) {n : Nat} (hn : n = min M (lcpT t i (a.getD (k - 1) 0))) (h2 : 2 ≤ n) : DownI t a i c M W (k - 1) (meetI b i (a.getD (k - 1) 0) n (W : Nat)) := by
  refine ⟨(h.met.pos (k := a.getD (k - 1) 0) (n := n) (fun hlt => ?_)).congr fun d hd => ?_, fun p h1 h3 => ?_⟩
  · rw [hn, fAt, show i - (i - a.getD (k - 1) 0) = a.getD (k - 1) 0 by omega]
  · unfold seenP
    constructor
    · rintro (⟨p, a1, a2, a3, a4, a5⟩ | ⟨a1, a2⟩)
      · exact ⟨p, by omega, a2, a3, a4, a5⟩
      · exact ⟨k - 1, Nat.le_refl _, by omega, by omega, a1, a2⟩
    · rintro ⟨p, a1, a2, a3, a4, a5⟩
      by_cases q : p = k - 1
      · subst q; exact .inr ⟨a4, a5⟩
      · exact .inl ⟨p, by omega, a2, a3, a4, a5⟩
  · by_cases q : p = k - 1
    · subst q; omega
    · exact h.two p (by omega) h3
/-- The walk up: so far. -/
structure UpI (t a : List Nat) (i c M W lo k : Nat) (b : Nat → Option Nat) : Prop where
  met : Met (fAt t i M) (min i W) (seenP a i lo k c) b
  two : ∀ p, lo ≤ p → p < k → p ≠ c → 2 ≤ min M (lcpT t i (a.getD p 0))
theorem DownI.up {t a : List Nat} {i c M W k : Nat} {b : Nat → Option Nat} (h : DownI t a i c M W k b) (hk : k ≤ c) : UpI t a i c M W k (c + 1) b :=
  ⟨h.met.congr fun d _ => by
    unfold seenP
    constructor
    · rintro ⟨p, a1, a2, a3, a4⟩; exact ⟨p, a1, by omega, a3, a4⟩
    · rintro ⟨p, a1, a2, a3, a4⟩; exact ⟨p, a1, by omega, a3, a4⟩, fun p h1 h2 h3 => h.two p h1 (by omega)⟩
theorem UpI.step {t a : List Nat} {i c M W lo k : Nat} {b : Nat → Option Nat} (h : UpI t a i c M W lo k b) (hlo : lo ≤ k) (hk : c < k) {n : Nat} (hn : n = min M (lcpT t i (a.getD k 0))) (h2 : 2 ≤ n) : UpI t a i c M W lo (k + 1) (meetI b i (a.getD k 0) n (W : Nat)) := by
  refine ⟨(h.met.pos (k := a.getD k 0) (n := n) (fun hlt => ?_)).congr fun d hd => ?_, fun p h1 h3 h4 => ?_⟩
  · rw [hn, fAt, show i - (i - a.getD k 0) = a.getD k 0 by omega]
  · unfold seenP
    constructor
    · rintro (⟨p, a1, a2, a3, a4, a5⟩ | ⟨a1, a2⟩)
      · exact ⟨p, a1, by omega, a3, a4, a5⟩
      · exact ⟨k, hlo, by omega, by omega, a1, a2⟩
    · rintro ⟨p, a1, a2, a3, a4, a5⟩
      by_cases q : p = k
      · subst q; exact .inr ⟨a4, a5⟩
      · exact .inl ⟨p, a1, by omega, a3, a4, a5⟩
  · by_cases q : p = k
    · subst q; omega
    · exact h.two p h1 (by omega) h4
/-- Both walks at their end. -/
theorem UpI.done {t a : List Nat} (hs : IsSA t a) {i c M W lo hi : Nat} {b : Nat → Option Nat} (h : UpI t a i c M W lo hi b) (hc : c < a.length) (hi' : a.getD c 0 = i) (hlc : lo ≤ c) (hch : c < hi) (hhi : hi ≤ a.length)
    (h1 : lo = 0 ∨ min M (lcpT t i (a.getD (lo - 1) 0)) < 2) (h2 : hi = a.length ∨ min M (lcpT t i (a.getD hi 0)) < 2) (d : Nat) (hd : 1 ≤ d) (hdD : d ≤ min i W) : seenP a i lo hi c d ↔ 2 ≤ fAt t i M d := by
  have hil : i < t.length := by
    rw [← hi', ← hs.mem, List.getD_eq_getElem?_getD, List.getElem?_eq_getElem hc]
    exact List.getElem_mem hc
  constructor
  · rintro ⟨p, a1, a2, a3, a4, a5⟩
    have := h.two p a1 a2 a3
    rw [fAt, show i - d = a.getD p 0 by omega]
    exact this
  · intro hf
    have hk : i - d < t.length := by omega
    have hr := rank_lt hs hk
    have hg : a.getD (rankOf a (i - d)) 0 = i - d := by
      rw [List.getD_eq_getElem?_getD, List.getElem?_eq_getElem hr]
      exact rank_get hs hk
    obtain ⟨p, hp⟩ : ∃ p, p = rankOf a (i - d) := ⟨_, rfl⟩
    rw [← hp] at hr hg
    unfold fAt at hf
    rw [← hg] at hf
    refine ⟨p, ?_, ?_, ?_, by omega, by omega⟩
    · rcases Nat.lt_or_ge p lo with q | q
      · exfalso
        rcases h1 with h1 | h1
        · omega
        · have := lcp_mono_down hs (p := p) (q := lo - 1) (c := c) (by omega) (by omega) hc
          rw [hi'] at this
          omega
      · exact q
    · rcases Nat.lt_or_ge p hi with q | q
      · exact q
      · exfalso
        rcases h2 with h2 | h2
        · omega
        · have := lcp_mono_up hs (p := hi) (q := p) (c := c) hch q hr
          rw [hi'] at this
          omega
    · intro e
      rw [e, hi'] at hg
      omega
end Go.Proofs.Ytbalodhgbpagfaa
