/- Induced sorting: one pass over all places, abstract: the plain part. -/
set_option linter.unusedSimpArgs false
set_option linter.unusedVariables false
namespace Go.Proofs.Ytbalodhgbpagfaa

def upd {α : Type} (f : Nat → α) (i : Nat) (v : α) : Nat → α := fun x => if x = i then v else f x
theorem upd_same {α : Type} (f : Nat → α) (i : Nat) (v : α) : upd f i v i = v := if_pos rfl
theorem upd_other {α : Type} (f : Nat → α) {i x : Nat} (v : α) (h : x ≠ i) : upd f i v x = f x := if_neg h
theorem nodup_length_le : ∀ (l m : List Nat), l.Nodup → (∀ x ∈ l, x ∈ m) → l.length ≤ m.length
  | [], m, _, _ => Nat.zero_le _
  | x :: l, m, hn, hs => by
    rw [List.nodup_cons] at hn
    have hx : x ∈ m := hs x List.mem_cons_self
    have h1 := nodup_length_le l (m.erase x) hn.2 (fun y hy => by
      have hne : y ≠ x := fun e => by subst e; exact hn.1 hy
      exact (List.mem_erase_of_ne hne).2 (hs y (List.mem_cons_of_mem _ hy)))
    have h2 := List.length_erase_of_mem hx
    have h3 := List.length_pos_of_mem hx
    simp only [List.length_cons]
    omega
def seedSlot (n : Nat) (bs cap : Nat → Nat) (x : Nat) : Prop := x < n ∧ ∀ c, ¬ (bs c ≤ x ∧ x < bs c + cap c)
def liveAt (n : Nat) (bs cap at_ : Nat → Nat) (x : Nat) : Prop := (∃ c, bs c ≤ x ∧ x < at_ c) ∨ seedSlot n bs cap x
structure ScanH (n : Nat) (s : Nat → Nat) (P : Nat → Prop) (bs cap be : Nat → Nat) (out0 : Nat → Option Nat) : Prop where
  reg : ∀ c, bs c + cap c ≤ be c ∧ be c ≤ n
  dis : ∀ c c', c ≠ c' → be c ≤ bs c' ∨ be c' ≤ bs c
  lt : ∀ k, P k → k + 1 < n
  cnt : ∀ c, ∃ l : List Nat, l.Nodup ∧ l.length = cap c ∧ ∀ k, k ∈ l ↔ P k ∧ s k = c
  fwd : ∀ k, P k → (s k = s (k + 1) ∧ P (k + 1)) ∨ be (s (k + 1)) ≤ bs (s k)
  left : ∀ c x k, bs c ≤ x → x < bs c + cap c → out0 x = some (k + 1) → ¬ P k
  seed : ∀ x k, seedSlot n bs cap x → out0 x = some k → bs (s k) + cap (s k) ≤ x ∧ x < be (s k) ∧ ¬ P k
  inj : ∀ x y k, seedSlot n bs cap x → seedSlot n bs cap y → out0 x = some k → out0 y = some k → x = y
  all : ∀ k, P k → ¬ P (k + 1) → ∃ x, seedSlot n bs cap x ∧ out0 x = some (k + 1)
structure ScanI (n : Nat) (s : Nat → Nat) (P : Nat → Prop) (bs cap be : Nat → Nat) (out0 : Nat → Option Nat) (τ : Nat) (out : Nat → Option Nat) (at_ : Nat → Nat) : Prop where
  lo : ∀ c, bs c ≤ at_ c ∧ at_ c ≤ bs c + cap c
  pl : ∀ c x, bs c ≤ x → x < at_ c → ∃ k o, out x = some k ∧ P k ∧ s k = c ∧ o < τ ∧ o < x ∧ liveAt n bs cap at_ o ∧ out o = some (k + 1)
  ord : ∀ c x y, bs c ≤ x → x < y → y < at_ c → ∀ k k' o o', out x = some k → out y = some k' → liveAt n bs cap at_ o → liveAt n bs cap at_ o' → out o = some (k + 1) → out o' = some (k' + 1) → o < o'
  rest : ∀ x, (∀ c, ¬ (bs c ≤ x ∧ x < at_ c)) → out x = out0 x
  inj : ∀ x y k, liveAt n bs cap at_ x → liveAt n bs cap at_ y → out x = some k → out y = some k → x = y
  all : ∀ o k, o < τ → liveAt n bs cap at_ o → out o = some (k + 1) → P k → ∃ x, bs (s k) ≤ x ∧ x < at_ (s k) ∧ out x = some k

section
variable {n : Nat} {s : Nat → Nat} {P : Nat → Prop} {bs cap be : Nat → Nat} {out0 : Nat → Option Nat} {τ : Nat} {out : Nat → Option Nat} {at_ : Nat → Nat}
theorem ScanH.start (h : ScanH n s P bs cap be out0) : ScanI n s P bs cap be out0 0 out0 bs where
  lo c := ⟨Nat.le_refl _, by omega⟩
  pl c x h1 h2 := by omega
  ord c x y h1 h2 h3 := by omega
  rest x _ := rfl
  inj x y k hx hy e1 e2 := by
    rcases hx with ⟨c, h1, h2⟩ | hx
    · omega
    · rcases hy with ⟨c, h1, h2⟩ | hy
      · omega
      · exact h.inj x y k hx hy e1 e2
  all o k ho := by omega
theorem ScanH.noreg (h : ScanH n s P bs cap be out0) {c c' x : Nat} (h1 : bs c ≤ x) (h2 : x < be c) (h3 : bs c' ≤ x) (h4 : x < be c') : c = c' := by
  refine Classical.byContradiction fun q => ?_
  rcases h.dis c c' q with e | e <;> omega
theorem ScanI.seed_out (h : ScanH n s P bs cap be out0) (i : ScanI n s P bs cap be out0 τ out at_) {x : Nat} (hx : seedSlot n bs cap x) : out x = out0 x :=
  i.rest x (fun c q => hx.2 c ⟨q.1, by have := (i.lo c).2; omega⟩)
theorem ScanI.loc (h : ScanH n s P bs cap be out0) (i : ScanI n s P bs cap be out0 τ out at_) {x k : Nat} (hx : liveAt n bs cap at_ x) (e : out x = some k) :
    bs (s k) ≤ x ∧ x < be (s k) ∧ x < n ∧ ((P k ∧ x < at_ (s k)) ∨ (¬ P k ∧ bs (s k) + cap (s k) ≤ x ∧ seedSlot n bs cap x ∧ out0 x = some k)) := by
  rcases hx with ⟨c, h1, h2⟩ | hx
  · obtain ⟨k', o, e', hp, hs, _⟩ := i.pl c x h1 h2
    rw [e] at e'
    cases e'
    subst hs
    have := i.lo (s k)
    have := h.reg (s k)
    exact ⟨h1, by omega, by omega, .inl ⟨hp, h2⟩⟩
  · have e0 := i.seed_out h hx
    rw [e] at e0
    obtain ⟨a, b, c⟩ := h.seed x k hx e0.symm
    exact ⟨by omega, b, hx.1, .inr ⟨c, a, hx, e0.symm⟩⟩
theorem live_upd {c : Nat} (h1 : bs c ≤ at_ c) (y : Nat) : liveAt n bs cap (upd at_ c (at_ c + 1)) y ↔ liveAt n bs cap at_ y ∨ y = at_ c := by
  unfold liveAt
  constructor
  · rintro (⟨c', a, b⟩ | hy)
    · by_cases q : c' = c
      · subst q
        rw [upd_same] at b
        by_cases q2 : y = at_ c'
        · exact .inr q2
        · exact .inl (.inl ⟨c', a, by omega⟩)
      · rw [upd_other _ _ q] at b
        exact .inl (.inl ⟨c', a, b⟩)
    · exact .inl (.inr hy)
  · rintro ((⟨c', a, b⟩ | hy) | rfl)
    · refine .inl ⟨c', a, ?_⟩
      by_cases q : c' = c
      · subst q; rw [upd_same]; omega
      · rw [upd_other _ _ q]; exact b
    · exact .inr hy
    · exact .inl ⟨c, h1, by rw [upd_same]; omega⟩
/-- Nothing is placed. -/
theorem ScanI.skip (i : ScanI n s P bs cap be out0 τ out at_) (hno : ∀ k, out τ = some (k + 1) → ¬ P k) : ScanI n s P bs cap be out0 (τ + 1) out at_ where
  lo := i.lo
  pl c x h1 h2 := by
    obtain ⟨k, o, a, b, c, d, e⟩ := i.pl c x h1 h2
    exact ⟨k, o, a, b, c, by omega, e⟩
  ord := i.ord
  rest := i.rest
  inj := i.inj
  all o k ho hl e hp := by
    by_cases q : o = τ
    · subst q; exact absurd hp (hno k e)
    · exact i.all o k (by omega) hl e hp
/-- A place is given. -/
theorem ScanI.put (h : ScanH n s P bs cap be out0) (i : ScanI n s P bs cap be out0 τ out at_) (hτ : τ < n) {k : Nat} (e : out τ = some (k + 1)) (hp : P k) :
    at_ (s k) < bs (s k) + cap (s k) ∧ τ < at_ (s k) ∧ ScanI n s P bs cap be out0 (τ + 1) (upd out (at_ (s k)) (some k)) (upd at_ (s k) (at_ (s k) + 1)) := by
  have hlive : liveAt n bs cap at_ τ := by
    by_cases q : ∃ c, bs c ≤ τ ∧ τ < bs c + cap c
    · obtain ⟨c, q1, q2⟩ := q
      by_cases q3 : τ < at_ c
      · exact .inl ⟨c, q1, q3⟩
      · exfalso
        have hr := i.rest τ (fun c' q4 => by
          have r1 := h.reg c
          have r2 := h.reg c'
          have r3 := i.lo c'
          have := h.noreg (c := c) (c' := c') q1 (by omega) q4.1 (by omega)
          subst this
          omega)
        rw [e] at hr
        exact h.left c τ k q1 q2 hr.symm hp
    · exact .inr ⟨hτ, fun c q2 => q ⟨c, q2⟩⟩
  have hloc := i.loc h hlive e
  have hnot : ∀ y, bs (s k) ≤ y → y < at_ (s k) → out y ≠ some k := fun y y1 y2 ey => by
    obtain ⟨k', o, e1, _, _, e2, _, e3, e4⟩ := i.pl _ y y1 y2
    rw [ey] at e1
    cases e1
    have := i.inj o τ (k + 1) e3 hlive e4 e
    omega
  have hlo := i.lo (s k)
  have hreg := h.reg (s k)
  have hroom : at_ (s k) < bs (s k) + cap (s k) := by
    obtain ⟨l, hl1, hl2, hl3⟩ := h.cnt (s k)
    have hex : ∀ d, bs (s k) + d ≤ at_ (s k) → ∃ m : List Nat, m.Nodup ∧ m.length = d ∧ ∀ z ∈ m, (P z ∧ s z = s k) ∧ ∃ y, bs (s k) ≤ y ∧ y < bs (s k) + d ∧ out y = some z := by
      intro d
      induction d with
      | zero => intro _; exact ⟨[], by simp, rfl, fun z hz => by cases hz⟩
      | succ d ih =>
        intro hd
        obtain ⟨m, m1, m2, m3⟩ := ih (by omega)
        obtain ⟨z, o, e1, e2, e3, _⟩ := i.pl (s k) (bs (s k) + d) (by omega) (by omega)
        refine ⟨z :: m, List.nodup_cons.2 ⟨fun hz => ?_, m1⟩, by simp [m2], fun z' hz' => ?_⟩
        · obtain ⟨_, y, y1, y2, y3⟩ := m3 z hz
          have := i.inj y (bs (s k) + d) z (.inl ⟨s k, y1, by omega⟩) (.inl ⟨s k, by omega, by omega⟩) y3 e1
          omega
        · rcases List.mem_cons.1 hz' with rfl | hz'
          · exact ⟨⟨e2, e3⟩, _, by omega, by omega, e1⟩
          · obtain ⟨a, y, y1, y2, y3⟩ := m3 z' hz'
            exact ⟨a, y, y1, by omega, y3⟩
    obtain ⟨m, m1, m2, m3⟩ := hex (at_ (s k) - bs (s k)) (by omega)
    have := nodup_length_le (k :: m) l (List.nodup_cons.2 ⟨fun hz => by
      obtain ⟨_, y, y1, y2, y3⟩ := m3 k hz
      exact hnot y y1 (by omega) y3, m1⟩) (fun x hx => (hl3 x).2 (by
        rcases List.mem_cons.1 hx with rfl | hx
        · exact ⟨hp, rfl⟩
        · exact (m3 x hx).1))
    simp only [List.length_cons] at this
    omega
  have hfar : τ < at_ (s k) := by
    rcases h.fwd k hp with ⟨f1, f2⟩ | f
    · rcases hloc.2.2.2 with ⟨_, g⟩ | ⟨g, _⟩
      · rw [f1]; exact g
      · exact absurd f2 g
    · have := hloc.2.1
      omega
  have hnl : ∀ y, liveAt n bs cap at_ y → y ≠ at_ (s k) := fun y hy ey => by
    rcases hy with ⟨c, a, b⟩ | hy
    · have r1 := h.reg c
      have r3 := i.lo c
      have := h.noreg (c := c) (c' := s k) (x := y) a (by omega) (by omega) (by omega)
      subst this
      omega
    · exact hy.2 (s k) ⟨by omega, by omega⟩
  have hov : ∀ y, y ≠ at_ (s k) → upd out (at_ (s k)) (some k) y = out y := fun y hy => upd_other _ _ hy
  have hLU := fun y => live_upd (n := n) (bs := bs) (cap := cap) (at_ := at_) hlo.1 y
  have hold : ∀ c x, bs c ≤ x → x < upd at_ (s k) (at_ (s k) + 1) c → x = at_ (s k) ∧ c = s k ∨ x < at_ c := fun c x h1 h2 => by
    by_cases q : c = s k
    · subst q
      rw [upd_same] at h2
      omega
    · rw [upd_other _ _ q] at h2
      exact .inr h2
  refine ⟨hroom, hfar, ?_, ?_, ?_, ?_, ?_, ?_⟩
  · intro c
    by_cases q : c = s k
    · subst q; rw [upd_same]; omega
    · rw [upd_other _ _ q]; exact i.lo c
  · intro c x h1 h2
    rcases hold c x h1 h2 with ⟨rfl, rfl⟩ | q
    · exact ⟨k, τ, upd_same _ _ _, hp, rfl, by omega, hfar, (hLU τ).2 (.inl hlive), by rw [hov τ (by omega)]; exact e⟩
    · obtain ⟨k', o, e1, e2, e3, e4, e5, e6, e7⟩ := i.pl c x h1 q
      exact ⟨k', o, by rw [hov x (hnl x (.inl ⟨c, h1, q⟩))]; exact e1, e2, e3, by omega, e5, (hLU o).2 (.inl e6), by rw [hov o (hnl o e6)]; exact e7⟩
  · intro c x y h1 h2 h3 k1 k2 o o' ex ey ho ho' eo eo'
    have hx : x < at_ c := by
      rcases hold c y (by omega) h3 with ⟨rfl, rfl⟩ | q <;> omega
    have hxl := hnl x (.inl ⟨c, h1, hx⟩)
    rw [hov x hxl] at ex
    have hoo : liveAt n bs cap at_ o ∧ out o = some (k1 + 1) := by
      rcases (hLU o).1 ho with q | q
      · exact ⟨q, by rw [← eo, hov o (hnl o q)]⟩
      · subst q
        rw [upd_same] at eo
        have ek : k = k1 + 1 := by injection eo
        obtain ⟨kx, ox, e1, _, _, e4, e5, e6, e7⟩ := i.pl c x h1 hx
        rw [ex] at e1
        cases e1
        rw [← ek] at e7
        rcases (i.loc h e6 e7).2.2.2 with ⟨_, g⟩ | ⟨g, _⟩
        · exact absurd e7 (hnot ox (i.loc h e6 e7).1 g)
        · exact absurd hp g
    rcases hold c y (by omega) h3 with ⟨rfl, rfl⟩ | q
    · rw [upd_same] at ey
      cases ey
      have hoo' : o' = τ := by
        rcases (hLU o').1 ho' with q | q
        · rw [hov o' (hnl o' q)] at eo'
          exact i.inj _ _ _ q hlive eo' e
        · subst q
          rw [upd_same] at eo'
          have : k = k + 1 := by injection eo'
          omega
      subst hoo'
      obtain ⟨kx, ox, e1, _, _, e4, e5, e6, e7⟩ := i.pl _ x h1 hx
      rw [ex] at e1
      cases e1
      have := i.inj _ _ _ e6 hoo.1 e7 hoo.2
      omega
    · have hyl := hnl y (.inl ⟨c, by omega, q⟩)
      rw [hov y hyl] at ey
      have hoo' : liveAt n bs cap at_ o' ∧ out o' = some (k2 + 1) := by
        rcases (hLU o').1 ho' with q | q
        · exact ⟨q, by rw [← eo', hov o' (hnl o' q)]⟩
        · subst q
          rw [upd_same] at eo'
          have ek : k = k2 + 1 := by injection eo'
          obtain ⟨kx, ox, e1, _, _, e4, e5, e6, e7⟩ := i.pl c y (by omega) ‹y < at_ c›
          rw [ey] at e1
          cases e1
          rw [← ek] at e7
          rcases (i.loc h e6 e7).2.2.2 with ⟨_, g⟩ | ⟨g, _⟩
          · exact absurd e7 (hnot ox (i.loc h e6 e7).1 g)
          · exact absurd hp g
      exact i.ord c x y h1 h2 q k1 k2 o o' ex ey hoo.1 hoo'.1 hoo.2 hoo'.2
  · intro x hx
    have hxn : x ≠ at_ (s k) := fun q => hx (s k) ⟨by omega, by rw [upd_same]; omega⟩
    rw [hov x hxn]
    refine i.rest x (fun c q => hx c ⟨q.1, ?_⟩)
    by_cases q2 : c = s k
    · subst q2; rw [upd_same]; omega
    · rw [upd_other _ _ q2]; exact q.2
  · intro x y z hx hy ex ey
    rcases (hLU x).1 hx with qx | qx
    · rw [hov x (hnl x qx)] at ex
      rcases (hLU y).1 hy with qy | qy
      · rw [hov y (hnl y qy)] at ey
        exact i.inj x y z qx qy ex ey
      · subst qy
        rw [upd_same] at ey
        cases ey
        rcases (i.loc h qx ex).2.2.2 with ⟨_, g⟩ | ⟨g, _⟩
        · exact absurd ex (hnot x (i.loc h qx ex).1 g)
        · exact absurd hp g
    · subst qx
      rw [upd_same] at ex
      cases ex
      rcases (hLU y).1 hy with qy | qy
      · rw [hov y (hnl y qy)] at ey
        rcases (i.loc h qy ey).2.2.2 with ⟨_, g⟩ | ⟨g, _⟩
        · exact absurd ey (hnot y (i.loc h qy ey).1 g)
        · exact absurd hp g
      · exact qy.symm
  · intro o z ho hlo' eo hpz
    have hol : liveAt n bs cap at_ o := by
      rcases (hLU o).1 hlo' with q | q
      · exact q
      · omega
    rw [hov o (hnl o hol)] at eo
    by_cases q : o = τ
    · subst q
      rw [e] at eo
      have : z = k := by injection eo with eo; omega
      subst this
      exact ⟨at_ (s z), hlo.1, by rw [upd_same]; omega, upd_same _ _ _⟩
    · obtain ⟨x, x1, x2, x3⟩ := i.all o z (by omega) hol eo hpz
      refine ⟨x, x1, ?_, by rw [hov x (hnl x (.inl ⟨s z, x1, x2⟩))]; exact x3⟩
      by_cases q2 : s z = s k
      · rw [q2, upd_same]; rw [q2] at x2; omega
      · rw [upd_other _ _ q2]; exact x2
/-- At the end all are placed. -/
theorem ScanI.placed (h : ScanH n s P bs cap be out0) (i : ScanI n s P bs cap be out0 n out at_) : ∀ (d k : Nat), n - k ≤ d → P k → ∃ x, bs (s k) ≤ x ∧ x < at_ (s k) ∧ out x = some k
  | 0, k, hd, hp => by have := h.lt k hp; omega
  | d + 1, k, hd, hp => by
    have hk := h.lt k hp
    by_cases q : P (k + 1)
    · obtain ⟨x, x1, x2, x3⟩ := i.placed h d (k + 1) (by omega) q
      have hl : liveAt n bs cap at_ x := .inl ⟨_, x1, x2⟩
      exact i.all x k (i.loc h hl x3).2.2.1 hl x3 hp
    · obtain ⟨x, x1, x2⟩ := h.all k hp q
      exact i.all x k x1.1 (.inr x1) (by rw [i.seed_out h x1]; exact x2) hp
theorem ScanI.full (h : ScanH n s P bs cap be out0) (i : ScanI n s P bs cap be out0 n out at_) (c : Nat) : at_ c = bs c + cap c := by
  obtain ⟨l, hl1, hl2, hl3⟩ := h.cnt c
  have hlo := i.lo c
  have hmap : ∀ k ∈ l, ∃ x, bs c ≤ x ∧ x < at_ c ∧ out x = some k := fun k hk => by
    obtain ⟨hp, rfl⟩ := (hl3 k).1 hk
    exact i.placed h n k (by omega) hp
  have key : ∀ (m : List Nat), m.Nodup → (∀ k ∈ m, ∃ x, bs c ≤ x ∧ x < at_ c ∧ out x = some k) → ∃ xs : List Nat, xs.Nodup ∧ xs.length = m.length ∧ ∀ x ∈ xs, (bs c ≤ x ∧ x < at_ c) ∧ ∃ k ∈ m, out x = some k := by
    intro m
    induction m with
    | nil => intro _ _; exact ⟨[], by simp, rfl, fun x hx => by cases hx⟩
    | cons k m ih =>
      intro hn hm
      rw [List.nodup_cons] at hn
      obtain ⟨xs, a, b, c'⟩ := ih hn.2 (fun z hz => hm z (List.mem_cons_of_mem _ hz))
      obtain ⟨x, x1, x2, x3⟩ := hm k List.mem_cons_self
      refine ⟨x :: xs, List.nodup_cons.2 ⟨fun hx => ?_, a⟩, by simp [b], fun y hy => ?_⟩
      · obtain ⟨_, k', hk', e⟩ := c' x hx
        rw [x3] at e
        cases e
        exact hn.1 hk'
      · rcases List.mem_cons.1 hy with rfl | hy
        · exact ⟨⟨x1, x2⟩, k, List.mem_cons_self, x3⟩
        · obtain ⟨p, k', hk', e⟩ := c' y hy
          exact ⟨p, k', List.mem_cons_of_mem _ hk', e⟩
  obtain ⟨xs, a, b, c'⟩ := key l hl1 hmap
  have := nodup_length_le xs (List.range' (bs c) (at_ c - bs c)) a (fun x hx => by
    have := (c' x hx).1
    rw [List.mem_range'_1]
    omega)
  rw [List.length_range'] at this
  omega
/-- The order that comes about. -/
theorem ScanI.sorted (h : ScanH n s P bs cap be out0) (i : ScanI n s P bs cap be out0 τ out at_) {le : Nat → Nat → Prop}
    (a1 : ∀ x y, be (s x) ≤ bs (s y) → le x y) (a2 : ∀ x y, s x = s y → P x → ¬ P y → le x y) (a3 : ∀ x y, s x = s y → P x → P y → le (x + 1) (y + 1) → le x y)
    (a0 : ∀ x y k k', seedSlot n bs cap x → seedSlot n bs cap y → x < y → out0 x = some k → out0 y = some k' → s k = s k' → le k k') :
    ∀ (m x y k k' : Nat), y < m → x < y → liveAt n bs cap at_ x → liveAt n bs cap at_ y → out x = some k → out y = some k' → le k k'
  | 0, x, y, k, k', hm, _, _, _, _, _ => by omega
  | m + 1, x, y, k, k', hm, hxy, hx, hy, ex, ey => by
    have lx := i.loc h hx ex
    have ly := i.loc h hy ey
    by_cases q : s k = s k'
    · rcases lx.2.2.2 with ⟨px, gx⟩ | ⟨px, gx, sx, ex0⟩
      · rcases ly.2.2.2 with ⟨py, gy⟩ | ⟨py, gy, sy, ey0⟩
        · obtain ⟨k1, o, e1, _, _, e4, e5, e6, e7⟩ := i.pl _ x lx.1 gx
          rw [ex] at e1
          cases e1
          obtain ⟨k2, o', f1, _, _, f4, f5, f6, f7⟩ := i.pl _ y ly.1 gy
          rw [ey] at f1
          cases f1
          have ho := i.ord (s k) x y lx.1 hxy (by rw [q]; exact gy) k k' o o' ex ey e6 f6 e7 f7
          exact a3 k k' q px py (i.sorted h a1 a2 a3 a0 m o o' (k + 1) (k' + 1) (by omega) ho e6 f6 e7 f7)
        · exact a2 k k' q px py
      · rcases ly.2.2.2 with ⟨py, gy⟩ | ⟨py, gy, sy, ey0⟩
        · have := i.lo (s k')
          rw [q] at gx
          omega
        · exact a0 x y k k' sx sy hxy ex0 ey0 q
    · rcases h.dis _ _ q with e | e
      · exact a1 k k' e
      · have := lx.1
        have := ly.2.1
        omega
end
end Go.Proofs.Ytbalodhgbpagfaa
