/- Chapter 26 (best): what comes again, what is left at least, the tokens from a state, and the search: the plain part. -/
import Derived.Test.YtndkgjoaljcijaaBsHeap
import Derived.Test.YtndkgjoaljcijaaPlain23
set_option linter.unusedSimpArgs false
set_option linter.unusedVariables false
namespace Go.Proofs.Ytndkgjoaljcijaa

structure Env where
  s : List UInt8
  b : Nat
  m : List Int
  d : List Int
  win : Int
def shrN (s : List UInt8) (i k : Nat) : Nat → Nat → Nat
  | 0, n => n
  | fu + 1, n => if i + n < s.length ∧ s.getD (i + n) 0 = s.getD (k + n) 0 then shrN s i k fu (n + 1) else n
def shr (E : Env) (i : Nat) (x : Int) : Nat := if x < 1 ∨ (i : Int) < x ∨ E.win < x then 0 else shrN E.s i (i - x.toNat) 258 0
theorem shrN_spec (s : List UInt8) (i k : Nat) : ∀ (fu n : Nat), n ≤ shrN s i k fu n ∧ shrN s i k fu n ≤ n + fu ∧ (∀ j, n ≤ j → j < shrN s i k fu n → i + j < s.length ∧ s.getD (i + j) 0 = s.getD (k + j) 0) ∧ (∀ q, n ≤ q → q ≤ n + fu → (∀ j, n ≤ j → j < q → i + j < s.length ∧ s.getD (i + j) 0 = s.getD (k + j) 0) → q ≤ shrN s i k fu n)
  | 0, n => ⟨Nat.le_refl _, Nat.le_refl _, fun j h1 h2 => by simp only [shrN] at h2; omega, fun q h1 h2 _ => h2⟩
  | fu + 1, n => by
    obtain ⟨a, b, c, e⟩ := shrN_spec s i k fu (n + 1)
    unfold shrN
    split
    · rename_i hc
      refine ⟨by omega, by omega, fun j h1 h2 => ?_, fun q h1 h2 h3 => ?_⟩
      · by_cases q : j = n
        · subst q; exact hc
        · exact c j (by omega) h2
      · by_cases hq : q = n
        · omega
        · exact e q (by omega) (by omega) (fun j h4 h5 => h3 j (by omega) h5)
    · rename_i hc
      refine ⟨Nat.le_refl _, by omega, fun j h1 h2 => by omega, fun q h1 h2 h3 => ?_⟩
      exact Classical.byContradiction fun hq => hc (h3 n (Nat.le_refl _) (by omega))
theorem shr_le (E : Env) (i : Nat) (x : Int) : shr E i x ≤ 258 := by
  unfold shr
  split
  · omega
  · have := (shrN_spec E.s i (i - x.toNat) 258 0).2.1; omega
theorem shr_room (E : Env) (i : Nat) (x : Int) (h : i ≤ E.s.length) : i + shr E i x ≤ E.s.length := by
  unfold shr
  split
  · omega
  · by_cases h0 : shrN E.s i (i - x.toNat) 258 0 = 0
    · omega
    · have := ((shrN_spec E.s i (i - x.toNat) 258 0).2.2.1 (shrN E.s i (i - x.toNat) 258 0 - 1) (by omega) (by omega)).1
      omega
theorem shr_pos {E : Env} {i : Nat} {x : Int} (h : 0 < shr E i x) : 1 ≤ x ∧ x ≤ i ∧ x ≤ E.win := by
  unfold shr at h
  split at h
  · omega
  · omega
theorem shr_eq {E : Env} {i : Nat} {x : Int} {j : Nat} (h : j < shr E i x) : E.s.getD (i + j) 0 = E.s.getD (i - x.toNat + j) 0 := by
  unfold shr at h
  split at h
  · omega
  · exact ((shrN_spec E.s i (i - x.toNat) 258 0).2.2.1 j (Nat.zero_le _) h).2
theorem shr_most {E : Env} {i q : Nat} {x : Int} (h : 1 ≤ x ∧ x ≤ i ∧ x ≤ E.win) (hq : q ≤ 258) (hr : i + q ≤ E.s.length) (he : ∀ j, j < q → E.s.getD (i + j) 0 = E.s.getD (i - x.toNat + j) 0) : q ≤ shr E i x := by
  unfold shr
  rw [if_neg (by omega)]
  exact (shrN_spec E.s i (i - x.toNat) 258 0).2.2.2 q (Nat.zero_le _) (by omega) (fun j _ h2 => ⟨by omega, he j h2⟩)

/-! The tokens from a state. -/
def litT (E : Env) (i : Nat) : Tok := ⟨0, ((E.s.getD i 0).toNat : Int), 0, 0, 0⟩
def repT (n k : Nat) : Tok := ⟨2, 0, n, 0, k⟩
def copyT (n x : Nat) : Tok := ⟨1, 0, n, x, 0⟩
def downL : Nat → List Nat
  | 0 => []
  | 1 => []
  | n + 2 => (n + 2) :: downL (n + 1)
theorem mem_downL : ∀ (n k : Nat), k ∈ downL n ↔ 2 ≤ k ∧ k ≤ n
  | 0, k => by simp [downL]; omega
  | 1, k => by simp [downL]; omega
  | n + 2, k => by
    unfold downL
    rw [List.mem_cons, mem_downL (n + 1) k]
    omega
def toksR (E : Env) (st : St) (k : Nat) : List Tok := (downL (shr E st.at_ (st.r.get k))).map (fun n => repT n k)
def toksC (E : Env) (i : Nat) (x : Nat) : List Tok := (downL (shr E i x)).map (fun n => copyT n x)
def farC (E : Env) (i : Nat) : Nat := if (i : Int) ≤ E.win then i else E.win.toNat
def toks (E : Env) (st : St) : List Tok := litT E st.at_ :: ((List.range 4).flatMap (toksR E st) ++ (List.range' 1 (farC E st.at_)).flatMap (toksC E st.at_))
def okTok (E : Env) (st : St) (t : Tok) : Prop := t = litT E st.at_ ∨ (∃ n k : Nat, k < 4 ∧ 2 ≤ n ∧ n ≤ shr E st.at_ (st.r.get k) ∧ t = repT n k) ∨ ∃ n x : Nat, 2 ≤ n ∧ n ≤ shr E st.at_ x ∧ t = copyT n x
theorem mem_toks (E : Env) (st : St) (t : Tok) : t ∈ toks E st ↔ okTok E st t := by
  unfold toks okTok
  rw [List.mem_cons, List.mem_append, List.mem_flatMap, List.mem_flatMap]
  refine or_congr Iff.rfl (or_congr ⟨?_, ?_⟩ ⟨?_, ?_⟩)
  · rintro ⟨k, hk, ht⟩
    obtain ⟨n, hn, rfl⟩ := List.mem_map.1 ht
    have := (mem_downL _ _).1 hn
    exact ⟨n, k, List.mem_range.1 hk, this.1, this.2, rfl⟩
  · rintro ⟨n, k, hk, h1, h2, rfl⟩
    exact ⟨k, List.mem_range.2 hk, List.mem_map.2 ⟨n, (mem_downL _ _).2 ⟨h1, h2⟩, rfl⟩⟩
  · rintro ⟨x, hx, ht⟩
    obtain ⟨n, hn, rfl⟩ := List.mem_map.1 ht
    have := (mem_downL _ _).1 hn
    exact ⟨n, x, this.1, this.2, rfl⟩
  · rintro ⟨n, x, h1, h2, rfl⟩
    have := shr_pos (show 0 < shr E st.at_ x by omega)
    refine ⟨x, List.mem_range'_1.2 ⟨by omega, ?_⟩, List.mem_map.2 ⟨n, (mem_downL _ _).2 ⟨h1, h2⟩, rfl⟩⟩
    unfold farC
    split <;> omega
theorem okTok_ok {E : Env} {st : St} {t : Tok} (hw : E.win ≤ 67108864) (h : okTok E st t) : tokOk t := by
  rcases h with rfl | ⟨n, k, hk, h1, h2, rfl⟩ | ⟨n, x, h1, h2, rfl⟩
  · left
    have := UInt8.toNat_lt (E.s.getD st.at_ 0)
    exact ⟨rfl, by simp [litT], by simp only [litT]; omega, rfl, rfl, rfl⟩
  · have := shr_le E st.at_ (st.r.get k)
    right; right
    exact ⟨rfl, by simp [repT], by simp only [repT]; omega, rfl, rfl, by simp only [repT]; omega, by simp only [repT]; omega⟩
  · have := shr_le E st.at_ x
    have := shr_pos (show 0 < shr E st.at_ x by omega)
    right; left
    exact ⟨rfl, by simp only [copyT]; omega, by simp only [copyT]; omega, rfl, rfl, by simp only [copyT]; omega, by simp only [copyT]; omega⟩
def nxt (st : St) (t : Tok) : St := ⟨st.at_ + (tokSize t).toNat, useR st.r t⟩
theorem okTok_use {E : Env} {st : St} {t : Tok} (hw : E.win ≤ 67108864) (h : okTok E st t) : useE st.r t = 0 := by
  have ho := okTok_ok hw h
  unfold useE
  rw [if_pos]
  refine ⟨ho, fun hk => ?_⟩
  rcases h with rfl | ⟨n, k, _, h1, h2, rfl⟩ | ⟨n, x, h1, h2, rfl⟩
  · simp [litT] at hk
  · have := shr_pos (show 0 < shr E st.at_ (st.r.get k) by omega)
    simp only [repT]
    omega
  · simp [copyT] at hk
theorem okTok_size {E : Env} {st : St} {t : Tok} (hw : E.win ≤ 67108864) (h : okTok E st t) (hl : st.at_ < E.s.length) : 1 ≤ (tokSize t).toNat ∧ (tokSize t).toNat ≤ 258 ∧ st.at_ + (tokSize t).toNat ≤ E.s.length := by
  have ho := okTok_ok hw h
  unfold tokSize
  rw [if_pos ho]
  rcases h with rfl | ⟨n, k, _, h1, h2, rfl⟩ | ⟨n, x, h1, h2, rfl⟩
  · rw [if_pos (show (litT E st.at_).kind = 0 from rfl)]; omega
  · have h3 := shr_room E st.at_ (st.r.get k) (by omega)
    have h4 := shr_le E st.at_ (st.r.get k)
    rw [if_neg (by simp [repT])]
    simp only [repT]
    omega
  · have h3 := shr_room E st.at_ x (by omega)
    have h4 := shr_le E st.at_ x
    rw [if_neg (by simp [copyT])]
    simp only [copyT]
    omega

/-! What is left at least. -/
def longF (m : List Int) (k : Nat) (n : Nat) : Int := m.getD (tokSym (if k = 0 then copyT n 1 else repT n (k - 1))).toNat 0 + lenX n
def minL (d : List Int) : Int := d.foldl min (d.getD 0 0)
def cheapF (m d : List Int) (n : Nat) : Int := ((List.range' 1 4).map (fun k => longF m k n)).foldl min (longF m 0 n + minL d)
def longest (E : Env) (i : Nat) : Nat := ((List.range' 1 (farC E i)).map (fun x => shr E i (x : Nat))).foldl max 0
def bestL (E : Env) (i : Nat) (l : List Int) : Int := ((List.range' 2 (longest E (E.b + i) - 1)).map (fun k => cheapF E.m E.d k + l.getD (k - 1) 0)).foldl min (E.m.getD (E.s.getD (E.b + i) 0).toNat 0 + l.getD 0 0)
def leftsF (E : Env) (n : Nat) : Nat → List Int
  | 0 => [0]
  | k + 1 => bestL E (n - (k + 1)) (leftsF E n k) :: leftsF E n k
def leftAt (E : Env) (i : Nat) : Int := (leftsF E (E.s.length - E.b) (E.s.length - E.b)).getD i 0
theorem leftsF_length (E : Env) (n : Nat) : ∀ k, (leftsF E n k).length = k + 1
  | 0 => rfl
  | k + 1 => by simp [leftsF, leftsF_length E n k]
theorem leftsF_drop (E : Env) (n : Nat) : ∀ (j k : Nat), (leftsF E n (k + j)).drop j = leftsF E n k
  | 0, k => by simp
  | j + 1, k => by
    show (bestL E _ (leftsF E n (k + j)) :: leftsF E n (k + j)).drop (j + 1) = _
    rw [List.drop_succ_cons]
    exact leftsF_drop E n j k
theorem foldl_min_le : ∀ (l : List Int) (a : Int), l.foldl min a ≤ a ∧ ∀ x ∈ l, l.foldl min a ≤ x
  | [], a => ⟨Int.le_refl _, fun x h => by cases h⟩
  | y :: l, a => by
    obtain ⟨h1, h2⟩ := foldl_min_le l (min a y)
    rw [List.foldl_cons]
    refine ⟨by omega, fun x hx => ?_⟩
    rcases List.mem_cons.1 hx with rfl | hx
    · omega
    · exact h2 x hx
theorem le_foldl_max : ∀ (l : List Nat) (a : Nat), a ≤ l.foldl max a ∧ ∀ x ∈ l, x ≤ l.foldl max a
  | [], a => ⟨Nat.le_refl _, fun x h => by cases h⟩
  | y :: l, a => by
    obtain ⟨h1, h2⟩ := le_foldl_max l (max a y)
    rw [List.foldl_cons]
    refine ⟨by omega, fun x hx => ?_⟩
    rcases List.mem_cons.1 hx with rfl | hx
    · omega
    · exact h2 x hx
theorem foldl_min_mem : ∀ (l : List Int) (a : Int), l.foldl min a = a ∨ l.foldl min a ∈ l
  | [], a => .inl rfl
  | y :: l, a => by
    rw [List.foldl_cons]
    rcases foldl_min_mem l (min a y) with h | h
    · rw [h]
      rcases Int.le_total a y with q | q
      · left; omega
      · right; rw [Int.min_eq_right q]; simp
    · right; exact List.mem_cons_of_mem _ h
theorem minL_le {d : List Int} {x : Int} (h : x ∈ d) : minL d ≤ x := (foldl_min_le d _).2 x h
theorem shr_longest (E : Env) (i : Nat) (x : Int) : shr E i x ≤ longest E i := by
  by_cases h : 0 < shr E i x
  · have hp := shr_pos h
    refine (le_foldl_max _ 0).2 _ (List.mem_map.2 ⟨x.toNat, List.mem_range'_1.2 ⟨by omega, ?_⟩, by rw [show ((x.toNat : Nat) : Int) = x by omega]⟩)
    unfold farC
    split <;> omega
  · omega
theorem leftAt_last (E : Env) : leftAt E (E.s.length - E.b) = 0 := by
  unfold leftAt
  have h := leftsF_drop E (E.s.length - E.b) (E.s.length - E.b) 0
  rw [Nat.zero_add] at h
  rw [List.getD_eq_getElem?_getD]
  have e := List.getElem?_drop (xs := leftsF E (E.s.length - E.b) (E.s.length - E.b)) (i := E.s.length - E.b) (j := 0)
  rw [h, Nat.add_zero] at e
  rw [← e]; rfl
theorem leftAt_step (E : Env) (i : Nat) (hi : i < E.s.length - E.b) : leftAt E i = bestL E i ((leftsF E (E.s.length - E.b) (E.s.length - E.b - (i + 1)))) ∧ ∀ j, (leftsF E (E.s.length - E.b) (E.s.length - E.b - (i + 1))).getD j 0 = leftAt E (i + 1 + j) := by
  have hg : ∀ j k, k ≤ E.s.length - E.b → (leftsF E (E.s.length - E.b) (E.s.length - E.b - k)).getD j 0 = leftAt E (k + j) := fun j k hk => by
    unfold leftAt
    have h := leftsF_drop E (E.s.length - E.b) k (E.s.length - E.b - k)
    rw [show E.s.length - E.b - k + k = E.s.length - E.b by omega] at h
    rw [← h, List.getD_eq_getElem?_getD, List.getD_eq_getElem?_getD, List.getElem?_drop]
  refine ⟨?_, fun j => hg j (i + 1) (by omega)⟩
  have h0 := hg 0 i (by omega)
  rw [Nat.add_zero] at h0
  rw [← h0]
  obtain ⟨k, hk⟩ : ∃ k, E.s.length - E.b - i = k + 1 := ⟨E.s.length - E.b - i - 1, by omega⟩
  rw [hk, show E.s.length - E.b - (i + 1) = k by omega]
  show (bestL E _ (leftsF E _ k) :: leftsF E _ k).getD 0 0 = _
  rw [List.getD_cons_zero, show E.s.length - E.b - (k + 1) = i by omega]
theorem cheap_le {E : Env} {st : St} {t : Tok} (hw : E.win ≤ 67108864) (hd : E.d.length = 52) (h : okTok E st t) (hk : t.kind ≠ 0) : cheapF E.m E.d t.len.toNat ≤ cost E.m E.d t := by
  have ho := okTok_ok hw h
  rcases h with rfl | ⟨n, k, k4, h1, h2, rfl⟩ | ⟨n, x, h1, h2, rfl⟩
  · simp [litT] at hk
  · have := (foldl_min_le ((List.range' 1 4).map (fun k => longF E.m k n)) (longF E.m 0 n + minL E.d)).2 (longF E.m (k + 1) n) (List.mem_map.2 ⟨k + 1, List.mem_range'_1.2 ⟨by omega, by omega⟩, rfl⟩)
    have e : cost E.m E.d (repT n k) = longF E.m (k + 1) n := by
      unfold cost longF
      rw [if_neg (by simp [repT]), if_neg (by simp [repT]), if_neg (by omega)]
      simp [repT]
    rw [e]
    have e2 : (repT n k).len.toNat = n := by simp [repT]
    rw [e2]
    exact this
  · have h3 := (foldl_min_le ((List.range' 1 4).map (fun k => longF E.m k n)) (longF E.m 0 n + minL E.d)).1
    have e2 : (copyT n x).len.toNat = n := by simp [copyT]
    rw [e2]
    have hx := shr_pos (show 0 < shr E st.at_ x by omega)
    have hds : (distS x).toNat < E.d.length := by
      have := distS_bd x
      omega
    have h4 : minL E.d ≤ E.d.getD (distS x).toNat 0 := by
      rw [List.getD_eq_getElem?_getD, List.getElem?_eq_getElem hds]
      exact minL_le (List.getElem_mem hds)
    have h5 : 0 ≤ distX x := by unfold distX; split <;> omega
    have e : cost E.m E.d (copyT n x) = longF E.m 0 n + (E.d.getD (distS x).toNat 0 + distX x) := by
      unfold cost longF
      rw [if_neg (by simp [copyT]), if_pos (by simp [copyT]), if_pos rfl]
      have : tokSym (copyT n x) = tokSym (copyT n 1) := by
        unfold tokSym
        have o1 : tokOk (copyT n 1) := by
          rcases ho with q | q | q
          · simp [copyT] at q
          · exact .inr (.inl ⟨rfl, by simp [copyT], by simp [copyT], rfl, rfl, q.2.2.2.2.2⟩)
          · simp [copyT] at q
        rw [if_pos ho, if_pos o1]
        simp [copyT]
      rw [this]
      simp [copyT]
    have h6 : cheapF E.m E.d n ≤ longF E.m 0 n + minL E.d := h3
    rw [e]
    refine Int.le_trans h6 ?_
    omega
end Go.Proofs.Ytndkgjoaljcijaa
