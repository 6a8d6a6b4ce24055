/- Chapter 07 (pmerge): the best of all lengths by trying all: the plain part. -/
import Derived.Test.YtoefkkgnabjmdaaLib
set_option linter.unusedSimpArgs false
set_option linter.unusedVariables false
set_option maxRecDepth 100000
namespace Go.Proofs.Ytoefkkgnabjmdaa

def fallAt (x : Int) (out : List Int) : Nat → Nat
  | 0 => 0
  | k + 1 => if out.getD k 0 < x then fallAt x out k else k + 1
theorem fallAt_le (x : Int) (out : List Int) : ∀ k, fallAt x out k ≤ k
  | 0 => Nat.le_refl _
  | k + 1 => by unfold fallAt; split; exact Nat.le_succ_of_le (fallAt_le x out k); exact Nat.le_refl _
def fallStep (out : List Int) (x : Int) : List Int := if x = 0 then out else out.take (fallAt x out out.length) ++ [x] ++ out.drop (fallAt x out out.length)
def fallP (f : List Int) : List Int := f.foldl fallStep []
theorem fallP_snoc (f : List Int) (x : Int) : fallP (f ++ [x]) = fallStep (fallP f) x := by unfold fallP; rw [List.foldl_append]; rfl
def leastF (limit k room : Nat) (x : Int) (g : Nat → Nat → Int) (best : Int) (n : Nat) : Int :=
  if room < 2 ^ (limit - n) ∨ 2 ^ (limit - n) * k < room ∨ room < k then best
  else if 0 ≤ g n (room - 2 ^ (limit - n)) ∧ (best < 0 ∨ g n (room - 2 ^ (limit - n)) + x * n < best) then g n (room - 2 ^ (limit - n)) + x * n else best
def leastP (limit : Nat) : List Int → Nat → Nat → Int
  | [], _, room => if room = 0 then 0 else -1
  | x :: r, b, room => (List.range' b (limit + 1 - b)).foldl (leastF limit (r.length + 1) room x (leastP limit r)) (-1)
abbrev SrtD (l : List Int) : Prop := l.Pairwise (fun x y => y ≤ x)
theorem fallAt_ok (x : Int) (out : List Int) (hs : SrtD out) : ∀ k, k ≤ out.length → (∀ j, fallAt x out k ≤ j → j < k → out.getD j 0 < x) ∧ (∀ j, j < fallAt x out k → x ≤ out.getD j 0)
  | 0, _ => ⟨fun j h1 h2 => by omega, fun j h => by simp [fallAt] at h⟩
  | k + 1, hk => by
    unfold fallAt
    by_cases h : out.getD k 0 < x
    · rw [if_pos h]
      obtain ⟨h1, h2⟩ := fallAt_ok x out hs k (by omega)
      refine ⟨fun j q1 q2 => ?_, h2⟩
      by_cases e : j = k
      · subst e; exact h
      · exact h1 j q1 (by omega)
    · rw [if_neg h]
      refine ⟨fun j q1 q2 => by omega, fun j q => ?_⟩
      by_cases e : j = k
      · subst e; omega
      · have := List.pairwise_iff_getElem.1 hs j k (by omega) (by omega) (by omega)
        simp only [List.getD_eq_getElem?_getD] at h ⊢
        rw [List.getElem?_eq_getElem (by omega)] at h
        rw [List.getElem?_eq_getElem (show j < out.length by omega)]
        simp only [Option.getD_some] at h ⊢
        omega
theorem fallStep_srt {out : List Int} {x : Int} (hs : SrtD out) : SrtD (fallStep out x) := by
  unfold fallStep
  split
  · exact hs
  · obtain ⟨h1, h2⟩ := fallAt_ok x out hs out.length (Nat.le_refl _)
    have hle := fallAt_le x out out.length
    generalize fallAt x out out.length = k at *
    have hsp : out = out.take k ++ out.drop k := (List.take_append_drop k out).symm
    have hs' := hs
    rw [hsp] at hs'
    have hp := List.pairwise_append.1 hs'
    refine List.pairwise_append.2 ⟨List.pairwise_append.2 ⟨hp.1, by simp, fun y hy z hz => ?_⟩, hp.2.1, fun y hy z hz => ?_⟩
    · rw [List.mem_singleton] at hz
      obtain ⟨j, hj, rfl⟩ := List.mem_iff_getElem.1 hy
      have := h2 j (by simp at hj; omega)
      rw [List.getD_eq_getElem?_getD, List.getElem?_eq_getElem (by simp at hj; omega)] at this
      simp only [List.getElem_take, Option.getD_some] at this ⊢
      omega
    · rcases List.mem_append.1 hy with hy | hy
      · exact hp.2.2 y hy z hz
      · rw [List.mem_singleton] at hy
        obtain ⟨j, hj, rfl⟩ := List.mem_iff_getElem.1 hz
        have := h1 (k + j) (by omega) (by simp at hj; omega)
        rw [List.getD_eq_getElem?_getD, List.getElem?_eq_getElem (by simp at hj; omega)] at this
        simp only [List.getElem_drop, Option.getD_some] at this ⊢
        omega
theorem fallP_ok : ∀ f : List Int, SrtD (fallP f) ∧ (fallP f).Perm (f.filter (fun x => x ≠ 0)) := by
  intro f
  obtain ⟨n, hn⟩ : ∃ n, n = f.length := ⟨_, rfl⟩
  induction n generalizing f with
  | zero => obtain rfl := List.length_eq_zero_iff.1 hn.symm; exact ⟨List.Pairwise.nil, List.Perm.refl _⟩
  | succ n ih =>
    obtain ⟨a, x, rfl⟩ : ∃ a x, f = a ++ [x] := ⟨f.dropLast, f.getLast (by intro h; subst h; simp at hn), (List.dropLast_concat_getLast _).symm⟩
    obtain ⟨h1, h2⟩ := ih a (by simpa using hn)
    rw [fallP_snoc]
    refine ⟨fallStep_srt h1, ?_⟩
    rw [List.filter_append]
    unfold fallStep
    by_cases hx : x = 0
    · rw [if_pos hx]; simpa [hx] using h2
    · rw [if_neg hx]
      have e : [x].filter (fun x => decide (x ≠ 0)) = [x] := by simp [hx]
      rw [e]
      generalize fallAt x (fallP a) (fallP a).length = k
      have p1 : ((fallP a).take k ++ [x] ++ (fallP a).drop k).Perm (x :: (fallP a)) := by
        have : ((fallP a).take k ++ [x] ++ (fallP a).drop k) = (fallP a).take k ++ x :: (fallP a).drop k := by simp
        rw [this]
        have q := List.perm_middle (a := x) (l₁ := (fallP a).take k) (l₂ := (fallP a).drop k)
        rwa [List.take_append_drop] at q
      exact p1.trans ((h2.cons x).trans (List.perm_append_singleton _ _).symm)
/-- Lengths that do not fall, from so many bits on, that fill the room. -/
inductive Mono (limit : Nat) : Nat → Nat → List Nat → Prop
  | nil (b : Nat) : Mono limit b 0 []
  | cons (b n room : Nat) (ls : List Nat) : b ≤ n → n ≤ limit → 2 ^ (limit - n) ≤ room → Mono limit n (room - 2 ^ (limit - n)) ls → Mono limit b room (n :: ls)
def zcost : List Int → List Nat → Int
  | x :: l, n :: ls => x * (n : Int) + zcost l ls
  | _, _ => 0
theorem mono_bd {limit : Nat} : ∀ {ls : List Nat} {b room : Nat}, Mono limit b room ls → ls.length ≤ room ∧ room ≤ 2 ^ (limit - b) * ls.length
  | [], b, room, h => by cases h; simp
  | n :: ls, b, room, h => by
    cases h with
    | cons _ _ _ _ h1 h2 h3 h4 =>
      obtain ⟨q1, q2⟩ := mono_bd h4
      have hp : 0 < 2 ^ (limit - n) := Nat.pow_pos (by decide)
      have hle : 2 ^ (limit - n) ≤ 2 ^ (limit - b) := Nat.pow_le_pow_right (by decide) (by omega)
      have hm := Nat.mul_le_mul_right ls.length hle
      simp only [List.length_cons, Nat.mul_add, Nat.mul_one]
      omega
section
variable (limit k room : Nat) (x : Int) (g : Nat → Nat → Int)
def candOk (n : Nat) : Prop := ¬ (room < 2 ^ (limit - n) ∨ 2 ^ (limit - n) * k < room ∨ room < k) ∧ 0 ≤ g n (room - 2 ^ (limit - n))
theorem leastF_lt (hx : 0 ≤ x) : ∀ (ns : List Nat) (best : Int), (∀ n, candOk limit k room g n → 0 ≤ g n (room - 2 ^ (limit - n)) + x * n) →
    (0 ≤ best → 0 ≤ ns.foldl (leastF limit k room x g) best ∧ ns.foldl (leastF limit k room x g) best ≤ best) ∧
    (∀ n ∈ ns, candOk limit k room g n → 0 ≤ ns.foldl (leastF limit k room x g) best ∧ ns.foldl (leastF limit k room x g) best ≤ g n (room - 2 ^ (limit - n)) + x * n) ∧
    (0 ≤ ns.foldl (leastF limit k room x g) best → ns.foldl (leastF limit k room x g) best = best ∨ ∃ n ∈ ns, candOk limit k room g n ∧ ns.foldl (leastF limit k room x g) best = g n (room - 2 ^ (limit - n)) + x * n)
  | [], best, _ => ⟨fun h => ⟨h, Int.le_refl _⟩, (fun n h => by cases h), fun _ => .inl rfl⟩
  | m :: ns, best, hc => by
    obtain ⟨h1, h2, h3⟩ := leastF_lt hx ns (leastF limit k room x g best m) hc
    have hstep : (leastF limit k room x g best m = best ∧ (¬ candOk limit k room g m ∨ (0 ≤ best ∧ best ≤ g m (room - 2 ^ (limit - m)) + x * m))) ∨ (candOk limit k room g m ∧ leastF limit k room x g best m = g m (room - 2 ^ (limit - m)) + x * m ∧ (best < 0 ∨ g m (room - 2 ^ (limit - m)) + x * m < best)) := by
      unfold leastF candOk
      by_cases c1 : room < 2 ^ (limit - m) ∨ 2 ^ (limit - m) * k < room ∨ room < k
      · rw [if_pos c1]; exact .inl ⟨rfl, .inl (fun h => h.1 c1)⟩
      · rw [if_neg c1]
        by_cases c2 : 0 ≤ g m (room - 2 ^ (limit - m)) ∧ (best < 0 ∨ g m (room - 2 ^ (limit - m)) + x * m < best)
        · rw [if_pos c2]; exact .inr ⟨⟨c1, c2.1⟩, rfl, c2.2⟩
        · rw [if_neg c2]
          refine .inl ⟨rfl, ?_⟩
          by_cases c3 : 0 ≤ g m (room - 2 ^ (limit - m))
          · exact .inr (by omega)
          · exact .inl (fun h => c3 h.2)
    simp only [List.foldl_cons]
    generalize leastF limit k room x g best m = b1 at *
    generalize ns.foldl (leastF limit k room x g) b1 = R at *
    refine ⟨fun hb => ?_, fun n hn hcn => ?_, fun hR => ?_⟩
    · rcases hstep with ⟨rfl, _⟩ | ⟨q1, q2, q3⟩
      · exact h1 hb
      · have := hc m q1
        have := h1 (by omega)
        omega
    · rcases List.mem_cons.1 hn with rfl | hn
      · rcases hstep with ⟨rfl, q | q⟩ | ⟨q1, q2, q3⟩
        · exact absurd hcn q
        · have := h1 q.1; omega
        · have := hc n hcn
          have := h1 (by omega)
          omega
      · exact h2 n hn hcn
    · rcases h3 hR with h | ⟨n, hn, hcn, h⟩
      · rcases hstep with ⟨rfl, _⟩ | ⟨q1, q2, q3⟩
        · exact .inl h
        · exact .inr ⟨m, by simp, q1, by omega⟩
      · exact .inr ⟨n, by simp [hn], hcn, h⟩
end
/-- What least gives is what some lengths cost, and no lengths cost less. -/
theorem leastP_ok (limit : Nat) : ∀ (l : List Int), (∀ x ∈ l, 0 ≤ x) → ∀ (b room : Nat),
    (0 ≤ leastP limit l b room → ∃ ls, Mono limit b room ls ∧ ls.length = l.length ∧ zcost l ls = leastP limit l b room) ∧
    (∀ ls, Mono limit b room ls → ls.length = l.length → 0 ≤ leastP limit l b room ∧ leastP limit l b room ≤ zcost l ls)
  | [], _, b, room => by
    refine ⟨fun h => ?_, fun ls hm hl => ?_⟩
    · unfold leastP at h ⊢
      split at h
      · rename_i h0; subst h0; exact ⟨[], .nil b, rfl, by simp [zcost]⟩
      · omega
    · obtain rfl := List.length_eq_zero_iff.1 hl
      cases hm
      simp [leastP, zcost]
  | x :: r, hx, b, room => by
    have hx0 : 0 ≤ x := hx x (by simp)
    have ih := leastP_ok limit r (fun y hy => hx y (by simp [hy]))
    have hfold := leastF_lt limit (r.length + 1) room x (leastP limit r) hx0 (List.range' b (limit + 1 - b)) (-1) (fun n hc => by
      have h1 := hc.2
      have : 0 ≤ x * (n : Int) := Int.mul_nonneg hx0 (by omega)
      omega)
    obtain ⟨_, f2, f3⟩ := hfold
    have hdef : leastP limit (x :: r) b room = (List.range' b (limit + 1 - b)).foldl (leastF limit (r.length + 1) room x (leastP limit r)) (-1) := rfl
    rw [hdef]
    refine ⟨fun h => ?_, fun ls hm hl => ?_⟩
    · rcases f3 h with e | ⟨n, hn, hc, e⟩
      · omega
      · obtain ⟨ls, m1, m2, m3⟩ := (ih n (room - 2 ^ (limit - n))).1 hc.2
        have hn' := List.mem_range'_1.1 hn
        refine ⟨n :: ls, .cons b n room ls (by omega) (by omega) (by have := hc.1; omega) m1, by simp [m2], ?_⟩
        rw [e]
        simp only [zcost, m3]
        omega
    · cases hm with
      | nil => simp at hl
      | cons _ n _ ls h1 h2 h3 h4 =>
        have hl' : ls.length = r.length := by simpa using hl
        obtain ⟨q1, q2⟩ := mono_bd h4
        have hp : 0 < 2 ^ (limit - n) := Nat.pow_pos (by decide)
        obtain ⟨c1, c2⟩ := (ih n (room - 2 ^ (limit - n))).2 ls h4 hl'
        have hc : candOk limit (r.length + 1) room (leastP limit r) n := by
          refine ⟨?_, c1⟩
          rw [hl'] at q1 q2
          rw [Nat.mul_add, Nat.mul_one]
          omega
        have := f2 n (List.mem_range'_1.2 (by omega)) hc
        simp only [zcost]
        omega

theorem fallStep_length (out : List Int) (x : Int) : (fallStep out x).length ≤ out.length + 1 := by
  unfold fallStep
  have := fallAt_le x out out.length
  split
  · omega
  · simp; omega
theorem fallP_length : ∀ f : List Int, (fallP f).length ≤ f.length := by
  intro f
  obtain ⟨n, hn⟩ : ∃ n, n = f.length := ⟨_, rfl⟩
  induction n generalizing f with
  | zero => obtain rfl := List.length_eq_zero_iff.1 hn.symm; simp [fallP]
  | succ n ih =>
    obtain ⟨a, x, rfl⟩ : ∃ a x, f = a ++ [x] := ⟨f.dropLast, f.getLast (by intro h; subst h; simp at hn), (List.dropLast_concat_getLast _).symm⟩
    have := ih a (by simpa using hn)
    have h2 := fallStep_length (fallP a) x
    rw [fallP_snoc]
    simp
    omega

end Go.Proofs.Ytoefkkgnabjmdaa
