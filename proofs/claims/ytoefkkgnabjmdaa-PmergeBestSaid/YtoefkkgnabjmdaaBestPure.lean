/- Chapter 07 (pmerge): the best of all lengths by trying all is what Lengths costs: the plain part. -/
import Derived.Test.YtoefkkgnabjmdaaPlainBest
import Derived.Test.YtoefkkgnabjmdaaOpt07
set_option linter.unusedSimpArgs false
set_option linter.unusedVariables false
namespace Go.Proofs.Ytoefkkgnabjmdaa

theorem isum_front (g : Nat → Int) : ∀ n, isum g (n + 1) = g 0 + isum (fun r => g (r + 1)) n
  | 0 => by simp [isum]
  | n + 1 => by
    have := isum_front g n
    simp only [isum] at this ⊢
    rw [this]; omega
theorem isum_rev : ∀ (n : Nat) (g : Nat → Int), isum g n = isum (fun r => g (n - 1 - r)) n
  | 0, g => rfl
  | n + 1, g => by
    rw [isum_front (fun r => g (n + 1 - 1 - r)) n]
    have h := isum_rev n g
    have e := isum_congr (f := fun r => g (n + 1 - 1 - (r + 1))) (g := fun r => g (n - 1 - r)) n (fun r hr => by
      show g _ = g _
      rw [show n + 1 - 1 - (r + 1) = n - 1 - r by omega])
    simp only [isum]
    rw [e, ← h]
    simp
    omega
theorem zcost_isum : ∀ (xs : List Int) (ls : List Nat), xs.length = ls.length → zcost xs ls = isum (fun r => xs.getD r 0 * ((ls.getD r 0 : Nat) : Int)) xs.length
  | [], ls, h => by simp [zcost, isum]
  | x :: xs, [], h => by simp at h
  | x :: xs, n :: ls, h => by
    have ih := zcost_isum xs ls (by simpa using h)
    rw [List.length_cons, isum_front]
    simp only [zcost, ih, List.getD_cons_zero, List.getD_cons_succ]
/-- What lengths take of the room. -/
def msum (limit : Nat) : List Nat → Nat
  | [] => 0
  | n :: ls => 2 ^ (limit - n) + msum limit ls
theorem sumTo_front (g : Nat → Nat) : ∀ n, sumTo g (n + 1) = g 0 + sumTo (fun r => g (r + 1)) n
  | 0 => by simp [sumTo]
  | n + 1 => by
    have := sumTo_front g n
    simp only [sumTo] at this ⊢
    omega
theorem sumTo_rev : ∀ (n : Nat) (g : Nat → Nat), sumTo g n = sumTo (fun r => g (n - 1 - r)) n
  | 0, g => rfl
  | n + 1, g => by
    rw [sumTo_front (fun r => g (n + 1 - 1 - r)) n]
    have h := sumTo_rev n g
    have e := sumTo_congr (f := fun r => g (n + 1 - 1 - (r + 1))) (g := fun r => g (n - 1 - r)) n (fun r hr => by
      show g _ = g _
      rw [show n + 1 - 1 - (r + 1) = n - 1 - r by omega])
    simp only [sumTo]
    rw [e, ← h]
    simp
    omega
theorem msum_sumTo (limit : Nat) : ∀ (ls : List Nat), msum limit ls = sumTo (fun r => 2 ^ (limit - ls.getD r 0)) ls.length
  | [] => rfl
  | n :: ls => by
    rw [List.length_cons, sumTo_front]
    simp only [msum, msum_sumTo limit ls, List.getD_cons_zero, List.getD_cons_succ]
theorem msum_perm (limit : Nat) {a b : List Nat} (p : a.Perm b) : msum limit a = msum limit b := by
  induction p with
  | nil => rfl
  | cons x _ ih => simp only [msum, ih]
  | swap x y l => simp only [msum]; omega
  | trans _ _ h1 h2 => exact h1.trans h2
theorem mono_room {limit : Nat} : ∀ {ls : List Nat} {b room : Nat}, Mono limit b room ls → msum limit ls = room ∧ ∀ n ∈ ls, n ≤ limit
  | [], b, room, h => by cases h; exact ⟨rfl, fun n hn => by cases hn⟩
  | n :: ls, b, room, h => by
    cases h with
    | cons _ _ _ _ h1 h2 h3 h4 =>
      obtain ⟨q1, q2⟩ := mono_room h4
      refine ⟨by simp only [msum, q1]; omega, fun m hm => ?_⟩
      rcases List.mem_cons.1 hm with rfl | hm
      · exact h2
      · exact q2 m hm
theorem mono_of {limit : Nat} : ∀ (ls : List Nat) (b : Nat), ls.Pairwise (· ≤ ·) → (∀ n ∈ ls, b ≤ n ∧ n ≤ limit) → Mono limit b (msum limit ls) ls
  | [], b, _, _ => .nil b
  | n :: ls, b, hs, hb => by
    have hs' := List.pairwise_cons.1 hs
    have h1 := hb n (by simp)
    refine .cons b n _ ls h1.1 h1.2 (by simp only [msum]; omega) ?_
    rw [show msum limit (n :: ls) - 2 ^ (limit - n) = msum limit ls by simp only [msum]; omega]
    exact mono_of ls n hs'.2 (fun m hm => ⟨hs'.1 m hm, (hb m (by simp [hm])).2⟩)
def insN (n : Nat) : List Nat → List Nat
  | [] => [n]
  | m :: ls => if m < n then m :: insN n ls else n :: m :: ls
theorem insN_perm (n : Nat) : ∀ ls, (insN n ls).Perm (n :: ls)
  | [] => List.Perm.refl _
  | m :: ls => by
    unfold insN
    split
    · exact ((insN_perm n ls).cons m).trans (List.Perm.swap n m ls)
    · exact List.Perm.refl _
theorem insN_srt (n : Nat) : ∀ ls : List Nat, ls.Pairwise (· ≤ ·) → (insN n ls).Pairwise (· ≤ ·)
  | [], _ => by simp [insN]
  | m :: ls, h => by
    have h' := List.pairwise_cons.1 h
    unfold insN
    split
    · refine List.pairwise_cons.2 ⟨fun z hz => ?_, insN_srt n ls h'.2⟩
      rcases List.mem_cons.1 ((insN_perm n ls).mem_iff.1 hz) with rfl | hz
      · omega
      · exact h'.1 z hz
    · refine List.pairwise_cons.2 ⟨fun z hz => ?_, h⟩
      rcases List.mem_cons.1 hz with rfl | hz
      · omega
      · have := h'.1 z hz; omega
theorem zcost_ins : ∀ (ls : List Nat) (n : Nat) (x : Int) (xs : List Int), SrtD (x :: xs) → ls.length = xs.length → zcost (x :: xs) (insN n ls) ≤ zcost (x :: xs) (n :: ls)
  | [], n, x, xs, hs, hl => Int.le_refl _
  | m :: ls, n, x, [], hs, hl => by simp at hl
  | m :: ls, n, x, y :: xs, hs, hl => by
    unfold insN
    split
    · rename_i hlt
      have hs' := List.pairwise_cons.1 hs
      have ih := zcost_ins ls n y xs hs'.2 (by simpa using hl)
      have hxy : y ≤ x := hs'.1 y (by simp)
      have hp : 0 ≤ (x - y) * ((n : Int) - (m : Int)) := Int.mul_nonneg (by omega) (by omega)
      rw [Int.sub_mul, Int.mul_sub, Int.mul_sub] at hp
      simp only [zcost] at ih ⊢
      omega
    · exact Int.le_refl _
def srtN : List Nat → List Nat
  | [] => []
  | n :: ls => insN n (srtN ls)
theorem srtN_perm : ∀ ls, (srtN ls).Perm ls
  | [] => List.Perm.refl _
  | n :: ls => (insN_perm n _).trans ((srtN_perm ls).cons n)
theorem srtN_srt : ∀ ls, (srtN ls).Pairwise (· ≤ ·)
  | [] => List.Pairwise.nil
  | n :: ls => insN_srt n _ (srtN_srt ls)
/-- Put in order, lengths cost no more where the frequencies fall. -/
theorem zcost_srt : ∀ (xs : List Int) (ls : List Nat), SrtD xs → ls.length = xs.length → zcost xs (srtN ls) ≤ zcost xs ls
  | [], [], _, _ => Int.le_refl _
  | [], n :: ls, _, h => by simp at h
  | x :: xs, [], _, h => by simp at h
  | x :: xs, n :: ls, hs, hl => by
    have hs' := List.pairwise_cons.1 hs
    have ih := zcost_srt xs ls hs'.2 (by simpa using hl)
    have h1 := zcost_ins (srtN ls) n x xs hs (by rw [(srtN_perm ls).length_eq]; simpa using hl)
    simp only [srtN]
    simp only [zcost] at h1 ⊢
    omega
/-- The least that Best finds is the least cost of lengths that fill the room: given some that cost least of all. -/
theorem leastP_eq (limit : Nat) (xs : List Int) (hpos : ∀ x ∈ xs, 0 ≤ x) (hs : SrtD xs) (L : Nat → Nat) (hb : ∀ r, r < xs.length → 1 ≤ L r ∧ L r ≤ limit)
    (hk : sumTo (fun r => 2 ^ (limit - L r)) xs.length = 2 ^ limit)
    (hmin : ∀ L' : Nat → Nat, (∀ r, r < xs.length → L' r ≤ limit) → sumTo (fun r => 2 ^ (limit - L' r)) xs.length = 2 ^ limit → isum (fun r => xs.getD r 0 * (L r : Int)) xs.length ≤ isum (fun r => xs.getD r 0 * (L' r : Int)) xs.length) :
    leastP limit xs 1 (2 ^ limit) = isum (fun r => xs.getD r 0 * (L r : Int)) xs.length := by
  obtain ⟨h1, h2⟩ := leastP_ok limit xs hpos 1 (2 ^ limit)
  have hlen : ((List.range xs.length).map L).length = xs.length := by simp
  have hget : ∀ r, r < xs.length → ((List.range xs.length).map L).getD r 0 = L r := fun r hr => by
    rw [List.getD_eq_getElem?_getD, List.getElem?_eq_getElem (by simpa using hr)]; simp
  have hM := mono_of (limit := limit) (srtN ((List.range xs.length).map L)) 1 (srtN_srt _) (fun n hn => by
    obtain ⟨r, hr, rfl⟩ := List.mem_map.1 ((srtN_perm _).mem_iff.1 hn)
    exact hb r (List.mem_range.1 hr))
  have hmk : msum limit (srtN ((List.range xs.length).map L)) = 2 ^ limit := by
    rw [msum_perm limit (srtN_perm _), msum_sumTo, hlen, ← hk]
    exact sumTo_congr _ (fun r hr => by rw [hget r hr])
  rw [hmk] at hM
  obtain ⟨p1, p2⟩ := h2 _ hM (by rw [(srtN_perm _).length_eq, hlen])
  have p3 := zcost_srt xs ((List.range xs.length).map L) hs hlen
  rw [zcost_isum xs ((List.range xs.length).map L) hlen.symm] at p3
  have e1 := isum_congr (f := fun r => xs.getD r 0 * ((((List.range xs.length).map L).getD r 0 : Nat) : Int)) (g := fun r => xs.getD r 0 * (L r : Int)) xs.length (fun r hr => by
    show _ * _ = _ * _
    rw [hget r hr])
  rw [e1] at p3
  obtain ⟨ls, m1, m2, m3⟩ := h1 p1
  obtain ⟨m4, m5⟩ := mono_room m1
  have := hmin (fun r => ls.getD r 0) (fun r hr => by
    show ls.getD r 0 ≤ limit
    rw [List.getD_eq_getElem?_getD, List.getElem?_eq_getElem (by omega)]
    exact m5 _ (List.getElem_mem _)) (by rw [← m4, msum_sumTo, m2])
  rw [← zcost_isum xs ls m2.symm, m3] at this
  omega
/-- What Best gives. -/
def bestP (f : List Int) (limit : Nat) : Int := if (fallP f).length = 1 then (fallP f).getD 0 0 else leastP limit (fallP f) 1 (2 ^ limit)

end Go.Proofs.Ytoefkkgnabjmdaa
