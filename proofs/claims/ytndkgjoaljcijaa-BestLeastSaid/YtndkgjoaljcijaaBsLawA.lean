/- Chapter 26's laws: what they are asked of: Few and Some: by walks. -/
import Derived.Test.YtndkgjoaljcijaaBsParse
set_option linter.unusedSimpArgs false
set_option linter.unusedVariables false
set_option maxRecDepth 100000
namespace Go.Proofs.Ytndkgjoaljcijaa
open Go.RowKit

/-- A task, as a value. -/
def taskV (h b : List UInt8) (r : Rp) (s0 s1 s2 : Int) (win : Int) : Value := .agg #[.string (str h), .string (str b), .int .i64 r.a, .int .i64 r.b, .int .i64 r.c, .int .i64 r.d, .int .i64 s0, .int .i64 s1, .int .i64 s2, .int .i64 win]
def taskC (h b : List UInt8) (r : Rp) (s0 s1 s2 : Int) (win : Int) : Array Value := #[.string (str h), .string (str b), .int .i64 r.a, .int .i64 r.b, .int .i64 r.c, .int .i64 r.d, .int .i64 s0, .int .i64 s1, .int .i64 s2, .int .i64 win]
theorem p_Few (h b : List UInt8) (r : Rp) (s0 s1 s2 : Int) (win : Int) (most : Nat) (hm : most ≤ 1000000) (w : World) (lh : h.length ≤ 9223372036854775807) (lb : b.length ≤ 9223372036854775807) :
    Calls Try.prog 6 #[taskV h b r s0 s1 s2 win, .int .i64 most] w fun e w' => e = .returned (.int .i64 (if most < h.length ∨ most < b.length then 0 else 1)) ∧ Below w.heap.size w w' := by
  have hB := bl_alloc (Below.refl w.heap.size w) (.cells (taskC h b r s0 s1 s2 win) 27)
  have s1' := str_size h
  have s2' := str_size b
  unfold taskV
  unfold taskC at hB
  by_cases h1 : most < h.length
  · have HR := Lib.hid (show (if most < h.length ∨ most < b.length then (0 : Int) else 1) = 0 from if_pos (.inl h1))
    have q1 : (most : Int) < (h.length : Int) := by omega
    clear h1
    go_enter Try.func6, Try.ntmps6
    go_wp2
    go_ret
    exact ⟨rfl, hB⟩
  · by_cases h2 : most < b.length
    · have HR := Lib.hid (show (if most < h.length ∨ most < b.length then (0 : Int) else 1) = 0 from if_pos (.inr h2))
      have q1 : ¬ (most : Int) < (h.length : Int) := by omega
      have q2 : (most : Int) < (b.length : Int) := by omega
      clear h1 h2
      go_enter Try.func6, Try.ntmps6
      go_wp2
      go_ret
      exact ⟨rfl, hB⟩
    · have HR := Lib.hid (show (if most < h.length ∨ most < b.length then (0 : Int) else 1) = 1 from if_neg (by omega))
      have q1 : ¬ (most : Int) < (h.length : Int) := by omega
      have q2 : ¬ (most : Int) < (b.length : Int) := by omega
      clear h1 h2
      go_enter Try.func6, Try.ntmps6
      go_wp2
      go_ret
      exact ⟨rfl, hB⟩

/-! Some: prices of whatever numbers. -/
/-- Two rows that are made, and the prices' own place. -/
def SomeMid (w wc : World) (v5 : Value) (xs ys : List Int) : Prop := ∃ g b1 b2, v5 = .pointer (some ⟨g, 0, none⟩) ∧ Blk wc g 32 #[.slice (some ⟨b1, 0, none⟩) 401 401, .slice (some ⟨b2, 0, none⟩) 52 52] ∧ BlkI wc b1 xs ∧ BlkI wc b2 ys ∧ b1 ≠ b2 ∧ g ≠ b1 ∧ g ≠ b2 ∧ w.heap.size < g ∧ w.heap.size < b1 ∧ w.heap.size < b2 ∧ Below w.heap.size w wc ∧ Blk wc w.heap.size 32 #[.slice none 0 0, .slice none 0 0]
def someAt (q : Int) (l : List Int) (i : Nat) : Int := if 0 < l.length then l.getD (i % l.length) 0 else q
def someL (q : Int) (l : List Int) (n : Nat) : List Int := (List.range n).map (someAt q l)
theorem someL_length (q : Int) (l : List Int) (n : Nat) : (someL q l n).length = n := by simp [someL]
theorem someL_of {q : Int} {l xs : List Int} {n : Nat} (hl : xs.length = n) (h : ∀ j, j < n → xs.getD j 0 = someAt q l j) : xs = someL q l n := by
  refine List.ext_getElem (by rw [someL_length, hl]) (fun j a b => ?_)
  have := h j (by omega)
  rw [List.getD_eq_getElem?_getD, List.getElem?_eq_getElem a] at this
  simp only [Option.getD_some] at this
  rw [this]
  simp [someL]
theorem some_step {q y : Int} {l xs : List Int} {k : Nat} (hk : k < xs.length) (h : ∀ j, j < k → xs.getD j 0 = someAt q l j) (hy : y = someAt q l k) : ∀ j, j < k + 1 → (xs.set k y).getD j 0 = someAt q l j := fun j hj => by
  rw [List.getD_eq_getElem?_getD, List.getElem?_set]
  by_cases e : k = j
  · subst e
    rw [if_pos rfl, if_pos hk]
    exact hy
  · rw [if_neg e, ← List.getD_eq_getElem?_getD]
    exact h j (by omega)
def SomeDone (w : World) (m d : List Int) (e : Ending) (w' : World) : Prop := ∃ b1 b2 xs ys, xs = someL 7 m 401 ∧ ys = someL 5 d 52 ∧ e = .returned (.agg #[.slice (some ⟨b1, 0, none⟩) 401 401, .slice (some ⟨b2, 0, none⟩) 52 52]) ∧ ReadsI w' (some ⟨b1, 0, none⟩) xs ∧ ReadsI w' (some ⟨b2, 0, none⟩) ys ∧ xs.length = 401 ∧ ys.length = 52 ∧ Below w.heap.size w w'
theorem someMid1 (w : World) (xs ys : List Int) (hx : ∀ w : World, BlkI (w.alloc (.cells (ivals xs).toArray 3)) w.heap.size xs) (hy : ∀ w : World, BlkI (w.alloc (.cells (ivals ys).toArray 3)) w.heap.size ys) : SomeMid w ((((w.alloc (.cells #[.slice none 0 0, .slice none 0 0] 32)).alloc (.cells #[.slice (some ⟨w.heap.size + 1 + 1, 0, none⟩) 401 401, .slice (some ⟨w.heap.size + 1 + 1 + 1, 0, none⟩) 52 52] 32)).alloc (.cells (ivals xs).toArray 3)).alloc (.cells (ivals ys).toArray 3)).drew (.pointer (some ⟨w.heap.size + 1, 0, none⟩)) xs ys := by
  have hP := Blk.new (w.alloc (.cells #[.slice none 0 0, .slice none 0 0] 32)) 32 #[.slice (some ⟨w.heap.size + 1 + 1, 0, none⟩) 401 401, .slice (some ⟨w.heap.size + 1 + 1 + 1, 0, none⟩) 52 52]
  have hX := hx ((w.alloc (.cells #[.slice none 0 0, .slice none 0 0] 32)).alloc (.cells #[.slice (some ⟨w.heap.size + 1 + 1, 0, none⟩) 401 401, .slice (some ⟨w.heap.size + 1 + 1 + 1, 0, none⟩) 52 52] 32))
  have hY := hy (((w.alloc (.cells #[.slice none 0 0, .slice none 0 0] 32)).alloc (.cells #[.slice (some ⟨w.heap.size + 1 + 1, 0, none⟩) 401 401, .slice (some ⟨w.heap.size + 1 + 1 + 1, 0, none⟩) 52 52] 32)).alloc (.cells (ivals xs).toArray 3))
  simp only [World.size_alloc] at hP hX hY
  refine ⟨_, w.heap.size + 1 + 1, w.heap.size + 1 + 1 + 1, rfl, ((hP).alloc _).alloc _, (hX).alloc _, hY, by omega, by omega, by omega, by omega, by omega, by omega, Below.drew ?_, (((Blk.new w _ _).alloc _).alloc _).alloc _⟩
  exact bl_alloc (bl_alloc (bl_alloc (bl_alloc (Below.refl _ _) _) _) _) _
theorem someMid2 (w : World) (xs ys : List Int) (hx : ∀ w : World, BlkI (w.alloc (.cells (ivals xs).toArray 3)) w.heap.size xs) (hy : ∀ w : World, BlkI (w.alloc (.cells (ivals ys).toArray 3)) w.heap.size ys) : SomeMid w ((((w.alloc (.cells #[.slice none 0 0, .slice none 0 0] 32)).alloc (.cells #[.slice (some ⟨w.heap.size + 1 + 1 + 1, 0, none⟩) 401 401, .slice (some ⟨w.heap.size + 1 + 1, 0, none⟩) 52 52] 32)).alloc (.cells (ivals ys).toArray 3)).alloc (.cells (ivals xs).toArray 3)).drew (.pointer (some ⟨w.heap.size + 1, 0, none⟩)) xs ys := by
  have hP := Blk.new (w.alloc (.cells #[.slice none 0 0, .slice none 0 0] 32)) 32 #[.slice (some ⟨w.heap.size + 1 + 1 + 1, 0, none⟩) 401 401, .slice (some ⟨w.heap.size + 1 + 1, 0, none⟩) 52 52]
  have hX := hx (((w.alloc (.cells #[.slice none 0 0, .slice none 0 0] 32)).alloc (.cells #[.slice (some ⟨w.heap.size + 1 + 1 + 1, 0, none⟩) 401 401, .slice (some ⟨w.heap.size + 1 + 1, 0, none⟩) 52 52] 32)).alloc (.cells (ivals ys).toArray 3))
  have hY := hy ((w.alloc (.cells #[.slice none 0 0, .slice none 0 0] 32)).alloc (.cells #[.slice (some ⟨w.heap.size + 1 + 1 + 1, 0, none⟩) 401 401, .slice (some ⟨w.heap.size + 1 + 1, 0, none⟩) 52 52] 32))
  simp only [World.size_alloc] at hP hX hY
  refine ⟨_, w.heap.size + 1 + 1 + 1, w.heap.size + 1 + 1, rfl, ((hP).alloc _).alloc _, hX, (hY).alloc _, by omega, by omega, by omega, by omega, by omega, by omega, Below.drew ?_, (((Blk.new w _ _).alloc _).alloc _).alloc _⟩
  exact bl_alloc (bl_alloc (bl_alloc (bl_alloc (Below.refl _ _) _) _) _) _
theorem someMid3 (w : World) (xs ys : List Int) (hx : ∀ w : World, BlkI (w.alloc (.cells (ivals xs).toArray 3)) w.heap.size xs) (hy : ∀ w : World, BlkI (w.alloc (.cells (ivals ys).toArray 3)) w.heap.size ys) : SomeMid w ((((w.alloc (.cells #[.slice none 0 0, .slice none 0 0] 32)).alloc (.cells (ivals xs).toArray 3)).alloc (.cells (ivals ys).toArray 3)).alloc (.cells #[.slice (some ⟨w.heap.size + 1, 0, none⟩) 401 401, .slice (some ⟨w.heap.size + 1 + 1, 0, none⟩) 52 52] 32)).drew (.pointer (some ⟨w.heap.size + 1 + 1 + 1, 0, none⟩)) xs ys := by
  have hP := Blk.new (((w.alloc (.cells #[.slice none 0 0, .slice none 0 0] 32)).alloc (.cells (ivals xs).toArray 3)).alloc (.cells (ivals ys).toArray 3)) 32 #[.slice (some ⟨w.heap.size + 1, 0, none⟩) 401 401, .slice (some ⟨w.heap.size + 1 + 1, 0, none⟩) 52 52]
  have hX := hx (w.alloc (.cells #[.slice none 0 0, .slice none 0 0] 32))
  have hY := hy ((w.alloc (.cells #[.slice none 0 0, .slice none 0 0] 32)).alloc (.cells (ivals xs).toArray 3))
  simp only [World.size_alloc] at hP hX hY
  refine ⟨_, w.heap.size + 1, w.heap.size + 1 + 1, rfl, hP, ((hX).alloc _).alloc _, (hY).alloc _, by omega, by omega, by omega, by omega, by omega, by omega, Below.drew ?_, (((Blk.new w _ _).alloc _).alloc _).alloc _⟩
  exact bl_alloc (bl_alloc (bl_alloc (bl_alloc (Below.refl _ _) _) _) _) _
theorem someMid4 (w : World) (xs ys : List Int) (hx : ∀ w : World, BlkI (w.alloc (.cells (ivals xs).toArray 3)) w.heap.size xs) (hy : ∀ w : World, BlkI (w.alloc (.cells (ivals ys).toArray 3)) w.heap.size ys) : SomeMid w ((((w.alloc (.cells #[.slice none 0 0, .slice none 0 0] 32)).alloc (.cells (ivals ys).toArray 3)).alloc (.cells (ivals xs).toArray 3)).alloc (.cells #[.slice (some ⟨w.heap.size + 1 + 1, 0, none⟩) 401 401, .slice (some ⟨w.heap.size + 1, 0, none⟩) 52 52] 32)).drew (.pointer (some ⟨w.heap.size + 1 + 1 + 1, 0, none⟩)) xs ys := by
  have hP := Blk.new (((w.alloc (.cells #[.slice none 0 0, .slice none 0 0] 32)).alloc (.cells (ivals ys).toArray 3)).alloc (.cells (ivals xs).toArray 3)) 32 #[.slice (some ⟨w.heap.size + 1 + 1, 0, none⟩) 401 401, .slice (some ⟨w.heap.size + 1, 0, none⟩) 52 52]
  have hX := hx ((w.alloc (.cells #[.slice none 0 0, .slice none 0 0] 32)).alloc (.cells (ivals ys).toArray 3))
  have hY := hy (w.alloc (.cells #[.slice none 0 0, .slice none 0 0] 32))
  simp only [World.size_alloc] at hP hX hY
  refine ⟨_, w.heap.size + 1 + 1, w.heap.size + 1, rfl, hP, (hX).alloc _, ((hY).alloc _).alloc _, by omega, by omega, by omega, by omega, by omega, by omega, Below.drew ?_, (((Blk.new w _ _).alloc _).alloc _).alloc _⟩
  exact bl_alloc (bl_alloc (bl_alloc (bl_alloc (Below.refl _ _) _) _) _) _
theorem someMid5 (w : World) (xs ys : List Int) (hx : ∀ w : World, BlkI (w.alloc (.cells (ivals xs).toArray 3)) w.heap.size xs) (hy : ∀ w : World, BlkI (w.alloc (.cells (ivals ys).toArray 3)) w.heap.size ys) : SomeMid w ((((w.alloc (.cells #[.slice none 0 0, .slice none 0 0] 32)).alloc (.cells (ivals xs).toArray 3)).alloc (.cells #[.slice (some ⟨w.heap.size + 1, 0, none⟩) 401 401, .slice (some ⟨w.heap.size + 1 + 1 + 1, 0, none⟩) 52 52] 32)).alloc (.cells (ivals ys).toArray 3)).drew (.pointer (some ⟨w.heap.size + 1 + 1, 0, none⟩)) xs ys := by
  have hP := Blk.new ((w.alloc (.cells #[.slice none 0 0, .slice none 0 0] 32)).alloc (.cells (ivals xs).toArray 3)) 32 #[.slice (some ⟨w.heap.size + 1, 0, none⟩) 401 401, .slice (some ⟨w.heap.size + 1 + 1 + 1, 0, none⟩) 52 52]
  have hX := hx (w.alloc (.cells #[.slice none 0 0, .slice none 0 0] 32))
  have hY := hy (((w.alloc (.cells #[.slice none 0 0, .slice none 0 0] 32)).alloc (.cells (ivals xs).toArray 3)).alloc (.cells #[.slice (some ⟨w.heap.size + 1, 0, none⟩) 401 401, .slice (some ⟨w.heap.size + 1 + 1 + 1, 0, none⟩) 52 52] 32))
  simp only [World.size_alloc] at hP hX hY
  refine ⟨_, w.heap.size + 1, w.heap.size + 1 + 1 + 1, rfl, (hP).alloc _, ((hX).alloc _).alloc _, hY, by omega, by omega, by omega, by omega, by omega, by omega, Below.drew ?_, (((Blk.new w _ _).alloc _).alloc _).alloc _⟩
  exact bl_alloc (bl_alloc (bl_alloc (bl_alloc (Below.refl _ _) _) _) _) _
theorem someMid6 (w : World) (xs ys : List Int) (hx : ∀ w : World, BlkI (w.alloc (.cells (ivals xs).toArray 3)) w.heap.size xs) (hy : ∀ w : World, BlkI (w.alloc (.cells (ivals ys).toArray 3)) w.heap.size ys) : SomeMid w ((((w.alloc (.cells #[.slice none 0 0, .slice none 0 0] 32)).alloc (.cells (ivals ys).toArray 3)).alloc (.cells #[.slice (some ⟨w.heap.size + 1 + 1 + 1, 0, none⟩) 401 401, .slice (some ⟨w.heap.size + 1, 0, none⟩) 52 52] 32)).alloc (.cells (ivals xs).toArray 3)).drew (.pointer (some ⟨w.heap.size + 1 + 1, 0, none⟩)) xs ys := by
  have hP := Blk.new ((w.alloc (.cells #[.slice none 0 0, .slice none 0 0] 32)).alloc (.cells (ivals ys).toArray 3)) 32 #[.slice (some ⟨w.heap.size + 1 + 1 + 1, 0, none⟩) 401 401, .slice (some ⟨w.heap.size + 1, 0, none⟩) 52 52]
  have hX := hx (((w.alloc (.cells #[.slice none 0 0, .slice none 0 0] 32)).alloc (.cells (ivals ys).toArray 3)).alloc (.cells #[.slice (some ⟨w.heap.size + 1 + 1 + 1, 0, none⟩) 401 401, .slice (some ⟨w.heap.size + 1, 0, none⟩) 52 52] 32))
  have hY := hy (w.alloc (.cells #[.slice none 0 0, .slice none 0 0] 32))
  simp only [World.size_alloc] at hP hX hY
  refine ⟨_, w.heap.size + 1 + 1 + 1, w.heap.size + 1, rfl, (hP).alloc _, hX, ((hY).alloc _).alloc _, by omega, by omega, by omega, by omega, by omega, by omega, Below.drew ?_, (((Blk.new w _ _).alloc _).alloc _).alloc _⟩
  exact bl_alloc (bl_alloc (bl_alloc (bl_alloc (Below.refl _ _) _) _) _) _
/-- While the rows are filled. -/
structure SomeIn (w wr : World) (g b1 b2 : Nat) (xs ys : List Int) : Prop where
  zg : Blk wr g 32 #[.slice (some ⟨b1, 0, none⟩) 401 401, .slice (some ⟨b2, 0, none⟩) 52 52]
  z1 : BlkI wr b1 xs
  z2 : BlkI wr b2 ys
  zo : Blk wr w.heap.size 32 #[.slice none 0 0, .slice none 0 0]
  lx : xs.length = 401
  ly : ys.length = 52
  hb : Below w.heap.size w wr
theorem SomeIn.drew {w wr : World} {g b1 b2 : Nat} {xs ys : List Int} (h : SomeIn w wr g b1 b2 xs ys) : SomeIn w wr.drew g b1 b2 xs ys := ⟨h.zg, h.z1, h.z2, h.zo, h.lx, h.ly, h.hb.drew⟩
theorem SomeIn.set1 {w wr : World} {g b1 b2 : Nat} {xs ys : List Int} (h : SomeIn w wr g b1 b2 xs ys) (n : g ≠ b1 ∧ b1 ≠ b2 ∧ w.heap.size < b1) (i : Nat) (y : Int) : SomeIn w (wr.setCell ⟨b1, i, none⟩ (.int .i64 y)) g b1 b2 (xs.set i y) ys :=
  ⟨(Below.heap_setCell wr ⟨b1, i, none⟩ _ g n.1).trans h.zg, h.z1.set_ i y, h.z2.other (p := ⟨b1, i, none⟩) (by show b2 ≠ b1; omega) _, (Below.heap_setCell wr ⟨b1, i, none⟩ _ w.heap.size (by show w.heap.size ≠ b1; omega)).trans h.zo, by rw [List.length_set]; exact h.lx, h.ly, h.hb.setCell (by show w.heap.size ≤ b1; omega) _⟩
theorem SomeIn.set2 {w wr : World} {g b1 b2 : Nat} {xs ys : List Int} (h : SomeIn w wr g b1 b2 xs ys) (n : g ≠ b2 ∧ b1 ≠ b2 ∧ w.heap.size < b2) (i : Nat) (y : Int) : SomeIn w (wr.setCell ⟨b2, i, none⟩ (.int .i64 y)) g b1 b2 xs (ys.set i y) :=
  ⟨(Below.heap_setCell wr ⟨b2, i, none⟩ _ g n.1).trans h.zg, h.z1.other (p := ⟨b2, i, none⟩) (by show b1 ≠ b2; omega) _, h.z2.set_ i y, (Below.heap_setCell wr ⟨b2, i, none⟩ _ w.heap.size (by show w.heap.size ≠ b2; omega)).trans h.zo, h.lx, by rw [List.length_set]; exact h.ly, h.hb.setCell (by show w.heap.size ≤ b2; omega) _⟩
set_option maxHeartbeats 4000000 in
theorem p_Some (A B : Option Addr) (c1 c2 : Nat) (m d : List Int) (w : World) (hm : ReadsI w A m) (hd : ReadsI w B d) (l1 : m.length ≤ 9223372036854775807) (l2 : d.length ≤ 9223372036854775807) :
    Calls Try.prog 8 #[.slice A m.length c1, .slice B d.length c2] w (SomeDone w m d) := by
  have k1 := fun w => run_make_int w 401 (by omega)
  have k2 := fun w => run_make_int w 52 (by omega)
  have e1 : (List.replicate 401 (0 : Int)).length = 401 := List.length_replicate
  have e2 : (List.replicate 52 (0 : Int)).length = 52 := List.length_replicate
  have b1 := fun w => BlkI.made w 401
  have b2 := fun w => BlkI.made w 52
  rw [show ((401 : Nat) : Int) = 401 from rfl] at k1
  rw [show ((52 : Nat) : Int) = 52 from rfl] at k2
  generalize List.replicate 401 (0 : Int) = xs0 at *
  generalize List.replicate 52 (0 : Int) = ys0 at *
  have HB := Lib.hid (And.intro b1 (And.intro b2 (And.intro e1 e2)))
  clear b1 b2 e1 e2
  go_enter Try.func8, Try.ntmps8
  go_upto_region 1 with (fail)
  go_cut [5] (fun v5 wc => SomeMid w wc v5 xs0 ys0)
  case first =>
    go_region
    all_goals
      go_wp2_with fail
      go_meet
      case rel =>
        first
          | with_reducible exact someMid1 w xs0 ys0 HB.out.1 HB.out.2.1
          | with_reducible exact someMid2 w xs0 ys0 HB.out.1 HB.out.2.1
          | with_reducible exact someMid3 w xs0 ys0 HB.out.1 HB.out.2.1
          | with_reducible exact someMid4 w xs0 ys0 HB.out.1 HB.out.2.1
          | with_reducible exact someMid5 w xs0 ys0 HB.out.1 HB.out.2.1
          | with_reducible exact someMid6 w xs0 ys0 HB.out.1 HB.out.2.1
  case rest =>
    obtain ⟨g, b1, b2, rfl, zg, z1, z2, n12, ng1, ng2, lg, l1', l2', hb, zo⟩ := hcut
    generalize wc = w1 at *
    have HE := Lib.hid HB.out.2.2
    clear HB k1 k2
    go_wp2_with fail
    go_loopw [6] (fun v6 wr => ∃ (k : Nat) (xs ys : List Int), k ≤ 401 ∧ v6 = .int .i64 k ∧ SomeIn w wr g b1 b2 xs ys ∧ ∀ j, j < k → xs.getD j 0 = someAt 7 m j) (fun v6 _ => 401 - (intOf v6).toNat)
    case atStart => exact ⟨0, _, _, by omega, rfl, ⟨zg, z1, z2, zo, HE.out.1, HE.out.2, hb⟩, fun j hj => by omega⟩
    case round =>
      obtain ⟨k, xs, ys, hk, rfl, hs, hv⟩ := hrel
      have HV := Lib.hid hv
      clear hv
      by_cases hkl : k < 401
      · have cg := Blk.cell hs.zg
        have hki : (k : Int) < 401 := by omega
        have hk0 : (0 : Int) ≤ k := by omega
        have x0 := hs.z1.at_ k (by rw [hs.lx]; exact hkl)
        have f0 := Blk.frozen hs.z1 k
        generalize xs[k]'(by rw [hs.lx]; exact hkl) = x00 at x0
        have HL2 := Lib.hid hs.lx
        have h7 := hs.set1 ⟨ng1, n12, l1'⟩ k 7
        have HS7 := Lib.hid h7
        have hs' := hs
        clear h7 hs
        go_upto_region 6 with (fail)
        generalize hw7 : wr.setCell ⟨b1, k, none⟩ (.int .i64 7) = w7 at *
        have HW7 := Lib.hid hw7
        clear hw7 cg x0 f0 hs'
        have hs7 := HS7.out
        by_cases hm0 : 0 < m.length
        · have hmi : (0 : Int) < (m.length : Int) := by omega
          obtain ⟨rr, hrr⟩ : ∃ rr, rr = k % m.length := ⟨_, rfl⟩
          have hrl : rr < m.length := by rw [hrr]; exact Nat.mod_lt _ hm0
          have hrm : (k : Int).tmod (m.length : Int) = (rr : Int) := by rw [Int.tmod_eq_emod_of_nonneg (by omega), hrr]; rfl
          have hrw : IntKind.i64.wrap (rr : Int) = (rr : Int) := Go.IntWalk.i64_in _ (by omega)
          obtain ⟨ad, rfl, had, ha⟩ := (hm.below hs7.hb).at_ rr hrl
          have hzv : Hid (m[rr] = someAt 7 m k) := Lib.hid (by unfold someAt; rw [if_pos hm0, ← hrr, List.getD_eq_getElem?_getD, List.getElem?_eq_getElem hrl]; rfl)
          generalize m[rr] = z at *
          have cg := Blk.cell hs7.zg
          have x0 := hs7.z1.at_ k (by rw [hs7.lx]; exact hkl)
          have f0 := Blk.frozen hs7.z1 k
          generalize (xs.set k 7)[k]'(by rw [hs7.lx]; exact hkl) = x00 at x0
          have h8 := hs7.set1 ⟨ng1, n12, l1'⟩ k z
          have HS8 := Lib.hid h8
          have hri : (rr : Int) < (m.length : Int) := by omega
          have hr0 : (0 : Int) ≤ rr := by omega
          clear hrr h8 hs7 hrl
          go_upto_region 7 with (fail)
          go_region
          all_goals
            go_wp2_with fail
            go_roundw
            case rel => exact ⟨k + 1, _, _, by omega, by go_num, by first | exact HS8.out | exact HS8.out.drew, by rw [List.set_set]; exact some_step (by rw [HL2.out]; exact hkl) HV.out hzv.out⟩
            case measure => simp [intOf]; omega
        · have hmi : ¬ (0 : Int) < (m.length : Int) := by omega
          clear hs7
          go_wp2_with fail
          go_roundw
          case rel => exact ⟨k + 1, _, _, by omega, by go_num, HS7.out, some_step (by rw [HL2.out]; exact hkl) HV.out (by unfold someAt; rw [if_neg hm0])⟩
          case measure => simp [intOf]; omega
      · obtain rfl : k = 401 := by omega
        rw [show ((401 : Nat) : Int) = 401 from rfl]
        go_wp2_with fail
        go_loopw [7] (fun v7 wr => ∃ (k : Nat) (xs ys : List Int), k ≤ 52 ∧ v7 = .int .i64 k ∧ SomeIn w wr g b1 b2 xs ys ∧ (∀ j, j < 401 → xs.getD j 0 = someAt 7 m j) ∧ ∀ j, j < k → ys.getD j 0 = someAt 5 d j) (fun v7 _ => 52 - (intOf v7).toNat)
        case atStart => exact ⟨0, _, _, by omega, rfl, hs, HV.out, fun j hj => by omega⟩
        case round =>
          obtain ⟨k, xs, ys, hk, rfl, hs, hv1, hv⟩ := hrel
          have HV1 := Lib.hid hv1
          have HV := Lib.hid hv
          clear hv hv1
          by_cases hkl : k < 52
          · have cg := Blk.cell hs.zg
            have hki : (k : Int) < 52 := by omega
            have hk0 : (0 : Int) ≤ k := by omega
            have x0 := hs.z2.at_ k (by rw [hs.ly]; exact hkl)
            have f0 := Blk.frozen hs.z2 k
            generalize ys[k]'(by rw [hs.ly]; exact hkl) = x00 at x0
            have HL2 := Lib.hid hs.ly
            have h7 := hs.set2 ⟨ng2, n12, l2'⟩ k 5
            have HS7 := Lib.hid h7
            have hs' := hs
            clear h7 hs
            go_upto_region 12 with (fail)
            generalize hw7 : wr.setCell ⟨b2, k, none⟩ (.int .i64 5) = w7 at *
            have HW7 := Lib.hid hw7
            clear hw7 cg x0 f0 hs'
            have hs7 := HS7.out
            by_cases hm0 : 0 < d.length
            · have hmi : (0 : Int) < (d.length : Int) := by omega
              obtain ⟨rr, hrr⟩ : ∃ rr, rr = k % d.length := ⟨_, rfl⟩
              have hrl : rr < d.length := by rw [hrr]; exact Nat.mod_lt _ hm0
              have hrm : (k : Int).tmod (d.length : Int) = (rr : Int) := by rw [Int.tmod_eq_emod_of_nonneg (by omega), hrr]; rfl
              have hrw : IntKind.i64.wrap (rr : Int) = (rr : Int) := Go.IntWalk.i64_in _ (by omega)
              obtain ⟨ad, rfl, had, ha⟩ := (hd.below hs7.hb).at_ rr hrl
              have hzv : Hid (d[rr] = someAt 5 d k) := Lib.hid (by unfold someAt; rw [if_pos hm0, ← hrr, List.getD_eq_getElem?_getD, List.getElem?_eq_getElem hrl]; rfl)
              generalize d[rr] = z at *
              have cg := Blk.cell hs7.zg
              have x0 := hs7.z2.at_ k (by rw [hs7.ly]; exact hkl)
              have f0 := Blk.frozen hs7.z2 k
              generalize (ys.set k 5)[k]'(by rw [hs7.ly]; exact hkl) = x00 at x0
              have h8 := hs7.set2 ⟨ng2, n12, l2'⟩ k z
              have HS8 := Lib.hid h8
              have hri : (rr : Int) < (d.length : Int) := by omega
              have hr0 : (0 : Int) ≤ rr := by omega
              clear hrr h8 hs7 hrl
              go_upto_region 13 with (fail)
              go_region
              all_goals
                go_wp2_with fail
                go_roundw
                case rel => exact ⟨k + 1, _, _, by omega, by go_num, by first | exact HS8.out | exact HS8.out.drew, HV1.out, by rw [List.set_set]; exact some_step (by rw [HL2.out]; exact hkl) HV.out hzv.out⟩
                case measure => simp [intOf]; omega
            · have hmi : ¬ (0 : Int) < (d.length : Int) := by omega
              clear hs7
              go_wp2_with fail
              go_roundw
              case rel => exact ⟨k + 1, _, _, by omega, by go_num, HS7.out, HV1.out, some_step (by rw [HL2.out]; exact hkl) HV.out (by unfold someAt; rw [if_neg hm0])⟩
              case measure => simp [intOf]; omega
          · obtain rfl : k = 52 := by omega
            rw [show ((52 : Nat) : Int) = 52 from rfl]
            have cg := Blk.cell hs.zg
            have co := Blk.cell hs.zo
            have fo := Blk.frozen hs.zo
            have HF := Lib.hid hs
            clear hs
            go_wp2
            refine bodyPost_ret (v := .agg #[.slice (some ⟨b1, 0, none⟩) 401 401, .slice (some ⟨b2, 0, none⟩) 52 52]) ?_ rfl ⟨b1, b2, xs, ys, someL_of HF.out.lx HV1.out, someL_of HF.out.ly HV.out, rfl, ?_, ?_, HF.out.lx, HF.out.ly, ?_⟩
            · have hso : w.heap.size < wr.heap.size := HF.out.zo.lt
              simp [results, Try.results8, go_sem, co, hso]
            · exact ((HF.out.z1.other (p := ⟨w.heap.size, 0, none⟩) (by show b1 ≠ w.heap.size; omega) _).other (p := ⟨w.heap.size, 1, none⟩) (by show b1 ≠ w.heap.size; omega) _).reads
            · exact ((HF.out.z2.other (p := ⟨w.heap.size, 0, none⟩) (by show b2 ≠ w.heap.size; omega) _).other (p := ⟨w.heap.size, 1, none⟩) (by show b2 ≠ w.heap.size; omega) _).reads
            · exact (HF.out.hb.setCell (p := ⟨w.heap.size, 0, none⟩) (Nat.le_refl _) _).setCell (p := ⟨w.heap.size, 1, none⟩) (Nat.le_refl _) _
end Go.Proofs.Ytndkgjoaljcijaa
