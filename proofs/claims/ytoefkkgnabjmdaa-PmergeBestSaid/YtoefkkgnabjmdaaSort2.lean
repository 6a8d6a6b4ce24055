/- The library's stable sort of packs: comparing, by walks; rows of packs in which one is set anew. -/
import Derived.Test.YtoefkkgnabjmdaaCoins
import Derived.Deep.RegionHeld3
import Derived.RegionTactic
import Derived.ChangeAlike
import Derived.BigRegion
set_option linter.unusedSimpArgs false
set_option linter.unusedVariables false
set_option maxRecDepth 100000
namespace Go.Proofs.Ytoefkkgnabjmdaa
open Go.RowKit

def cmpI (x y : Int) : Int := if x < y then -1 else if y < x then 1 else 0
theorem cmpI_lt (x y : Int) : decide (cmpI x y < 0) = decide (x < y) := by unfold cmpI; split <;> (try split) <;> simp_all <;> omega
theorem p_isNaN (x : Int) (w : World) : Calls Try.prog 99 #[.int .i64 x] w fun e w' => e = .returned (.bool false) ∧ w = w' := by
  have h : (x != x) = false := by simp
  go_enter Try.func99, Try.ntmps99
  go_wp2
  go_ret
  exact ⟨rfl, rfl⟩
theorem p_Compare (x y : Int) (w : World) : Calls Try.prog 73 #[.int .i64 x, .int .i64 y] w fun e w' => e = .returned (.int .i64 (cmpI x y)) ∧ w = w' := by
  have HC : Hid (cmpI x y = if x < y then -1 else if y < x then 1 else 0) := Lib.hid rfl
  go_enter Try.func73, Try.ntmps73
  go_wp2_with fail
  refine (p_isNaN x _).mono ?_
  rintro e w' ⟨rfl, rfl⟩
  go_wp2_with fail
  refine (p_isNaN y _).mono ?_
  rintro e w' ⟨rfl, rfl⟩
  by_cases h1 : x < y
  · have HC2 : Hid (cmpI x y = -1) := Lib.hid (by rw [HC.out, if_pos h1])
    go_wp2
    go_ret
    exact ⟨by rw [HC2.out]; rfl, rfl⟩
  · by_cases h2 : y < x
    · have HC2 : Hid (cmpI x y = 1) := Lib.hid (by rw [HC.out, if_neg h1, if_pos h2])
      go_wp2
      go_ret
      exact ⟨by rw [HC2.out]; rfl, rfl⟩
    · have HC2 : Hid (cmpI x y = 0) := Lib.hid (by rw [HC.out, if_neg h1, if_neg h2])
      go_wp2
      go_ret
      exact ⟨by rw [HC2.out]; rfl, rfl⟩
theorem p_cmp (x y : Int) (v u : Value) (w : World) : Calls Try.prog 72 #[.agg #[.int .i64 x, v], .agg #[.int .i64 y, u]] w fun e w' => e = .returned (.int .i64 (cmpI x y)) ∧ Below w.heap.size w w' := by
  go_enter Try.func72, Try.ntmps72
  go_wp2_with fail
  refine (p_Compare x y _).mono ?_
  rintro e w' ⟨rfl, rfl⟩
  go_wp2
  go_ret
  exact ⟨rfl, bl_alloc (bl_alloc (Below.refl _ _) _) _⟩
theorem enters_cmp : Enters 72 := fun _ _ => by kernel_rfl

/-- A pack is put at a place. -/
theorem pvals_set : ∀ (l : List Pe) (i : Nat) (p : Pe), pvals (l.set i p) = ((pvals l).set (i * 2) (.int .i64 p.cost)).set (i * 2 + 1) p.v
  | [], i, p => by simp [pvals]
  | t :: l, 0, p => by simp [pvals, pcells]
  | t :: l, i + 1, p => by
    have ih := pvals_set l i p
    simp only [pvals, List.set_cons_succ, List.flatMap_cons] at ih ⊢
    rw [ih, show (i + 1) * 2 = i * 2 + 1 + 1 by omega]
    simp [pcells]
theorem row_set {w : World} {base : Nat} {e : TypeId} {size n : Nat} {g o c : Nat} {xs : List Value} (h : Row w base e size (.slice (some ⟨g, o, none⟩) n c) n xs) (j : Nat) (hj : j < n * size) (u : Value) :
    Row (w.setCell ⟨g, o + j, none⟩ u) base e size (.slice (some ⟨g, o, none⟩) n c) n (xs.set j u) := by
  obtain ⟨h0, h1⟩ := h
  refine ⟨by rw [List.length_set]; exact h0, ?_⟩
  rcases h1 with ⟨h1, _⟩ | ⟨g', o', cap, cur, m, hv, k0, k1, k2, k3, k4, k5, k6⟩
  · cases h1
  · simp only [Value.slice.injEq, Option.some.injEq, Addr.mk.injEq] at hv
    obtain ⟨⟨rfl, rfl, _⟩, _, rfl⟩ := hv
    have hcc : n * size ≤ c * size := Nat.mul_le_mul_right _ k2
    refine .inr ⟨g, o, c, cur.setIfInBounds (o + j) u, m, rfl, k0, ?_, k2, k3, by simpa using k4, ?_, k6⟩
    · simp [World.setCell, Array.getElem?_modify, k1]
    · rw [← k5]
      apply List.ext_getElem?
      intro i
      simp only [Array.toList_setIfInBounds, List.getElem?_take, List.getElem?_drop, List.getElem?_set, List.length_take, List.length_drop, Array.length_toList]
      by_cases h3 : i < n * size
      · simp only [h3, if_true]
        by_cases h4 : j = i
        · subst h4
          have hj2 : j < xs.length := by rw [h0]; exact hj
          simp [h3]
          rw [if_pos (by omega), if_pos (by omega)]
        · rw [if_neg (by omega), if_neg h4]
      · simp only [h3, if_false]
        rw [if_neg (by omega)]

/-- The two cells of the pack at a place. -/
theorem PRow.at_ {w : World} {base g o n c : Nat} {l : List Pe} (h : PRow w base (.slice (some ⟨g, o, none⟩) n c) l) (i : Nat) (hi : i < l.length) :
    w.cell? ⟨g, o + i * 2, none⟩ = some (.int .i64 l[i].cost) ∧ w.cell? ⟨g, o + i * 2 + 1, none⟩ = some l[i].v ∧ w.frozen? ⟨g, o + i * 2, none⟩ = false ∧ w.frozen? ⟨g, o + i * 2 + 1, none⟩ = false := by
  have hr := Row.cells h.row (a := ⟨g, o, none⟩) (c := c) (by
    obtain ⟨_, h1⟩ := h.row
    rcases h1 with ⟨h1, _⟩ | ⟨_, _, cap, _, _, hv, _⟩
    · cases h1
    · simp only [Value.slice.injEq] at hv
      rw [hv.2.1])
  have hn : n = l.length := by
    obtain ⟨_, h1⟩ := h.row
    rcases h1 with ⟨h1, _⟩ | ⟨_, _, cap, _, _, hv, _⟩
    · cases h1
    · simp only [Value.slice.injEq] at hv
      exact hv.2.1
  subst hn
  have ea : ∀ j, (⟨g, o, none⟩ : Addr).add j = ⟨g, o + j, none⟩ := fun j => by unfold Addr.add; split <;> simp_all
  refine ⟨?_, ?_, Row.frozen h.row rfl _ (by omega), ?_⟩
  · have := hr (i * 2) _ (pvals_get l i 0 hi (by omega)); rwa [ea] at this
  · have := hr (i * 2 + 1) _ (pvals_get l i 1 hi (by omega)); rwa [ea, ← Nat.add_assoc] at this
  · have := Row.frozen h.row rfl (i * 2 + 1) (by omega); rwa [← Nat.add_assoc] at this
theorem PRow.len_ {w : World} {base g o n c : Nat} {l : List Pe} (h : PRow w base (.slice (some ⟨g, o, none⟩) n c) l) : n = l.length := by
  obtain ⟨_, h1⟩ := h.row
  rcases h1 with ⟨h1, _⟩ | ⟨_, _, cap, _, _, hv, _⟩
  · cases h1
  · simp only [Value.slice.injEq] at hv
    exact hv.2.1
theorem PRow.g_lt {w : World} {base g o n c : Nat} {l : List Pe} (h : PRow w base (.slice (some ⟨g, o, none⟩) n c) l) : base ≤ g ∧ g < w.heap.size := h.lt g rfl
theorem PRow.put {w : World} {base g o n c : Nat} {l : List Pe} (h : PRow w base (.slice (some ⟨g, o, none⟩) n c) l) (i : Nat) (hi : i < l.length) (p : Pe) (hp : RowI w base p.v p.syms) :
    PRow ((w.setCell ⟨g, o + i * 2, none⟩ (.int .i64 p.cost)).setCell ⟨g, o + i * 2 + 1, none⟩ p.v) base (.slice (some ⟨g, o, none⟩) n c) (l.set i p) := by
  obtain rfl := h.len_
  have hne : ∀ q : Pe, RowI w base q.v q.syms → q.v.ownBlock ≠ some g := fun q hq => by
    rcases row_ne hq h.row (by decide) with h1 | h1
    · rw [h1]; simp
    · exact h1
  refine ⟨?_, ?_⟩
  · have h1 := row_set h.row (i * 2) (by omega) (.int .i64 p.cost)
    have h2 := row_set h1 (i * 2 + 1) (by omega) p.v
    rw [List.length_set, pvals_set]
    rw [← Nat.add_assoc] at h2
    exact h2
  · intro q hq
    have hq' : RowI w base q.v q.syms := by
      rcases List.mem_or_eq_of_mem_set hq with h3 | rfl
      · exact h.syms q h3
      · exact hp
    exact Row.setCell (Row.setCell hq' _ (hne q hq')) _ (hne q hq')

abbrev gt (l : List Pe) (i : Nat) : Pe := l.getD i default
def swp (l : List Pe) (i j : Nat) : List Pe := (l.set i (gt l j)).set j (gt l i)
theorem swp_length (l : List Pe) (i j : Nat) : (swp l i j).length = l.length := by simp [swp]
theorem swp_comm (l : List Pe) (i j : Nat) : swp l i j = swp l j i := by
  unfold swp
  by_cases h : i = j
  · subst h; rfl
  · rw [List.set_comm _ _ h]
theorem gt_mem {l : List Pe} {i : Nat} (h : i < l.length) : gt l i ∈ l := by
  rw [gt, List.getD_eq_getElem?_getD, List.getElem?_eq_getElem h]; exact List.getElem_mem h
theorem gt_eq {l : List Pe} {i : Nat} (h : i < l.length) : gt l i = l[i] := by
  rw [gt, List.getD_eq_getElem?_getD, List.getElem?_eq_getElem h]; rfl
/-- Four cells are set: two packs change places. -/
def put4 (w : World) (g o i j : Nat) (p q : Pe) : World :=
  (((w.setCell ⟨g, o + i * 2, none⟩ (.int .i64 p.cost)).setCell ⟨g, o + i * 2 + 1, none⟩ p.v).setCell ⟨g, o + j * 2, none⟩ (.int .i64 q.cost)).setCell ⟨g, o + j * 2 + 1, none⟩ q.v
theorem PRow.swap {w : World} {base g o n c : Nat} {l : List Pe} (h : PRow w base (.slice (some ⟨g, o, none⟩) n c) l) (i j : Nat) (hi : i < l.length) (hj : j < l.length) :
    PRow (put4 w g o i j (gt l j) (gt l i)) base (.slice (some ⟨g, o, none⟩) n c) (swp l i j) := by
  have h1 := h.put i hi (gt l j) (h.syms _ (gt_mem hj))
  refine h1.put j (by rw [List.length_set]; exact hj) (gt l i) ?_
  have hq' := h.syms _ (gt_mem hi)
  have hne : (gt l i).v.ownBlock ≠ some g := by
    rcases row_ne hq' h.row (by decide) with h1 | h1
    · rw [h1]; simp
    · exact h1
  exact Row.setCell (Row.setCell hq' _ hne) _ hne
theorem put4_grown {w0 w : World} {g : Nat} (h : w0.grownBy w (some g)) (o i j : Nat) (p q : Pe) : w0.grownBy (put4 w g o i j p q) (some g) :=
  only_setCell (only_setCell (only_setCell (only_setCell h (.inl rfl) _) (.inl rfl) _) (.inl rfl) _) (.inl rfl) _
theorem put4_size (w : World) (g o i j : Nat) (p q : Pe) : (put4 w g o i j p q).heap.size = w.heap.size := by simp [put4, World.setCell]
theorem PRow.drew {w : World} {base : Nat} {v : Value} {l : List Pe} (h : PRow w base v l) : PRow w.drew base v l := ⟨h.row, h.syms⟩
theorem PRow.drewN {w : World} {base : Nat} {v : Value} {l : List Pe} (h : PRow w base v l) (k : Nat) : PRow (w.drewN k) base v l := ⟨h.row, h.syms⟩
theorem grown_below {w0 w w' : World} {r : Option Nat} (h : w0.grownBy w r) (hb : Below w.heap.size w w') : w0.grownBy w' r :=
  ⟨hb.os.trans h.os, hb.tape.trans h.tape, hb.output.trans h.output, Nat.le_trans h.size hb.size, fun i hi hne => (hb.block i (Nat.lt_of_lt_of_le hi h.size)).trans (h.block i hi hne)⟩
theorem grown_then {w0 w w' : World} {r : Option Nat} (h : w0.grownBy w r) (hb : w.grownBy w' r) : w0.grownBy w' r :=
  ⟨hb.os.trans h.os, hb.tape.trans h.tape, hb.output.trans h.output, Nat.le_trans h.size hb.size, fun i hi hne => (hb.block i (Nat.lt_of_lt_of_le hi h.size) hne).trans (h.block i hi hne)⟩
theorem grown_refl (w : World) (r : Option Nat) : w.grownBy w r := ⟨rfl, rfl, rfl, Nat.le_refl _, fun _ _ _ => rfl⟩
/-- A sort's piece of work on packs: f of the row, and nothing else. -/
def Works (w : World) (base g : Nat) (V : Value) (l : List Pe) (e : Ending) (w' : World) : Prop :=
  e = .returned (.tuple #[]) ∧ PRow w' base V l ∧ w.grownBy w' (some g)

end Go.Proofs.Ytoefkkgnabjmdaa
