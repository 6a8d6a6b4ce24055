/- Chapter 17 (reps): what the program's and the reference's functions give, by walks. -/
import Derived.Test.YtndkgjoaljcijaaTok
import Derived.Laws.CopyOwn
import Derived.Deep.RegionLaw
import Derived.Deep.RegionHeld3
set_option linter.unusedSimpArgs false
set_option linter.unusedVariables false
namespace Go.Proofs.Ytndkgjoaljcijaa
open Go.RowKit

/-- Four distances. -/
structure Rp where
  a : Int
  b : Int
  c : Int
  d : Int
deriving DecidableEq
def rpV (r : Rp) : Value := .agg #[.int .i64 r.a, .int .i64 r.b, .int .i64 r.c, .int .i64 r.d]
def Rp.get (r : Rp) (i : Int) : Int := if i = 0 then r.a else if i = 1 then r.b else if i = 2 then r.c else r.d
/-- A distance that stood at a place comes first. -/
def rpAhead (r : Rp) (x : Int) (i : Int) : Rp := if i = 0 then ⟨x, r.b, r.c, r.d⟩ else if i = 1 then ⟨x, r.a, r.c, r.d⟩ else if i = 2 then ⟨x, r.a, r.b, r.d⟩ else ⟨x, r.a, r.b, r.c⟩
def rpFind (r : Rp) (x : Int) : Int := if r.a = x then 0 else if r.b = x then 1 else if r.c = x then 2 else if r.d = x then 3 else -1
/-- May the token be used behind these distances? -/
def useOk (r : Rp) (t : Tok) : Prop := tokOk t ∧ (t.kind = 2 → 1 ≤ r.get t.rep ∧ r.get t.rep ≤ 67108864)
instance (r : Rp) (t : Tok) : Decidable (useOk r t) := inferInstanceAs (Decidable (_ ∧ _))
def useR (r : Rp) (t : Tok) : Rp := if useOk r t then (if t.kind = 0 then r else if t.kind = 1 then rpAhead r t.dist 3 else rpAhead r (r.get t.rep) t.rep) else ⟨0, 0, 0, 0⟩
def useD (r : Rp) (t : Tok) : Int := if useOk r t then (if t.kind = 0 then 0 else if t.kind = 1 then t.dist else r.get t.rep) else 0
def useE (r : Rp) (t : Tok) : Int := if useOk r t then 0 else 10

theorem heap_cell {w : World} {g : Nat} {cs : Array Value} {t : TypeId} (h : w.heap[g]? = some (.cells cs t (0, 0))) (i : Nat) : w.cell? ⟨g, i, none⟩ = cs[i]? := cell_of_row w g i cs t (0, 0) h
theorem heap_frozen {w : World} {g : Nat} {cs : Array Value} {t : TypeId} (h : w.heap[g]? = some (.cells cs t (0, 0))) (i : Nat) : w.frozen? ⟨g, i, none⟩ = false := by simp [World.frozen?, h]


theorem info_int_size : (Try.prog.info? 3).map (·.size) = some 1 := by kernel_rfl
theorem heap3 (w : World) (A B C : Obj) : (((w.alloc A).alloc B).alloc C).drew.heap[w.heap.size + 1 + 1]? = some C := by
  show (((w.alloc A).alloc B).alloc C).heap[w.heap.size + 1 + 1]? = some C
  have := heap_alloc_new ((w.alloc A).alloc B) C
  simpa using this
theorem heap1 (w : World) (A B C : Obj) : (((w.alloc A).alloc B).alloc C).drew.heap[w.heap.size]? = some A := by
  show (((w.alloc A).alloc B).alloc C).heap[w.heap.size]? = some A
  rw [Below.heap_alloc _ _ _ (by simp; omega), Below.heap_alloc _ _ _ (by simp), heap_alloc_new]
theorem src_of {W : World} {g : Nat} {cur : List Value} {t : TypeId} (h : W.heap[g]? = some (.cells cur.toArray t (0, 0))) (n : Nat) :
    ∀ j v, (cur.take n)[j]? = some v → W.cell? ((⟨g, 0, none⟩ : Addr).add j) = some v := by
  intro j v hv
  have e : (⟨g, 0, none⟩ : Addr).add j = ⟨g, j, none⟩ := by unfold Addr.add; split <;> simp_all
  rw [e, heap_cell h j]
  rw [List.getElem?_take] at hv
  split at hv
  · simpa using hv
  · cases hv


set_option maxHeartbeats 1000000 in
theorem p_ahead0 (a b c d x : Int) (w : World) :
    Calls Try.prog 56 #[.agg #[.int .i64 a, .int .i64 b, .int .i64 c, .int .i64 d], .int .i64 x, .int .i64 0] w fun e w' => e = .returned (.agg #[.int .i64 x, .int .i64 b, .int .i64 c, .int .i64 d]) ∧ Below w.heap.size w w' := by
  have hw : IntKind.i64.wrap 1 = 1 := by decide
  go_enter Try.func56, Try.ntmps56
  go_wp2_with fail
  go_region_law ((refine step_copy_splice rfl (.tmp 11) (.tmp 13) 28 28 rfl 3 Try.underlying28 info_int_size (some ⟨w.heap.size + 1 + 1, 1, none⟩) (some ⟨w.heap.size, 0, none⟩) 0 3 0 4 rfl rfl (w.heap.size + 1 + 1) 1 [.int .i64 a, .int .i64 b, .int .i64 c, .int .i64 d] 23 (heap3 _ _ _ _) [] rfl (fun _ => ⟨rfl, _, rfl, src_of (cur := [.int .i64 a, .int .i64 b, .int .i64 c, .int .i64 d]) (heap1 _ _ _ _) 0⟩) (by simp) (by simp [Value.oneCell']) (w.heap.size + 1 + 1) _ (Below.refl _ _) (Nat.le_refl _) ?_; intro w1 hg1 hb1))
  have hcell := heap_cell hg1.out
  have hfro := heap_frozen hg1.out
  have hz1 : w.heap.size + 1 + 1 < w1.heap.size := by have := hb1.size; simp at this; omega
  obtain ⟨hc1, hf1⟩ := bcell hb1
  have HB := Lib.hid hb1
  clear hb1 hg1
  simp only [splice, List.take, List.drop, List.append, List.length, List.nil_append, List.cons_append, List.singleton_append] at hcell
  go_wp2
  refine bodyPost_ret (v := .agg #[.int .i64 x, .int .i64 b, .int .i64 c, .int .i64 d]) (by simp [results, Try.results56, go_sem, hcell, hc1]) rfl ⟨rfl, ?_⟩
  have hB : Below w.heap.size w w1 := Below.trans (Below.drew (bl_alloc (bl_alloc (bl_alloc (Below.refl _ _) _) _) _)) (HB.out.mono (by omega))
  repeat (first | with_reducible exact hB | refine Below.setCell ?_ (by first | omega | (simp; done) | (simp; omega)) _)

set_option maxHeartbeats 1000000 in
theorem p_ahead1 (a b c d x : Int) (w : World) :
    Calls Try.prog 56 #[.agg #[.int .i64 a, .int .i64 b, .int .i64 c, .int .i64 d], .int .i64 x, .int .i64 1] w fun e w' => e = .returned (.agg #[.int .i64 x, .int .i64 a, .int .i64 c, .int .i64 d]) ∧ Below w.heap.size w w' := by
  have hw : IntKind.i64.wrap 2 = 2 := by decide
  go_enter Try.func56, Try.ntmps56
  go_wp2_with fail
  go_region_law ((refine step_copy_splice rfl (.tmp 11) (.tmp 13) 28 28 rfl 3 Try.underlying28 info_int_size (some ⟨w.heap.size + 1 + 1, 1, none⟩) (some ⟨w.heap.size, 0, none⟩) 1 3 1 4 rfl rfl (w.heap.size + 1 + 1) 1 [.int .i64 a, .int .i64 b, .int .i64 c, .int .i64 d] 23 (heap3 _ _ _ _) [.int .i64 a] rfl (fun _ => ⟨rfl, _, rfl, src_of (cur := [.int .i64 a, .int .i64 b, .int .i64 c, .int .i64 d]) (heap1 _ _ _ _) 1⟩) (by simp) (by simp [Value.oneCell']) (w.heap.size + 1 + 1) _ (Below.refl _ _) (Nat.le_refl _) ?_; intro w1 hg1 hb1))
  have hcell := heap_cell hg1.out
  have hfro := heap_frozen hg1.out
  have hz1 : w.heap.size + 1 + 1 < w1.heap.size := by have := hb1.size; simp at this; omega
  obtain ⟨hc1, hf1⟩ := bcell hb1
  have HB := Lib.hid hb1
  clear hb1 hg1
  simp only [splice, List.take, List.drop, List.append, List.length, List.nil_append, List.cons_append, List.singleton_append] at hcell
  go_wp2
  refine bodyPost_ret (v := .agg #[.int .i64 x, .int .i64 a, .int .i64 c, .int .i64 d]) (by simp [results, Try.results56, go_sem, hcell, hc1]) rfl ⟨rfl, ?_⟩
  have hB : Below w.heap.size w w1 := Below.trans (Below.drew (bl_alloc (bl_alloc (bl_alloc (Below.refl _ _) _) _) _)) (HB.out.mono (by omega))
  repeat (first | with_reducible exact hB | refine Below.setCell ?_ (by first | omega | (simp; done) | (simp; omega)) _)

set_option maxHeartbeats 1000000 in
theorem p_ahead2 (a b c d x : Int) (w : World) :
    Calls Try.prog 56 #[.agg #[.int .i64 a, .int .i64 b, .int .i64 c, .int .i64 d], .int .i64 x, .int .i64 2] w fun e w' => e = .returned (.agg #[.int .i64 x, .int .i64 a, .int .i64 b, .int .i64 d]) ∧ Below w.heap.size w w' := by
  have hw : IntKind.i64.wrap 3 = 3 := by decide
  go_enter Try.func56, Try.ntmps56
  go_wp2_with fail
  go_region_law ((refine step_copy_splice rfl (.tmp 11) (.tmp 13) 28 28 rfl 3 Try.underlying28 info_int_size (some ⟨w.heap.size + 1 + 1, 1, none⟩) (some ⟨w.heap.size, 0, none⟩) 2 3 2 4 rfl rfl (w.heap.size + 1 + 1) 1 [.int .i64 a, .int .i64 b, .int .i64 c, .int .i64 d] 23 (heap3 _ _ _ _) [.int .i64 a, .int .i64 b] rfl (fun _ => ⟨rfl, _, rfl, src_of (cur := [.int .i64 a, .int .i64 b, .int .i64 c, .int .i64 d]) (heap1 _ _ _ _) 2⟩) (by simp) (by simp [Value.oneCell']) (w.heap.size + 1 + 1) _ (Below.refl _ _) (Nat.le_refl _) ?_; intro w1 hg1 hb1))
  have hcell := heap_cell hg1.out
  have hfro := heap_frozen hg1.out
  have hz1 : w.heap.size + 1 + 1 < w1.heap.size := by have := hb1.size; simp at this; omega
  obtain ⟨hc1, hf1⟩ := bcell hb1
  have HB := Lib.hid hb1
  clear hb1 hg1
  simp only [splice, List.take, List.drop, List.append, List.length, List.nil_append, List.cons_append, List.singleton_append] at hcell
  go_wp2
  refine bodyPost_ret (v := .agg #[.int .i64 x, .int .i64 a, .int .i64 b, .int .i64 d]) (by simp [results, Try.results56, go_sem, hcell, hc1]) rfl ⟨rfl, ?_⟩
  have hB : Below w.heap.size w w1 := Below.trans (Below.drew (bl_alloc (bl_alloc (bl_alloc (Below.refl _ _) _) _) _)) (HB.out.mono (by omega))
  repeat (first | with_reducible exact hB | refine Below.setCell ?_ (by first | omega | (simp; done) | (simp; omega)) _)

set_option maxHeartbeats 1000000 in
theorem p_ahead3 (a b c d x : Int) (w : World) :
    Calls Try.prog 56 #[.agg #[.int .i64 a, .int .i64 b, .int .i64 c, .int .i64 d], .int .i64 x, .int .i64 3] w fun e w' => e = .returned (.agg #[.int .i64 x, .int .i64 a, .int .i64 b, .int .i64 c]) ∧ Below w.heap.size w w' := by
  have hw : IntKind.i64.wrap 4 = 4 := by decide
  go_enter Try.func56, Try.ntmps56
  go_wp2_with fail
  go_region_law ((refine step_copy_splice rfl (.tmp 11) (.tmp 13) 28 28 rfl 3 Try.underlying28 info_int_size (some ⟨w.heap.size + 1 + 1, 1, none⟩) (some ⟨w.heap.size, 0, none⟩) 3 3 3 4 rfl rfl (w.heap.size + 1 + 1) 1 [.int .i64 a, .int .i64 b, .int .i64 c, .int .i64 d] 23 (heap3 _ _ _ _) [.int .i64 a, .int .i64 b, .int .i64 c] rfl (fun _ => ⟨rfl, _, rfl, src_of (cur := [.int .i64 a, .int .i64 b, .int .i64 c, .int .i64 d]) (heap1 _ _ _ _) 3⟩) (by simp) (by simp [Value.oneCell']) (w.heap.size + 1 + 1) _ (Below.refl _ _) (Nat.le_refl _) ?_; intro w1 hg1 hb1))
  have hcell := heap_cell hg1.out
  have hfro := heap_frozen hg1.out
  have hz1 : w.heap.size + 1 + 1 < w1.heap.size := by have := hb1.size; simp at this; omega
  obtain ⟨hc1, hf1⟩ := bcell hb1
  have HB := Lib.hid hb1
  clear hb1 hg1
  simp only [splice, List.take, List.drop, List.append, List.length, List.nil_append, List.cons_append, List.singleton_append] at hcell
  go_wp2
  refine bodyPost_ret (v := .agg #[.int .i64 x, .int .i64 a, .int .i64 b, .int .i64 c]) (by simp [results, Try.results56, go_sem, hcell, hc1]) rfl ⟨rfl, ?_⟩
  have hB : Below w.heap.size w w1 := Below.trans (Below.drew (bl_alloc (bl_alloc (bl_alloc (Below.refl _ _) _) _) _)) (HB.out.mono (by omega))
  repeat (first | with_reducible exact hB | refine Below.setCell ?_ (by first | omega | (simp; done) | (simp; omega)) _)

theorem eqReps (w : World) (d : Nat) (a0 a1 a2 a3 b0 b1 b2 b3 : Int) : (Op.equalIn (d + 2) 23 (.agg #[.int .i64 a0, .int .i64 a1, .int .i64 a2, .int .i64 a3]) (.agg #[.int .i64 b0, .int .i64 b1, .int .i64 b2, .int .i64 b3])).run Try.prog w = .ok (a0 == b0 && (a1 == b1 && (a2 == b2 && a3 == b3))) w :=
  run_equalIn_arr4 w Try.underlying23 Try.underlying3 info_int_size d a0 a1 a2 a3 b0 b1 b2 b3
theorem eqRepsMark : Try.prog.eqGuardType Try.prog.depth 23 = false := by kernel_rfl


end Go.Proofs.Ytndkgjoaljcijaa
