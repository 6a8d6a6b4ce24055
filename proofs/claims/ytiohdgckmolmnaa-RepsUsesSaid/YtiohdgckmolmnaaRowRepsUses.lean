/- The row of the law RepsUses: whatever the input, the law's function returns true, and each argument reads as it did; no condition. -/
import Derived.Test.YtiohdgckmolmnaaRow
import Derived.Test.YtiohdgckmolmnaaLaw17
set_option linter.unusedSimpArgs false
set_option linter.unusedVariables false
namespace Go.Proofs.Ytiohdgckmolmnaa
open Go.ChangeShapes Go.WideShapes Go.ChangeAt Go.RowKit
open Go.ChangeMaps (open_string shut_string)
set_option maxRecDepth 100000 in
theorem lifted_RepsUses (os : Os) (started : os.Started) (H : Type) (enc : TypeId × Value → H) :
    ReturnsInHanded {} Try.checked os 3 .any (Rows.repsUsesSpec.pre6 enc Try.prog Try.f3 Rows.repsUsesRow.domain false) (Rows.repsUsesSpec.post enc Try.prog Try.f3 false true false false) := by
  refine returnsInHanded_of_change_sized (C := Try.checked) Try.own started (by kernel_rfl) Try.func3
    (ChangeSpec.witness6 (enc := enc) (C := Try.checked) false ⟨#[], #[.agg #[.int .i64 0, .int .i64 0, .int .i64 0, .int .i64 0], .agg #[.int .i64 0, .int .i64 0, .int .i64 0, .int .i64 0, .int .i64 0], .int .i64 0], []⟩ 8 (by kernel_rfl) (by kernel_rfl) (by kernel_rfl) (by kernel_rfl)) ?_
  intro W base args ds gs before hval0 hW hcnd hsz0 _
  have hsz : (DataW.weightsEach Try.prog (Try.f3.params.toList ++ Rows.repsUsesSpec.plain.varTypes Try.prog) (ds ++ gs)).all (· ≤ reachBytes) = true := hsz0
  have hval : ∀ (j : Nat) t v, Try.f3.params[j]? = some t → args[j]? = some v → Value.okWide Try.prog W .any base t v := hval0
  have hW' := hW
  obtain ⟨p, q, hA0, hV, rfl, hfz, hnd⟩ := hW
  have hA : DataW.TrodAll enc Try.prog W 0 (fun _ => true) true Try.f3.params.toList args.toList ds p := hA0
  rw [Try.params3] at hA hval hsz
  obtain ⟨v0, vs0, d0, ds0, p0, q0, hargs, rfl, rfl, h0, r0⟩ := trodAll_cons hA
  obtain ⟨v1, vs1, d1, ds1, p1, q1, rfl, rfl, rfl, h1, r1⟩ := trodAll_cons r0
  obtain ⟨v2, vs2, d2, ds2, p2, q2, rfl, rfl, rfl, h2, r2⟩ := trodAll_cons r1
  obtain ⟨rfl, rfl, rfl⟩ := trodAll_nil r2
  obtain rfl : args = #[v0, v1, v2] := by cases args; simp_all
  obtain ⟨rfl, rfl⟩ := trodVars_none hV
  have k0 := h0
  have lt0 : ∀ x ∈ p0, x.block < W.heap.size := by obtain ⟨m, hm⟩ := k0; exact DataW.trod_lt m _ _ _ hm
  have k1 := h1
  have lt1 : ∀ x ∈ p1, x.block < W.heap.size := by obtain ⟨m, hm⟩ := k1; exact DataW.trod_lt m _ _ _ hm
  have k2 := h2
  have lt2 : ∀ x ∈ p2, x.block < W.heap.size := by obtain ⟨m, hm⟩ := k2; exact DataW.trod_lt m _ _ _ hm
  obtain ⟨cs0, rfl, hs0⟩ := okWide_agg (.inr ⟨_, _, Try.underlying23⟩) (hval 0 23 v0 rfl rfl)
  obtain ⟨fu0, hf0⟩ := h0
  obtain ⟨zs0, hz0, hl0, hw0⟩ := trod_nums Try.underlying23 Try.underlying3 (by kernel_rfl) (by kernel_rfl) hf0
  match zs0, hl0 with
  | [a0_0, a0_1, a0_2, a0_3], _ =>
  obtain ⟨cl0⟩ := cs0
  simp only [Value.cells, List.map_cons, List.map_nil] at hz0
  subst hz0
  have w0_0 := hw0 a0_0 (by simp)
  have w0_1 := hw0 a0_1 (by simp)
  have w0_2 := hw0 a0_2 (by simp)
  have w0_3 := hw0 a0_3 (by simp)
  obtain ⟨cs1, rfl, hs1⟩ := okWide_agg (.inl ⟨_, Try.underlying25⟩) (hval 1 25 v1 rfl rfl)
  obtain ⟨fu1, hf1⟩ := h1
  obtain ⟨zs1, hz1, hl1, hw1⟩ := trod_fields (k := .i64) Try.underlying25 (by kernel_rfl) (by intro i f hi; match i, hi with | 0, hi | 1, hi | 2, hi | 3, hi | 4, hi => (cases hi; exact ⟨rfl, by kernel_rfl, by kernel_rfl⟩) | (i + 5), hi => (simp at hi)) hf1
  match zs1, hl1 with
  | [a1_0, a1_1, a1_2, a1_3, a1_4], _ =>
  obtain ⟨cl1⟩ := cs1
  simp only [Value.cells, List.map_cons, List.map_nil] at hz1
  subst hz1
  have w1_0 := hw1 a1_0 (by simp)
  have w1_1 := hw1 a1_1 (by simp)
  have w1_2 := hw1 a1_2 (by simp)
  have w1_3 := hw1 a1_3 (by simp)
  have w1_4 := hw1 a1_4 (by simp)
  obtain ⟨a2, rfl, e2, f2, w2⟩ := open_int Try.underlying3 (hval 2 3 v2 rfl rfl) h2
  refine (law_RepsUses ⟨a0_0, a0_1, a0_2, a0_3⟩ ⟨a1_0, a1_1, a1_2, a1_3, a1_4⟩ a2 W).mono fun e W' ⟨he, bel⟩ => ?_
  subst he
  exact ⟨_, rfl, _, _, _, [], _, [], hW', trodAll_mk1 (shut_bool Try.underlying4 _), (trodAll_cons_mk (Below.trod Try.laidOut (by kernel_rfl) (of_decide_eq_true (by kernel_rfl)) k0 bel lt0) (trodAll_cons_mk (Below.trod Try.laidOut (by kernel_rfl) (of_decide_eq_true (by kernel_rfl)) k1 bel lt1) (trodAll_cons_mk (Below.trod Try.laidOut (by kernel_rfl) (of_decide_eq_true (by kernel_rfl)) k2 bel lt2) trodAll_mk0))), rfl, bel.frame _, fun h => by cases h⟩
theorem over_RepsUses : Rows.repsUsesRow.holds Try.pinned (OpenSpec.ofChange Rows.repsUsesSpec) :=
  OpenClaim.holds_of_wide 3 Try.f3 rfl rfl rfl rfl rfl rfl rfl ⟨rfl, rfl, rfl, rfl, rfl⟩ rfl rfl rfl rfl rfl (by kernel_rfl) Try.func3 (by kernel_rfl)
    (of_decide_eq_true (by kernel_rfl)) (by unfold Func.isWrapper; first | (rw [if_pos (by decide +kernel)]; kernel_rfl) | (rw [if_neg (by decide +kernel)]; exact ⟨rfl, rfl⟩))
    (fun os started H enc _ => lifted_RepsUses os started H enc)
theorem repsUses_holds : Rows.RepsUsesSaid := over_RepsUses
#print axioms repsUses_holds
end Go.Proofs.Ytiohdgckmolmnaa
