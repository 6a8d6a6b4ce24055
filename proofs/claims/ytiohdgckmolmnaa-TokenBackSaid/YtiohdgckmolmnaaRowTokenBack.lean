/- The row of the law TokenBack: whatever the input, the law's function returns true, and each argument reads as it did; no condition. -/
import Derived.Test.YtiohdgckmolmnaaRow
import Derived.Test.YtiohdgckmolmnaaLaw16
set_option linter.unusedSimpArgs false
set_option linter.unusedVariables false
namespace Go.Proofs.Ytiohdgckmolmnaa
open Go.ChangeShapes Go.WideShapes Go.ChangeAt Go.RowKit
open Go.ChangeMaps (open_string shut_string)
set_option maxRecDepth 100000 in
theorem lifted_TokenBack (os : Os) (started : os.Started) (H : Type) (enc : TypeId × Value → H) :
    ReturnsInHanded {} Try.checked os 6 .any (Rows.tokenBackSpec.pre6 enc Try.prog Try.f6 Rows.tokenBackRow.domain false) (Rows.tokenBackSpec.post enc Try.prog Try.f6 false true false false) := by
  refine returnsInHanded_of_change_sized (C := Try.checked) Try.own started (by kernel_rfl) Try.func6
    (ChangeSpec.witness6 (enc := enc) (C := Try.checked) false ⟨#[], #[.agg #[.int .i64 0, .int .i64 0, .int .i64 0, .int .i64 0, .int .i64 0]], []⟩ 8 (by kernel_rfl) (by kernel_rfl) (by kernel_rfl) (by kernel_rfl)) ?_
  intro W base args ds gs before hval0 hW hcnd hsz0 _
  have hsz : (DataW.weightsEach Try.prog (Try.f6.params.toList ++ Rows.tokenBackSpec.plain.varTypes Try.prog) (ds ++ gs)).all (· ≤ reachBytes) = true := hsz0
  have hval : ∀ (j : Nat) t v, Try.f6.params[j]? = some t → args[j]? = some v → Value.okWide Try.prog W .any base t v := hval0
  have hW' := hW
  obtain ⟨p, q, hA0, hV, rfl, hfz, hnd⟩ := hW
  have hA : DataW.TrodAll enc Try.prog W 0 (fun _ => true) true Try.f6.params.toList args.toList ds p := hA0
  rw [Try.params6] at hA hval hsz
  obtain ⟨v0, vs0, d0, ds0, p0, q0, hargs, rfl, rfl, h0, r0⟩ := trodAll_cons hA
  obtain ⟨rfl, rfl, rfl⟩ := trodAll_nil r0
  obtain rfl : args = #[v0] := by cases args; simp_all
  obtain ⟨rfl, rfl⟩ := trodVars_none hV
  have k0 := h0
  have lt0 : ∀ x ∈ p0, x.block < W.heap.size := by obtain ⟨m, hm⟩ := k0; exact DataW.trod_lt m _ _ _ hm
  obtain ⟨cs0, rfl, hs0⟩ := okWide_agg (.inl ⟨_, Try.underlying25⟩) (hval 0 25 v0 rfl rfl)
  obtain ⟨fu0, hf0⟩ := h0
  obtain ⟨zs0, hz0, hl0, hw0⟩ := trod_fields (k := .i64) Try.underlying25 (by kernel_rfl) (by intro i f hi; match i, hi with | 0, hi | 1, hi | 2, hi | 3, hi | 4, hi => (cases hi; exact ⟨rfl, by kernel_rfl, by kernel_rfl⟩) | (i + 5), hi => (simp at hi)) hf0
  match zs0, hl0 with
  | [a0_0, a0_1, a0_2, a0_3, a0_4], _ =>
  obtain ⟨cl0⟩ := cs0
  simp only [Value.cells, List.map_cons, List.map_nil] at hz0
  subst hz0
  have w0_0 := hw0 a0_0 (by simp)
  have w0_1 := hw0 a0_1 (by simp)
  have w0_2 := hw0 a0_2 (by simp)
  have w0_3 := hw0 a0_3 (by simp)
  have w0_4 := hw0 a0_4 (by simp)
  refine (law_TokenBack ⟨a0_0, a0_1, a0_2, a0_3, a0_4⟩ W).mono fun e W' ⟨he, bel⟩ => ?_
  subst he
  exact ⟨_, rfl, _, _, _, [], _, [], hW', trodAll_mk1 (shut_bool Try.underlying4 _), (trodAll_cons_mk (Below.trod Try.laidOut (by kernel_rfl) (of_decide_eq_true (by kernel_rfl)) k0 bel lt0) trodAll_mk0), rfl, bel.frame _, fun h => by cases h⟩
theorem over_TokenBack : Rows.tokenBackRow.holds Try.pinned (OpenSpec.ofChange Rows.tokenBackSpec) :=
  OpenClaim.holds_of_wide 6 Try.f6 rfl rfl rfl rfl rfl rfl rfl ⟨rfl, rfl, rfl, rfl, rfl⟩ rfl rfl rfl rfl rfl (by kernel_rfl) Try.func6 (by kernel_rfl)
    (of_decide_eq_true (by kernel_rfl)) (by unfold Func.isWrapper; first | (rw [if_pos (by decide +kernel)]; kernel_rfl) | (rw [if_neg (by decide +kernel)]; exact ⟨rfl, rfl⟩))
    (fun os started H enc _ => lifted_TokenBack os started H enc)
theorem tokenBack_holds : Rows.TokenBackSaid := over_TokenBack
#print axioms tokenBack_holds
end Go.Proofs.Ytiohdgckmolmnaa
