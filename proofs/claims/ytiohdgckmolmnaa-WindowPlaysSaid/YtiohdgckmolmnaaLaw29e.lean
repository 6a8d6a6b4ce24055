/- Chapter 29's laws over arguments as they come in: opening of deeds and of two texts. -/
import Derived.Test.YtiohdgckmolmnaaLaw29d
import Derived.Test.YtiohdgckmolmnaaRow
import Derived.Deep.Slices
import Derived.Deep.Fields
set_option linter.unusedSimpArgs false
set_option linter.unusedVariables false
namespace Go.Proofs.Ytiohdgckmolmnaa
open Go.RowKit Go.ChangeShapes Go.WideShapes Go.Deep

set_option maxRecDepth 100000 in
theorem law_WindowForgets (z : Int) (s t : List UInt8) (x : Deed) (w : World) (hz : (Lit.int .u8 z).wf = true) :
    Calls Try.prog 8 #[.int .u8 z, .agg #[.string (str s), .string (str t)], deedV x] w fun e w' => e = .returned (.bool true) ∧ Below w.heap.size w w' := by
  have hb : 0 ≤ z ∧ z ≤ 255 := by
    have h1 : IntKind.u8.min = 0 := by decide
    have h2 : IntKind.u8.max = 255 := by decide
    simp [Lit.wf] at hz
    omega
  obtain ⟨sz, rfl⟩ : ∃ n : Nat, z = n := ⟨z.toNat, by omega⟩
  by_cases h2 : s.length ≤ 1000 ∧ t.length ≤ 1000
  · exact law_WindowForgets_main sz s t x w (by omega) h2.1 h2.2
  · obtain ⟨k, n, d, xs⟩ := x
    unfold deedV
    simp only
    have hsz1 := str_size s
    have hsz2 := str_size t
    have k0 := (Blk.new w 62 #[.string (str s), .string (str t)]).alloc (.cells #[.int .i64 k, .int .i64 n, .int .i64 d, .string (str xs)] 55)
    have kc0 := Blk.cell k0
    have hB0 := bl_alloc (bl_alloc (Below.refl w.heap.size w) (.cells #[.string (str s), .string (str t)] 62)) (.cells #[.int .i64 k, .int .i64 n, .int .i64 d, .string (str xs)] 55)
    have HB0 := Lib.hid hB0
    clear hB0 k0 hz
    by_cases hs : 1000 < s.length
    · clear h2
      go_enter Try.func8, Try.ntmps8
      go_wp2_with fail
      generalize (w.alloc (.cells #[.string (str s), .string (str t)] 62)).alloc (.cells #[.int .i64 k, .int .i64 n, .int .i64 d, .string (str xs)] 55) = w0 at *
      go_region
      all_goals
        go_wp2_with fail
        refine (awake29 _).mono ?_
        rintro e w10 ⟨rfl, hb10⟩
        go_wp2
        go_ret
        exact ⟨rfl, bl_then HB0.out.drew HB0.out.size hb10⟩
    · have ht : 1000 < t.length := by omega
      clear h2
      go_enter Try.func8, Try.ntmps8
      go_wp2_with fail
      generalize (w.alloc (.cells #[.string (str s), .string (str t)] 62)).alloc (.cells #[.int .i64 k, .int .i64 n, .int .i64 d, .string (str xs)] 55) = w0 at *
      go_region
      all_goals
        go_wp2_with fail
        refine (awake29 _).mono ?_
        rintro e w10 ⟨rfl, hb10⟩
        go_wp2
        go_ret
        exact ⟨rfl, bl_then HB0.out.drew HB0.out.size hb10⟩

section
variable {H : Type} {enc : TypeId × Value → H} {w : World} {held : Bool}
/-- A deed that reads. -/
theorem trod_deed {fuel : Nat} {cs : List Value} {x : DataW H × List MemPlace} (hl4 : cs.length = 4) (h : DataW.trod enc Try.prog w 0 (fun _ => true) held fuel 55 cs = some x) : ∃ d : Deed, cs = deedCells d := by
  match cs, hl4 with
  | [v0, v1, v2, v3], _ =>
  obtain ⟨xs, n, _, hx, _, hlen, hg⟩ := DataW.trod_struct Try.underlying55 h
  have c1 : Try.prog.cellsOf 9 = 1 := by kernel_rfl
  have c4 : Try.prog.cellsOf 3 = 1 := by kernel_rfl
  have g0 : DataW.trod enc Try.prog w 0 (fun _ => true) held n 3 (([v0, v1, v2, v3].drop 0).take (Try.prog.cellsOf 3)) = xs[0]? := hg 0 _ rfl
  have g1 : DataW.trod enc Try.prog w 0 (fun _ => true) held n 3 (([v0, v1, v2, v3].drop 1).take (Try.prog.cellsOf 3)) = xs[1]? := hg 1 _ rfl
  have g2 : DataW.trod enc Try.prog w 0 (fun _ => true) held n 3 (([v0, v1, v2, v3].drop 2).take (Try.prog.cellsOf 3)) = xs[2]? := hg 2 _ rfl
  have g3 : DataW.trod enc Try.prog w 0 (fun _ => true) held n 9 (([v0, v1, v2, v3].drop 3).take (Try.prog.cellsOf 9)) = xs[3]? := hg 3 _ rfl
  rw [c4] at g0 g1 g2
  rw [c1] at g3
  replace g0 : DataW.trod enc Try.prog w 0 (fun _ => true) held n 3 [v0] = xs[0]? := g0
  replace g1 : DataW.trod enc Try.prog w 0 (fun _ => true) held n 3 [v1] = xs[1]? := g1
  replace g2 : DataW.trod enc Try.prog w 0 (fun _ => true) held n 3 [v2] = xs[2]? := g2
  replace g3 : DataW.trod enc Try.prog w 0 (fun _ => true) held n 9 [v3] = xs[3]? := g3
  rw [List.getElem?_eq_getElem (by rw [hlen]; decide)] at g0 g1 g2 g3
  obtain ⟨z0, e0, _, _⟩ := DataW.trod_int Try.underlying3 g0
  obtain ⟨z1, e1, _, _⟩ := DataW.trod_int Try.underlying3 g1
  obtain ⟨z2, e2, _, _⟩ := DataW.trod_int Try.underlying3 g2
  obtain ⟨s, e3, _, _⟩ := DataW.trod_string Try.underlying9 g3
  simp only [List.cons.injEq, and_true] at e0 e1 e2 e3
  subst e0 e1 e2 e3
  exact ⟨⟨z0, z1, z2, s.data.toList⟩, by simp only [deedCells, str_of]⟩

set_option maxRecDepth 100000 in
theorem open_deed {base : Nat} {v : Value} {d : DataW H} {p : List MemPlace} (hv : Value.okWide Try.prog w .any base 55 v)
    (h : DataW.Trod enc Try.prog w 0 (fun _ => true) true 55 v d p) : ∃ x : Deed, v = deedV x := by
  obtain ⟨cs, rfl, hs⟩ := okWide_agg (.inl ⟨_, Try.underlying55⟩) hv
  obtain ⟨fu, hf⟩ := h
  obtain ⟨cl⟩ := cs
  have e : Try.prog.cellsOf 55 = 4 := by kernel_rfl
  rw [e] at hs
  replace hf : DataW.trod enc Try.prog w 0 (fun _ => true) true fu 55 cl = some (d, p) := hf
  obtain ⟨x, hx⟩ := trod_deed (by simpa using hs) hf
  exact ⟨x, by rw [hx]; rfl⟩

set_option maxRecDepth 100000 in
theorem open_deeds {base : Nat} {v : Value} {d : DataW H} {p : List MemPlace} (hv : Value.okWide Try.prog w .any base 50 v)
    (h : DataW.Trod enc Try.prog w 0 (fun _ => true) true 50 v d p) : ∃ A c l, v = .slice A (List.length l) c ∧ ReadsD w A l := by
  obtain ⟨ad, ln, cp, rfl⟩ := okWide_slice Try.underlying50 hv
  obtain ⟨fu, hf⟩ := h
  have hC : Try.prog.cellsOf 55 = 4 := by kernel_rfl
  rcases open_slice Try.underlying50 hf with ⟨h0, _⟩ | ⟨a, len, cap, m, n, D, Pl, hcs, hb, hl, hm, hmm, hx, hi⟩
  · simp only [Value.cells, List.cons.injEq, and_true] at h0
    exact ⟨none, 0, [], h0, rfl, fun h => absurd h (by simp)⟩
  · simp only [Value.cells, List.cons.injEq, and_true] at hcs
    rw [hcs]
    have key : ∀ i, ∃ x : Deed, i < len → ∀ j u, (deedCells x)[j]? = some u → w.cell? (a.add (i * 4 + j)) = some u := by
      intro i
      by_cases hil : i < len
      · obtain ⟨cs', hc, ht'⟩ := hi i (by rw [hmm]; simp; omega)
        rw [hC] at hc
        obtain ⟨_, hcl, hat⟩ := World.cells?_some hc
        obtain ⟨x, hx⟩ := trod_deed (by simpa using hcl) ht'
        refine ⟨x, fun _ j u hu => ?_⟩
        have hj : j < 4 := by have := (List.getElem?_eq_some_iff.1 hu).1; simpa [deedCells] using this
        have := hat j hj
        rw [Go.Deep.add_add] at this
        rw [this, hx]
        exact hu
      · exact ⟨⟨0, 0, 0, []⟩, fun h => absurd h hil⟩
    have hl' : ((List.range len).map fun i => Classical.choose (key i)).length = len := by simp
    have hcell : ∀ j u, (dvals ((List.range len).map fun i => Classical.choose (key i)))[j]? = some u → w.cell? (a.add j) = some u := by
      intro j u hu
      have hj : j < len * 4 := by have := (List.getElem?_eq_some_iff.1 hu).1; rw [dvals_length, hl'] at this; exact this
      have e1 : j = j / 4 * 4 + j % 4 := by omega
      rw [e1] at hu ⊢
      rw [dvals_get _ (j / 4) (j % 4) (by rw [hl']; omega) (by omega)] at hu
      simp only [List.getElem_map, List.getElem_range] at hu
      exact Classical.choose_spec (key (j / 4)) (by omega) _ _ hu
    refine ⟨some a, cap, (List.range len).map fun i => Classical.choose (key i), by rw [hl'], dvals_length _, fun hn0 => ⟨a, rfl, ?_, hcell⟩⟩
    rw [hl'] at hn0
    have h0 : 0 < (dvals ((List.range len).map fun i => Classical.choose (key i))).length := by rw [dvals_length, hl']; omega
    have := hcell 0 _ (List.getElem?_eq_getElem h0)
    have := World.block_lt_of_cell? w _ this
    rwa [block_of_add] at this

set_option maxRecDepth 100000 in
theorem open_two {base : Nat} {v : Value} {d : DataW H} {p : List MemPlace} (hv : Value.okWide Try.prog w .any base 62 v)
    (h : DataW.Trod enc Try.prog w 0 (fun _ => true) true 62 v d p) : ∃ s t : List UInt8, v = .agg #[.string (str s), .string (str t)] := by
  obtain ⟨cs, rfl, hs⟩ := okWide_agg (.inr ⟨_, _, Try.underlying62⟩) hv
  obtain ⟨fu, hf⟩ := h
  obtain ⟨cl⟩ := cs
  have e : Try.prog.cellsOf 62 = 2 := by kernel_rfl
  have c1 : Try.prog.cellsOf 9 = 1 := by kernel_rfl
  rw [e] at hs
  have hs' : cl.length = 2 := by simpa using hs
  match cl, hs' with
  | [v0, v1], _ =>
  obtain ⟨xs, n, _, hx, hlen, _, hi⟩ := DataW.trod_array Try.underlying62 hf
  have g0 := hi 0 (by decide)
  have g1 := hi 1 (by decide)
  rw [c1] at g0 g1
  have hxl : xs.length = 2 := by assumption
  rw [List.getElem?_eq_getElem (by omega)] at g0 g1
  replace g0 : DataW.trod enc Try.prog w 0 (fun _ => true) true n 9 [v0] = some xs[0] := g0
  replace g1 : DataW.trod enc Try.prog w 0 (fun _ => true) true n 9 [v1] = some xs[1] := g1
  obtain ⟨s, e0, _, _⟩ := DataW.trod_string Try.underlying9 g0
  obtain ⟨t, e1, _, _⟩ := DataW.trod_string Try.underlying9 g1
  simp only [List.cons.injEq, and_true] at e0 e1
  subst e0 e1
  exact ⟨s.data.toList, t.data.toList, by simp only [str_of]⟩
end

end Go.Proofs.Ytiohdgckmolmnaa
