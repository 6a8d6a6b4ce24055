/- Chapter 18's laws over texts as they come in; opening of the arguments. -/
import Derived.Test.YtiohdgckmolmnaaLaw18
import Derived.Test.YtiohdgckmolmnaaLaw18c
import Derived.Test.YtiohdgckmolmnaaRow
import Derived.Deep.Slices
import Derived.Deep.Fields
set_option linter.unusedSimpArgs false
set_option linter.unusedVariables false
namespace Go.Proofs.Ytiohdgckmolmnaa
open Go.RowKit Go.ChangeShapes Go.WideShapes Go.Deep

theorem law_DenoteCopies' (s : ByteArray) (n d : Int) (w : World) (hbig : s.size ≤ 140737488351232) : Calls Try.prog 10 #[.string s, .int .i64 n, .int .i64 d] w fun e w' => e = .returned (.bool true) ∧ Below w.heap.size w w' := by
  have h := law_DenoteCopies s.data.toList n d w hbig
  rwa [str_of] at h

section
variable {H : Type} {enc : TypeId × Value → H} {P : Program} {w : World} {held : Bool}
/-- A slice of tokens that reads. -/
theorem open_toksC {fs : Array Field} {t e : TypeId} {fuel : Nat} {v : Value} {x : DataW H × List MemPlace} (ht : P.underlying t = some (.slice e)) (he : P.underlying e = some (.struct fs)) (hn : P.cellsOf e = 5) (h5 : fs.size = 5)
    (hf : ∀ (i : Nat) (f : Field), fs[i]? = some f → f.offset = i ∧ P.cellsOf f.type = 1 ∧ P.underlying f.type = some (.int .i64))
    (h : DataW.trod enc P w 0 (fun _ => true) held fuel t [v] = some x) : ∃ A c l, v = .slice A (List.length l) c ∧ ReadsT w A l ∧ List.length l ≤ c := by
  rcases open_slice ht h with ⟨h0, _⟩ | ⟨a, len, cap, m, n, D, Pl, hcs, hb, hl, hm, hmm, hx, hi⟩
  · simp only [List.cons.injEq, and_true] at h0
    exact ⟨none, 0, [], h0, ⟨rfl, fun h => absurd h (by simp)⟩, Nat.le_refl _⟩
  · simp only [List.cons.injEq, and_true] at hcs
    subst hcs
    have key : ∀ i, ∃ tk : Tok, i < len → ∀ j u, (tokCells tk)[j]? = some u → w.cell? (a.add (i * 5 + j)) = some u := by
      intro i
      by_cases hil : i < len
      · obtain ⟨cs', hc, ht'⟩ := hi i (by rw [hmm]; simp; omega)
        rw [hn] at hc
        obtain ⟨zs, hz, hzl, hw⟩ := trod_fields (k := .i64) he (by rw [hn, h5]) hf ht'
        rw [h5] at hzl
        match zs, hzl with
        | [z0, z1, z2, z3, z4], _ =>
          refine ⟨⟨z0, z1, z2, z3, z4⟩, fun _ j u hu => ?_⟩
          obtain ⟨_, hcl, hat⟩ := World.cells?_some hc
          have hj : j < 5 := by have := (List.getElem?_eq_some_iff.1 hu).1; simpa [tokCells] using this
          have := hat j hj
          rw [Go.Deep.add_add] at this
          rw [this, hz]
          exact hu
      · exact ⟨⟨0, 0, 0, 0, 0⟩, fun h => absurd h hil⟩
    have hl' : ((List.range len).map fun i => Classical.choose (key i)).length = len := by simp
    have hcell : ∀ j u, (tvals ((List.range len).map fun i => Classical.choose (key i)))[j]? = some u → w.cell? (a.add j) = some u := by
      intro j u hu
      have hj : j < len * 5 := by have := (List.getElem?_eq_some_iff.1 hu).1; rw [tvals_length, hl'] at this; exact this
      have e1 : j = j / 5 * 5 + j % 5 := by omega
      rw [e1] at hu ⊢
      rw [tvals_get _ (j / 5) (j % 5) (by rw [hl']; omega) (by omega)] at hu
      simp only [List.getElem_map, List.getElem_range] at hu
      exact Classical.choose_spec (key (j / 5)) (by omega) _ _ hu
    refine ⟨some a, cap, (List.range len).map fun i => Classical.choose (key i), by rw [hl'], ⟨tvals_length _, fun hn0 => ⟨a, rfl, ?_, hcell⟩⟩, by rw [hl']; exact hl⟩
    rw [hl'] at hn0
    have h0 : 0 < (tvals ((List.range len).map fun i => Classical.choose (key i))).length := by rw [tvals_length, hl']; omega
    have := hcell 0 _ (List.getElem?_eq_getElem h0)
    have := World.block_lt_of_cell? w _ this
    rwa [block_of_add] at this
end

/-- What ahead, distances, tokens, a window: as it comes in. -/
def playV (h : ByteArray) (r : Rp) (T : Option Addr) (n c : Nat) (window : Int) : Value := .agg #[.string h, .int .i64 r.a, .int .i64 r.b, .int .i64 r.c, .int .i64 r.d, .slice T n c, .int .i64 window]
set_option maxRecDepth 100000 in
theorem open_playC {H : Type} {enc : TypeId × Value → H} {W : World} {base : Nat} {v : Value} {d : DataW H} {p : List MemPlace} (hv : Value.okWide Try.prog W .any base 76 v)
    (h : DataW.Trod enc Try.prog W 0 (fun _ => true) true 76 v d p) : ∃ s r T c l window, v = playV s r T (List.length l) c window ∧ ReadsT W T l ∧ List.length l ≤ c := by
  obtain ⟨cs, rfl, hs⟩ := okWide_agg (.inl ⟨_, Try.underlying76⟩) hv
  obtain ⟨fu, hf⟩ := h
  obtain ⟨cl⟩ := cs
  have hs' : cl.length = 7 := by
    have e : Try.prog.cellsOf 76 = 7 := by kernel_rfl
    rw [e] at hs
    simpa using hs
  match cl, hs' with
  | [v0, v1, v2, v3, v4, v5, v6], _ =>
  obtain ⟨xs, n, _, hx, _, hlen, hg⟩ := DataW.trod_struct Try.underlying76 hf
  have c1 : Try.prog.cellsOf 9 = 1 := by kernel_rfl
  have c2 : Try.prog.cellsOf 23 = 4 := by kernel_rfl
  have c3 : Try.prog.cellsOf 74 = 1 := by kernel_rfl
  have c4 : Try.prog.cellsOf 3 = 1 := by kernel_rfl
  have g0 : DataW.trod enc Try.prog W 0 (fun _ => true) true n 9 (([v0, v1, v2, v3, v4, v5, v6].drop 0).take (Try.prog.cellsOf 9)) = xs[0]? := hg 0 _ rfl
  rw [c1] at g0
  replace g0 : DataW.trod enc Try.prog W 0 (fun _ => true) true n 9 [v0] = xs[0]? := g0
  rw [List.getElem?_eq_getElem (by rw [hlen]; decide)] at g0
  have g1 : DataW.trod enc Try.prog W 0 (fun _ => true) true n 23 (([v0, v1, v2, v3, v4, v5, v6].drop 1).take (Try.prog.cellsOf 23)) = xs[1]? := hg 1 _ rfl
  rw [c2] at g1
  replace g1 : DataW.trod enc Try.prog W 0 (fun _ => true) true n 23 [v1, v2, v3, v4] = xs[1]? := g1
  rw [List.getElem?_eq_getElem (by rw [hlen]; decide)] at g1
  have g2 : DataW.trod enc Try.prog W 0 (fun _ => true) true n 74 (([v0, v1, v2, v3, v4, v5, v6].drop 5).take (Try.prog.cellsOf 74)) = xs[2]? := hg 2 _ rfl
  rw [c3] at g2
  replace g2 : DataW.trod enc Try.prog W 0 (fun _ => true) true n 74 [v5] = xs[2]? := g2
  rw [List.getElem?_eq_getElem (by rw [hlen]; decide)] at g2
  have g3 : DataW.trod enc Try.prog W 0 (fun _ => true) true n 3 (([v0, v1, v2, v3, v4, v5, v6].drop 6).take (Try.prog.cellsOf 3)) = xs[3]? := hg 3 _ rfl
  rw [c4] at g3
  replace g3 : DataW.trod enc Try.prog W 0 (fun _ => true) true n 3 [v6] = xs[3]? := g3
  rw [List.getElem?_eq_getElem (by rw [hlen]; decide)] at g3
  obtain ⟨s, e0, _, _⟩ := DataW.trod_string Try.underlying9 g0
  obtain ⟨zs, e1, hzl, _⟩ := trod_nums Try.underlying23 Try.underlying3 c4 c2 g1
  obtain ⟨A, c, l, e2, hT, hcl⟩ := open_toksC Try.underlying74 Try.underlying25 (by kernel_rfl) rfl (by intro i f hi; match i, hi with | 0, hi | 1, hi | 2, hi | 3, hi | 4, hi => (cases hi; exact ⟨rfl, by kernel_rfl, by kernel_rfl⟩) | (i + 5), hi => (simp at hi)) g2
  obtain ⟨z, e3, _, _⟩ := DataW.trod_int Try.underlying3 g3
  match zs, hzl with
  | [z0, z1, z2, z3], _ =>
  simp only [List.map_cons, List.map_nil, List.cons.injEq, and_true] at e0 e1 e3
  obtain ⟨rfl, rfl, rfl, rfl⟩ := e1
  subst e0 e2 e3
  exact ⟨s, ⟨z0, z1, z2, z3⟩, A, c, l, z, rfl, hT, hcl⟩
set_option maxRecDepth 100000 in
theorem open_play {H : Type} {enc : TypeId × Value → H} {W : World} {base : Nat} {v : Value} {d : DataW H} {p : List MemPlace} (hv : Value.okWide Try.prog W .any base 76 v)
    (h : DataW.Trod enc Try.prog W 0 (fun _ => true) true 76 v d p) : ∃ s r T c l window, v = playV s r T (List.length l) c window ∧ ReadsT W T l := by
  obtain ⟨s, r, T, c, l, x, h1, h2, _⟩ := open_playC hv h
  exact ⟨s, r, T, c, l, x, h1, h2⟩

set_option maxRecDepth 100000 in
theorem law_DenoteApplies' (s : ByteArray) (r : Rp) (T : Option Addr) (c2 : Nat) (l : List Tok) (window : Int) (b : ByteArray) (w : World) (hT : ReadsT w T l) :
    Calls Try.prog 11 #[playV s r T l.length c2 window, .string b] w fun e w' => e = .returned (.bool true) ∧ Below w.heap.size w w' := by
  have h := law_DenoteApplies s.data.toList r T c2 l window b.data.toList w hT
  rwa [str_of, str_of] at h

end Go.Proofs.Ytiohdgckmolmnaa
