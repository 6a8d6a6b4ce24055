/- Chapter 26's laws over arguments as they come in: opening of a task, and of numbers. -/
import Derived.Test.YtndkgjoaljcijaaBsAwake
import Derived.Test.YtndkgjoaljcijaaRow
import Derived.Test.YtndkgjoaljcijaaOpen
import Derived.Deep.Slices
import Derived.Deep.Fields
set_option linter.unusedSimpArgs false
set_option linter.unusedVariables false
set_option maxRecDepth 100000
namespace Go.Proofs.Ytndkgjoaljcijaa
open Go.RowKit Go.ChangeShapes Go.WideShapes Go.Deep

section
variable {H : Type} {enc : TypeId × Value → H} {w : World} {held : Bool}
theorem open_intsL {base : Nat} {v : Value} {d : DataW H} {p : List MemPlace} (hv : Value.okWide Try.prog w .any base 28 v)
    (h : DataW.Trod enc Try.prog w 0 (fun _ => true) true 28 v d p) : ∃ A c l, v = .slice A (List.length l) c ∧ ReadsI w A l ∧ List.length l ≤ 9223372036854775807 := by
  obtain ⟨ad, ln, cp, rfl⟩ := okWide_slice Try.underlying28 hv
  obtain ⟨fu, hf⟩ := h
  have hb : ln ≤ 9223372036854775807 := by
    rcases open_slice Try.underlying28 hf with ⟨h0, _⟩ | ⟨a, len, cap, m, n, D, Pl, hcs, hb, hl, hm, hmm, hx, hi⟩
    · simp [Value.cells] at h0
      omega
    · simp [Value.cells] at hcs
      obtain ⟨_, h1, h2⟩ := hcs
      unfold maxLen at hm
      omega
  obtain ⟨A, c, l, e, hr, _⟩ := trod_ints hf
  refine ⟨A, c, l, e, hr, ?_⟩
  injection e with _ e
  omega
theorem trod_string {fu : Nat} {v : Value} {x : DataW H × List MemPlace} (h : DataW.trod enc Try.prog w 0 (fun _ => true) held fu 9 [v] = some x) : ∃ l : List UInt8, v = .string (str l) ∧ l.length ≤ 9223372036854775807 := by
  obtain ⟨s', hs, _, hl⟩ := DataW.trod_string Try.underlying9 h
  simp only [List.cons.injEq, and_true] at hs
  subst hs
  refine ⟨s'.data.toList, rfl, ?_⟩
  rw [Array.length_toList]
  exact hl
set_option maxRecDepth 100000 in
theorem open_task {base : Nat} {v : Value} {d : DataW H} {p : List MemPlace} (hv : Value.okWide Try.prog w .any base 27 v)
    (h : DataW.Trod enc Try.prog w 0 (fun _ => true) true 27 v d p) : ∃ h b r s0 s1 s2 win, v = taskV h b r s0 s1 s2 win ∧ h.length ≤ 9223372036854775807 ∧ b.length ≤ 9223372036854775807 := by
  obtain ⟨cs, rfl, hs⟩ := okWide_agg (.inl ⟨_, Try.underlying27⟩) hv
  obtain ⟨fu, hf⟩ := h
  obtain ⟨cl⟩ := cs
  have e : Try.prog.cellsOf 27 = 10 := by kernel_rfl
  have c1 : Try.prog.cellsOf 9 = 1 := by kernel_rfl
  have c2 : Try.prog.cellsOf 23 = 4 := by kernel_rfl
  have c3 : Try.prog.cellsOf 25 = 3 := by kernel_rfl
  have c4 : Try.prog.cellsOf 3 = 1 := by kernel_rfl
  rw [e] at hs
  have hs' : cl.length = 10 := by simpa using hs
  match cl, hs' with
  | [v0, v1, v2, v3, v4, v5, v6, v7, v8, v9], _ =>
  obtain ⟨xs, n, _, hx, _, hlen, hg⟩ := DataW.trod_struct Try.underlying27 hf
  have g0 : DataW.trod enc Try.prog w 0 (fun _ => true) true n 9 (([v0, v1, v2, v3, v4, v5, v6, v7, v8, v9].drop 0).take (Try.prog.cellsOf 9)) = xs[0]? := hg 0 _ rfl
  have g1 : DataW.trod enc Try.prog w 0 (fun _ => true) true n 9 (([v0, v1, v2, v3, v4, v5, v6, v7, v8, v9].drop 1).take (Try.prog.cellsOf 9)) = xs[1]? := hg 1 _ rfl
  have g2 : DataW.trod enc Try.prog w 0 (fun _ => true) true n 23 (([v0, v1, v2, v3, v4, v5, v6, v7, v8, v9].drop 2).take (Try.prog.cellsOf 23)) = xs[2]? := hg 2 _ rfl
  have g3 : DataW.trod enc Try.prog w 0 (fun _ => true) true n 25 (([v0, v1, v2, v3, v4, v5, v6, v7, v8, v9].drop 6).take (Try.prog.cellsOf 25)) = xs[3]? := hg 3 _ rfl
  have g4 : DataW.trod enc Try.prog w 0 (fun _ => true) true n 3 (([v0, v1, v2, v3, v4, v5, v6, v7, v8, v9].drop 9).take (Try.prog.cellsOf 3)) = xs[4]? := hg 4 _ rfl
  rw [c1] at g0 g1
  rw [c2] at g2
  rw [c3] at g3
  rw [c4] at g4
  replace g0 : DataW.trod enc Try.prog w 0 (fun _ => true) true n 9 [v0] = xs[0]? := g0
  replace g1 : DataW.trod enc Try.prog w 0 (fun _ => true) true n 9 [v1] = xs[1]? := g1
  replace g2 : DataW.trod enc Try.prog w 0 (fun _ => true) true n 23 [v2, v3, v4, v5] = xs[2]? := g2
  replace g3 : DataW.trod enc Try.prog w 0 (fun _ => true) true n 25 [v6, v7, v8] = xs[3]? := g3
  replace g4 : DataW.trod enc Try.prog w 0 (fun _ => true) true n 3 [v9] = xs[4]? := g4
  rw [List.getElem?_eq_getElem (by rw [hlen]; decide)] at g0 g1 g2 g3 g4
  obtain ⟨h, rfl, hh⟩ := trod_string g0
  obtain ⟨b, rfl, hb⟩ := trod_string g1
  obtain ⟨zs, hz, hzl, _⟩ := trod_nums Try.underlying23 Try.underlying3 (by kernel_rfl) (by kernel_rfl) g2
  obtain ⟨ys, hy, hyl, _⟩ := trod_fields (k := .i64) Try.underlying25 (by kernel_rfl) (by intro i f hi; match i, hi with | 0, hi | 1, hi | 2, hi => (cases hi; exact ⟨rfl, by kernel_rfl, by kernel_rfl⟩) | (i + 3), hi => (simp at hi)) g3
  have hw : ∃ z : Int, v9 = .int .i64 z := by
    cases n with
    | zero => simp [DataW.trod] at g4
    | succ n =>
      unfold DataW.trod at g4
      rw [Try.underlying3] at g4
      cases v9 <;> simp at g4
      obtain ⟨⟨rfl, _⟩, _⟩ := g4
      exact ⟨_, rfl⟩
  obtain ⟨win, rfl⟩ := hw
  match zs, hzl with
  | [a, b', c, d'], _ =>
  match ys, hyl with
  | [s0, s1, s2], _ =>
  simp only [List.map_cons, List.map_nil, List.cons.injEq, and_true] at hz hy
  obtain ⟨rfl, rfl, rfl, rfl⟩ := hz
  obtain ⟨rfl, rfl, rfl⟩ := hy
  exact ⟨h, b, ⟨a, b', c, d'⟩, s0, s1, s2, win, rfl, hh, hb⟩
end
end Go.Proofs.Ytndkgjoaljcijaa
