/- Rows of packs (a cost and symbols) in this seat's numbers: read, owned, appended to. -/
import Derived.Test.YtoefkkgnabjmdaaInts
set_option linter.unusedSimpArgs false
set_option linter.unusedVariables false
namespace Go.Proofs.Ytoefkkgnabjmdaa
open Go.RowKit

/-- A pack: its cost, its symbols, and the slice that holds them. -/
structure Pe where
  cost : Int
  syms : List Int
  v : Value
instance : Inhabited Pe := ⟨⟨0, [], .slice none 0 0⟩⟩
def pcells (p : Pe) : List Value := [.int .i64 p.cost, p.v]
def pvals (l : List Pe) : List Value := l.flatMap pcells
theorem pvals_length (l : List Pe) : (pvals l).length = l.length * 2 := by
  induction l with
  | nil => rfl
  | cons t l ih => simp only [pvals, List.flatMap_cons, List.length_append, List.length_cons] at *; rw [ih]; simp [pcells]; omega
theorem pvals_append (a b : List Pe) : pvals (a ++ b) = pvals a ++ pvals b := by simp [pvals]
theorem pvals_get : ∀ (l : List Pe) (i j : Nat) (hi : i < l.length), j < 2 → (pvals l)[i * 2 + j]? = (pcells l[i])[j]?
  | t :: l, 0, j, _, hj => by
    simp only [pvals, List.flatMap_cons, Nat.zero_mul, Nat.zero_add, List.getElem_cons_zero]
    rw [List.getElem?_append_left (by simp [pcells]; omega)]
  | t :: l, i + 1, j, hi, hj => by
    simp only [pvals, List.flatMap_cons]
    rw [List.getElem?_append_right (by simp [pcells]; omega)]
    have e : (i + 1) * 2 + j - (pcells t).length = i * 2 + j := by simp [pcells]; omega
    rw [e]
    exact pvals_get l i j (by simpa using hi) hj
theorem info_pack : (Try.prog.info? 71).map (fun i => (i.zero, i.size, i.bytes)) = some (some (.agg #[.int .i64 0, .slice none 0 0]), 2, 32) := by kernel_rfl

/-- The slice value v holds these packs, in memory of the call's own; each one's symbols lie in such memory too. -/
structure PRow (w : World) (base : Nat) (v : Value) (l : List Pe) : Prop where
  row : Row w base 71 2 v l.length (pvals l)
  syms : ∀ p ∈ l, RowI w base p.v p.syms
theorem PRow.nil (w : World) (base : Nat) : PRow w base (.slice none 0 0) [] := ⟨Row.nil _ _ _ _, fun p hp => by cases hp⟩
theorem PRow.below {w w' : World} {base : Nat} {v : Value} {l : List Pe} (h : PRow w base v l) (hb : Below w.heap.size w w') : PRow w' base v l := ⟨Row.below h.row hb, fun p hp => (h.syms p hp).below hb⟩
theorem PRow.alloc {w : World} {base : Nat} {v : Value} {l : List Pe} (h : PRow w base v l) (o : Obj) : PRow (w.alloc o) base v l := ⟨Row.alloc h.row o, fun p hp => (h.syms p hp).alloc o⟩
theorem PRow.mono {w : World} {base base' : Nat} {v : Value} {l : List Pe} (h : PRow w base v l) (hb : base' ≤ base) : PRow w base' v l := ⟨Row.mono h.row hb, fun p hp => (h.syms p hp).mono hb⟩
theorem PRow.lt {w : World} {base : Nat} {v : Value} {l : List Pe} (h : PRow w base v l) (k : Nat) (hk : v.ownBlock = some k) : base ≤ k ∧ k < w.heap.size := Row.lt h.row k hk
/-- Rows of kinds that differ lie in different blocks. -/
theorem row_ne {w : World} {b1 b2 : Nat} {e1 e2 : TypeId} {s1 s2 n1 n2 : Nat} {v1 v2 : Value} {x1 x2 : List Value} (h1 : Row w b1 e1 s1 v1 n1 x1) (h2 : Row w b2 e2 s2 v2 n2 x2) (hne : e1 ≠ e2) : v1.ownBlock = none ∨ v1.ownBlock ≠ v2.ownBlock := by
  obtain ⟨_, h1⟩ := h1
  obtain ⟨_, h2⟩ := h2
  rcases h1 with ⟨rfl, _⟩ | ⟨g1, o1, c1, cur1, m1, rfl, _, k1, _⟩
  · exact .inl rfl
  · rcases h2 with ⟨rfl, _⟩ | ⟨g2, o2, c2, cur2, m2, rfl, _, k2, _⟩
    · exact .inr (by simp [Value.ownBlock])
    · refine .inr fun h => ?_
      simp only [Value.ownBlock, Option.some.injEq] at h
      subst h
      rw [k1] at k2
      simp only [Option.some.injEq, Obj.cells.injEq] at k2
      exact hne k2.2.1
/-- A whole block is a row. -/
theorem row_of_blk {w : World} {b base : Nat} {e : TypeId} {size n : Nat} {xs : List Value} (h : Blk w b e xs.toArray) (hb : base ≤ b) (hx : xs.length = n * size) (hn : n ≤ maxLen) : Row w base e size (.slice (some ⟨b, 0, none⟩) n n) n xs :=
  ⟨hx, .inr ⟨b, 0, n, xs.toArray, (0, 0), rfl, hb, h, Nat.le_refl _, hn, by simp [hx], by rw [← hx]; simp, .inl rfl⟩⟩
theorem rowI_of_blk {w : World} {b base : Nat} {xs : List Int} (h : Blk w b 3 (ivals xs).toArray) (hb : base ≤ b) (hn : xs.length ≤ maxLen) : RowI w base (.slice (some ⟨b, 0, none⟩) xs.length xs.length) xs :=
  row_of_blk h hb (by rw [ivals_length, Nat.mul_one]) hn
/-- Only one block of packs was changed, or grown into another. -/
theorem PRow.symsKept {w w' : World} {base : Nat} {v : Value} {l : List Pe} (h : PRow w base v l) (hg : w.grownBy w' v.ownBlock) : ∀ p ∈ l, RowI w' base p.v p.syms :=
  fun p hp => Row.kept (h.syms p hp) hg (row_ne (h.syms p hp) h.row (by decide))
/-- append of a pack. -/
theorem wpList_append_pack {w : World} {ops : Array Oper} {rest : List Oper} {o : Oper} {a : Act} {Q : Exit → Act → World → Prop} (hgd : o.guard = none) (s x : Operand)
    (ho : o.op = .call { callee := .builtin .append, args := #[s, x], argTypes := #[68, 68] })
    (base : Nat) (v : Value) (l : List Pe) (hs : a.eval s = v) (hown : PRow w base v l) (b : Nat) (p : Pe) (hx : a.eval x = .slice (some ⟨b, 0, none⟩) 1 1) (hr : Blk w b 71 (pcells p).toArray)
    (hp1 : p.v.oneCell' = true) (hp : RowI w base p.v p.syms) (hlen : l.length ≤ 1000000000) (hbase : base ≤ w.heap.size)
    (h : ∀ v' w', PRow w' base v' (l ++ [p]) → w.grownBy w' v.ownBlock → (v'.ownBlock = v.ownBlock ∨ v'.ownBlock = some w.heap.size) → wpList Try.prog ops Q rest (a.put o.dst v') w') : wpList Try.prog ops Q (o :: rest) a w := by
  obtain ⟨i0, hi, hz0, hz1, hz2⟩ := info_parts info_pack
  have hR : Reads w w.heap.size 2 (some ⟨b, 0, none⟩) 1 (pcells p) := Row.reads (row_of_blk hr (Nat.zero_le _) rfl (by simp [maxLen])) rfl
  refine wpList_append_row w hgd s x 68 ho base 71 i0 _ 2 32 Try.underlying68 hi hz0 hz1 hz2 rfl (by omega) v l.length (pvals l) hs hown.row w.heap.size _ 1 1 (pcells p) hx hR ?_ (by simp only [maxLen]; omega) (by omega) hbase ?_
  · intro u hu
    simp only [pcells, List.mem_cons, List.not_mem_nil, or_false] at hu
    rcases hu with rfl | rfl
    · rfl
    · exact hp1
  · intro v' w' h1 h2 h3
    refine h v' w' ⟨?_, ?_⟩ h2 h3
    · have e : pvals (l ++ [p]) = pvals l ++ pcells p := by rw [pvals_append]; simp [pvals]
      rw [e, List.length_append]
      exact h1
    · intro q hq
      rcases List.mem_append.1 hq with hq | hq
      · exact hown.symsKept h2 q hq
      · rw [List.mem_singleton.1 hq]
        exact Row.kept hp h2 (row_ne hp hown.row (by decide))

end Go.Proofs.Ytoefkkgnabjmdaa
