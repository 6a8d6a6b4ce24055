/- Slices of bytes in this seat's numbers: read, owned, appended to; slices.Clone. -/
import Derived.Test.YtndkgjoaljcijaaMemR
import Derived.Lib.SliceRun
import Derived.Lib.BufferMore
set_option linter.unusedSimpArgs false
set_option linter.unusedVariables false
namespace Go.Proofs.Ytndkgjoaljcijaa
open Go.RowKit

theorem info_u8 : (Try.prog.info? 5).map (fun i => (i.zero, i.size, i.bytes)) = some (some (.int .u8 0), 1, 1) := by kernel_rfl
/-- The slice value v holds the bytes xs in memory of the call's own. -/
def RowB (w : World) (base : Nat) (v : Value) (xs : List UInt8) : Prop := Row w base 5 1 v xs.length (bvals xs)
/-- The slice at A reads as the bytes xs. -/
def ReadsB (w : World) (A : Option Addr) (xs : List UInt8) : Prop := Reads w w.heap.size 1 A xs.length (bvals xs)

theorem RowB.below {w w' : World} {base : Nat} {v : Value} {xs : List UInt8} (h : RowB w base v xs) (hb : Below w.heap.size w w') : RowB w' base v xs := Row.below h hb
theorem RowB.alloc {w : World} {base : Nat} {v : Value} {xs : List UInt8} (h : RowB w base v xs) (o : Obj) : RowB (w.alloc o) base v xs := Row.alloc h o
theorem RowB.mono {w : World} {base base' : Nat} {v : Value} {xs : List UInt8} (h : RowB w base v xs) (hb : base' ≤ base) : RowB w base' v xs := Row.mono h hb
theorem ReadsB.below {w w' : World} {A : Option Addr} {xs : List UInt8} (h : ReadsB w A xs) (hb : Below w.heap.size w w') : ReadsB w' A xs := Reads.more (Reads.below h hb) hb.size
theorem ReadsB.alloc {w : World} {A : Option Addr} {xs : List UInt8} (h : ReadsB w A xs) (o : Obj) : ReadsB (w.alloc o) A xs := h.below ((Below.refl _ _).alloc (Nat.le_refl _) o)
theorem RowB.slice {w : World} {base : Nat} {v : Value} {xs : List UInt8} (h : RowB w base v xs) : ∃ A c, v = .slice A xs.length c ∧ xs.length ≤ c ∧ ReadsB w A xs := by
  obtain ⟨A, c, rfl, hc⟩ := Row.slice h
  exact ⟨A, c, rfl, hc, Row.reads h rfl⟩
theorem RowB.lt {w : World} {base : Nat} {v : Value} {xs : List UInt8} (h : RowB w base v xs) (k : Nat) (hk : v.ownBlock = some k) : base ≤ k ∧ k < w.heap.size := Row.lt h k hk
theorem ReadsB.cut {w : World} {A : Option Addr} {xs : List UInt8} (h : ReadsB w A xs) (i j cap : Nat) (hij : i ≤ j) (hj : j ≤ xs.length) (hc : xs.length ≤ cap) :
    ReadsB w (if cap = i then A else A.map (·.add i)) ((xs.drop i).take (j - i)) := by
  have h1 := Reads.cut (k := i) (cap := cap) h (by omega) hc
  rw [Nat.mul_one] at h1
  have hl : ((xs.drop i).take (j - i)).length = j - i := by simp; omega
  refine ⟨by rw [bvals_length, hl]; simp, fun hn => ?_⟩
  rw [hl] at hn
  obtain ⟨ad, e1, e2, e3⟩ := h1.2 (by omega)
  refine ⟨ad, e1, e2, fun k u hu => e3 k u ?_⟩
  simp only [bvals, List.map_take, List.map_drop] at hu ⊢
  rw [List.getElem?_take] at hu
  split at hu
  · exact hu
  · cases hu
/-- The byte at a place. -/
theorem ReadsB.at_ {w : World} {A : Option Addr} {xs : List UInt8} (h : ReadsB w A xs) (i : Nat) (hi : i < xs.length) : ∃ ad, A = some ad ∧ ad.block < w.heap.size ∧ w.cell? (ad.add i) = some (bval xs[i]) := by
  obtain ⟨ad, e1, e2, e3⟩ := h.2 (by omega)
  exact ⟨ad, e1, e2, e3 i _ (bvals_get xs i hi)⟩

/-- append of bytes onto bytes of the call's own. -/
theorem wpList_append_bytes {w : World} {ops : Array Oper} {rest : List Oper} {o : Oper} {a : Act} {Q : Exit → Act → World → Prop} (hgd : o.guard = none) (s x : Operand)
    (ho : o.op = .call { callee := .builtin .append, args := #[s, x], argTypes := #[78, 78] })
    (base : Nat) (v : Value) (xs : List UInt8) (hs : a.eval s = v) (hown : RowB w base v xs) (A : Option Addr) (m c : Nat) (news : List UInt8) (hx : a.eval x = .slice A m c) (hm : m = news.length) (hr : ReadsB w A news)
    (hlen : xs.length + news.length ≤ 1099511627776) (hbase : base ≤ w.heap.size)
    (h : ∀ v' w', RowB w' base v' (xs ++ news) → w.grownBy w' v.ownBlock → (v'.ownBlock = v.ownBlock ∨ v'.ownBlock = some w.heap.size) → wpList Try.prog ops Q rest (a.put o.dst v') w') : wpList Try.prog ops Q (o :: rest) a w := by
  obtain ⟨i0, hi, hz0, hz1, hz2⟩ := info_parts info_u8
  subst hm
  refine wpList_append_row w hgd s x 78 ho base 5 i0 (.int .u8 0) 1 1 Try.underlying78 hi hz0 hz1 hz2 rfl (by omega) v xs.length (bvals xs) hs hown w.heap.size A news.length c (bvals news) hx hr (bvals_one _) (by simp only [maxLen]; omega) (by omega) hbase ?_
  intro v' w' h1 h2 h3
  rw [← bvals_append] at h1
  exact h v' w' (by unfold RowB; rw [List.length_append]; exact h1) h2 h3

/-- One byte in a new block of one cell. -/
theorem reads_one (w : World) (b : UInt8) (t : TypeId) : ReadsB (w.alloc (.cells #[.int .u8 (b.toNat : Int)] t)) (some ⟨w.heap.size, 0, none⟩) [b] :=
  ⟨rfl, fun _ => ⟨_, rfl, by simp, fun j u hu => by
    have hj : j = 0 := by have := (List.getElem?_eq_some_iff.1 hu).1; simp [bvals] at this; omega
    subst hj
    simp only [bvals, List.map_cons, List.map_nil, List.getElem?_cons_zero, Option.some.injEq] at hu
    subst hu
    exact (cell_of_row _ _ 0 _ _ (0, 0) (heap_alloc_new w _)).trans rfl⟩⟩
/-- A text out of bytes. -/
def str (l : List UInt8) : ByteArray := ⟨l.toArray⟩
theorem str_data (l : List UInt8) : (str l).data.toList = l := rfl
theorem str_size (l : List UInt8) : (str l).size = l.length := rfl
theorem str_of (s : ByteArray) : str s.data.toList = s := rfl
theorem bvals_ints (xs : List UInt8) : bvals xs = (xs.map fun b => (b.toNat : Int)).map (Value.int .u8) := by simp [bvals, bval]
/-- string(b). -/
theorem run_str (w : World) (B : Nat) (A : Option Addr) (n c : Nat) (xs : List UInt8) (h : Reads w B 1 A n (bvals xs)) : (convert 78 9 (.slice A n c)).run Try.prog w = .ok (.string (str xs)) w := by
  have hn : xs.length = n := by have := h.1; rw [bvals_length] at this; omega
  have e0 : ∀ l : List UInt8, strOfNums (l.map fun b => (b.toNat : Int)) = str l := by
    intro l
    simp only [strOfNums, str, List.map_map]
    congr 2
    rw [List.map_congr_left (g := id) (fun a _ => by simp), List.map_id]
  rcases A with _ | ad
  · have h0 : n = 0 := by
      rcases Nat.eq_zero_or_pos n with h0 | h0
      · exact h0
      · obtain ⟨ad, h', _⟩ := h.2 h0
        cases h'
    subst h0
    obtain rfl : xs = [] := List.eq_nil_of_length_eq_zero hn
    exact run_convert_bytes_nil w 78 5 Try.underlying78 Try.underlying5 0 c 9 Try.underlying9
  · have hl : (loadCells ad n).run Try.prog w = .ok ((xs.map fun b => (b.toNat : Int)).map (Value.int .u8)).toArray w := by
      have := run_loadCells_list (P := Try.prog) w ad (bvals xs) (fun j v hj => by
        have hjl : j < xs.length := by have := (List.getElem?_eq_some_iff.1 hj).1; simpa [bvals_length] using this
        obtain ⟨ad', he', _, hc⟩ := h.2 (by omega)
        injection he' with he'
        subst he'
        exact hc j v hj)
      rw [bvals_length, hn] at this
      rw [this, bvals_ints]
    rw [run_convert_bytes_string w 78 9 5 _ n c Try.underlying78 Try.underlying5 Try.underlying9, run_bytesToString w ad n c _ hl, foldl_push_bytes, ← e0 xs]
    simp [strOfNums, ByteArray.empty, ByteArray.emptyWithCapacity]
    rfl

/-- A call gives bytes of its own, and leaves what was. -/
def GivesB (w : World) (base : Nat) (xs : List UInt8) (e : Ending) (w' : World) : Prop := ∃ v, e = .returned v ∧ RowB w' base v xs ∧ Below base w w' ∧ w.heap.size ≤ w'.heap.size

theorem row_empty (w : World) (base : Nat) (hb : base ≤ w.heap.size) : RowB (w.alloc (.cells #[] 5)) base (.slice (some ⟨w.heap.size, 0, none⟩) 0 0) [] :=
  ⟨rfl, .inr ⟨w.heap.size, 0, 0, #[], (0, 0), rfl, hb, heap_alloc_new w _, Nat.le_refl _, Nat.zero_le _, by simp, rfl, .inl rfl⟩⟩

end Go.Proofs.Ytndkgjoaljcijaa
