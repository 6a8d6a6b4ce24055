/- Slices of ints in this seat's numbers: read, owned, appended to, made. -/
import Derived.Test.YtbalodhgbpagfaaMemR
import Derived.Laws.MakeOwn
set_option linter.unusedSimpArgs false
set_option linter.unusedVariables false
namespace Go.Proofs.Ytbalodhgbpagfaa
open Go.RowKit

theorem info_int : (Try.prog.info? 3).map (fun i => (i.zero, i.size, i.bytes)) = some (some (.int .i64 0), 1, 8) := by kernel_rfl
def ival (z : Int) : Value := .int .i64 z
def ivals (l : List Int) : List Value := l.map ival
theorem ivals_length (l : List Int) : (ivals l).length = l.length := by simp [ivals]
theorem ivals_append (xs ys : List Int) : ivals (xs ++ ys) = ivals xs ++ ivals ys := by simp [ivals]
theorem ivals_one (xs : List Int) : ∀ u ∈ ivals xs, u.oneCell' = true := by
  intro u hu
  simp only [ivals, List.mem_map] at hu
  obtain ⟨b, _, rfl⟩ := hu
  rfl
theorem ivals_get (xs : List Int) (i : Nat) (h : i < xs.length) : (ivals xs)[i]? = some (.int .i64 xs[i]) := by simp [ivals, ival, h]
/-- The slice value v holds these ints in memory of the call's own. -/
def RowI (w : World) (base : Nat) (v : Value) (xs : List Int) : Prop := Row w base 3 1 v xs.length (ivals xs)
/-- The slice at A reads as these ints. -/
def ReadsI (w : World) (A : Option Addr) (xs : List Int) : Prop := Reads w w.heap.size 1 A xs.length (ivals xs)
theorem RowI.below {w w' : World} {base : Nat} {v : Value} {xs : List Int} (h : RowI w base v xs) (hb : Below w.heap.size w w') : RowI w' base v xs := Row.below h hb
theorem RowI.alloc {w : World} {base : Nat} {v : Value} {xs : List Int} (h : RowI w base v xs) (o : Obj) : RowI (w.alloc o) base v xs := Row.alloc h o
theorem RowI.mono {w : World} {base base' : Nat} {v : Value} {xs : List Int} (h : RowI w base v xs) (hb : base' ≤ base) : RowI w base' v xs := Row.mono h hb
theorem RowI.lt {w : World} {base : Nat} {v : Value} {xs : List Int} (h : RowI w base v xs) (k : Nat) (hk : v.ownBlock = some k) : base ≤ k ∧ k < w.heap.size := Row.lt h k hk
theorem RowI.slice {w : World} {base : Nat} {v : Value} {xs : List Int} (h : RowI w base v xs) : ∃ A c, v = .slice A xs.length c ∧ xs.length ≤ c ∧ ReadsI w A xs := by
  obtain ⟨A, c, rfl, hc⟩ := Row.slice h
  exact ⟨A, c, rfl, hc, Row.reads h rfl⟩
theorem ReadsI.below {w w' : World} {A : Option Addr} {xs : List Int} (h : ReadsI w A xs) (hb : Below w.heap.size w w') : ReadsI w' A xs := Reads.more (Reads.below h hb) hb.size
theorem ReadsI.alloc {w : World} {A : Option Addr} {xs : List Int} (h : ReadsI w A xs) (o : Obj) : ReadsI (w.alloc o) A xs := h.below ((Below.refl _ _).alloc (Nat.le_refl _) o)
theorem ReadsI.drew {w : World} {A : Option Addr} {xs : List Int} (h : ReadsI w A xs) : ReadsI w.drew A xs := h
/-- The number at a place. -/
theorem ReadsI.at_ {w : World} {A : Option Addr} {xs : List Int} (h : ReadsI w A xs) (i : Nat) (hi : i < xs.length) : ∃ ad, A = some ad ∧ ad.block < w.heap.size ∧ w.cell? (ad.add i) = some (.int .i64 xs[i]) := by
  obtain ⟨ad, e1, e2, e3⟩ := h.2 (by omega)
  exact ⟨ad, e1, e2, e3 i _ (ivals_get xs i hi)⟩
theorem ReadsI.nil (w : World) (A : Option Addr) : ReadsI w A [] := ⟨rfl, fun h => absurd h (by simp)⟩
theorem ReadsI.cut {w : World} {A : Option Addr} {xs : List Int} (h : ReadsI w A xs) (i j cap : Nat) (hij : i ≤ j) (hj : j ≤ xs.length) (hc : xs.length ≤ cap) :
    ReadsI w (if cap = i then A else A.map (·.add i)) ((xs.drop i).take (j - i)) := by
  have h1 := Reads.cut (k := i) (cap := cap) h (by omega) hc
  rw [Nat.mul_one] at h1
  have hl : ((xs.drop i).take (j - i)).length = j - i := by simp; omega
  refine ⟨by rw [ivals_length, hl]; simp, fun hn => ?_⟩
  rw [hl] at hn
  obtain ⟨ad, e1, e2, e3⟩ := h1.2 (by omega)
  refine ⟨ad, e1, e2, fun k u hu => e3 k u ?_⟩
  simp only [ivals, List.map_take, List.map_drop] at hu ⊢
  rw [List.getElem?_take] at hu
  split at hu
  · exact hu
  · cases hu
theorem reads_ints {w : World} {b : Nat} {t : TypeId} {l : List Int} (h : Blk w b t (ivals l).toArray) : ReadsI w (some ⟨b, 0, none⟩) l :=
  ⟨by rw [ivals_length, Nat.mul_one], fun _ => ⟨_, rfl, h.lt, fun j u hu => by
    have e1 : ((⟨b, 0, none⟩ : Addr).add j) = ⟨b, j, none⟩ := by unfold Addr.add; split <;> simp_all
    rw [e1, h.cell, List.getElem?_toArray]; exact hu⟩⟩
/-- append of ints onto ints of the call's own. -/
theorem wpList_append_ints {w : World} {ops : Array Oper} {rest : List Oper} {o : Oper} {a : Act} {Q : Exit → Act → World → Prop} (hgd : o.guard = none) (s x : Operand)
    (ho : o.op = .call { callee := .builtin .append, args := #[s, x], argTypes := #[35, 35] })
    (base : Nat) (v : Value) (xs : List Int) (hs : a.eval s = v) (hown : RowI w base v xs) (A : Option Addr) (m c : Nat) (news : List Int) (hx : a.eval x = .slice A m c) (hm : m = news.length) (hr : ReadsI w A news)
    (hlen : xs.length + news.length ≤ 10995116277) (hbase : base ≤ w.heap.size)
    (h : ∀ v' w', RowI w' base v' (xs ++ news) → w.grownBy w' v.ownBlock → (v'.ownBlock = v.ownBlock ∨ v'.ownBlock = some w.heap.size) → wpList Try.prog ops Q rest (a.put o.dst v') w') : wpList Try.prog ops Q (o :: rest) a w := by
  obtain ⟨i0, hi, hz0, hz1, hz2⟩ := info_parts info_int
  subst hm
  refine wpList_append_row w hgd s x 35 ho base 3 i0 (.int .i64 0) 1 8 Try.underlying35 hi hz0 hz1 hz2 rfl (by omega) v xs.length (ivals xs) hs hown w.heap.size A news.length c (ivals news) hx hr (ivals_one _) (by simp only [maxLen]; omega) (by omega) hbase ?_
  intro v' w' h1 h2 h3
  rw [← ivals_append] at h1
  exact h v' w' (by unfold RowI; rw [List.length_append]; exact h1) h2 h3
theorem run_make_int (w : World) (n : Nat) (hn : n ≤ 1000000000) :
    (Instr.makeSlice 35 (.int .i64 n) (.int .i64 n)).run Try.prog w = .ok (.slice (some ⟨w.heap.size, 0, none⟩) n n) (w.alloc (.cells (ivals (List.replicate n 0)).toArray 3)) := by
  obtain ⟨i0, hi, hz0, hz1, hz2⟩ := info_parts info_int
  have h := run_make (P := Try.prog) w 35 3 i0 _ Try.underlying35 hi hz0 .i64 .i64 n n (by omega) (Int.le_refl _) (by rw [hz2]; omega) (by omega)
  rw [h]
  have e : madeCells (Value.cells (.int .i64 0)) ((n : Int).toNat * i0.size) = (ivals (List.replicate n 0)).toArray := by
    apply Array.ext
    · simp [size_madeCells, ivals, hz1]
    · intro i h1 h2
      simp [madeCells, ivals, ival, Value.cells, Nat.mod_one]
  rw [e]
  simp

end Go.Proofs.Ytbalodhgbpagfaa
