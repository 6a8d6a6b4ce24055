/- Rows of matches of the call's own: read, lengthened, two exchanged; the library's Reverse. -/
import Derived.Test.YtbalodhgbpagfaaIntB
import Derived.BigQuiet
import Derived.BigRegion
import Derived.Deep.QuietTactic
import Derived.Deep.DeepMust
set_option linter.unusedSimpArgs false
set_option linter.unusedVariables false
set_option maxRecDepth 100000
namespace Go.Proofs.Ytbalodhgbpagfaa
open Go.RowKit

structure Mt where
  len : Nat
  dist : Nat
def mtCells (m : Mt) : List Value := [.int .i64 (m.len : Nat), .int .i64 (m.dist : Nat)]
def mvals (l : List Mt) : List Value := l.flatMap mtCells
theorem mvals_length (l : List Mt) : (mvals l).length = l.length * 2 := by
  induction l with
  | nil => rfl
  | cons t l ih => simp only [mvals, List.flatMap_cons, List.length_append, List.length_cons] at *; rw [ih]; simp [mtCells]; omega
theorem mvals_get : ∀ (l : List Mt) (i j : Nat) (hi : i < l.length), j < 2 → (mvals l)[i * 2 + j]? = (mtCells l[i])[j]?
  | t :: l, 0, j, _, hj => by
    simp only [mvals, List.flatMap_cons, Nat.zero_mul, Nat.zero_add, List.getElem_cons_zero]
    rw [List.getElem?_append_left (by simp [mtCells]; omega)]
  | t :: l, i + 1, j, hi, hj => by
    simp only [mvals, List.flatMap_cons]
    rw [List.getElem?_append_right (by simp [mtCells]; omega)]
    have e : (i + 1) * 2 + j - (mtCells t).length = i * 2 + j := by simp [mtCells]; omega
    rw [e]
    exact mvals_get l i j (by simpa using hi) hj
def ReadsM (w : World) (A : Option Addr) (l : List Mt) : Prop := Reads w w.heap.size 2 A l.length (mvals l)
def mt0 : Mt := ⟨0, 0⟩
def gM (l : List Mt) (i : Nat) : Mt := l.getD i mt0
theorem gM_at {l : List Mt} {i : Nat} (h : i < l.length) : gM l i = l[i] := by rw [gM, List.getD_eq_getElem?_getD, List.getElem?_eq_getElem h]; rfl
def swapM (l : List Mt) (i j : Nat) : List Mt := (l.set i (gM l j)).set j (gM l i)
theorem swapM_length (l : List Mt) (i j : Nat) : (swapM l i j).length = l.length := by simp [swapM]
theorem swapM_get {l : List Mt} {i j : Nat} (hi : i < l.length) (hj : j < l.length) (k : Nat) : gM (swapM l i j) k = if k = j then gM l i else if k = i then gM l j else gM l k := by
  unfold swapM
  conv => lhs; unfold gM
  rw [List.getD_eq_getElem?_getD, List.getElem?_set]
  by_cases e : j = k
  · subst e
    rw [if_pos rfl, if_pos (by simpa using hj), if_pos rfl]; rfl
  · rw [if_neg e, if_neg (fun h => e h.symm), List.getElem?_set]
    by_cases e2 : i = k
    · subst e2
      rw [if_pos rfl, if_pos hi, if_pos rfl]; rfl
    · rw [if_neg e2, if_neg (fun h => e2 h.symm)]
      unfold gM
      rw [List.getD_eq_getElem?_getD]
theorem mvals_one (l : List Mt) : ∀ u ∈ mvals l, u.oneCell' = true := by
  intro u hu
  obtain ⟨g, _, hg⟩ := List.mem_flatMap.1 hu
  simp [mtCells] at hg
  rcases hg with rfl | rfl <;> rfl
theorem mvals_append (a b : List Mt) : mvals (a ++ b) = mvals a ++ mvals b := by simp [mvals]
def RowM (w : World) (base : Nat) (v : Value) (l : List Mt) : Prop := Row w base 31 2 v l.length (mvals l)
theorem info_mt : (Try.prog.info? 31).map (fun i => (i.zero, i.size, i.bytes)) = some (some (.agg #[.int .i64 0, .int .i64 0]), 2, 16) := by kernel_rfl
theorem RowM.reads {w : World} {base : Nat} {A : Option Addr} {n c : Nat} {l : List Mt} (h : RowM w base (.slice A n c) l) : n = l.length ∧ ReadsM w A l := by
  obtain ⟨A', c', e, _⟩ := Row.slice h
  simp only [Value.slice.injEq] at e
  obtain ⟨rfl, rfl, rfl⟩ := e
  exact ⟨rfl, Row.reads h rfl⟩
/-- One more behind all. -/
theorem wpList_append_mt {w : World} {ops : Array Oper} {rest : List Oper} {o : Oper} {a : Act} {Q : Exit → Act → World → Prop} (hgd : o.guard = none) (s x : Operand)
    (ho : o.op = .call { callee := .builtin .append, args := #[s, x], argTypes := #[26, 26] })
    (base : Nat) (v : Value) (l : List Mt) (hs : a.eval s = v) (hown : RowM w base v l) (b : Nat) (p : Mt) (hx : a.eval x = .slice (some ⟨b, 0, none⟩) 1 1) (hr : Blk w b 31 (mtCells p).toArray)
    (hlen : l.length ≤ 1000000000000) (hbase : base ≤ w.heap.size)
    (h : ∀ v' w', RowM w' base v' (l ++ [p]) → w.grownBy w' v.ownBlock → (v'.ownBlock = v.ownBlock ∨ v'.ownBlock = some w.heap.size) → wpList Try.prog ops Q rest (a.put o.dst v') w') : wpList Try.prog ops Q (o :: rest) a w := by
  obtain ⟨i0, hi, hz0, hz1, hz2⟩ := info_parts info_mt
  have hrd : Reads w w.heap.size 2 (some ⟨b, 0, none⟩) 1 (mvals [p]) := ⟨by rw [mvals_length]; rfl, fun _ => ⟨_, rfl, hr.lt, fun j u hu => by
    have e1 : ((⟨b, 0, none⟩ : Addr).add j) = ⟨b, j, none⟩ := by rw [addr_add, Nat.zero_add]
    rw [e1, hr.cell, List.getElem?_toArray]; simpa [mvals] using hu⟩⟩
  refine wpList_append_row w hgd s x 26 ho base 31 i0 _ 2 16 Try.underlying26 hi hz0 hz1 hz2 rfl (by omega) v l.length (mvals l) hs hown w.heap.size (some ⟨b, 0, none⟩) 1 1 (mvals [p]) hx hrd (mvals_one _) (by simp only [maxLen]; omega) (by omega) hbase ?_
  intro v' w' h1 h2 h3
  rw [← mvals_append] at h1
  exact h v' w' (by unfold RowM; rw [List.length_append]; exact h1) h2 h3
theorem mvals_set (l : List Mt) (i : Nat) (x : Mt) (hi : i < l.length) (j : Nat) (hj : j < l.length * 2) : (mvals (l.set i x))[j]? = if i * 2 ≤ j ∧ j < i * 2 + 2 then (mtCells x)[j - i * 2]? else (mvals l)[j]? := by
  have e : j = j / 2 * 2 + j % 2 := by omega
  have hl : (l.set i x).length = l.length := List.length_set
  have h1 : (mvals (l.set i x))[j]? = (mtCells ((l.set i x)[j / 2]'(by rw [hl]; omega)))[j % 2]? := by
    conv => lhs; rw [e]
    exact mvals_get _ _ _ _ (by omega)
  rw [h1, List.getElem_set]
  by_cases hc : i = j / 2
  · rw [if_pos hc, if_pos (by omega), show j - i * 2 = j % 2 by omega]
  · rw [if_neg hc, if_neg (by omega)]
    have h2 : (mvals l)[j]? = (mtCells (l[j / 2]'(by omega)))[j % 2]? := by
      conv => lhs; rw [e]
      exact mvals_get _ _ _ _ (by omega)
    rw [h2]
theorem RowM.put {w : World} {base g o n c : Nat} {l : List Mt} (h : RowM w base (.slice (some ⟨g, o, none⟩) n c) l) (i : Nat) (hi : i < l.length) (x : Mt) : RowM (w.setCells g (o + i * 2) (mtCells x)) base (.slice (some ⟨g, o, none⟩) n c) (l.set i x) := by
  obtain ⟨h1, h2⟩ := h
  refine ⟨by rw [mvals_length], ?_⟩
  rcases h2 with ⟨hv, hz⟩ | ⟨g', o', cap, cur, m, hv, hb, hh, hn, hm, hr, hx, hk⟩
  · simp at hv
  · simp only [Value.slice.injEq, Option.some.injEq, Addr.mk.injEq, and_true] at hv
    obtain ⟨⟨rfl, rfl⟩, hnn, rfl⟩ := hv
    have hw8 : (mtCells x).length = 2 := rfl
    obtain ⟨cur', s1, s2, s3⟩ := setCells_heap g 31 m (mtCells x) (o + i * 2) w cur hh (by rw [hw8]; omega)
    right
    refine ⟨g, o, c, cur', m, by rw [List.length_set, hnn], hb, s1, by rw [List.length_set]; exact hn, hm, by omega, ?_, hk⟩
    have hold : ∀ j, j < l.length * 2 → cur.toList[o + j]? = (mvals l)[j]? := fun j hj => by
      rw [← hx, List.getElem?_take_of_lt hj, List.getElem?_drop]
    have hcl : cur.toList.length = cur.size := Array.length_toList
    have hset := mvals_set l i x hi
    have hsl : (mvals (l.set i x)).length = l.length * 2 := by rw [mvals_length, List.length_set]
    have hsl2 : (l.set i x).length = l.length := List.length_set
    generalize mvals (l.set i x) = W at *
    generalize mtCells x = vs at *
    generalize l.set i x = l' at *
    generalize cur'.toList = T' at *
    generalize cur.toList = T at *
    have et : (T.take (o + i * 2)).length = o + i * 2 := by rw [List.length_take]; omega
    have et2 : (T.take (o + i * 2) ++ vs).length = o + i * 2 + 2 := by rw [List.length_append, et, hw8]
    apply List.ext_getElem?
    intro j
    by_cases hj : j < l.length * 2
    · rw [List.getElem?_take_of_lt (by rw [hsl2]; exact hj), List.getElem?_drop, s3, hset j hj]
      by_cases hc : i * 2 ≤ j ∧ j < i * 2 + 2
      · rw [if_pos hc, List.getElem?_append_left (by rw [et2]; omega), List.getElem?_append_right (by rw [et]; omega), et]
        congr 1
        omega
      · rw [if_neg hc, ← hold j hj]
        by_cases hlt : j < i * 2
        · rw [List.getElem?_append_left (by rw [et2]; omega), List.getElem?_append_left (by rw [et]; omega), List.getElem?_take_of_lt (by omega)]
        · rw [List.getElem?_append_right (by rw [et2]; omega), et2, List.getElem?_drop, hw8]
          congr 1
          omega
    · rw [List.getElem?_eq_none (by rw [List.length_take, hsl2]; omega), List.getElem?_eq_none (by rw [hsl]; omega)]
theorem grown_mt {w0 w : World} {g : Nat} (h : w0.grownBy w (some g)) (o : Nat) (x : Mt) : w0.grownBy (w.setCells g o (mtCells x)) (some g) :=
  only_setCell (only_setCell h (.inl rfl) _) (.inl rfl) _
/-- Two places written over: the world behind. -/
def ex2M (w : World) (g a b : Nat) (X Y : Mt) : World := ((((w.setCell ⟨g, a, none⟩ (.int .i64 (Y.len : Nat))).setCell ⟨g, a + 1, none⟩ (.int .i64 (Y.dist : Nat))).setCell ⟨g, b, none⟩ (.int .i64 (X.len : Nat))).setCell ⟨g, b + 1, none⟩ (.int .i64 (X.dist : Nat))).drew
theorem ex2M_eq (w : World) (g a b : Nat) (X Y : Mt) : ex2M w g a b X Y = ((w.setCells g a (mtCells Y)).setCells g b (mtCells X)).drew := rfl
theorem ex2M_row {w : World} {base g o n c : Nat} {l : List Mt} (h : RowM w base (.slice (some ⟨g, o, none⟩) n c) l) (i j : Nat) (hi : i < l.length) (hj : j < l.length) {X Y : Mt} (hX : gM l i = X) (hY : gM l j = Y) :
    RowM (ex2M w g (o + i * 2) (o + j * 2) X Y) base (.slice (some ⟨g, o, none⟩) n c) (swapM l i j) := by
  subst hX
  subst hY
  rw [ex2M_eq]
  exact Row.drew ((RowM.put h i hi (gM l j)).put j (by rw [List.length_set]; exact hj) (gM l i))
theorem ex2M_grown {w0 w : World} {g : Nat} (h : w0.grownBy w (some g)) (a b : Nat) (X Y : Mt) : w0.grownBy (ex2M w g a b X Y) (some g) := by
  rw [ex2M_eq]
  exact only_drew (grown_mt (grown_mt h _ _) _ _)
theorem RowM.form {w : World} {base : Nat} {v : Value} {l : List Mt} (h : RowM w base v l) (h0 : 0 < l.length) : ∃ g o c, v = .slice (some ⟨g, o, none⟩) l.length c ∧ base ≤ g ∧ g < w.heap.size ∧ l.length ≤ c := by
  rcases h.2 with ⟨hv, hz⟩ | ⟨g, o, cap, cur, mk, hv, hb, hh, hn, _⟩
  · omega
  · exact ⟨g, o, cap, hv, hb, heap_lt hh, hn⟩
theorem RowM.two {w : World} {base g o n c : Nat} {l : List Mt} (h : RowM w base (.slice (some ⟨g, o, none⟩) n c) l) (i : Nat) (hi : i < l.length) : w.cell? ⟨g, o + i * 2, none⟩ = some (.int .i64 ((gM l i).len : Nat)) ∧ w.cell? ⟨g, o + i * 2 + 1, none⟩ = some (.int .i64 ((gM l i).dist : Nat)) := by
  obtain ⟨A', c', e, _⟩ := Row.slice h
  simp only [Value.slice.injEq] at e
  obtain ⟨-, rfl, -⟩ := e
  have hh := fun j u (hu : (mtCells (gM l i))[j]? = some u) => by
    have hj : j < 2 := by have := (List.getElem?_eq_some_iff.1 hu).1; simpa [mtCells] using this
    rw [gM_at hi] at hu
    have := Row.cells h rfl (i * 2 + j) u (by rw [mvals_get l i j hi hj]; exact hu)
    rwa [addr_add, ← Nat.add_assoc] at this
  exact ⟨hh 0 _ rfl, hh 1 _ rfl⟩
theorem RowM.thawed {w : World} {base g o n c : Nat} {l : List Mt} (h : RowM w base (.slice (some ⟨g, o, none⟩) n c) l) (i : Nat) (hi : i < l.length) : w.frozen? ⟨g, o + i * 2, none⟩ = false ∧ w.frozen? ⟨g, o + i * 2 + 1, none⟩ = false := by
  obtain ⟨A', c', e, _⟩ := Row.slice h
  simp only [Value.slice.injEq] at e
  obtain ⟨-, rfl, -⟩ := e
  have hh := fun j (hj : j < 2) => by
    have := Row.frozen h rfl (i * 2 + j) (by omega)
    rwa [← Nat.add_assoc] at this
  exact ⟨hh 0 (by omega), hh 1 (by omega)⟩
/-- So far as two ends are exchanged. -/
def RevM (l l' : List Mt) (i : Nat) : Prop := l'.length = l.length ∧ ∀ k, k < l.length → gM l' k = if k < i ∨ l.length ≤ k + i then gM l (l.length - 1 - k) else gM l k
theorem RevM.start (l : List Mt) : RevM l l 0 := ⟨rfl, fun k hk => by rw [if_neg (by omega)]⟩
theorem RevM.step {l l' : List Mt} {i : Nat} (h : RevM l l' i) (hi : 2 * i + 1 < l.length) : RevM l (swapM l' i (l.length - 1 - i)) (i + 1) := by
  obtain ⟨h1, h2⟩ := h
  refine ⟨by rw [swapM_length, h1], fun k hk => ?_⟩
  rw [swapM_get (by omega) (by omega)]
  by_cases e1 : k = l.length - 1 - i
  · rw [if_pos e1, if_pos (by omega), h2 i (by omega), if_neg (by omega), e1]
    congr 1
    omega
  · rw [if_neg e1]
    by_cases e2 : k = i
    · rw [if_pos e2, if_pos (by omega), h2 _ (by omega), if_neg (by omega), e2]
    · rw [if_neg e2, h2 k hk]
      by_cases e3 : k < i ∨ l.length ≤ k + i
      · rw [if_pos e3, if_pos (by omega)]
      · rw [if_neg e3, if_neg (by omega)]
theorem RevM.done {l l' : List Mt} {i : Nat} (h : RevM l l' i) (hi : l.length ≤ 2 * i + 1) : l' = l.reverse := by
  obtain ⟨h1, h2⟩ := h
  refine List.ext_getElem (by rw [h1, List.length_reverse]) (fun k a b => ?_)
  have hk : k < l.length := by omega
  have h3 := h2 k hk
  rw [gM_at (by omega)] at h3
  rw [h3, List.getElem_reverse]
  split
  · exact gM_at (by omega)
  · rw [gM_at hk]
    congr 1
    omega
set_option maxHeartbeats 4000000 in
theorem p_ReverseM {w : World} {base : Nat} {v : Value} {l : List Mt} (hrow : RowM w base v l) (hl : l.length ≤ 1000000) :
    Calls Try.prog 24 #[v] w fun e w' => e = .returned (.tuple #[]) ∧ RowM w' base v l.reverse ∧ w.grownBy w' v.ownBlock := by
  obtain ⟨A, c, rfl, hlc⟩ := Row.slice hrow
  have HROW := Lib.hid hrow
  go_enter Try.func24, Try.ntmps24
  go_wp2_with fail
  go_loopw [2, 3] (fun v2 v3 wr => ∃ (i : Nat) (l' : List Mt), v2 = .int .i64 i ∧ v3 = .int .i64 ((l.length : Int) - 1 - i) ∧ i ≤ l.length ∧ RevM l l' i ∧ RowM wr base (.slice A l.length c) l' ∧ w.grownBy wr (Value.slice A l.length c).ownBlock) (fun v2 _ _ => l.length + 1 - (intOf v2).toNat)
  case atStart => exact ⟨0, l, rfl, by simp, Nat.zero_le _, RevM.start l, HROW.out, World.grownBy.refl _ _⟩
  case round =>
    obtain ⟨i, l', rfl, rfl, hi, hrv, hr, hg⟩ := hrel
    by_cases hC : 2 * i + 1 < l.length
    · obtain ⟨g, o, rfl⟩ : ∃ g o, A = some ⟨g, o, none⟩ := by
        obtain ⟨g, o, c', e, _⟩ := RowM.form hrow (by omega)
        simp only [Value.slice.injEq] at e
        exact ⟨g, o, e.1⟩
      obtain ⟨j, hj⟩ : ∃ j, j = l.length - 1 - i := ⟨_, rfl⟩
      have hjj : (l.length : Int) - 1 - (i : Int) = (j : Int) := by omega
      rw [hjj]
      have hjl : j < l'.length := by rw [hrv.1]; omega
      have hil : i < l'.length := by rw [hrv.1]; omega
      obtain ⟨a0, a1⟩ := RowM.two hr i hil
      obtain ⟨b0, b1⟩ := RowM.two hr j hjl
      obtain ⟨p0, p1⟩ := RowM.thawed hr i hil
      obtain ⟨z0, z1⟩ := RowM.thawed hr j hjl
      have hst := hrv.step hC
      rw [← hj] at hst
      have hrx := ex2M_row hr i j hil hjl rfl rfl
      have hgx := ex2M_grown hg (o + i * 2) (o + j * 2) (gM l' i) (gM l' j)
      generalize gM l' i = X at *
      generalize gM l' j = Y at *
      have HST := Lib.hid hst
      have HRX := Lib.hid hrx
      have HGX := Lib.hid hgx
      have q1 : (0 : Int) ≤ i := by omega
      have q2 : (0 : Int) ≤ j := by omega
      have q3 : (i : Int) < l.length := by omega
      have q4 : (j : Int) < l.length := by omega
      have q5 : (i : Int) < j := by omega
      have HJ := Lib.hid (And.intro hj hjj)
      clear hst hrx hgx hjl hil hrv hr hg hjj hj
      go_upto_region 3 with (fail)
      go_region
      all_goals
        go_wp2
        go_roundw
        case rel => exact ⟨i + 1, swapM l' i j, by go_num, by have := HJ.out; congr 1; omega, by omega, HST.out, HRX.out, HGX.out⟩
        case measure => simp [intOf]; omega
    · have hd : l' = l.reverse := hrv.done (by omega)
      have HE := Lib.hid (And.intro hd (And.intro hr hg))
      have q5 : ¬ (i : Int) < (l.length : Int) - 1 - i := by omega
      clear hd hr hg hrv
      go_wp2
      refine bodyPost_end (results_none rfl _ _ _) rfl ⟨rfl, ?_, HE.out.2.2⟩
      rw [← HE.out.1]
      exact HE.out.2.1
end Go.Proofs.Ytbalodhgbpagfaa
