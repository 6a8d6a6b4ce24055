/- Chapter 26 (best): the map of the states that were reached. -/
import Derived.Test.YtndkgjoaljcijaaBsRow
import Derived.Test.YtndkgjoaljcijaaBsStar
import Derived.Maps.Own
set_option linter.unusedSimpArgs false
set_option linter.unusedVariables false
set_option maxRecDepth 100000
namespace Go.Proofs.Ytndkgjoaljcijaa
open Go.RowKit Go.ChangeMaps

def spV (x : Sp) : Value := .agg #[.int .i64 x.cost, .int .i64 x.from_.at_, .int .i64 x.from_.r.a, .int .i64 x.from_.r.b, .int .i64 x.from_.r.c, .int .i64 x.from_.r.d, .int .i64 x.by_.kind, .int .i64 x.by_.byte, .int .i64 x.by_.len, .int .i64 x.by_.dist, .int .i64 x.by_.rep]
theorem stV_inj {a b : St} (h : stV a = stV b) : a = b := by
  obtain ⟨i, ⟨a1, a2, a3, a4⟩⟩ := a
  obtain ⟨j, ⟨b1, b2, b3, b4⟩⟩ := b
  simp [stV] at h
  obtain ⟨h1, h2, h3, h4, h5⟩ := h
  have h1 : i = j := by omega
  subst h1; subst h2; subst h3; subst h4; subst h5
  rfl
theorem run_ck3 (w : World) (x : Int) (em : Bool) (n : Nat) : (Instr.checkKey em (n + 1) 3 (.int .i64 x)).run Try.prog w = .ok () w := by
  unfold Instr.checkKey
  go_simp
theorem run_ck23 (w : World) (a b c d : Int) (em : Bool) (n : Nat) : (Instr.checkKey em (n + 2) 23 (.agg #[.int .i64 a, .int .i64 b, .int .i64 c, .int .i64 d])).run Try.prog w = .ok () w := by
  unfold Instr.checkKey
  go_simp
  rw [show List.range' 0 4 = [0, 1, 2, 3] from rfl]
  simp only [List.forIn_cons, List.forIn_nil]
  go_simp
  simp [run_ck3 _ _ _ n, Result.andThen]
theorem run_check' (w : World) (s : St) (em : Bool) (n : Nat) : (Instr.checkKey em (n + 3) 61 (stV s)).run Try.prog w = .ok () w := by
  unfold stV
  unfold Instr.checkKey
  go_simp
  rw [run_ck3 w _ em (n + 1)]
  simp only [Result.andThen]
  rw [run_ck23]
theorem run_eq23 (w : World) (a b c d a' b' c' d' : Int) (n : Nat) : (Op.equalIn (n + 2) 23 (.agg #[.int .i64 a, .int .i64 b, .int .i64 c, .int .i64 d]) (.agg #[.int .i64 a', .int .i64 b', .int .i64 c', .int .i64 d'])).run Try.prog w = .ok (decide (a = a' ∧ b = b' ∧ c = c' ∧ d = d')) w := by
  obtain ⟨i0, hi, hz0, hz1, hz2⟩ := info_parts info_int
  have hc : Try.prog.cellsOf 3 = 1 := by kernel_rfl
  rw [run_equalIn_array w (n + 1) _ _ Try.underlying23 hi, hc]
  simp only [show List.range 4 = [0, 1, 2, 3] from rfl, Op.eqItems]
  go_simp
  by_cases h1 : a = a' <;> by_cases h2 : b = b' <;> by_cases h3 : c = c' <;> by_cases h4 : d = d' <;> simp [h1, h2, h3, h4]
theorem run_eqSt' (w : World) (s t : St) (n : Nat) : (Op.equalIn (n + 3) 61 (stV s) (stV t)).run Try.prog w = .ok (decide (s = t)) w := by
  unfold stV
  go_simp
  rw [run_eq23]
  obtain ⟨i, ⟨a1, a2, a3, a4⟩⟩ := s
  obtain ⟨j, ⟨b1, b2, b3, b4⟩⟩ := t
  simp only [Result.andThen, St.mk.injEq, Rp.mk.injEq]
  by_cases h1 : i = j
  · subst h1
    by_cases h2 : a1 = b1 ∧ a2 = b2 ∧ a3 = b3 ∧ a4 = b4
    · simp [h2]
    · simp [h2]
  · have : ¬ ((i : Int) = (j : Int)) := by omega
    simp [h1, this]
theorem run_check (w : World) (s : St) (em : Bool) : (Instr.checkKey em 10000 61 (stV s)).run Try.prog w = .ok () w := run_check' w s em 9997
theorem run_eqSt (w : World) (s t : St) : (Op.equal 61 (stV s) (stV t)).run Try.prog w = .ok (decide (s = t)) w := run_eqSt' w s t 9997
theorem run_asking (w : World) (s : St) : ∀ (es : List MapEntry) (i : Nat), (∀ e ∈ es, ∃ t, e.key = stV t) →
    ((Instr.findAsking 61 (stV s) es i).run Try.prog w = .ok none w ∧ ∀ e ∈ es, e.key ≠ stV s) ∨ ∃ j e, (Instr.findAsking 61 (stV s) es i).run Try.prog w = .ok (some (i + j, e.val)) w ∧ es[j]? = some e ∧ e.key = stV s
  | [], i, _ => .inl ⟨by simp [Instr.findAsking], by simp⟩
  | e :: es, i, h => by
    obtain ⟨t, ht⟩ := h e (by simp)
    unfold Instr.findAsking
    simp only [Sem.run_bind, ht, run_eqSt, Result.andThen_ok]
    by_cases q : s = t
    · right
      refine ⟨0, e, ?_, rfl, by rw [ht, q]⟩
      simp [q]
    · rcases run_asking w s es (i + 1) (fun e' he => h e' (by simp [he])) with ⟨h1, h2⟩ | ⟨j, e', h1, h2, h3⟩
      · left
        refine ⟨by simpa [q] using h1, fun e' he => ?_⟩
        rcases List.mem_cons.1 he with rfl | he
        · rw [ht]; exact fun z => q (stV_inj z).symm
        · exact h2 e' he
      · right
        refine ⟨j + 1, e', ?_, by simpa using h2, h3⟩
        rw [show i + (j + 1) = i + 1 + j by omega]
        simpa [q] using h1
theorem run_findSt (w : World) (s : St) (es : List MapEntry) (h : ∀ e ∈ es, ∃ t, e.key = stV t) :
    ((Instr.findKey 61 (stV s) es).run Try.prog w = .ok none w ∧ ∀ e ∈ es, e.key ≠ stV s) ∨ ∃ j e, (Instr.findKey 61 (stV s) es).run Try.prog w = .ok (some (j, e.val)) w ∧ es[j]? = some e ∧ e.key = stV s := by
  unfold Instr.findKey
  simp only [Sem.run_bind, run_underlying Try.underlying61, Result.andThen_ok]
  cases es with
  | nil => exact .inl ⟨by simp [Instr.findNow], by simp⟩
  | cons e es =>
    have := run_asking w s (e :: es) 0 h
    simp only [Nat.zero_add] at this
    simpa [Instr.findNow, Instr.sameNow] using this
def KeysApart (l : List MapEntry) : Prop := ∀ (i j : Nat) (e e' : MapEntry), l[i]? = some e → l[j]? = some e' → e.key = e'.key → i = j
/-- Block b is the map of what f tells. -/
def MapS (w : World) (b : Nat) (f : St → Option Sp) (n : Nat) : Prop := ∃ es clock, w.heap[b]? = some (.map es clock) ∧ es.size ≤ n ∧ (∀ e ∈ es.toList, ∃ s x, e.key = stV s ∧ e.val = spV x ∧ f s = some x) ∧ (∀ s x, f s = some x → ∃ e ∈ es.toList, e.key = stV s) ∧ KeysApart es.toList
theorem MapS.lt {w : World} {b n : Nat} {f : St → Option Sp} (h : MapS w b f n) : b < w.heap.size := by
  obtain ⟨es, clock, hb, _⟩ := h
  exact (Array.getElem?_eq_some_iff.1 hb).1
theorem MapS.mono {w : World} {b n n' : Nat} {f : St → Option Sp} (h : MapS w b f n) (hn : n ≤ n') : MapS w b f n' := by
  obtain ⟨es, clock, hb, hs, r⟩ := h
  exact ⟨es, clock, hb, Nat.le_trans hs hn, r⟩
theorem MapS.same {w w' : World} {b n : Nat} {f : St → Option Sp} (h : MapS w b f n) (hh : w'.heap[b]? = w.heap[b]?) : MapS w' b f n := by
  obtain ⟨es, clock, hb, r⟩ := h
  exact ⟨es, clock, hh.trans hb, r⟩
theorem MapS.below {w w' : World} {b n : Nat} {f : St → Option Sp} (h : MapS w b f n) (hb : Below w.heap.size w w') : MapS w' b f n := h.same (hb.block b h.lt)
theorem MapS.made (w : World) : MapS (w.alloc (.map #[] 0)) w.heap.size (fun _ => none) 0 := ⟨#[], 0, (MapKept.heap_alloc w _).1, Nat.le_refl _, by simp, by simp, fun i j e e' h => by simp at h⟩
/-- A look into it. -/
theorem MapS.look {w : World} {b n : Nat} {f : St → Option Sp} (h : MapS w b f n) (s : St) (c : Bool) : (Instr.lookup 51 (.map (some b)) (stV s) c).run Try.prog w = .ok (if c then .tuple #[spV ((f s).getD sp0), .bool (f s).isSome] else spV ((f s).getD sp0)) w := by
  obtain ⟨es, clock, hb, hs, h1, h2, h4⟩ := h
  rcases run_findSt w s es.toList (fun e he => by obtain ⟨t, x, ht, _⟩ := h1 e he; exact ⟨t, ht⟩) with ⟨k1, k2⟩ | ⟨j, e, k1, k2, k3⟩
  · have hf : f s = none := by
      cases hf : f s with
      | none => rfl
      | some x => obtain ⟨e, he, hk⟩ := h2 s x hf; exact absurd hk (k2 e he)
    have hz : (zeroValue 67).run Try.prog w = .ok (spV sp0) w := by kernel_rfl
    rw [hf]
    simp [Instr.lookup, run_underlying Try.underlying51, MapKept.run_getObj_map hb, run_check, k1, hz, Result.andThen]
  · have hm : e ∈ es.toList := List.mem_of_getElem? k2
    obtain ⟨t, x, e1, e2, e3⟩ := h1 e hm
    obtain rfl : t = s := stV_inj (e1.symm.trans k3)
    rw [e3]
    simp [Instr.lookup, run_underlying Try.underlying51, MapKept.run_getObj_map hb, run_check, k1, e2, Result.andThen]
theorem bits_same (s : St) (n : Nat) : Instr.sameBits (n + 2) (stV s) (stV s) = true := by simp [Instr.sameBits, stV]
/-- A store into it. -/
theorem MapS.store {w : World} {b n : Nat} {f : St → Option Sp} (h : MapS w b f n) (s : St) (x : Sp) : ∃ w', (Instr.mapUpdate 51 (.map (some b)) (stV s) (spV x)).run Try.prog w = .ok () w' ∧ MapS w' b (setF f s x) (n + 1) ∧ w.grownBy w' (some b) := by
  obtain ⟨es, clock, hb, hs, h1, h2, h4⟩ := h
  have hg : ∀ o, w.grownBy (setBlock w b o) (some b) := fun o => ⟨rfl, rfl, rfl, by simp [setBlock], fun i _ hi => heap_setBlock_other hb _ (fun e => hi (by rw [e]))⟩
  rcases run_findSt w s es.toList (fun e he => by obtain ⟨t, x, ht, _⟩ := h1 e he; exact ⟨t, ht⟩) with ⟨k1, k2⟩ | ⟨j, e, k1, k2, k3⟩
  · refine ⟨setBlock w b (.map (es.push ⟨stV s, spV x, clock⟩) (clock + 1)), ?_, ⟨_, _, heap_setBlock_same hb _, by simp; omega, ?_, ?_, ?_⟩, hg _⟩
    · simp [Instr.mapUpdate, run_underlying Try.underlying51, MapKept.run_getObj_map hb, run_check, k1, MapKept.run_setObj_map _ hb, Result.andThen, setBlock]
    · intro e he
      simp only [Array.toList_push, List.mem_append, List.mem_singleton] at he
      rcases he with he | rfl
      · obtain ⟨t, y, e1, e2, e3⟩ := h1 e he
        have hne : t ≠ s := fun q => k2 e he (by rw [e1, q])
        exact ⟨t, y, e1, e2, by unfold setF; rw [if_neg hne]; exact e3⟩
      · exact ⟨s, x, rfl, rfl, by unfold setF; rw [if_pos rfl]⟩
    · intro t y hy
      unfold setF at hy
      by_cases q : t = s
      · subst q; exact ⟨⟨stV t, spV x, clock⟩, by simp, rfl⟩
      · rw [if_neg q] at hy
        obtain ⟨e, he, hk⟩ := h2 t y hy
        exact ⟨e, by simp [he], hk⟩
    · intro i j e e' hi hj hk
      have hil := (List.getElem?_eq_some_iff.1 hi).1
      have hjl := (List.getElem?_eq_some_iff.1 hj).1
      simp only [Array.toList_push, List.length_append, List.length_cons, List.length_nil] at hil hjl
      rw [Array.toList_push] at hi hj
      by_cases qi : i < es.toList.length
      · rw [List.getElem?_append_left qi] at hi
        by_cases qj : j < es.toList.length
        · rw [List.getElem?_append_left qj] at hj
          exact h4 i j e e' hi hj hk
        · obtain rfl : j = es.toList.length := by omega
          rw [List.getElem?_append_right (Nat.le_refl _)] at hj
          simp at hj
          subst hj
          exact absurd hk (k2 e (List.mem_of_getElem? hi))
      · obtain rfl : i = es.toList.length := by omega
        rw [List.getElem?_append_right (Nat.le_refl _)] at hi
        simp at hi
        subst hi
        by_cases qj : j < es.toList.length
        · rw [List.getElem?_append_left qj] at hj
          exact absurd hk.symm (k2 e' (List.mem_of_getElem? hj))
        · omega
  · have hj : es[j]? = some e := by simpa using k2
    have hlist : (es.modify j (fun e' => { e' with key := stV s, val := spV x })).toList = es.toList.set j { e with key := stV s, val := spV x } := by rw [Array.toList_modify, modify_eq_set _ _ _ _ k2]
    have hst : (Instr.keyThatStays (stV s) (stV s)).run Try.prog w = .ok (stV s) w := by
      unfold Instr.keyThatStays
      rw [if_pos (bits_same s 9998)]
      rfl
    have hjl : j < es.toList.length := (List.getElem?_eq_some_iff.1 k2).1
    refine ⟨setBlock w b (.map (es.modify j (fun e' => { e' with key := stV s, val := spV x })) clock), ?_, ⟨_, _, heap_setBlock_same hb _, by simp; omega, ?_, ?_, ?_⟩, hg _⟩
    · simp [Instr.mapUpdate, run_underlying Try.underlying51, MapKept.run_getObj_map hb, run_check, k1, hj, k3, hst, MapKept.run_setObj_map _ hb, Result.andThen, setBlock]
    · intro e' he
      rw [hlist] at he
      obtain ⟨i, hi, ei⟩ := List.getElem_of_mem he
      rw [List.getElem_set] at ei
      split at ei
      · subst ei
        exact ⟨s, x, rfl, rfl, by unfold setF; rw [if_pos rfl]⟩
      · have hi' : i < es.toList.length := by simpa using hi
        have hm : e' ∈ es.toList := ei ▸ List.getElem_mem hi'
        obtain ⟨t, y, e1, e2, e3⟩ := h1 e' hm
        by_cases q : t = s
        · exfalso
          rename_i hne
          have h5 := h4 i j e' e (by rw [List.getElem?_eq_getElem hi', ei]) k2 (by rw [e1, q, k3])
          exact hne h5.symm
        · exact ⟨t, y, e1, e2, by unfold setF; rw [if_neg q]; exact e3⟩
    · intro t y hy
      unfold setF at hy
      by_cases q : t = s
      · subst q
        refine ⟨{ e with key := stV t, val := spV x }, ?_, rfl⟩
        rw [hlist]
        exact List.mem_iff_getElem.2 ⟨j, by simpa using hjl, by simp⟩
      · rw [if_neg q] at hy
        obtain ⟨e', he, hk⟩ := h2 t y hy
        refine ⟨e', ?_, hk⟩
        rw [hlist]
        obtain ⟨i, hi, ei⟩ := List.getElem_of_mem he
        refine List.mem_iff_getElem.2 ⟨i, by simpa using hi, ?_⟩
        rw [List.getElem_set, if_neg]
        · exact ei
        · intro hij
          subst hij
          have : e' = e := by
            have := List.getElem?_eq_getElem hi
            rw [k2] at this
            injection this with this
            rw [← ei, this]
          exact q (stV_inj (hk.symm.trans (by rw [this]; exact k3)))
    · intro i j' a a' hi hj' hk
      rw [hlist, List.getElem?_set] at hi hj'
      have hA : ∃ b, es.toList[i]? = some b ∧ b.key = a.key := by
        split at hi
        · rename_i q
          injection hi with hi
          exact ⟨e, by rw [← q]; exact k2, by rw [← hi]; exact k3⟩
        · exact ⟨a, hi, rfl⟩
      have hB : ∃ b, es.toList[j']? = some b ∧ b.key = a'.key := by
        split at hj'
        · rename_i q
          injection hj' with hj'
          exact ⟨e, by rw [← q]; exact k2, by rw [← hj']; exact k3⟩
        · exact ⟨a', hj', rfl⟩
      obtain ⟨b, hb1, hb2⟩ := hA
      obtain ⟨b', hc1, hc2⟩ := hB
      exact h4 i j' b b' hb1 hc1 (by rw [hb2, hk, hc2])
end Go.Proofs.Ytndkgjoaljcijaa
