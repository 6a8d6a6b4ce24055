/- The library's Grow of no ints: by a walk. · The library's Concat of two slices of ints: by a walk. · Chapter 07 (pmerge): pairs: by a walk. · Chapter 07 (pmerge): merged: by a walk. -/
import Derived.Test.YtoefkkgnabjmdaaInts
import Derived.Lib.AppendZerosOnto
import Derived.Test.YtoefkkgnabjmdaaPlain07
import Derived.Test.YtoefkkgnabjmdaaSort2
import Derived.StillTailTactics
import Derived.Test.YtoefkkgnabjmdaaPm2
set_option linter.unusedSimpArgs false
set_option linter.unusedVariables false
set_option maxRecDepth 100000
namespace Go.Proofs.Ytoefkkgnabjmdaa

/-! Grow -/
section
open Go.RowKit Go.Lib

set_option maxHeartbeats 2000000 in
theorem p_Grow (n : Nat) (hn1 : 1 ≤ n) (hn : n ≤ 1000000) (w : World) :
    Calls Try.prog 101 #[.slice none 0 0, .int .i64 n] w fun e w' => ∃ v, e = .returned v ∧ RowI w' w.heap.size v [] ∧ Below w.heap.size w w' := by
  obtain ⟨i0, hi, hz0, hz1, hz2⟩ := info_parts info_int
  have hold : (Builtin.firstCells i0.size 0 (.slice none 0 0)).run Try.prog w.drew = .ok ([] : List Value).toArray w.drew := run_firstCells_none w.drew i0.size 0 0 0
  have hrz : ∀ ty, (Builtin.append_ #[22, 3] ty #[.slice none 0 0, .int .i64 (n : Int)]).run Try.prog w =
      .ok (.slice (some ⟨w.heap.size, 0, none⟩) (0 + n) (grownCap w (0 + n) 0 3)) (w.drew.alloc (.cells (#[] ++ Builtin.zeroCells (Value.int .i64 0).cells n ++ Builtin.zeroCells (Value.int .i64 0).cells (grownCap w (0 + n) 0 3 - (0 + n))) 3)) := by
    intro ty
    have h := Lib.run_append_grow_zeros w 22 3 ty 3 i0 _ .i64 .i64 Try.underlying22 Try.underlying3 hi hz0 none 0 0 [] hold n (by omega) (by rw [hz1]; omega) (by omega) (by omega) (by rw [hz2]; omega) (growslice_fits (by omega) (by rw [hz2]; omega))
    exact h
  have hGn : 0 + n ≤ grownCap w (0 + n) 0 3 := grownCap_ge w _ _ _
  have hG63 : grownCap w (0 + n) 0 3 ≤ maxLen := grownCap_le_maxLen w (0 + n) 0 3 (by unfold maxLen; omega)
  rw [Nat.zero_add] at *
  generalize grownCap w n 0 3 = G at *
  have hX := Blk.new w.drew 3 (#[] ++ Builtin.zeroCells (Value.int .i64 0).cells n ++ Builtin.zeroCells (Value.int .i64 0).cells (G - n))
  have hsz : G ≤ (#[] ++ Builtin.zeroCells (Value.int .i64 0).cells n ++ Builtin.zeroCells (Value.int .i64 0).cells (G - n) : Array Value).size := by
    simp [Builtin.zeroCells, Value.cells]
    omega
  have HR : Hid (RowI (w.drew.alloc (.cells (#[] ++ Builtin.zeroCells (Value.int .i64 0).cells n ++ Builtin.zeroCells (Value.int .i64 0).cells (G - n)) 3)) w.heap.size (.slice (some ⟨w.heap.size, 0, none⟩) 0 G) []) :=
    Lib.hid ⟨by simp [ivals], .inr ⟨w.heap.size, 0, G, _, (0, 0), rfl, Nat.le_refl _, hX, Nat.zero_le _, hG63, by simpa using hsz, by simp [ivals], .inl rfl⟩⟩
  have HB : Hid (Below w.heap.size w (w.drew.alloc (.cells (#[] ++ Builtin.zeroCells (Value.int .i64 0).cells n ++ Builtin.zeroCells (Value.int .i64 0).cells (G - n)) 3))) := Lib.hid (bl_alloc (Below.refl w.heap.size w).drew _)
  unfold maxLen at hG63
  clear hX hsz hold
  generalize (#[] ++ Builtin.zeroCells (Value.int .i64 0).cells n ++ Builtin.zeroCells (Value.int .i64 0).cells (G - n) : Array Value) = cs at *
  go_enter Try.func101, Try.ntmps101
  go_wp2_with (at_builtin; refine Lib.wpList_append_run _ rfl _ _ _ _ rfl _ _ rfl rfl _ _ (hrz _) ?_)
  all_goals
    go_ret
    exact ⟨_, rfl, HR.out, HB.out⟩
end

/-! Concat -/
section
open Go.RowKit

set_option maxHeartbeats 4000000 in
theorem p_Concat2 (tb : Nat) (A1 A2 : Option Addr) (c1 c2 : Nat) (xs ys : List Int) (w : World) (hc1 : w.cell? ⟨tb, 0, none⟩ = some (.slice A1 xs.length c1)) (hc2 : w.cell? ⟨tb, 1, none⟩ = some (.slice A2 ys.length c2))
    (htb : tb < w.heap.size) (hx : ReadsI w A1 xs) (hy : ReadsI w A2 ys) (h1 : 1 ≤ xs.length + ys.length) (n1 : xs.length ≤ 100000) (n2 : ys.length ≤ 100000) :
    Calls Try.prog 75 #[.slice (some ⟨tb, 0, none⟩) 2 2] w fun e w' => ∃ v, e = .returned v ∧ RowI w' w.heap.size v (xs ++ ys) ∧ Below w.heap.size w w' := by
  obtain ⟨N, hN⟩ : ∃ N, N = xs.length + ys.length := ⟨_, rfl⟩
  have qN : IntKind.i64.wrap ((xs.length : Int) + ys.length) = N := by rw [show (xs.length : Int) + ys.length = N by omega]; exact Go.IntWalk.i64_in _ (by omega)
  have qN2 : (xs.length : Int) + ys.length = N := by omega
  have hg := p_Grow N (by omega) (by omega) w
  have hN1 : 1 ≤ N := by omega
  have hN2 : N ≤ 200000 := by omega
  clear hN
  go_enter Try.func75, Try.ntmps75
  go_wp2_with fail
  refine wp_loop_rounds 3 ?_
  rw [rounds_succ]
  go_wp2_with fail
  rw [rounds_succ]
  go_wp2_with fail
  rw [rounds_succ]
  go_wp2_with fail
  refine hg.mono ?_
  rintro e w1 ⟨v, rfl, hrow, hb⟩
  have hz := hb.size
  have d1 : w1.cell? ⟨tb, 0, none⟩ = some (.slice A1 xs.length c1) := (hb.cell (p := ⟨tb, 0, none⟩) htb).trans hc1
  have d2 : w1.cell? ⟨tb, 1, none⟩ = some (.slice A2 ys.length c2) := (hb.cell (p := ⟨tb, 1, none⟩) htb).trans hc2
  have hx1 := hx.below hb
  have HB := Lib.hid hb
  have hlt := hrow.lt
  clear hc1 hc2 hg qN qN2 hb
  go_wp2_with fail
  refine wp_loop_rounds 3 ?_
  rw [rounds_succ]
  go_wp2_with (at_builtin; go_must (refine wpList_append_ints rfl (.tmp 31) (.tmp 32) rfl w.heap.size _ [] rfl hrow A1 xs.length c1 xs rfl rfl hx1 (by simp; omega) hz ?_); intro v3 w3 hr3 hg3 ho3)
  have HB3 := Lib.hid (HB.out.grown hg3 hz (fun j hj => (hlt j hj).1))
  have hz3 := HB3.out.size
  have d3 : w3.cell? ⟨tb, 1, none⟩ = some (.slice A2 ys.length c2) := (HB3.out.cell (p := ⟨tb, 1, none⟩) htb).trans ((HB.out.cell (p := ⟨tb, 1, none⟩) htb).symm.trans d2)
  have hy3 := hy.below HB3.out
  have hlt3 := hr3.lt
  rw [List.nil_append] at hr3
  clear d1 d2 hx1 hrow hlt hg3 ho3
  rw [rounds_succ]
  go_wp2_with (at_builtin; go_must (refine wpList_append_ints rfl (.tmp 31) (.tmp 32) rfl w.heap.size _ xs rfl hr3 A2 ys.length c2 ys rfl rfl hy3 (by omega) hz3 ?_); intro v4 w4 hr4 hg4 ho4)
  have HB4 := Lib.hid (HB3.out.grown hg4 hz3 (fun j hj => (hlt3 j hj).1))
  rw [rounds_succ]
  clear hg4 ho4 hr3 hlt3 d3 hy3
  go_wp2
  go_ret
  exact ⟨v4, rfl, hr4, HB4.out⟩
end

/-! Pairs -/
section
open Go.RowKit

theorem pairK_snoc : ∀ (t : Nat) (l : List (Int × List Int)) (p q : Int × List Int), l.length = 2 * t → pairK (l ++ [p, q]) = pairK l ++ [(p.1 + q.1, p.2 ++ q.2)]
  | 0, l, p, q, h => by obtain rfl := List.length_eq_zero_iff.1 (by omega : l.length = 0); rfl
  | t + 1, [], p, q, h => by simp at h
  | t + 1, [a], p, q, h => by simp at h; omega
  | t + 1, a :: b :: r, p, q, h => by
    have := pairK_snoc t r p q (by simp at h; omega)
    simp only [List.cons_append, pairK, this]
theorem pairK_rest : ∀ (t : Nat) (l r : List (Int × List Int)), l.length = 2 * t → r.length ≤ 1 → pairK (l ++ r) = pairK l
  | 0, l, r, h, h1 => by
    obtain rfl := List.length_eq_zero_iff.1 (by omega : l.length = 0)
    match r, h1 with
    | [], _ => rfl
    | [a], _ => rfl
  | t + 1, [], r, h, _ => by simp at h
  | t + 1, [a], r, h, _ => by simp at h; omega
  | t + 1, a :: b :: l, r, h, h1 => by
    have := pairK_rest t l r (by simp at h; omega) h1
    simp only [List.cons_append, pairK, this]

theorem wp_append_pack {w : World} {o : Oper} {a : Act} {K : Act → World → Prop} {Q : Exit → Act → World → Prop} (s x : Operand)
    (ho : o.op = .call { callee := .builtin .append, args := #[s, x], argTypes := #[68, 68] })
    (base : Nat) (v : Value) (l : List Pe) (hs : a.eval s = v) (hown : PRow w base v l) (b : Nat) (p : Pe) (hx : a.eval x = .slice (some ⟨b, 0, none⟩) 1 1) (hr : Blk w b 71 (pcells p).toArray)
    (hp1 : p.v.oneCell' = true) (hp : RowI w base p.v p.syms) (hlen : l.length ≤ 1000000000) (hbase : base ≤ w.heap.size)
    (h : ∀ v' w', PRow w' base v' (l ++ [p]) → w.grownBy w' v.ownBlock → (v'.ownBlock = v.ownBlock ∨ v'.ownBlock = some w.heap.size) → K (a.put o.dst v') w') : o.wp Try.prog a w K Q := by
  obtain ⟨i0, hi, hz0, hz1, hz2⟩ := info_parts info_pack
  have hR : Reads w w.heap.size 2 (some ⟨b, 0, none⟩) 1 (pcells p) := Row.reads (row_of_blk hr (Nat.zero_le _) rfl (by simp [maxLen])) rfl
  refine wp_append_row w s x 68 ho base 71 i0 _ 2 32 Try.underlying68 hi hz0 hz1 hz2 rfl (by omega) v l.length (pvals l) hs hown.row w.heap.size _ 1 1 (pcells p) hx hR ?_ (by simp only [maxLen]; omega) (by omega) hbase ?_
  · intro u hu
    simp only [pcells, List.mem_cons, List.not_mem_nil, or_false] at hu
    rcases hu with rfl | rfl
    · rfl
    · exact hp1
  · intro v' w' h1 h2 h3
    refine h v' w' ⟨?_, ?_⟩ h2 h3
    · have e : pvals (l ++ [p]) = pvals l ++ pcells p := by rw [pvals_append]; simp [pvals]
      rw [e, List.length_append]
      exact h1
    · intro q hq
      rcases List.mem_append.1 hq with hq | hq
      · exact hown.symsKept h2 q hq
      · rw [List.mem_singleton.1 hq]
        exact Row.kept hp h2 (row_ne hp hown.row (by decide))
theorem step_append_pack {w : World} {ops : Array Oper} {o : Oper} {a : Act} {K : Act → World → Prop} {Q : Exit → Act → World → Prop} {E : Prop} (hgd : o.guard = none) (s x : Operand)
    (ho : o.op = .call { callee := .builtin .append, args := #[s, x], argTypes := #[68, 68] })
    (base : Nat) (v : Value) (l : List Pe) (hs : a.eval s = v) (hown : PRow w base v l) (b : Nat) (p : Pe) (hx : a.eval x = .slice (some ⟨b, 0, none⟩) 1 1) (hr : Blk w b 71 (pcells p).toArray)
    (hp1 : p.v.oneCell' = true) (hp : RowI w base p.v p.syms) (hlen : l.length ≤ 1000000000) (hbase : base ≤ w.heap.size)
    (h : ∀ v' w', PRow w' base v' (l ++ [p]) → w.grownBy w' v.ownBlock → (v'.ownBlock = v.ownBlock ∨ v'.ownBlock = some w.heap.size) → K (a.put o.dst v') w') :
    if Region.wanted o (yielded ops a.tmps) = true then Oper.wp Try.prog o a w K Q else E := by
  have hw : Region.wanted o (yielded ops a.tmps) = true := by simp [Region.wanted, hgd]
  rw [if_pos hw]
  exact wp_append_pack s x ho base v l hs hown b p hx hr hp1 hp hlen hbase h

theorem rowI_one {w : World} {base : Nat} {v : Value} {xs : List Int} (h : RowI w base v xs) : v.oneCell' = true := by
  obtain ⟨A, c, rfl, _⟩ := RowI.slice h; rfl
theorem rowI_reads {w : World} {base : Nat} {A : Option Addr} {n c : Nat} {xs : List Int} (h : RowI w base (.slice A n c) xs) : n = xs.length ∧ ReadsI w A xs := by
  obtain ⟨A', c', e, _, hr⟩ := RowI.slice h
  simp only [Value.slice.injEq] at e
  obtain ⟨rfl, rfl, rfl⟩ := e
  exact ⟨rfl, hr⟩

/-- Concat of what two packs hold, in a block of two cells that was just made. -/
theorem concat_pair (base : Nat) (A1 A2 : Option Addr) (n1 n2 c1 c2 : Nat) (xs ys : List Int) (wr W : World) (hP : RowI wr base (.slice A1 n1 c1) xs) (hQ : RowI wr base (.slice A2 n2 c2) ys) (hb : Below wr.heap.size wr W) (h1 : 1 ≤ xs.length + ys.length) (m1 : xs.length ≤ 100000) (m2 : ys.length ≤ 100000) :
    Calls Try.prog 75 #[.slice (some ⟨W.heap.size, 0, none⟩) 2 2] (W.alloc (.cells #[.slice A1 n1 c1, .slice A2 n2 c2] 22)) fun e w' => ∃ A c, e = .returned (.slice A (xs.length + ys.length) c) ∧ RowI w' wr.heap.size (.slice A (xs.length + ys.length) c) (xs ++ ys) ∧ Below wr.heap.size wr w' := by
  have hA := bl_alloc hb (.cells #[.slice A1 n1 c1, .slice A2 n2 c2] 22)
  have hk := Blk.new W 22 #[.slice A1 n1 c1, .slice A2 n2 c2]
  obtain ⟨rfl, r1⟩ := rowI_reads (RowI.below hP hA)
  obtain ⟨rfl, r2⟩ := rowI_reads (RowI.below hQ hA)
  have q := p_Concat2 W.heap.size A1 A2 c1 c2 xs ys _ ((hk.cell 0).trans rfl) ((hk.cell 1).trans rfl) hk.lt r1 r2 h1 m1 m2
  refine q.mono ?_
  rintro e w' ⟨v, rfl, hr, hb2⟩
  obtain ⟨A, c, rfl, _⟩ := RowI.slice hr
  rw [List.length_append] at *
  exact ⟨A, c, rfl, hr.mono hA.size, bl_then hA hA.size hb2⟩

set_option maxHeartbeats 4000000 in
theorem p_pairs (base g o c n : Nat) (l : List Pe) (hn : n ≤ 100000) (w : World) (h : PRow w base (.slice (some ⟨g, o, none⟩) n c) l) (hb : base ≤ w.heap.size)
    (hcost : ∀ p ∈ l, 0 ≤ p.cost ∧ p.cost ≤ 1000000000000000000) (hsy : ∀ p ∈ l, 1 ≤ p.syms.length ∧ p.syms.length ≤ 100000) :
    Calls Try.prog 44 #[.slice (some ⟨g, o, none⟩) n c] w fun e w' => ∃ v l2, e = .returned v ∧ PRow w' w.heap.size v l2 ∧ l2.map Pe.key = pairK (l.map Pe.key) ∧ Below w.heap.size w w' := by
  go_enter Try.func44, Try.ntmps44
  go_wp2_with fail
  go_loopw [3, 4] (fun v3 v4 wr => ∃ (t : Nat) (l2 : List Pe), 2 * t ≤ n ∧ v4 = .int .i64 (2 * t + 1 : Nat) ∧ PRow wr w.heap.size v3 l2 ∧ Below w.heap.size w wr ∧ l2.map Pe.key = pairK ((l.take (2 * t)).map Pe.key)) (fun _ v4 _ => n + 2 - (intOf v4).toNat)
  case atStart => exact ⟨0, [], by omega, rfl, PRow.nil _ _, Below.refl _ _, rfl⟩
  case round =>
    obtain ⟨t, l2, ht, rfl, hrow, hbr, hs⟩ := hrel
    have hlen := h.len_
    have HL2 : Hid (l2.length ≤ 100000) := Lib.hid (by
      have := congrArg List.length hs
      rw [List.length_map] at this
      rw [this]
      have key : ∀ m (x : List (Int × List Int)), x.length ≤ m → (pairK x).length ≤ m := by
        intro m
        induction m using Nat.strongRecOn with
        | _ m ih =>
          intro x hx
          match x with
          | [] => simp [pairK]
          | [a] => simp [pairK]
          | a :: b :: r => simp only [pairK, List.length_cons] at hx ⊢; have := ih (m - 2) (by omega) r (by omega); omega
      exact key _ _ (by simp; omega))
    have HS := Lib.hid hs
    clear hs
    by_cases hlt : 2 * t + 1 < n
    · obtain ⟨x, hx⟩ : ∃ x, x = 2 * t := ⟨_, rfl⟩
      obtain ⟨y, hy⟩ : ∃ y, y = 2 * t + 1 := ⟨_, rfl⟩
      rw [← hy]
      have hR := h.below hbr
      have hx1 : x < l.length := by omega
      have hy1 : y < l.length := by omega
      obtain ⟨a1, a2, _, _⟩ := hR.at_ x (by omega)
      obtain ⟨b1, b2, _, _⟩ := hR.at_ y (by omega)
      have hPm := hR.syms l[x] (List.getElem_mem hx1)
      have hQm := hR.syms l[y] (List.getElem_mem hy1)
      have hPc := hcost l[x] (List.getElem_mem hx1)
      have hQc := hcost l[y] (List.getElem_mem hy1)
      have hPs := hsy l[x] (List.getElem_mem hx1)
      have hQs := hsy l[y] (List.getElem_mem hy1)
      have HT : Hid (pairK ((l.take (2 * (t + 1))).map Pe.key) = pairK ((l.take (2 * t)).map Pe.key) ++ [(l[x].cost + l[y].cost, l[x].syms ++ l[y].syms)]) := Lib.hid (by
        have e : l.take (2 * (t + 1)) = l.take (2 * t) ++ [l[x], l[y]] := by
          subst hx; subst hy
          rw [show 2 * (t + 1) = 2 * t + 1 + 1 by omega, List.take_succ_eq_append_getElem hy1, List.take_succ_eq_append_getElem hx1, List.append_assoc]
          rfl
        rw [e, List.map_append, List.map_cons, List.map_cons, List.map_nil]
        exact pairK_snoc t _ _ _ (by simp; omega))
      generalize hP : l[x] = P at *
      generalize hQ : l[y] = Q at *
      obtain ⟨A1, c1, e1, _, _⟩ := RowI.slice hPm
      obtain ⟨A2, c2, e2, _, _⟩ := RowI.slice hQm
      rw [e1] at hPm a2
      rw [e2] at hQm b2
      have hC : ∀ W, Below wr.heap.size wr W → _ := fun W hW => concat_pair base A1 A2 _ _ c1 c2 P.syms Q.syms wr W hPm hQm hW (by omega) hPs.2 hQs.2
      have HC := Lib.hid hC
      have q5 : IntKind.i64.wrap (P.cost + Q.cost) = P.cost + Q.cost := Go.IntWalk.i64_in _ (by omega)
      have q0 : IntKind.i64.wrap ((y : Int) - 1) = x := by rw [show (y : Int) - 1 = x by omega]; exact Go.IntWalk.i64_in _ (by omega)
      have q1 : (0 : Int) ≤ (x : Int) := by omega
      have q2 : (x : Int) < n := by omega
      have q3 : (0 : Int) ≤ (y : Int) := by omega
      have q4 : (y : Int) < n := by omega
      have hz := hbr.size
      have hlt3 := hrow.lt
      have hg0 := h.g_lt.2
      have HK : Hid (∀ w', Below wr.heap.size wr w' → w'.cell? ⟨g, o + x * 2, none⟩ = some (.int .i64 P.cost) ∧ w'.cell? ⟨g, o + x * 2 + 1, none⟩ = some (.slice A1 P.syms.length c1) ∧ w'.cell? ⟨g, o + y * 2, none⟩ = some (.int .i64 Q.cost) ∧ w'.cell? ⟨g, o + y * 2 + 1, none⟩ = some (.slice A2 Q.syms.length c2)) := Lib.hid (fun w' hb' => by
        obtain ⟨u1, _⟩ := bcell hb'
        have hgl := hR.g_lt.2
        exact ⟨(u1 _ _ hgl).trans a1, (u1 _ _ hgl).trans a2, (u1 _ _ hgl).trans b1, (u1 _ _ hgl).trans b2⟩)
      have HK2 : Hid (∀ w1 w', Below wr.heap.size wr w1 → w1.grownBy w' u3.ownBlock → w'.cell? ⟨g, o + x * 2, none⟩ = some (.int .i64 P.cost) ∧ w'.cell? ⟨g, o + x * 2 + 1, none⟩ = some (.slice A1 P.syms.length c1) ∧ w'.cell? ⟨g, o + y * 2, none⟩ = some (.int .i64 Q.cost) ∧ w'.cell? ⟨g, o + y * 2 + 1, none⟩ = some (.slice A2 Q.syms.length c2)) := Lib.hid (fun w1 w' hb1 hg1 => by
        obtain ⟨k1, k2, k3, k4⟩ := HK.out w1 hb1
        have hgl := hR.g_lt.2
        have e : ∀ q, w'.cell? ⟨g, q, none⟩ = w1.cell? ⟨g, q, none⟩ := fun q => World.cell?_of_block (hg1.block g (Nat.lt_of_lt_of_le hgl hb1.size) (fun e => by have := (hlt3 g e.symm).1; omega))
        exact ⟨(e _).trans k1, (e _).trans k2, (e _).trans k3, (e _).trans k4⟩)
      have HX := Lib.hid hx
      have HY := Lib.hid hy
      have HL := Lib.hid hlen
      have HR := Lib.hid hrow
      have HB := Lib.hid hbr
      clear e1 e2 hx hy hP hQ hlen hC hrow hbr hR hPm hQm hPc hQc hPs hQs hcost hsy hx1 hy1
      go_upto_region 5 with (fail)
      go_region_held3 (fun w' => w'.cell? ⟨g, o + x * 2, none⟩ = some (.int .i64 P.cost) ∧ w'.cell? ⟨g, o + x * 2 + 1, none⟩ = some (.slice A1 P.syms.length c1) ∧ w'.cell? ⟨g, o + y * 2, none⟩ = some (.int .i64 Q.cost) ∧ w'.cell? ⟨g, o + y * 2 + 1, none⟩ = some (.slice A2 Q.syms.length c2))
        (first | exact HK.out _ (Below.refl _ _).drew | exact HK.out _ (bl_alloc (Below.refl _ _).drew _) | exact HK.out _ hb | exact HK.out _ (bl_alloc hb _) | exact HK2.out _ _ (bl_alloc hb _) hg3)
        (first | (go_at_call 75; refine (HC.out wr.drew (Below.refl _ _).drew).mono ?_; rintro e w' ⟨A3, c3, rfl, hI, hb⟩) | ((refine step_append_pack rfl (.tmp 11) (.tmp 38) (by rfl) w.heap.size _ l2 (by rfl) ((HR.out.below hb).alloc _) _ ⟨P.cost + Q.cost, P.syms ++ Q.syms, .slice A3 (P.syms.length + Q.syms.length) c3⟩ (by rfl) (Blk.new _ _ _) (by rfl) ((hI.mono hz).alloc _) (by have := HL2.out; omega) (by have := hb.size; simp; omega) ?_; intro v3 w3 hr3 hg3 ho3)))
      have HB4 := Lib.hid ((bl_alloc (bl_then HB.out hz hb) (.cells (pcells ⟨P.cost + Q.cost, P.syms ++ Q.syms, .slice A3 (P.syms.length + Q.syms.length) c3⟩).toArray 71)).grown hg3 (by have := hb.size; simp; omega) (fun j hj => (hlt3 j hj).1))
      clear HC HK HK2
      go_wp2
      have hy2 := HY.out
      go_roundw
      case rel =>
        refine ⟨t + 1, _, by omega, by rw [hy2]; go_num, hr3, HB4.out, ?_⟩
        rw [HT.out, List.map_append, HS.out]; rfl
      case measure => simp [intOf]; omega
    · have hb2 : (2 : Nat) * t ≤ l.length := by omega
      have HF : Hid (pairK (l.map Pe.key) = pairK ((l.take (2 * t)).map Pe.key)) := Lib.hid (by
        have e : l.map Pe.key = (l.take (2 * t)).map Pe.key ++ (l.drop (2 * t)).map Pe.key := by rw [← List.map_append, List.take_append_drop]
        rw [e]
        exact pairK_rest t _ _ (by simp; omega) (by simp; omega))
      clear hlen
      go_wp2
      go_ret
      exact ⟨_, l2, rfl, hrow, HS.out.trans HF.out.symm, hbr⟩
end

/-! Merged -/
section
open Go.RowKit

theorem mergeK_nil : ∀ a, mergeK a [] = a
  | [] => rfl
  | x :: a => by show x :: mergeK a [] = _; rw [mergeK_nil a]
theorem mergeK_cons (x y : Int × List Int) (a b : List (Int × List Int)) : mergeK (x :: a) (y :: b) = if y.1 < x.1 then y :: mergeK (x :: a) b else x :: mergeK a (y :: b) := rfl

/-- The slice at A reads as these packs. -/
def ReadsP (w : World) (A : Option Addr) (l : List Pe) : Prop := Reads w w.heap.size 2 A l.length (pvals l)
theorem ReadsP.below {w w' : World} {A : Option Addr} {l : List Pe} (h : ReadsP w A l) (hb : Below w.heap.size w w') : ReadsP w' A l := Reads.more (Reads.below h hb) hb.size
theorem ReadsP.keepB {w w' : World} {B : Nat} {A : Option Addr} {l : List Pe} (h : Reads w B 2 A l.length (pvals l)) (hb : Below B w w') : Reads w' B 2 A l.length (pvals l) := Reads.below h hb
theorem PRow.readsP {w : World} {base : Nat} {A : Option Addr} {n c : Nat} {l : List Pe} (h : PRow w base (.slice A n c) l) : n = l.length ∧ n ≤ c ∧ ReadsP w A l := by
  obtain ⟨A', c', e, hc⟩ := Row.slice h.row
  simp only [Value.slice.injEq] at e
  obtain ⟨rfl, rfl, rfl⟩ := e
  exact ⟨rfl, hc, Row.reads h.row rfl⟩
/-- The first one, and what is behind it. -/
theorem reads_head {w : World} {B : Nat} {A : Option Addr} {p : Pe} {l : List Pe} (h : Reads w B 2 A (p :: l).length (pvals (p :: l))) :
    ∃ ad, A = some ad ∧ ad.block < B ∧ w.cell? ad = some (.int .i64 p.cost) ∧ w.cell? ⟨ad.block, ad.off + 1, none⟩ = some p.v := by
  obtain ⟨ad, e1, e2, e3⟩ := h.2 (by simp)
  refine ⟨ad, e1, e2, ?_, ?_⟩
  · have := e3 0 (.int .i64 p.cost) rfl
    have e : ad.add 0 = ad := by unfold Addr.add; simp
    rwa [e] at this
  · exact e3 1 p.v rfl
theorem reads_tail {w : World} {B : Nat} {A : Option Addr} {p : Pe} {l : List Pe} {c : Nat} (h : Reads w B 2 A (p :: l).length (pvals (p :: l))) (hc : (p :: l).length ≤ c) :
    Reads w B 2 (if c = 1 then A else A.map (·.add 2)) l.length (pvals l) := by
  have := Reads.cut (k := 1) (cap := c) h (by simp) hc
  simpa [pvals, pcells] using this
theorem wpList_append_packs {w : World} {ops : Array Oper} {rest : List Oper} {o : Oper} {a : Act} {Q : Exit → Act → World → Prop} (hgd : o.guard = none) (s x : Operand)
    (ho : o.op = .call { callee := .builtin .append, args := #[s, x], argTypes := #[68, 68] })
    (base : Nat) (v : Value) (l : List Pe) (hs : a.eval s = v) (hown : PRow w base v l) (A : Option Addr) (m c : Nat) (news : List Pe) (hx : a.eval x = .slice A m c) (hm : m = news.length) (hr : ReadsP w A news)
    (hsy : ∀ p ∈ news, RowI w base p.v p.syms) (hlen : l.length + news.length ≤ 1000000000) (hbase : base ≤ w.heap.size)
    (h : ∀ v' w', PRow w' base v' (l ++ news) → w.grownBy w' v.ownBlock → (v'.ownBlock = v.ownBlock ∨ v'.ownBlock = some w.heap.size) → wpList Try.prog ops Q rest (a.put o.dst v') w') : wpList Try.prog ops Q (o :: rest) a w := by
  obtain ⟨i0, hi, hz0, hz1, hz2⟩ := info_parts info_pack
  subst hm
  refine wpList_append_row w hgd s x 68 ho base 71 i0 _ 2 32 Try.underlying68 hi hz0 hz1 hz2 rfl (by omega) v l.length (pvals l) hs hown.row w.heap.size A news.length c (pvals news) hx hr ?_ (by simp only [maxLen]; omega) (by omega) hbase ?_
  · intro u hu
    simp only [pvals, List.mem_flatMap] at hu
    obtain ⟨p, hp, hu⟩ := hu
    simp only [pcells, List.mem_cons, List.not_mem_nil, or_false] at hu
    rcases hu with rfl | rfl
    · rfl
    · exact rowI_one (hsy p hp)
  · intro v' w' h1 h2 h3
    refine h v' w' ⟨?_, ?_⟩ h2 h3
    · rw [pvals_append, List.length_append]; exact h1
    · intro q hq
      rcases List.mem_append.1 hq with hq | hq
      · exact hown.symsKept h2 q hq
      · exact Row.kept (hsy q hq) h2 (row_ne (hsy q hq) hown.row (by decide))
theorem run_make0_pack (w : World) (n : Nat) (hn : n ≤ 1000000000) :
    ∃ cs, (Instr.makeSlice 68 (.int .i64 0) (.int .i64 n)).run Try.prog w = .ok (.slice (some ⟨w.heap.size, 0, none⟩) 0 n) (w.alloc (.cells cs 71)) ∧
      PRow (w.alloc (.cells cs 71)) w.heap.size (.slice (some ⟨w.heap.size, 0, none⟩) 0 n) [] := by
  obtain ⟨i0, hi, hz0, hz1, hz2⟩ := info_parts info_pack
  have h := run_make (P := Try.prog) w 68 71 i0 _ Try.underlying68 hi hz0 .i64 .i64 0 n (by omega) (by omega) (by rw [hz2]; omega) (by omega)
  refine ⟨_, h, ?_⟩
  have hk := Blk.new w 71 (madeCells (Value.cells (.agg #[.int .i64 0, .slice none 0 0])) ((n : Int).toNat * i0.size))
  refine ⟨⟨rfl, .inr ⟨w.heap.size, 0, n, _, (0, 0), rfl, Nat.le_refl _, hk, Nat.zero_le _, by simp only [maxLen]; omega, ?_, by simp [pvals], .inl rfl⟩⟩, fun p hp => by cases hp⟩
  simp [size_madeCells, hz1]

set_option maxHeartbeats 8000000 in
theorem p_merged (base : Nat) (A B : Option Addr) (na nb ca cb : Nat) (la lb : List Pe) (w : World) (ha : PRow w base (.slice A na ca) la) (hb : PRow w base (.slice B nb cb) lb) (hbase : base ≤ w.heap.size)
    (n1 : la.length ≤ 100000) (n2 : lb.length ≤ 100000) :
    Calls Try.prog 43 #[.slice A na ca, .slice B nb cb, .func (.func 42) #[] #[]] w fun e w' =>
      ∃ v l, e = .returned v ∧ PRow w' base v l ∧ l.map Pe.key = mergeK (la.map Pe.key) (lb.map Pe.key) ∧ (∀ p ∈ l, p ∈ la ∨ p ∈ lb) ∧ Below w.heap.size w w' := by
  obtain ⟨rfl, hca, hra⟩ := ha.readsP
  obtain ⟨rfl, hcb, hrb⟩ := hb.readsP
  obtain ⟨N, hN⟩ : ∃ N, N = la.length + lb.length := ⟨_, rfl⟩
  have qN : IntKind.i64.wrap ((la.length : Int) + lb.length) = N := by rw [show (la.length : Int) + lb.length = N by omega]; exact Go.IntWalk.i64_in _ (by omega)
  have qN2 : (la.length : Int) + lb.length = N := by omega
  obtain ⟨cs, hmk, hmr⟩ := run_make0_pack w N (by omega)
  have HN := Lib.hid hN
  clear hN
  go_enter Try.func43, Try.ntmps43
  go_wp2_with fail
  have HB0 := bl_alloc (Below.refl w.heap.size w) (.cells cs 71)
  have HMR := Lib.hid (hmr.mono (show w.heap.size ≤ w.heap.size by omega))
  clear hmk qN qN2 hmr
  go_loopw [0, 1, 7] (fun v0 v1 v7 wr => ∃ (A1 B1 : Option Addr) (nx ny c1 c2 : Nat) (x y z : List Pe), v0 = .slice A1 nx c1 ∧ v1 = .slice B1 ny c2 ∧ nx = x.length ∧ ny = y.length ∧ nx ≤ c1 ∧ ny ≤ c2 ∧
      Reads wr w.heap.size 2 A1 x.length (pvals x) ∧ Reads wr w.heap.size 2 B1 y.length (pvals y) ∧ PRow wr base v7 z ∧ (∀ k, v7.ownBlock = some k → w.heap.size ≤ k) ∧
      Below w.heap.size w wr ∧ z.map Pe.key ++ mergeK (x.map Pe.key) (y.map Pe.key) = mergeK (la.map Pe.key) (lb.map Pe.key) ∧ (∀ p ∈ z, p ∈ la ∨ p ∈ lb) ∧ (∀ p ∈ x, p ∈ la) ∧ (∀ p ∈ y, p ∈ lb) ∧ z.length + x.length + y.length = N)
      (fun v0 v1 _ _ => (match v0 with | .slice _ n _ => n | _ => 0) + (match v1 with | .slice _ n _ => n | _ => 0))
  case atStart =>
    refine ⟨A, B, _, _, ca, cb, la, lb, [], rfl, rfl, rfl, rfl, hca, hcb, Reads.below hra HB0, Reads.below hrb HB0, HMR.out.mono hbase, ?_, HB0, rfl, by simp, by simp, by simp, by simp [HN.out]⟩
    intro k hk
    exact (HMR.out.lt k hk).1
  case round =>
    obtain ⟨A1, B1, nx, ny, c1, c2, x, y, z, rfl, rfl, hnx, hny, h1, h2, rx, ry, hz, hzb, hbr, hkey, hm1, hm2, hm3, hsum⟩ := hrel
    have HKEY := Lib.hid hkey
    have HSUM := Lib.hid hsum
    have HM := Lib.hid (And.intro hm1 (And.intro hm2 hm3))
    have HNX := Lib.hid hnx
    have HNY := Lib.hid hny
    have hnb := HN.out
    have hzs := hbr.size
    have hsm1 : nx ≤ 300000 := by omega
    have hsm2 : ny ≤ 300000 := by omega
    have hzl : z.length ≤ 300000 := by omega
    clear hkey hsum hm1 hm2 hm3 hnb
    by_cases hn1 : nx = 0
    · subst hn1
      have hpx : ∀ p ∈ x, RowI wr base p.v p.syms := fun p hp => (ha.syms p (HM.out.2.1 p hp)).same (fun k hk => hbr.block k ((ha.syms p (HM.out.2.1 p hp)).lt k hk).2)
      have hpy : ∀ p ∈ y, RowI wr base p.v p.syms := fun p hp => (hb.syms p (HM.out.2.2 p hp)).same (fun k hk => hbr.block k ((hb.syms p (HM.out.2.2 p hp)).lt k hk).2)
      have HMK : Hid (mergeK (x.map Pe.key) (y.map Pe.key) = x.map Pe.key ++ y.map Pe.key) := Lib.hid (by
        obtain rfl := List.length_eq_zero_iff.1 (by simpa using hnx.symm : x.length = 0)
        rfl)
      have rx' : ReadsP wr A1 x := Reads.more rx hzs
      have ry' : ReadsP wr B1 y := Reads.more ry hzs
      have hl1 : x.length ≤ 300000 := by omega
      have hl2 : y.length ≤ 300000 := by omega
      have HXL := Lib.hid hnx
      have HYL := Lib.hid hny
      have HPY := Lib.hid hpy
      have HPX := Lib.hid hpx
      have HBR := Lib.hid hbr
      have HZB := Lib.hid hzb
      have HRY0 := Lib.hid ry
      clear hnx hny ry ry' rx hpy hpx hzb hbr
      go_wp2_with (first
        | (at_builtin
           refine wpList_append_packs rfl (.tmp 46) (.tmp 47) rfl base _ z rfl hz A1 0 c1 x rfl HXL.out rx' HPX.out (by omega) (by omega) ?_
           intro v3 w3 hr3 hg3 ho3
           have HW3 := Lib.hid (HBR.out.grown hg3 hzs (fun j hj => HZB.out j hj))
           have hyw : ReadsP w3 B1 y := Reads.more (HRY0.out.keep (fun r hr => (HW3.out.cell hr).trans (HBR.out.cell hr).symm)) HW3.out.size
           have hpw : ∀ p ∈ y, RowI w3 base p.v p.syms := fun p hp => (hb.syms p (HM.out.2.2 p hp)).same (fun k hk => HW3.out.block k ((hb.syms p (HM.out.2.2 p hp)).lt k hk).2)
           have hz3 := HW3.out.size
           have hb3 : ∀ j, v3.ownBlock = some j → w.heap.size ≤ j := fun j hj => by
             rcases ho3 with h | h
             · exact HZB.out j (h ▸ hj)
             · rw [h] at hj; simp at hj; omega
           have HB3 := Lib.hid hb3
           have HPW := Lib.hid hpw
           clear rx' hg3 ho3 hb3 hpw)
        | (at_builtin; refine wpList_append_packs rfl (.tmp 48) (.tmp 49) rfl base _ (z ++ x) rfl hr3 B1 ny c2 y rfl HYL.out hyw HPW.out (by simp; omega) (by omega) ?_; intro v4 w4 hr4 hg4 ho4))
      have HW4 := Lib.hid (HW3.out.grown hg4 hz3 (fun j hj => HB3.out j hj))
      clear hyw hg4 ho4 hr3
      go_wp2
      go_ret
      refine ⟨v4, _, rfl, hr4, ?_, ?_, HW4.out⟩
      · rw [← HKEY.out, HMK.out, List.map_append, List.map_append, List.append_assoc]
      · intro r hr
        rcases List.mem_append.1 hr with hr | hr
        · rcases List.mem_append.1 hr with hr | hr
          · exact HM.out.1 r hr
          · exact .inl (HM.out.2.1 r hr)
        · exact .inr (HM.out.2.2 r hr)
    · by_cases hn2 : ny = 0
      · subst hn2
        have hpx : ∀ p ∈ x, RowI wr base p.v p.syms := fun p hp => (ha.syms p (HM.out.2.1 p hp)).same (fun k hk => hbr.block k ((ha.syms p (HM.out.2.1 p hp)).lt k hk).2)
        have hpy : ∀ p ∈ y, RowI wr base p.v p.syms := fun p hp => (hb.syms p (HM.out.2.2 p hp)).same (fun k hk => hbr.block k ((hb.syms p (HM.out.2.2 p hp)).lt k hk).2)
        have HMK : Hid (mergeK (x.map Pe.key) (y.map Pe.key) = x.map Pe.key ++ y.map Pe.key) := Lib.hid (by
          obtain rfl := List.length_eq_zero_iff.1 (by simpa using hny.symm : y.length = 0)
          rw [List.map_nil, mergeK_nil, List.append_nil])
        have rx' : ReadsP wr A1 x := Reads.more rx hzs
        have ry' : ReadsP wr B1 y := Reads.more ry hzs
        have hl1 : x.length ≤ 300000 := by omega
        have hl2 : y.length ≤ 300000 := by omega
        have HXL := Lib.hid hnx
        have HYL := Lib.hid hny
        have HPY := Lib.hid hpy
        have HPX := Lib.hid hpx
        have HBR := Lib.hid hbr
        have HZB := Lib.hid hzb
        have HRY0 := Lib.hid ry
        clear hnx hny ry ry' rx hpy hpx hzb hbr
        go_wp2_with (first
          | (at_builtin
             refine wpList_append_packs rfl (.tmp 46) (.tmp 47) rfl base _ z rfl hz A1 nx c1 x rfl HXL.out rx' HPX.out (by omega) (by omega) ?_
             intro v3 w3 hr3 hg3 ho3
             have HW3 := Lib.hid (HBR.out.grown hg3 hzs (fun j hj => HZB.out j hj))
             have hyw : ReadsP w3 B1 y := Reads.more (HRY0.out.keep (fun r hr => (HW3.out.cell hr).trans (HBR.out.cell hr).symm)) HW3.out.size
             have hpw : ∀ p ∈ y, RowI w3 base p.v p.syms := fun p hp => (hb.syms p (HM.out.2.2 p hp)).same (fun k hk => HW3.out.block k ((hb.syms p (HM.out.2.2 p hp)).lt k hk).2)
             have hz3 := HW3.out.size
             have hb3 : ∀ j, v3.ownBlock = some j → w.heap.size ≤ j := fun j hj => by
               rcases ho3 with h | h
               · exact HZB.out j (h ▸ hj)
               · rw [h] at hj; simp at hj; omega
             have HB3 := Lib.hid hb3
             have HPW := Lib.hid hpw
             clear rx' hg3 ho3 hb3 hpw)
          | (at_builtin; refine wpList_append_packs rfl (.tmp 48) (.tmp 49) rfl base _ (z ++ x) rfl hr3 B1 0 c2 y rfl HYL.out hyw HPW.out (by simp; omega) (by omega) ?_; intro v4 w4 hr4 hg4 ho4))
        have HW4 := Lib.hid (HW3.out.grown hg4 hz3 (fun j hj => HB3.out j hj))
        clear hyw hg4 ho4 hr3
        go_wp2
        go_ret
        refine ⟨v4, _, rfl, hr4, ?_, ?_, HW4.out⟩
        · rw [← HKEY.out, HMK.out, List.map_append, List.map_append, List.append_assoc]
        · intro r hr
          rcases List.mem_append.1 hr with hr | hr
          · rcases List.mem_append.1 hr with hr | hr
            · exact HM.out.1 r hr
            · exact .inl (HM.out.2.1 r hr)
          · exact .inr (HM.out.2.2 r hr)
      · obtain ⟨p, x', rfl⟩ : ∃ p x', x = p :: x' := by
          cases x with
          | nil => exact absurd hnx hn1
          | cons p x' => exact ⟨p, x', rfl⟩
        obtain ⟨q, y', rfl⟩ : ∃ q y', y = q :: y' := by
          cases y with
          | nil => exact absurd hny hn2
          | cons q y' => exact ⟨q, y', rfl⟩
        obtain ⟨ad, rfl, had, a1, a2⟩ := reads_head rx
        obtain ⟨bd, rfl, hbd, b1, b2⟩ := reads_head ry
        have hPm := RowI.mono ((ha.syms p (HM.out.2.1 p (by simp))).same (fun k hk => hbr.block k ((ha.syms p (HM.out.2.1 p (by simp))).lt k hk).2)) (Nat.le_refl base)
        have hQm := RowI.mono ((hb.syms q (HM.out.2.2 q (by simp))).same (fun k hk => hbr.block k ((hb.syms q (HM.out.2.2 q (by simp))).lt k hk).2)) (Nat.le_refl base)
        obtain ⟨P1, k1, e1, _, _⟩ := RowI.slice hPm
        obtain ⟨Q1, k2, e2, _, _⟩ := RowI.slice hQm
        rw [e1] at a2
        rw [e2] at b2
        have tx := reads_tail rx (c := c1) (by omega)
        have ty := reads_tail ry (c := c2) (by omega)
        have i1 : (1 : Int) ≤ (nx : Int) := by omega
        have i2 : (1 : Int) ≤ (ny : Int) := by omega
        have i3 : (0 : Int) < (nx : Int) := by omega
        have i4 : (0 : Int) < (ny : Int) := by omega
        have hadw : ad.block < wr.heap.size := by omega
        have hbdw : bd.block < wr.heap.size := by omega
        have HK : Hid (∀ w', Below wr.heap.size wr w' → w'.cell? ad = some (.int .i64 p.cost) ∧ w'.cell? ⟨ad.block, ad.off + 1, none⟩ = some (.slice P1 p.syms.length k1) ∧ w'.cell? bd = some (.int .i64 q.cost) ∧ w'.cell? ⟨bd.block, bd.off + 1, none⟩ = some (.slice Q1 q.syms.length k2) ∧ Below wr.heap.size wr w') := Lib.hid (fun w' hb' =>
          ⟨(hb'.cell hadw).trans a1, (hb'.cell (p := ⟨ad.block, ad.off + 1, none⟩) hadw).trans a2, (hb'.cell hbdw).trans b1, (hb'.cell (p := ⟨bd.block, bd.off + 1, none⟩) hbdw).trans b2, hb'⟩)
        have HX := Lib.hid (And.intro hnx (And.intro hny (And.intro e1 e2)))
        have HT := Lib.hid (And.intro tx ty)
        have HRX := Lib.hid (And.intro rx ry)
        have HPE : Hid ((⟨p.cost, p.syms, .slice P1 p.syms.length k1⟩ : Pe) = p) := Lib.hid (by rw [← e1])
        have HQE : Hid ((⟨q.cost, q.syms, .slice Q1 q.syms.length k2⟩ : Pe) = q) := Lib.hid (by rw [← e2])
        have HZ := Lib.hid hz
        have HZB := Lib.hid hzb
        have HBR := Lib.hid hbr
        have HPQ := Lib.hid (And.intro hPm hQm)
        clear hnx hny e1 e2 tx ty rx ry hz hzb hbr hPm hQm a1 a2 b1 b2
        go_wp2_with fail
        by_cases hxy : q.cost < p.cost
        · have HD : Hid (decide (q.cost < p.cost) = true) := Lib.hid (by simpa using hxy)
          have HD2 := Lib.hid hxy
          clear hxy
          go_cut [29] (fun v29 w3 => v29 = .bool true ∧ Below wr.heap.size wr w3)
          case first =>
            go_region_held3 (fun w' => w'.cell? ad = some (.int .i64 p.cost) ∧ w'.cell? ⟨ad.block, ad.off + 1, none⟩ = some (.slice P1 p.syms.length k1) ∧ w'.cell? bd = some (.int .i64 q.cost) ∧ w'.cell? ⟨bd.block, bd.off + 1, none⟩ = some (.slice Q1 q.syms.length k2) ∧ Below wr.heap.size wr w')
              (first | exact HK.out _ (by with_reducible assumption) | exact HK.out _ (Below.refl _ _).drew)
              (first | (go_at_call 42; refine (kcall (w2 := wr) ?_ (p_less q.cost p.cost _ _ _)).mono ?_; (first | with_reducible assumption | exact (Below.refl _ _).drew); rintro e w' ⟨rfl, hb⟩))
            all_goals
              go_wp2
              go_meet
              case rel => exact ⟨by rw [HD.out], by with_reducible assumption⟩
          obtain ⟨rfl, hb3⟩ := hcut
          have hz3 := hb3.size
          have hz4 : wr.heap.size ≤ wc.heap.size := hz3
          obtain ⟨u1, u2, u3, u4, _⟩ := HK.out _ hb3
          have HK3 : Hid (∀ w', Below wc.heap.size wc w' → w'.cell? bd = some (.int .i64 q.cost) ∧ w'.cell? ⟨bd.block, bd.off + 1, none⟩ = some (.slice Q1 q.syms.length k2)) := Lib.hid (fun w' hb' => by
            obtain ⟨u1, u2, u3, u4, _⟩ := HK.out _ (bl_then hb3 hz3 hb')
            exact ⟨u3, u4⟩)
          have HK4 : Hid (∀ w1 w', Below wc.heap.size wc w1 → w1.grownBy w' u7.ownBlock → w'.cell? bd = some (.int .i64 q.cost) ∧ w'.cell? ⟨bd.block, bd.off + 1, none⟩ = some (.slice Q1 q.syms.length k2)) := Lib.hid (fun w1 w' hb1 hg1 => by
            obtain ⟨g1, g2⟩ := HK3.out w1 hb1
            have e : ∀ r, r.block = bd.block → w'.cell? r = w1.cell? r := fun r hr => World.cell?_of_block (hg1.block r.block (by rw [hr]; exact Nat.lt_of_lt_of_le (by omega) hb1.size) (fun e => by have := HZB.out _ e.symm; omega))
            exact ⟨(e bd rfl).trans g1, (e ⟨bd.block, bd.off + 1, none⟩ rfl).trans g2⟩)
          have HW := HZ.out.below hb3
          have hSy : RowI wc base (.slice Q1 q.syms.length k2) q.syms := by
            have := RowI.below HPQ.out.2 hb3
            rw [HX.out.2.2.2] at this
            exact this
          have HB3 := Lib.hid (bl_then HBR.out hzs hb3)
          clear hb3 u1 u2 u3 u4 HK
          go_wp2_with fail
          by_cases hc1 : c2 = 1
          all_goals
            go_region_held3 (fun w' => w'.cell? bd = some (.int .i64 q.cost) ∧ w'.cell? ⟨bd.block, bd.off + 1, none⟩ = some (.slice Q1 q.syms.length k2))
              (first | exact HK3.out _ (Below.refl _ _).drew | exact HK3.out _ (bl_alloc (Below.refl _ _).drew _) | exact HK4.out _ _ (bl_alloc (Below.refl _ _).drew _) hg3)
              ((refine step_append_pack rfl (.tmp 30) (.tmp 34) (by rfl) base _ z (by rfl) (HW.drew.alloc _) _ ⟨q.cost, q.syms, .slice Q1 q.syms.length k2⟩ (by rfl) (Blk.new wc.drew _ _) (by rfl) (Row.alloc (Row.drew hSy) _) (by omega) (by simp; omega) ?_; intro v3 w3 hr3 hg3 ho3))
            have HWB := Lib.hid ((bl_alloc HB3.out.drew (.cells (pcells ⟨q.cost, q.syms, .slice Q1 q.syms.length k2⟩).toArray 71)).grown hg3 (by simp; omega) (fun j hj => HZB.out j hj))
            have HC1 := Lib.hid hc1
            have HXW := Lib.hid (HRX.out.1.keep (fun r hr => (HWB.out.cell hr).trans (HBR.out.cell hr).symm))
            have HTW := Lib.hid (HT.out.2.keep (fun r hr => (HWB.out.cell hr).trans (HBR.out.cell hr).symm))
            first | rw [if_pos hc1] at HTW | rw [if_neg hc1] at HTW
            clear HK3 HK4 hc1
            go_wp2
            go_roundw
            case rel =>
              have hc1 := HC1.out
              rw [HQE.out] at hr3
              refine ⟨_, _, nx, ny - 1, c1, _, p :: x', y', _, rfl, rfl, HX.out.1, by have := HX.out.2.1; simp at this; omega, h1, by omega, by exact HXW.out, ?_, hr3, ?_, HWB.out, ?_, ?_, HM.out.2.1, fun r hr => HM.out.2.2 r (by simp [hr]), ?_⟩
              · exact HTW.out
              · exact fun j hj => by rcases ho3 with h | h; exact HZB.out j (h ▸ hj); rw [h] at hj; simp at hj; omega
              · rw [← HKEY.out, List.map_append, List.append_assoc]
                congr 1
                simp only [List.map_cons, List.map_nil, mergeK_cons]
                first | (rw [if_pos (by exact HD2.out)]; rfl) | (rw [if_neg (show ¬ q.key.fst < p.key.fst from fun h => absurd HD2.out (by have h' : q.cost < p.cost := h; omega))]; rfl)
              · intro r hr
                rcases List.mem_append.1 hr with hr | hr
                · exact HM.out.1 r hr
                · rw [List.mem_singleton] at hr
                  subst hr
                  exact .inr (HM.out.2.2 r (by simp))
              · have := HSUM.out
                simp at this ⊢
                omega
            case measure => simp; omega
        · have HD : Hid (decide (q.cost < p.cost) = false) := Lib.hid (by simpa using hxy)
          have HD2 := Lib.hid hxy
          clear hxy
          go_cut [29] (fun v29 w3 => v29 = .bool false ∧ Below wr.heap.size wr w3)
          case first =>
            go_region_held3 (fun w' => w'.cell? ad = some (.int .i64 p.cost) ∧ w'.cell? ⟨ad.block, ad.off + 1, none⟩ = some (.slice P1 p.syms.length k1) ∧ w'.cell? bd = some (.int .i64 q.cost) ∧ w'.cell? ⟨bd.block, bd.off + 1, none⟩ = some (.slice Q1 q.syms.length k2) ∧ Below wr.heap.size wr w')
              (first | exact HK.out _ (by with_reducible assumption) | exact HK.out _ (Below.refl _ _).drew)
              (first | (go_at_call 42; refine (kcall (w2 := wr) ?_ (p_less q.cost p.cost _ _ _)).mono ?_; (first | with_reducible assumption | exact (Below.refl _ _).drew); rintro e w' ⟨rfl, hb⟩))
            all_goals
              go_wp2
              go_meet
              case rel => exact ⟨by rw [HD.out], by with_reducible assumption⟩
          obtain ⟨rfl, hb3⟩ := hcut
          have hz3 := hb3.size
          have hz4 : wr.heap.size ≤ wc.heap.size := hz3
          obtain ⟨u1, u2, u3, u4, _⟩ := HK.out _ hb3
          have HK3 : Hid (∀ w', Below wc.heap.size wc w' → w'.cell? ad = some (.int .i64 p.cost) ∧ w'.cell? ⟨ad.block, ad.off + 1, none⟩ = some (.slice P1 p.syms.length k1)) := Lib.hid (fun w' hb' => by
            obtain ⟨u1, u2, u3, u4, _⟩ := HK.out _ (bl_then hb3 hz3 hb')
            exact ⟨u1, u2⟩)
          have HK4 : Hid (∀ w1 w', Below wc.heap.size wc w1 → w1.grownBy w' u7.ownBlock → w'.cell? ad = some (.int .i64 p.cost) ∧ w'.cell? ⟨ad.block, ad.off + 1, none⟩ = some (.slice P1 p.syms.length k1)) := Lib.hid (fun w1 w' hb1 hg1 => by
            obtain ⟨g1, g2⟩ := HK3.out w1 hb1
            have e : ∀ r, r.block = ad.block → w'.cell? r = w1.cell? r := fun r hr => World.cell?_of_block (hg1.block r.block (by rw [hr]; exact Nat.lt_of_lt_of_le (by omega) hb1.size) (fun e => by have := HZB.out _ e.symm; omega))
            exact ⟨(e ad rfl).trans g1, (e ⟨ad.block, ad.off + 1, none⟩ rfl).trans g2⟩)
          have HW := HZ.out.below hb3
          have hSy : RowI wc base (.slice P1 p.syms.length k1) p.syms := by
            have := RowI.below HPQ.out.1 hb3
            rw [HX.out.2.2.1] at this
            exact this
          have HB3 := Lib.hid (bl_then HBR.out hzs hb3)
          clear hb3 u1 u2 u3 u4 HK
          go_wp2_with fail
          by_cases hc1 : c1 = 1
          all_goals
            go_region_held3 (fun w' => w'.cell? ad = some (.int .i64 p.cost) ∧ w'.cell? ⟨ad.block, ad.off + 1, none⟩ = some (.slice P1 p.syms.length k1))
              (first | exact HK3.out _ (Below.refl _ _).drew | exact HK3.out _ (bl_alloc (Below.refl _ _).drew _) | exact HK4.out _ _ (bl_alloc (Below.refl _ _).drew _) hg3)
              ((refine step_append_pack rfl (.tmp 38) (.tmp 42) (by rfl) base _ z (by rfl) (HW.drew.alloc _) _ ⟨p.cost, p.syms, .slice P1 p.syms.length k1⟩ (by rfl) (Blk.new wc.drew _ _) (by rfl) (Row.alloc (Row.drew hSy) _) (by omega) (by simp; omega) ?_; intro v3 w3 hr3 hg3 ho3))
            have HWB := Lib.hid ((bl_alloc HB3.out.drew (.cells (pcells ⟨p.cost, p.syms, .slice P1 p.syms.length k1⟩).toArray 71)).grown hg3 (by simp; omega) (fun j hj => HZB.out j hj))
            have HC1 := Lib.hid hc1
            have HXW := Lib.hid (HRX.out.2.keep (fun r hr => (HWB.out.cell hr).trans (HBR.out.cell hr).symm))
            have HTW := Lib.hid (HT.out.1.keep (fun r hr => (HWB.out.cell hr).trans (HBR.out.cell hr).symm))
            first | rw [if_pos hc1] at HTW | rw [if_neg hc1] at HTW
            clear HK3 HK4 hc1
            go_wp2
            go_roundw
            case rel =>
              have hc1 := HC1.out
              rw [HPE.out] at hr3
              refine ⟨_, _, nx - 1, ny, _, c2, x', q :: y', _, rfl, rfl, by have := HX.out.1; simp at this; omega, HX.out.2.1, by omega, h2, ?_, by exact HXW.out, hr3, ?_, HWB.out, ?_, ?_, fun r hr => HM.out.2.1 r (by simp [hr]), HM.out.2.2, ?_⟩
              · exact HTW.out
              · exact fun j hj => by rcases ho3 with h | h; exact HZB.out j (h ▸ hj); rw [h] at hj; simp at hj; omega
              · rw [← HKEY.out, List.map_append, List.append_assoc]
                congr 1
                simp only [List.map_cons, List.map_nil, mergeK_cons]
                first | (rw [if_pos (by exact HD2.out)]; rfl) | (rw [if_neg (show ¬ q.key.fst < p.key.fst from fun h => absurd HD2.out (by have h' : q.cost < p.cost := h; omega))]; rfl)
              · intro r hr
                rcases List.mem_append.1 hr with hr | hr
                · exact HM.out.1 r hr
                · rw [List.mem_singleton] at hr
                  subst hr
                  exact .inl (HM.out.2.1 r (by simp))
              · have := HSUM.out
                simp at this ⊢
                omega
            case measure => simp; omega
end

end Go.Proofs.Ytoefkkgnabjmdaa
