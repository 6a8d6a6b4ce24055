/- Chapter 07 (pmerge): pairs: by a walk. -/
import Derived.Test.YtoefkkgnabjmdaaConcat
import Derived.Test.YtoefkkgnabjmdaaPlain07
import Derived.Test.YtoefkkgnabjmdaaSort2
import Derived.StillTailTactics
set_option linter.unusedSimpArgs false
set_option linter.unusedVariables false
set_option maxRecDepth 100000
namespace Go.Proofs.Ytoefkkgnabjmdaa
open Go.RowKit

theorem pairK_snoc : ∀ (t : Nat) (l : List (Int × List Int)) (p q : Int × List Int), l.length = 2 * t → pairK (l ++ [p, q]) = pairK l ++ [(p.1 + q.1, p.2 ++ q.2)]
  | 0, l, p, q, h => by obtain rfl := List.length_eq_zero_iff.1 (by omega : l.length = 0); rfl
  | t + 1, [], p, q, h => by simp at h
  | t + 1, [a], p, q, h => by simp at h; omega
  | t + 1, a :: b :: r, p, q, h => by
    have := pairK_snoc t r p q (by simp at h; omega)
    simp only [List.cons_append, pairK, this]
theorem pairK_rest : ∀ (t : Nat) (l r : List (Int × List Int)), l.length = 2 * t → r.length ≤ 1 → pairK (l ++ r) = pairK l
  | 0, l, r, h, h1 => by
    obtain rfl := List.length_eq_zero_iff.1 (by omega : l.length = 0)
    match r, h1 with
    | [], _ => rfl
    | [a], _ => rfl
  | t + 1, [], r, h, _ => by simp at h
  | t + 1, [a], r, h, _ => by simp at h; omega
  | t + 1, a :: b :: l, r, h, h1 => by
    have := pairK_rest t l r (by simp at h; omega) h1
    simp only [List.cons_append, pairK, this]

theorem wp_append_pack {w : World} {o : Oper} {a : Act} {K : Act → World → Prop} {Q : Exit → Act → World → Prop} (s x : Operand)
    (ho : o.op = .call { callee := .builtin .append, args := #[s, x], argTypes := #[68, 68] })
    (base : Nat) (v : Value) (l : List Pe) (hs : a.eval s = v) (hown : PRow w base v l) (b : Nat) (p : Pe) (hx : a.eval x = .slice (some ⟨b, 0, none⟩) 1 1) (hr : Blk w b 71 (pcells p).toArray)
    (hp1 : p.v.oneCell' = true) (hp : RowI w base p.v p.syms) (hlen : l.length ≤ 1000000000) (hbase : base ≤ w.heap.size)
    (h : ∀ v' w', PRow w' base v' (l ++ [p]) → w.grownBy w' v.ownBlock → (v'.ownBlock = v.ownBlock ∨ v'.ownBlock = some w.heap.size) → K (a.put o.dst v') w') : o.wp Try.prog a w K Q := by
  obtain ⟨i0, hi, hz0, hz1, hz2⟩ := info_parts info_pack
  have hR : Reads w w.heap.size 2 (some ⟨b, 0, none⟩) 1 (pcells p) := Row.reads (row_of_blk hr (Nat.zero_le _) rfl (by simp [maxLen])) rfl
  refine wp_append_row w s x 68 ho base 71 i0 _ 2 32 Try.underlying68 hi hz0 hz1 hz2 rfl (by omega) v l.length (pvals l) hs hown.row w.heap.size _ 1 1 (pcells p) hx hR ?_ (by simp only [maxLen]; omega) (by omega) hbase ?_
  · intro u hu
    simp only [pcells, List.mem_cons, List.not_mem_nil, or_false] at hu
    rcases hu with rfl | rfl
    · rfl
    · exact hp1
  · intro v' w' h1 h2 h3
    refine h v' w' ⟨?_, ?_⟩ h2 h3
    · have e : pvals (l ++ [p]) = pvals l ++ pcells p := by rw [pvals_append]; simp [pvals]
      rw [e, List.length_append]
      exact h1
    · intro q hq
      rcases List.mem_append.1 hq with hq | hq
      · exact hown.symsKept h2 q hq
      · rw [List.mem_singleton.1 hq]
        exact Row.kept hp h2 (row_ne hp hown.row (by decide))
theorem step_append_pack {w : World} {ops : Array Oper} {o : Oper} {a : Act} {K : Act → World → Prop} {Q : Exit → Act → World → Prop} {E : Prop} (hgd : o.guard = none) (s x : Operand)
    (ho : o.op = .call { callee := .builtin .append, args := #[s, x], argTypes := #[68, 68] })
    (base : Nat) (v : Value) (l : List Pe) (hs : a.eval s = v) (hown : PRow w base v l) (b : Nat) (p : Pe) (hx : a.eval x = .slice (some ⟨b, 0, none⟩) 1 1) (hr : Blk w b 71 (pcells p).toArray)
    (hp1 : p.v.oneCell' = true) (hp : RowI w base p.v p.syms) (hlen : l.length ≤ 1000000000) (hbase : base ≤ w.heap.size)
    (h : ∀ v' w', PRow w' base v' (l ++ [p]) → w.grownBy w' v.ownBlock → (v'.ownBlock = v.ownBlock ∨ v'.ownBlock = some w.heap.size) → K (a.put o.dst v') w') :
    if Region.wanted o (yielded ops a.tmps) = true then Oper.wp Try.prog o a w K Q else E := by
  have hw : Region.wanted o (yielded ops a.tmps) = true := by simp [Region.wanted, hgd]
  rw [if_pos hw]
  exact wp_append_pack s x ho base v l hs hown b p hx hr hp1 hp hlen hbase h

theorem rowI_one {w : World} {base : Nat} {v : Value} {xs : List Int} (h : RowI w base v xs) : v.oneCell' = true := by
  obtain ⟨A, c, rfl, _⟩ := RowI.slice h; rfl
theorem rowI_reads {w : World} {base : Nat} {A : Option Addr} {n c : Nat} {xs : List Int} (h : RowI w base (.slice A n c) xs) : n = xs.length ∧ ReadsI w A xs := by
  obtain ⟨A', c', e, _, hr⟩ := RowI.slice h
  simp only [Value.slice.injEq] at e
  obtain ⟨rfl, rfl, rfl⟩ := e
  exact ⟨rfl, hr⟩

/-- Concat of what two packs hold, in a block of two cells that was just made. -/
theorem concat_pair (base : Nat) (A1 A2 : Option Addr) (n1 n2 c1 c2 : Nat) (xs ys : List Int) (wr W : World) (hP : RowI wr base (.slice A1 n1 c1) xs) (hQ : RowI wr base (.slice A2 n2 c2) ys) (hb : Below wr.heap.size wr W) (h1 : 1 ≤ xs.length + ys.length) (m1 : xs.length ≤ 100000) (m2 : ys.length ≤ 100000) :
    Calls Try.prog 75 #[.slice (some ⟨W.heap.size, 0, none⟩) 2 2] (W.alloc (.cells #[.slice A1 n1 c1, .slice A2 n2 c2] 22)) fun e w' => ∃ A c, e = .returned (.slice A (xs.length + ys.length) c) ∧ RowI w' wr.heap.size (.slice A (xs.length + ys.length) c) (xs ++ ys) ∧ Below wr.heap.size wr w' := by
  have hA := bl_alloc hb (.cells #[.slice A1 n1 c1, .slice A2 n2 c2] 22)
  have hk := Blk.new W 22 #[.slice A1 n1 c1, .slice A2 n2 c2]
  obtain ⟨rfl, r1⟩ := rowI_reads (RowI.below hP hA)
  obtain ⟨rfl, r2⟩ := rowI_reads (RowI.below hQ hA)
  have q := p_Concat2 W.heap.size A1 A2 c1 c2 xs ys _ ((hk.cell 0).trans rfl) ((hk.cell 1).trans rfl) hk.lt r1 r2 h1 m1 m2
  refine q.mono ?_
  rintro e w' ⟨v, rfl, hr, hb2⟩
  obtain ⟨A, c, rfl, _⟩ := RowI.slice hr
  rw [List.length_append] at *
  exact ⟨A, c, rfl, hr.mono hA.size, bl_then hA hA.size hb2⟩

set_option maxHeartbeats 4000000 in
theorem p_pairs (base g o c n : Nat) (l : List Pe) (hn : n ≤ 100000) (w : World) (h : PRow w base (.slice (some ⟨g, o, none⟩) n c) l) (hb : base ≤ w.heap.size)
    (hcost : ∀ p ∈ l, 0 ≤ p.cost ∧ p.cost ≤ 1000000000000000000) (hsy : ∀ p ∈ l, 1 ≤ p.syms.length ∧ p.syms.length ≤ 100000) :
    Calls Try.prog 44 #[.slice (some ⟨g, o, none⟩) n c] w fun e w' => ∃ v l2, e = .returned v ∧ PRow w' w.heap.size v l2 ∧ l2.map Pe.key = pairK (l.map Pe.key) ∧ Below w.heap.size w w' := by
  go_enter Try.func44, Try.ntmps44
  go_wp2_with fail
  go_loopw [3, 4] (fun v3 v4 wr => ∃ (t : Nat) (l2 : List Pe), 2 * t ≤ n ∧ v4 = .int .i64 (2 * t + 1 : Nat) ∧ PRow wr w.heap.size v3 l2 ∧ Below w.heap.size w wr ∧ l2.map Pe.key = pairK ((l.take (2 * t)).map Pe.key)) (fun _ v4 _ => n + 2 - (intOf v4).toNat)
  case atStart => exact ⟨0, [], by omega, rfl, PRow.nil _ _, Below.refl _ _, rfl⟩
  case round =>
    obtain ⟨t, l2, ht, rfl, hrow, hbr, hs⟩ := hrel
    have hlen := h.len_
    have HL2 : Hid (l2.length ≤ 100000) := Lib.hid (by
      have := congrArg List.length hs
      rw [List.length_map] at this
      rw [this]
      have key : ∀ m (x : List (Int × List Int)), x.length ≤ m → (pairK x).length ≤ m := by
        intro m
        induction m using Nat.strongRecOn with
        | _ m ih =>
          intro x hx
          match x with
          | [] => simp [pairK]
          | [a] => simp [pairK]
          | a :: b :: r => simp only [pairK, List.length_cons] at hx ⊢; have := ih (m - 2) (by omega) r (by omega); omega
      exact key _ _ (by simp; omega))
    have HS := Lib.hid hs
    clear hs
    by_cases hlt : 2 * t + 1 < n
    · obtain ⟨x, hx⟩ : ∃ x, x = 2 * t := ⟨_, rfl⟩
      obtain ⟨y, hy⟩ : ∃ y, y = 2 * t + 1 := ⟨_, rfl⟩
      rw [← hy]
      have hR := h.below hbr
      have hx1 : x < l.length := by omega
      have hy1 : y < l.length := by omega
      obtain ⟨a1, a2, _, _⟩ := hR.at_ x (by omega)
      obtain ⟨b1, b2, _, _⟩ := hR.at_ y (by omega)
      have hPm := hR.syms l[x] (List.getElem_mem hx1)
      have hQm := hR.syms l[y] (List.getElem_mem hy1)
      have hPc := hcost l[x] (List.getElem_mem hx1)
      have hQc := hcost l[y] (List.getElem_mem hy1)
      have hPs := hsy l[x] (List.getElem_mem hx1)
      have hQs := hsy l[y] (List.getElem_mem hy1)
      have HT : Hid (pairK ((l.take (2 * (t + 1))).map Pe.key) = pairK ((l.take (2 * t)).map Pe.key) ++ [(l[x].cost + l[y].cost, l[x].syms ++ l[y].syms)]) := Lib.hid (by
        have e : l.take (2 * (t + 1)) = l.take (2 * t) ++ [l[x], l[y]] := by
          subst hx; subst hy
          rw [show 2 * (t + 1) = 2 * t + 1 + 1 by omega, List.take_succ_eq_append_getElem hy1, List.take_succ_eq_append_getElem hx1, List.append_assoc]
          rfl
        rw [e, List.map_append, List.map_cons, List.map_cons, List.map_nil]
        exact pairK_snoc t _ _ _ (by simp; omega))
      generalize hP : l[x] = P at *
      generalize hQ : l[y] = Q at *
      obtain ⟨A1, c1, e1, _, _⟩ := RowI.slice hPm
      obtain ⟨A2, c2, e2, _, _⟩ := RowI.slice hQm
      rw [e1] at hPm a2
      rw [e2] at hQm b2
      have hC : ∀ W, Below wr.heap.size wr W → _ := fun W hW => concat_pair base A1 A2 _ _ c1 c2 P.syms Q.syms wr W hPm hQm hW (by omega) hPs.2 hQs.2
      have HC := Lib.hid hC
      have q5 : IntKind.i64.wrap (P.cost + Q.cost) = P.cost + Q.cost := Go.IntWalk.i64_in _ (by omega)
      have q0 : IntKind.i64.wrap ((y : Int) - 1) = x := by rw [show (y : Int) - 1 = x by omega]; exact Go.IntWalk.i64_in _ (by omega)
      have q1 : (0 : Int) ≤ (x : Int) := by omega
      have q2 : (x : Int) < n := by omega
      have q3 : (0 : Int) ≤ (y : Int) := by omega
      have q4 : (y : Int) < n := by omega
      have hz := hbr.size
      have hlt3 := hrow.lt
      have hg0 := h.g_lt.2
      have HK : Hid (∀ w', Below wr.heap.size wr w' → w'.cell? ⟨g, o + x * 2, none⟩ = some (.int .i64 P.cost) ∧ w'.cell? ⟨g, o + x * 2 + 1, none⟩ = some (.slice A1 P.syms.length c1) ∧ w'.cell? ⟨g, o + y * 2, none⟩ = some (.int .i64 Q.cost) ∧ w'.cell? ⟨g, o + y * 2 + 1, none⟩ = some (.slice A2 Q.syms.length c2)) := Lib.hid (fun w' hb' => by
        obtain ⟨u1, _⟩ := bcell hb'
        have hgl := hR.g_lt.2
        exact ⟨(u1 _ _ hgl).trans a1, (u1 _ _ hgl).trans a2, (u1 _ _ hgl).trans b1, (u1 _ _ hgl).trans b2⟩)
      have HK2 : Hid (∀ w1 w', Below wr.heap.size wr w1 → w1.grownBy w' u3.ownBlock → w'.cell? ⟨g, o + x * 2, none⟩ = some (.int .i64 P.cost) ∧ w'.cell? ⟨g, o + x * 2 + 1, none⟩ = some (.slice A1 P.syms.length c1) ∧ w'.cell? ⟨g, o + y * 2, none⟩ = some (.int .i64 Q.cost) ∧ w'.cell? ⟨g, o + y * 2 + 1, none⟩ = some (.slice A2 Q.syms.length c2)) := Lib.hid (fun w1 w' hb1 hg1 => by
        obtain ⟨k1, k2, k3, k4⟩ := HK.out w1 hb1
        have hgl := hR.g_lt.2
        have e : ∀ q, w'.cell? ⟨g, q, none⟩ = w1.cell? ⟨g, q, none⟩ := fun q => World.cell?_of_block (hg1.block g (Nat.lt_of_lt_of_le hgl hb1.size) (fun e => by have := (hlt3 g e.symm).1; omega))
        exact ⟨(e _).trans k1, (e _).trans k2, (e _).trans k3, (e _).trans k4⟩)
      have HX := Lib.hid hx
      have HY := Lib.hid hy
      have HL := Lib.hid hlen
      have HR := Lib.hid hrow
      have HB := Lib.hid hbr
      clear e1 e2 hx hy hP hQ hlen hC hrow hbr hR hPm hQm hPc hQc hPs hQs hcost hsy hx1 hy1
      go_upto_region 5 with (fail)
      go_region_held3 (fun w' => w'.cell? ⟨g, o + x * 2, none⟩ = some (.int .i64 P.cost) ∧ w'.cell? ⟨g, o + x * 2 + 1, none⟩ = some (.slice A1 P.syms.length c1) ∧ w'.cell? ⟨g, o + y * 2, none⟩ = some (.int .i64 Q.cost) ∧ w'.cell? ⟨g, o + y * 2 + 1, none⟩ = some (.slice A2 Q.syms.length c2))
        (first | exact HK.out _ (Below.refl _ _).drew | exact HK.out _ (bl_alloc (Below.refl _ _).drew _) | exact HK.out _ hb | exact HK.out _ (bl_alloc hb _) | exact HK2.out _ _ (bl_alloc hb _) hg3)
        (first | (go_at_call 75; refine (HC.out wr.drew (Below.refl _ _).drew).mono ?_; rintro e w' ⟨A3, c3, rfl, hI, hb⟩) | ((refine step_append_pack rfl (.tmp 11) (.tmp 38) (by rfl) w.heap.size _ l2 (by rfl) ((HR.out.below hb).alloc _) _ ⟨P.cost + Q.cost, P.syms ++ Q.syms, .slice A3 (P.syms.length + Q.syms.length) c3⟩ (by rfl) (Blk.new _ _ _) (by rfl) ((hI.mono hz).alloc _) (by have := HL2.out; omega) (by have := hb.size; simp; omega) ?_; intro v3 w3 hr3 hg3 ho3)))
      have HB4 := Lib.hid ((bl_alloc (bl_then HB.out hz hb) (.cells (pcells ⟨P.cost + Q.cost, P.syms ++ Q.syms, .slice A3 (P.syms.length + Q.syms.length) c3⟩).toArray 71)).grown hg3 (by have := hb.size; simp; omega) (fun j hj => (hlt3 j hj).1))
      clear HC HK HK2
      go_wp2
      have hy2 := HY.out
      go_roundw
      case rel =>
        refine ⟨t + 1, _, by omega, by rw [hy2]; go_num, hr3, HB4.out, ?_⟩
        rw [HT.out, List.map_append, HS.out]; rfl
      case measure => simp [intOf]; omega
    · have hb2 : (2 : Nat) * t ≤ l.length := by omega
      have HF : Hid (pairK (l.map Pe.key) = pairK ((l.take (2 * t)).map Pe.key)) := Lib.hid (by
        have e : l.map Pe.key = (l.take (2 * t)).map Pe.key ++ (l.drop (2 * t)).map Pe.key := by rw [← List.map_append, List.take_append_drop]
        rw [e]
        exact pairK_rest t _ _ (by simp; omega) (by simp; omega))
      clear hlen
      go_wp2
      go_ret
      exact ⟨_, l2, rfl, hrow, HS.out.trans HF.out.symm, hbr⟩

end Go.Proofs.Ytoefkkgnabjmdaa
