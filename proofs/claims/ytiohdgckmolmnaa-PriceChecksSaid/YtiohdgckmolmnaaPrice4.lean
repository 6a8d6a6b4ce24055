/- Chapter 23 (price): Token, All: what they give, by walks. -/
import Derived.Test.YtiohdgckmolmnaaPrice3
set_option linter.unusedSimpArgs false
set_option linter.unusedVariables false
namespace Go.Proofs.Ytiohdgckmolmnaa
open Go.RowKit

noncomputable def tokenE (m d : List Int) (t : Tok) : Int := if chkE m d = 0 then tokCheck t else chkE m d
noncomputable def tokenC (m d : List Int) (t : Tok) : Int := if chkE m d = 0 then one23 m d t else 0
noncomputable def allE (m d : List Int) (l : List Tok) : Int := if chkE m d = 0 then tokErr l else chkE m d
noncomputable def allC (m d : List Int) (l : List Tok) : Int := if chkE m d = 0 then (if tokErr l = 0 then costs m d l else 0) else 0

set_option maxRecDepth 100000 in
theorem p_Token23 (M D : Option Addr) (m d : List Int) (c1 c2 : Nat) (t : Tok) (w : World) (hm : ReadsI w M m) (hd : ReadsI w D d) (l1 : m.length ≤ 1000000000) (l2 : d.length ≤ 1000000000) :
    Calls Try.prog 61 #[priceV M D m d c1 c2, tokV t] w fun e w' => e = .returned (.tuple #[.int .i64 (tokenC m d t), .int .i64 (tokenE m d t)]) ∧ Below w.heap.size w w' := by
  obtain ⟨tk, tb, tl, td, ti⟩ := t
  unfold priceV tokV
  simp only
  have hB0 := bl_alloc (bl_alloc (Below.refl w.heap.size w) (.cells #[.slice M m.length c1, .slice D d.length c2] 86)) (.cells #[.int .i64 tk, .int .i64 tb, .int .i64 tl, .int .i64 td, .int .i64 ti] 25)
  have z1 := (Blk.new w 86 #[.slice M m.length c1, .slice D d.length c2]).alloc (.cells #[.int .i64 tk, .int .i64 tb, .int .i64 tl, .int .i64 td, .int .i64 ti] 25)
  have z2 := Blk.new (w.alloc (.cells #[.slice M m.length c1, .slice D d.length c2] 86)) 25 #[.int .i64 tk, .int .i64 tb, .int .i64 tl, .int .i64 td, .int .i64 ti]
  rw [World.size_alloc] at z2
  have hm0 := (hm.alloc (.cells #[.slice M m.length c1, .slice D d.length c2] 86)).alloc (.cells #[.int .i64 tk, .int .i64 tb, .int .i64 tl, .int .i64 td, .int .i64 ti] 25)
  have hd0 := (hd.alloc (.cells #[.slice M m.length c1, .slice D d.length c2] 86)).alloc (.cells #[.int .i64 tk, .int .i64 tb, .int .i64 tl, .int .i64 td, .int .i64 ti] 25)
  clear hm hd
  go_enter Try.func61, Try.ntmps61
  go_wp2_with fail
  generalize (w.alloc (.cells #[.slice M m.length c1, .slice D d.length c2] 86)).alloc (.cells #[.int .i64 tk, .int .i64 tb, .int .i64 tl, .int .i64 td, .int .i64 ti] 25) = w0 at *
  refine (p_PCheck M D m d c1 c2 _ hm0 hd0 l1 l2).mono ?_
  rintro e w1 ⟨rfl, hb1⟩
  have y1 := Blk.cell (z1.below hb1 z1.lt)
  have y2 := Blk.cell (z2.below hb1 z2.lt)
  have hw1 := (z2.below hb1 z2.lt).lt
  have hm1 := hm0.below hb1
  have hd1 := hd0.below hb1
  have HB1 := Lib.hid (bl_then hB0 hB0.size hb1)
  clear hm0 hd0 hB0 hb1 z1 z2
  by_cases hc : chkE m d = 0
  · obtain ⟨k1, k2, k3, k4⟩ := chkE_zero hc
    have HT := Lib.hid (show tokenE m d ⟨tk, tb, tl, td, ti⟩ = tokCheck ⟨tk, tb, tl, td, ti⟩ from if_pos hc)
    have HC := Lib.hid (show tokenC m d ⟨tk, tb, tl, td, ti⟩ = one23 m d ⟨tk, tb, tl, td, ti⟩ from if_pos hc)
    have K1 := Lib.hid k1
    have K2 := Lib.hid k2
    have H3 := Lib.hid k3
    have H4 := Lib.hid k4
    rw [hc]
    clear hc k1 k2 k3 k4
    go_wp2_with fail
    refine (p_one23 M D m d c1 c2 ⟨tk, tb, tl, td, ti⟩ w1 hm1 hd1 K1.out K2.out H3.out H4.out).mono ?_
    rintro e w2 ⟨rfl, hb2⟩
    go_wp2
    go_ret2
    exact ⟨by rw [HT.out, HC.out]; rfl, bl_then HB1.out HB1.out.size hb2⟩
  · have HT := Lib.hid (show tokenE m d ⟨tk, tb, tl, td, ti⟩ = chkE m d from if_neg hc)
    have HC := Lib.hid (show tokenC m d ⟨tk, tb, tl, td, ti⟩ = 0 from if_neg hc)
    have hne : (chkE m d != 0) = true := by rw [bne_iff_ne]; exact hc
    clear hc
    generalize chkE m d = E at *
    go_wp2
    go_ret2
    exact ⟨by rw [HT.out, HC.out]; rfl, HB1.out⟩

theorem tokErr_append (a b : List Tok) : tokErr (a ++ b) = if tokErr a = 0 then tokErr b else tokErr a := by
  induction a with
  | nil => simp [tokErr]
  | cons t a ih =>
    rw [List.cons_append]
    have e : ∀ x, tokErr (t :: x) = if tokCheck t = 0 then tokErr x else tokCheck t := fun x => rfl
    rw [e, e]
    by_cases h : tokCheck t = 0
    · rw [if_pos h, if_pos h]; exact ih
    · rw [if_neg h, if_neg h, if_neg h]
theorem cost_bd {m d : List Int} (l1 : m.length = 401) (l2 : d.length = 52) (k1 : pricesOk m) (k2 : pricesOk d) {t : Tok} (h : tokOk t) : 0 ≤ cost m d t ∧ cost m d t ≤ 1099511627776 := by
  have hs := tokSym_bd h
  have hg : ∀ (l : List Int) (i : Nat), pricesOk l → 0 ≤ l.getD i 0 ∧ l.getD i 0 ≤ 1048576 := by
    intro l i hl
    rw [List.getD_eq_getElem?_getD]
    by_cases hi : i < l.length
    · rw [List.getElem?_eq_getElem hi]
      have := hl l[i] (List.getElem_mem hi)
      simp only [Option.getD_some]
      omega
    · rw [List.getElem?_eq_none (by omega)]
      simp
  have h1 := hg m (tokSym t).toNat k1
  have h2 := hg d (distS t.dist).toNat k2
  have h3 := lenX_bd t.len
  have h4 := distX_bd t.dist
  unfold cost
  split <;> split <;> omega
theorem tokErr_ok : ∀ {l : List Tok}, tokErr l = 0 → ∀ t ∈ l, tokOk t
  | [], _, _, ht => by cases ht
  | a :: l, h, t, ht => by
    unfold tokErr at h
    by_cases hc : tokCheck a = 0
    · rw [if_pos hc] at h
      rcases List.mem_cons.1 ht with rfl | ht
      · unfold tokCheck at hc
        split at hc
        · assumption
        · omega
      · exact tokErr_ok h t ht
    · rw [if_neg hc] at h
      exact absurd h hc

set_option maxHeartbeats 2000000 in
set_option maxRecDepth 100000 in
theorem p_All23 (M D : Option Addr) (m d : List Int) (c1 c2 : Nat) (T : Option Addr) (c : Nat) (l : List Tok) (w : World) (hm : ReadsI w M m) (hd : ReadsI w D d) (hT : ReadsT w T l) (l1 : m.length ≤ 1000000000) (l2 : d.length ≤ 1000000000) (hl : l.length ≤ 1000) :
    Calls Try.prog 62 #[priceV M D m d c1 c2, .slice T l.length c] w fun e w' => e = .returned (.tuple #[.int .i64 (allC m d l), .int .i64 (allE m d l)]) ∧ Below w.heap.size w w' := by
  unfold priceV
  have hB0 := bl_alloc (Below.refl w.heap.size w) (.cells #[.slice M m.length c1, .slice D d.length c2] 86)
  have z1 := Blk.new w 86 #[.slice M m.length c1, .slice D d.length c2]
  have hm0 := hm.alloc (.cells #[.slice M m.length c1, .slice D d.length c2] 86)
  have hd0 := hd.alloc (.cells #[.slice M m.length c1, .slice D d.length c2] 86)
  have hT0 := hT.below hB0
  clear hm hd hT
  go_enter Try.func62, Try.ntmps62
  go_wp2_with fail
  generalize w.alloc (.cells #[.slice M m.length c1, .slice D d.length c2] 86) = w0 at *
  refine (p_PCheck M D m d c1 c2 _ hm0 hd0 l1 l2).mono ?_
  rintro e w1 ⟨rfl, hb1⟩
  have y1 := z1.below hb1 z1.lt
  have hm1 := hm0.below hb1
  have hd1 := hd0.below hb1
  have hT1 := hT0.below hb1
  have HB1 := Lib.hid (bl_then hB0 hB0.size hb1)
  have hw1 := y1.lt
  clear hm0 hd0 hT0 hB0 hb1 z1
  by_cases hc : chkE m d = 0
  · obtain ⟨k1, k2, k3, k4⟩ := chkE_zero hc
    have HT := Lib.hid (show allE m d l = tokErr l from if_pos hc)
    have HC := Lib.hid (show allC m d l = (if tokErr l = 0 then costs m d l else 0) from if_pos hc)
    have K1 := Lib.hid k1
    have K2 := Lib.hid k2
    have H3 := Lib.hid k3
    have H4 := Lib.hid k4
    rw [hc]
    clear hc k1 k2 k3 k4
    go_wp2_with fail
    go_loopw [7, 19] (fun v7 v19 wr => ∃ k : Nat, k ≤ l.length ∧ v19 = .int .i64 k ∧ tokErr (l.take k) = 0 ∧ RowI wr w1.heap.size v7 ((l.take k).map (cost m d)) ∧ Below w1.heap.size w1 wr) (fun _ v19 _ => l.length - (intOf v19).toNat)
    case atStart => exact ⟨0, Nat.zero_le _, rfl, rfl, Row.nil _ _ _ _, Below.refl _ _⟩
    case round =>
      obtain ⟨k, hk, rfl, hte, hrow, hbr⟩ := hrel
      have HTE := Lib.hid hte
      have kc := Blk.cell (y1.below hbr hw1)
      have hm2 := hm1.below hbr
      have hd2 := hd1.below hbr
      have hsr := hbr.size
      have hwr : w.heap.size < wr.heap.size := by omega
      clear hte
      by_cases hkl : k < l.length
      · obtain ⟨ad, rfl, had, g0, g1, g2, g3, g4⟩ := (hT1.below hbr).five k hkl
        have HTk := Lib.hid (show l.take (k + 1) = l.take k ++ [l[k]] from List.take_succ_eq_append_getElem hkl)
        have HDk := Lib.hid (show l = l.take k ++ (l[k] :: l.drop (k + 1)) by rw [← List.drop_eq_getElem_cons hkl, List.take_append_drop])
        generalize l[k] = t at *
        obtain ⟨tk, tb, tl, td, ti⟩ := t
        have hB2 := bl_alloc (Below.refl wr.heap.size wr) (.cells #[.int .i64 tk, .int .i64 tb, .int .i64 tl, .int .i64 td, .int .i64 ti] 25)
        have kc2 := Blk.cell (Blk.new wr 25 #[.int .i64 tk, .int .i64 tb, .int .i64 tl, .int .i64 td, .int .i64 ti])
        go_wp2_with fail
        refine (p_one23 M D m d c1 c2 ⟨tk, tb, tl, td, ti⟩ _ (hm2.below hB2) (hd2.below hB2) K1.out K2.out H3.out H4.out).mono ?_
        rintro e w2 ⟨rfl, hb2⟩
        have hB3 := bl_then hB2 hB2.size hb2
        have hrow2 := hrow.below hB3
        have HB3 := Lib.hid (bl_then hbr hbr.size hB3)
        have hs2 : w1.heap.size ≤ w2.heap.size := HB3.out.size
        clear hB2 hB3 hb2 kc2 hrow g0 g1 g2 g3 g4 kc
        by_cases hck : tokCheck ⟨tk, tb, tl, td, ti⟩ = 0
        · have ho : one23 m d ⟨tk, tb, tl, td, ti⟩ = cost m d ⟨tk, tb, tl, td, ti⟩ := if_pos hck
          have HCK := Lib.hid hck
          rw [ho, hck]
          clear ho hck
          generalize hX : cost m d ⟨tk, tb, tl, td, ti⟩ = X at *
          have HX := Lib.hid hX
          clear hX
          have hrx := reads_ints (Blk.new w2 3 (ivals [X]).toArray)
          have hlen2 : ((l.take k).map (cost m d)).length + ([X] : List Int).length ≤ 10995116277 := by simp; omega
          have hrow3 := hrow2.alloc (.cells (ivals [X]).toArray 3)
          go_wp2_with (at_builtin; go_must (refine wpList_append_ints rfl (.tmp 32) (.tmp 34) rfl w1.heap.size _ ((l.take k).map (cost m d)) rfl hrow3 (some ⟨w2.heap.size, 0, none⟩) 1 1 [X] rfl rfl hrx hlen2 (by simp; omega) ?_); intro v3 w3 hr3 hg3 ho3)
          go_roundw
          case rel =>
            refine ⟨k + 1, by omega, by go_num, ?_, ?_, ?_⟩
            · rw [HTk.out, tokErr_append, HTE.out]
              simp [tokErr, HCK.out]
            · rw [HTk.out, List.map_append]
              simp only [List.map_cons, List.map_nil, HX.out]
              exact hr3
            · exact (HB3.out.alloc hs2 _).grown hg3 (by simp; omega) (fun j hj => (hrow2.lt j hj).1)
          case measure => simp [intOf]; omega
        · have HE : Hid (tokErr l = tokCheck ⟨tk, tb, tl, td, ti⟩) := Lib.hid (by
            rw [HDk.out, tokErr_append, HTE.out]
            simp only [if_true]
            show (if tokCheck ⟨tk, tb, tl, td, ti⟩ = 0 then _ else _) = _
            rw [if_neg hck])
          have hne : (tokCheck ⟨tk, tb, tl, td, ti⟩ != 0) = true := by rw [bne_iff_ne]; exact hck
          have HN := Lib.hid hck
          clear hck
          generalize tokCheck ⟨tk, tb, tl, td, ti⟩ = E at *
          go_wp2
          go_ret2
          exact ⟨by rw [HT.out, HC.out, HE.out, if_neg HN.out]; rfl, bl_then HB1.out HB1.out.size HB3.out⟩
      · obtain rfl : k = l.length := by omega
        rw [List.take_length] at HTE hrow
        obtain ⟨A7, c7, rfl, hc7, hrd7⟩ := hrow.slice
        have hlm : (l.map (cost m d)).length = l.length := List.length_map _
        have hps := p_sum A7 c7 (l.map (cost m d)) wr hrd7 (by rw [hlm]; omega) (by
          intro x hx
          obtain ⟨t, ht, rfl⟩ := List.mem_map.1 hx
          exact cost_bd K1.out K2.out H3.out H4.out (tokErr_ok HTE.out t ht))
        rw [hlm] at hps
        have HPS := Lib.hid hps
        clear hps hlm hrow hrd7 hc7
        go_wp2_with fail
        refine HPS.out.mono ?_
        rintro e w5 ⟨rfl, rfl⟩
        have HS := Lib.hid (show sumI (l.map (cost m d)) = costs m d l from rfl)
        go_wp2
        go_ret2
        exact ⟨by rw [HT.out, HC.out, HTE.out, if_pos rfl, ← HS.out]; rfl, bl_then HB1.out HB1.out.size hbr⟩
  · have HT := Lib.hid (show allE m d l = chkE m d from if_neg hc)
    have HC := Lib.hid (show allC m d l = 0 from if_neg hc)
    have hne : (chkE m d != 0) = true := by rw [bne_iff_ne]; exact hc
    clear hc
    generalize chkE m d = E at *
    go_wp2
    go_ret2
    exact ⟨by rw [HT.out, HC.out]; rfl, HB1.out⟩

end Go.Proofs.Ytiohdgckmolmnaa
