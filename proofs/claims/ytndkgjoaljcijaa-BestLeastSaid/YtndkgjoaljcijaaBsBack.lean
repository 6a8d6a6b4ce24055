/- Chapter 26 (best): check, the library's Reverse, and back: by walks. -/
import Derived.Test.YtndkgjoaljcijaaBsMap
import Derived.Test.YtndkgjoaljcijaaPrice
import Derived.Test.YtndkgjoaljcijaaBsTokRow
import Derived.Test.YtndkgjoaljcijaaBytes
import Derived.Test.YtndkgjoaljcijaaPut5
import Derived.BigQuiet
import Derived.Deep.DeepMust
import Derived.BigRegion
import Derived.Deep.QuietTactic
set_option linter.unusedSimpArgs false
set_option linter.unusedVariables false
set_option maxRecDepth 100000
namespace Go.Proofs.Ytndkgjoaljcijaa
open Go.RowKit

noncomputable def bchk (window : Int) (m d : List Int) : Int := if window < 1 ∨ 67108864 < window then 1 else chkE m d
set_option maxHeartbeats 1000000 in
theorem p_bcheck (h b : List UInt8) (M D : Option Addr) (m d : List Int) (c1 c2 : Nat) (window : Int) (w : World) (hm : ReadsI w M m) (hd : ReadsI w D d) (l1 : m.length ≤ 1000000000) (l2 : d.length ≤ 1000000000) (lh : h.length ≤ 24) (lb : b.length ≤ 24) :
    Calls Try.prog 16 #[.string (str h), .string (str b), priceV M D m d c1 c2, .int .i64 window] w fun e w' => e = .returned (.int .i64 (bchk window m d)) ∧ Below w.heap.size w w' := by
  have hB := bl_alloc (Below.refl w.heap.size w) (.cells #[.slice M m.length c1, .slice D d.length c2] 32)
  have z0 := Blk.new w 32 #[.slice M m.length c1, .slice D d.length c2]
  have hck := p_PCheck M D m d c1 c2 _ (hm.below hB) (hd.below hB) l1 l2
  have s1 := str_size h
  have s2 := str_size b
  by_cases h1 : window < 1
  · have HR := Lib.hid (show bchk window m d = 1 from if_pos (.inl h1))
    unfold priceV
    clear hck
    go_enter Try.func16, Try.ntmps16
    go_wp2
    go_ret
    exact ⟨by rw [HR.out]; rfl, hB⟩
  · by_cases h2 : 67108864 < window
    · have HR := Lib.hid (show bchk window m d = 1 from if_pos (.inr h2))
      unfold priceV
      clear hck
      go_enter Try.func16, Try.ntmps16
      go_wp2
      go_ret
      exact ⟨by rw [HR.out]; rfl, hB⟩
    · have HR := Lib.hid (show bchk window m d = chkE m d from if_neg (by omega))
      unfold priceV at *
      have q1 : ¬ (b.length : Int) > 65536 := by omega
      have q2 : ¬ (h.length : Int) > 134217728 - (b.length : Int) := by omega
      go_enter Try.func16, Try.ntmps16
      go_wp2_with fail
      refine hck.mono ?_
      rintro e w3 ⟨rfl, hb3⟩
      have HB := Lib.hid (bl_then hB hB.size hb3)
      clear hB hb3 z0
      go_wp2
      go_ret
      exact ⟨by rw [HR.out]; rfl, HB.out⟩
/-- So far as two ends are exchanged. -/
def RevTo (l l' : List Tok) (i : Nat) : Prop := l'.length = l.length ∧ ∀ k, k < l.length → gT l' k = if k < i ∨ l.length ≤ k + i then gT l (l.length - 1 - k) else gT l k
theorem RevTo.start (l : List Tok) : RevTo l l 0 := ⟨rfl, fun k hk => by rw [if_neg (by omega)]⟩
theorem RevTo.step {l l' : List Tok} {i : Nat} (h : RevTo l l' i) (hi : 2 * i + 1 < l.length) : RevTo l (swapT l' i (l.length - 1 - i)) (i + 1) := by
  obtain ⟨h1, h2⟩ := h
  refine ⟨by rw [swapT_length, h1], fun k hk => ?_⟩
  rw [swapT_get (by omega) (by omega)]
  by_cases e1 : k = l.length - 1 - i
  · rw [if_pos e1, if_pos (by omega), h2 i (by omega), if_neg (by omega), e1]
    congr 1
    omega
  · rw [if_neg e1]
    by_cases e2 : k = i
    · rw [if_pos e2, if_pos (by omega), h2 _ (by omega), if_neg (by omega), e2]
    · rw [if_neg e2, h2 k hk]
      by_cases e3 : k < i ∨ l.length ≤ k + i
      · rw [if_pos e3, if_pos (by omega)]
      · rw [if_neg e3, if_neg (by omega)]
theorem RevTo.done {l l' : List Tok} {i : Nat} (h : RevTo l l' i) (hi : l.length ≤ 2 * i + 1) : l' = l.reverse := by
  obtain ⟨h1, h2⟩ := h
  refine List.ext_getElem (by rw [h1, List.length_reverse]) (fun k a b => ?_)
  have hk : k < l.length := by omega
  have h3 := h2 k hk
  rw [gT_at (by omega)] at h3
  rw [h3, List.getElem_reverse]
  split
  · exact gT_at (by omega)
  · rw [gT_at hk]
    congr 1
    omega
set_option maxHeartbeats 4000000 in
theorem p_Reverse {w : World} {base : Nat} {v : Value} {l : List Tok} (hrow : RowT w base v l) (hl : l.length ≤ 1000000) :
    Calls Try.prog 36 #[v] w fun e w' => e = .returned (.tuple #[]) ∧ RowT w' base v l.reverse ∧ w.grownBy w' v.ownBlock := by
  obtain ⟨A, c, rfl, hlc⟩ := Row.slice hrow
  have HROW := Lib.hid hrow
  go_enter Try.func36, Try.ntmps36
  go_wp2_with fail
  go_loopw [2, 3] (fun v2 v3 wr => ∃ (i : Nat) (l' : List Tok), v2 = .int .i64 i ∧ v3 = .int .i64 ((l.length : Int) - 1 - i) ∧ i ≤ l.length ∧ RevTo l l' i ∧ RowT wr base (.slice A l.length c) l' ∧ w.grownBy wr (Value.slice A l.length c).ownBlock) (fun v2 _ _ => l.length + 1 - (intOf v2).toNat)
  case atStart => exact ⟨0, l, rfl, by simp, Nat.zero_le _, RevTo.start l, HROW.out, grown_refl_wt _ _⟩
  case round =>
    obtain ⟨i, l', rfl, rfl, hi, hrv, hr, hg⟩ := hrel
    by_cases hC : 2 * i + 1 < l.length
    · obtain ⟨g, o, rfl⟩ : ∃ g o, A = some ⟨g, o, none⟩ := by
        obtain ⟨g, o, c', e, _⟩ := RowT.form hrow (by omega)
        simp only [Value.slice.injEq] at e
        exact ⟨g, o, e.1⟩
      obtain ⟨j, hj⟩ : ∃ j, j = l.length - 1 - i := ⟨_, rfl⟩
      have hjj : (l.length : Int) - 1 - (i : Int) = (j : Int) := by omega
      rw [hjj]
      have hjl : j < l'.length := by rw [hrv.1]; omega
      have hil : i < l'.length := by rw [hrv.1]; omega
      obtain ⟨a0, a1, a2, a3, a4⟩ := RowT.five hr i hil
      obtain ⟨b0, b1, b2, b3, b4⟩ := RowT.five hr j hjl
      obtain ⟨p0, p1, p2, p3, p4⟩ := RowT.thawed hr i hil
      obtain ⟨z0, z1, z2, z3, z4⟩ := RowT.thawed hr j hjl
      have hst := hrv.step hC
      rw [← hj] at hst
      have hrx := ex2T_row hr i j hil hjl rfl rfl
      have hgx := ex2T_grown hg (o + i * 5) (o + j * 5) (gT l' i) (gT l' j)
      generalize gT l' i = X at *
      generalize gT l' j = Y at *
      have HST := Lib.hid hst
      have HRX := Lib.hid hrx
      have HGX := Lib.hid hgx
      have q1 : (0 : Int) ≤ i := by omega
      have q2 : (0 : Int) ≤ j := by omega
      have q3 : (i : Int) < l.length := by omega
      have q4 : (j : Int) < l.length := by omega
      have q5 : (i : Int) < j := by omega
      have HJ := Lib.hid (And.intro hj hjj)
      clear hst hrx hgx hjl hil hrv hr hg hjj hj
      go_upto_region 3 with (fail)
      go_region
      all_goals
        go_wp2
        go_roundw
        case rel => exact ⟨i + 1, swapT l' i j, by go_num, by have := HJ.out; congr 1; omega, by omega, HST.out, HRX.out, HGX.out⟩
        case measure => simp [intOf]; omega
    · have hd : l' = l.reverse := hrv.done (by omega)
      have HE := Lib.hid (And.intro hd (And.intro hr hg))
      have q5 : ¬ (i : Int) < (l.length : Int) - 1 - i := by omega
      clear hd hr hg hrv
      go_wp2
      refine bodyPost_end (results_none rfl _ _ _) rfl ⟨rfl, ?_, HE.out.2.2⟩
      rw [← HE.out.1]
      exact HE.out.2.1
def lenV : Value → Nat
  | .slice _ n _ => n
  | _ => 0
/-- As far as back has come. -/
def BackR (f : St → Option Sp) (bg s : St) (acc target : List Tok) : Prop := ∃ k l0, backF f bg k s = some l0 ∧ l0 ++ acc.reverse = target
theorem BackR.step {f : St → Option Sp} {bg s : St} {acc target : List Tok} (h : BackR f bg s acc target) (hne : s ≠ bg) : BackR f bg ((f s).getD sp0).from_ (acc ++ [((f s).getD sp0).by_]) target ∧ acc.length < target.length := by
  obtain ⟨k, l0, h1, h2⟩ := h
  cases k with
  | zero => simp [backF] at h1
  | succ k =>
    unfold backF at h1
    rw [if_neg hne, Option.map_eq_some_iff] at h1
    obtain ⟨l1, h3, h4⟩ := h1
    subst h4
    refine ⟨⟨k, l1, h3, by rw [← h2]; simp⟩, by rw [← h2]; simp; omega⟩
theorem BackR.done {f : St → Option Sp} {bg : St} {acc target : List Tok} (h : BackR f bg bg acc target) : acc.reverse = target := by
  obtain ⟨k, l0, h1, h2⟩ := h
  cases k with
  | zero => simp [backF] at h1
  | succ k =>
    unfold backF at h1
    rw [if_pos rfl] at h1
    injection h1 with h1
    subst h1
    simpa using h2
theorem run_neSt (w : World) (s t : St) : (binOp .neq 61 (stV s) (stV t)).run Try.prog w = .ok (.bool (!decide (s = t))) w := by
  have h := run_eqSt' w s t 9997
  unfold stV at *
  rw [run_neq_struct]
  rw [h]
  rfl
set_option maxHeartbeats 4000000 in
theorem p_back {w : World} {mb n : Nat} {f : St → Option Sp} {bg s : St} {l : List Tok} (hm : MapS w mb f n) {k : Nat} (hb : backF f bg k s = some l) (hl : l.length ≤ 1000000) :
    Calls Try.prog 22 #[.map (some mb), stV s, stV bg] w fun e w' => ∃ v, e = .returned v ∧ RowT w' w.heap.size v l ∧ Below w.heap.size w w' := by
  have hR0 : BackR f bg s [] l := ⟨k, l, hb, by simp⟩
  have hb1 := bl_alloc (bl_alloc (Below.refl w.heap.size w) (.cells (stCells s).toArray 61)) (.cells (stCells bg).toArray 61)
  have z0 := (Blk.new w 61 (stCells s).toArray).alloc (.cells (stCells bg).toArray 61)
  have z1 : Blk ((w.alloc (.cells (stCells s).toArray 61)).alloc (.cells (stCells bg).toArray 61)) (w.heap.size + 1) 61 (stCells bg).toArray := by
    have := Blk.new (w.alloc (.cells (stCells s).toArray 61)) 61 (stCells bg).toArray
    simpa using this
  have hmb := hm.lt
  have HM := Lib.hid hm
  unfold stV
  unfold stCells at *
  clear hb hm
  go_enter Try.func22, Try.ntmps22
  go_wp2_with fail
  go_loopw [7] (fun v7 wr => ∃ (cur : St) (acc : List Tok), BackR f bg cur acc l ∧ RowT wr (w.heap.size + 2) v7 acc ∧ Blk wr w.heap.size 61 (stCells cur).toArray ∧ Blk wr (w.heap.size + 1) 61 (stCells bg).toArray ∧ Below w.heap.size w wr ∧ w.heap.size + 1 < wr.heap.size) (fun v7 _ => l.length + 1 - lenV v7)
  case atStart => exact ⟨s, [], hR0, Row.nil _ _ _ _, z0, z1, hb1, by simp⟩
  case round =>
    obtain ⟨cur, acc, hR, hrow, k0, k1, hbw, hsz⟩ := hrel
    have HBW := Lib.hid hbw
    have hms := HM.out.below hbw
    have a0 := Blk.cell k0
    have a1 := Blk.cell k1
    have f0 := Blk.frozen k0
    unfold stCells at a0 a1
    have hlk := (hms.look cur false)
    go_upto_region 2 with (fail)
    go_cut [9, 10, 11] (fun _ _ v11 wc => v11 = .bool (!decide (cur = bg)) ∧ wc = wr)
    case first =>
      have h23 := run_eq23 wr cur.r.a cur.r.b cur.r.c cur.r.d bg.r.a bg.r.b bg.r.c bg.r.d 9997
      have HD : Hid (decide (cur = bg) = (decide (cur.at_ = bg.at_) && decide (cur.r.a = bg.r.a ∧ cur.r.b = bg.r.b ∧ cur.r.c = bg.r.c ∧ cur.r.d = bg.r.d))) := Lib.hid (by
        obtain ⟨i, ⟨q1, q2, q3, q4⟩⟩ := cur
        obtain ⟨j, ⟨p1, p2, p3, p4⟩⟩ := bg
        simp only [St.mk.injEq, Rp.mk.injEq, Bool.decide_and])
      generalize decide (cur.r.a = bg.r.a ∧ cur.r.b = bg.r.b ∧ cur.r.c = bg.r.c ∧ cur.r.d = bg.r.d) = R4 at *
      generalize decide (cur = bg) = BB at *
      by_cases h1 : cur.at_ = bg.at_
      · have h1i : (cur.at_ : Int) = (bg.at_ : Int) := by omega
        have HD2 : Hid (BB = R4) := Lib.hid (by rw [HD.out, decide_eq_true h1]; rfl)
        have H1 := Lib.hid h1
        clear h1 hlk hms hbw hrow k0 k1
        cases R4 with
        | false =>
          go_wp2
          go_meet
          case rel => exact ⟨by rw [HD2.out]; rfl, rfl⟩
        | true =>
          go_wp2
          go_meet
          case rel => exact ⟨by rw [HD2.out]; rfl, rfl⟩
      · have h1i : ¬ (cur.at_ : Int) = (bg.at_ : Int) := by omega
        have HD2 : Hid (BB = false) := Lib.hid (by rw [HD.out, decide_eq_false h1]; rfl)
        clear h1 hlk hms hbw hrow k0 k1
        go_wp2
        go_meet
        case rel => exact ⟨by rw [HD2.out]; rfl, rfl⟩
    obtain ⟨rfl, hw⟩ := hcut
    rw [hw]
    clear hw
    by_cases hcb : cur = bg
    · subst hcb
      have HD := Lib.hid hR.done
      rw [decide_eq_true rfl, Bool.not_true]
      have HL : Hid (acc.length = l.length) := Lib.hid (by rw [← HD.out, List.length_reverse])
      have hrev := p_Reverse hrow (by rw [HL.out]; exact hl)
      have hrl := Row.lt hrow
      have hsz2 : w.heap.size + 2 ≤ wr.heap.size := by omega
      clear hlk hms hrow k0 k1 hbw hR
      go_wp2_with fail
      refine hrev.mono ?_
      rintro e w3 ⟨rfl, hr3, hg3⟩
      have hE : RowT w3 w.heap.size u7 l := by rw [← HD.out]; exact Row.mono hr3 (by omega)
      have hB := HBW.out.grown hg3 (by omega) (fun j hj => by have := (hrl j hj).1; omega)
      have HE := Lib.hid (And.intro hE hB)
      clear hE hB hr3 hg3 hrev hrl a0 a1 f0
      go_wp2
      go_ret
      exact ⟨_, rfl, HE.out.1, HE.out.2⟩
    · have HST := Lib.hid (hR.step hcb)
      rw [decide_eq_false hcb, Bool.not_false]
      unfold stV at hlk
      simp only [Bool.false_eq_true, if_false] at hlk
      generalize (f cur).getD sp0 = x at *
      unfold spV at hlk
      obtain ⟨xc, ⟨xa, ⟨x1, x2, x3, x4⟩⟩, ⟨e1, e2, e3, e4, e5⟩⟩ := x
      have n0 := Blk.new wr 67 #[.int .i64 xc, .int .i64 xa, .int .i64 x1, .int .i64 x2, .int .i64 x3, .int .i64 x4, .int .i64 e1, .int .i64 e2, .int .i64 e3, .int .i64 e4, .int .i64 e5]
      clear hms hbw hR hcb
      have HK := Lib.hid (And.intro hrow (And.intro k0 k1))
      clear hrow k0 k1
      go_upto_region 4 with (fail)
      have r1 := Row.alloc HK.out.1 (.cells #[.int .i64 xc, .int .i64 xa, .int .i64 x1, .int .i64 x2, .int .i64 x3, .int .i64 x4, .int .i64 e1, .int .i64 e2, .int .i64 e3, .int .i64 e4, .int .i64 e5] 67)
      have m0 := HK.out.2.1.alloc (.cells #[.int .i64 xc, .int .i64 xa, .int .i64 x1, .int .i64 x2, .int .i64 x3, .int .i64 x4, .int .i64 e1, .int .i64 e2, .int .i64 e3, .int .i64 e4, .int .i64 e5] 67)
      have m1 := HK.out.2.2.alloc (.cells #[.int .i64 xc, .int .i64 xa, .int .i64 x1, .int .i64 x2, .int .i64 x3, .int .i64 x4, .int .i64 e1, .int .i64 e2, .int .i64 e3, .int .i64 e4, .int .i64 e5] 67)
      have mb2 := bl_alloc HBW.out (.cells #[.int .i64 xc, .int .i64 xa, .int .i64 x1, .int .i64 x2, .int .i64 x3, .int .i64 x4, .int .i64 e1, .int .i64 e2, .int .i64 e3, .int .i64 e4, .int .i64 e5] 67)
      have hrl := Row.lt HK.out.1
      clear a0 a1 f0 hlk
      generalize wr.alloc (.cells #[.int .i64 xc, .int .i64 xa, .int .i64 x1, .int .i64 x2, .int .i64 x3, .int .i64 x4, .int .i64 e1, .int .i64 e2, .int .i64 e3, .int .i64 e4, .int .i64 e5] 67) = w2 at *
      have c8 := Blk.cell n0
      have s8 := n0.lt
      have HAL : Hid (acc.length ≤ 1000000000000) := Lib.hid (by have := HST.out.2; omega)
      go_upto_region 5 with (at_builtin; go_must (refine wpList_append_tk rfl (.tmp 15) (.tmp 18) rfl (w.heap.size + 2) u7 acc rfl (Row.alloc r1 _) w2.heap.size ⟨e1, e2, e3, e4, e5⟩ rfl (Blk.new w2 _ _) HAL.out ?_ ?_); (simp; omega); skip; intro v3 w3 hr3 hg3 ho3)
      have hown : ∀ j, Value.ownBlock u7 = some j → w.heap.size + 2 ≤ j ∧ j < wr.heap.size := hrl
      have hsz2 : wr.heap.size < w2.heap.size := s8
      have y0 : Blk w3 w.heap.size _ _ := (m0.alloc _).grown hg3 (fun h => by have := hown _ h.symm; omega)
      have y1 : Blk w3 (w.heap.size + 1) _ _ := (m1.alloc _).grown hg3 (fun h => by have := hown _ h.symm; omega)
      have y8 : Blk w3 wr.heap.size _ _ := (n0.alloc _).grown hg3 (fun h => by have := hown _ h.symm; omega)
      have yb : Below w.heap.size w w3 := (bl_alloc mb2 _).grown hg3 (by have := mb2.size; simp; omega) (fun j hj => by have := hown j hj; omega)
      have hs3 : wr.heap.size < w3.heap.size := y8.lt
      have HZ : Hid (Blk (put5 w3 w.heap.size xa x1 x2 x3 x4) w.heap.size 61 (stCells ⟨xa, ⟨x1, x2, x3, x4⟩⟩).toArray ∧ Blk (put5 w3 w.heap.size xa x1 x2 x3 x4) (w.heap.size + 1) 61 (stCells bg).toArray ∧ RowT (put5 w3 w.heap.size xa x1 x2 x3 x4) (w.heap.size + 2) v3 (acc ++ [⟨e1, e2, e3, e4, e5⟩]) ∧ Below w.heap.size w (put5 w3 w.heap.size xa x1 x2 x3 x4) ∧ w.heap.size + 1 < (put5 w3 w.heap.size xa x1 x2 x3 x4).heap.size) := Lib.hid (by
        have e0 : ∀ k, k ≠ w.heap.size → (put5 w3 w.heap.size xa x1 x2 x3 x4).heap[k]? = w3.heap[k]? := fun k hk => by
          unfold put5
          rw [Below.heap_setCell _ _ _ _ hk, Below.heap_setCell _ _ _ _ hk, Below.heap_setCell _ _ _ _ hk, Below.heap_setCell _ _ _ _ hk, Below.heap_setCell _ _ _ _ hk]
        refine ⟨put5_here _ _ _ _ _ y0, (e0 _ (by omega)).trans y1, Row.same hr3 (fun j hj => e0 j (by have := (Row.lt hr3 j hj).1; omega)), put5_below _ _ _ _ _ yb (Nat.le_refl _), ?_⟩
        have : (put5 w3 w.heap.size xa x1 x2 x3 x4).heap.size = w3.heap.size := by simp [put5, World.setCell]
        omega)
      have c0 := Blk.cell y0
      have c8 := Blk.cell y8
      have f0 := Blk.frozen y0
      have hs4 : w.heap.size < w3.heap.size := by omega
      obtain ⟨va, vn, vc, hv3⟩ : ∃ A n c, v3 = .slice A n c := by obtain ⟨A, c, h, _⟩ := Row.slice hr3; exact ⟨A, _, c, h⟩
      have hlv : vn = acc.length + 1 := by
        obtain ⟨A, c, h, _⟩ := Row.slice hr3
        rw [hv3] at h
        injection h with _ h
        rw [h, List.length_append]; rfl
      have hlu : lenV u7 = acc.length := by
        obtain ⟨A, c, h, _⟩ := Row.slice HK.out.1
        rw [h]; rfl
      have HLV := Lib.hid (And.intro hlv (And.intro hlu hv3))
      unfold stCells at c0
      clear y0 y1 y8 yb hr3 hg3 ho3 n0 m0 m1 mb2 r1 hrl hown hlv hlu hv3
      go_wp2
      go_roundw
      case rel =>
        exact ⟨(⟨xa, ⟨x1, x2, x3, x4⟩⟩ : St), acc ++ [(⟨e1, e2, e3, e4, e5⟩ : Tok)], HST.out.1, HZ.out.2.2.1, HZ.out.1, HZ.out.2.1, HZ.out.2.2.2.1, HZ.out.2.2.2.2⟩
      case measure =>
        obtain ⟨h1, h2, h3⟩ := HLV.out
        have := HST.out.2
        rw [h2, h3]
        show l.length + 1 - vn < _
        omega
end Go.Proofs.Ytndkgjoaljcijaa
