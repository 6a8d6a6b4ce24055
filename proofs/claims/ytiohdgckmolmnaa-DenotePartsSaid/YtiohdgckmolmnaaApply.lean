/- Chapter 18 (denote): Apply, the program's: what it gives, by a walk. -/
import Derived.Test.YtiohdgckmolmnaaDenC
import Derived.Test.YtiohdgckmolmnaaToks
import Derived.Test.YtiohdgckmolmnaaPlain18a
import Derived.Test.YtiohdgckmolmnaaRepsU
set_option linter.unusedSimpArgs false
set_option linter.unusedVariables false
namespace Go.Proofs.Ytiohdgckmolmnaa
open Go.RowKit

def rpCells (r : Rp) : Array Value := #[.int .i64 r.a, .int .i64 r.b, .int .i64 r.c, .int .i64 r.d]
/-- A call gives bytes of its own, four distances, and an error's number. -/
def GivesA (w : World) (base : Nat) (x : Res) (e : Ending) (w' : World) : Prop := ∃ v, e = .returned (.tuple #[v, rpV x.reps, .int .i64 x.err]) ∧ RowB w' base v x.bytes ∧ Below base w w' ∧ w.heap.size ≤ w'.heap.size

/-- Four cells written. -/
def put4 (w : World) (g : Nat) (r : Rp) : World := (((w.setCell ⟨g, 0, none⟩ (.int .i64 r.a)).setCell ⟨g, 1, none⟩ (.int .i64 r.b)).setCell ⟨g, 2, none⟩ (.int .i64 r.c)).setCell ⟨g, 3, none⟩ (.int .i64 r.d)
theorem put4_size (w : World) (g : Nat) (r : Rp) : (put4 w g r).heap.size = w.heap.size := by simp [put4, World.setCell]
theorem put4_other {w : World} {g k : Nat} (r : Rp) (h : k ≠ g) : (put4 w g r).heap[k]? = w.heap[k]? := by
  unfold put4
  rw [Below.heap_setCell _ _ _ _ h, Below.heap_setCell _ _ _ _ h, Below.heap_setCell _ _ _ _ h, Below.heap_setCell _ _ _ _ h]
theorem put4_here {w : World} {g : Nat} {t : TypeId} {q : Rp} (r : Rp) (h : Blk w g t (rpCells q)) : Blk (put4 w g r) g t (rpCells r) := by
  have := ((((h.set_ 0 (.int .i64 r.a)).set_ 1 (.int .i64 r.b)).set_ 2 (.int .i64 r.c)).set_ 3 (.int .i64 r.d))
  simpa [rpCells, put4] using this
theorem put4_below {B : Nat} {w0 w : World} {g : Nat} (r : Rp) (h : Below B w0 w) (hg : B ≤ g) : Below B w0 (put4 w g r) :=
  (((h.setCell (p := ⟨g, 0, none⟩) hg _).setCell (p := ⟨g, 1, none⟩) hg _).setCell (p := ⟨g, 2, none⟩) hg _).setCell (p := ⟨g, 3, none⟩) hg _
theorem Blk.put4 {w : World} {g k : Nat} {t : TypeId} {cs : Array Value} (r : Rp) (h : Blk w k t cs) (hk : k ≠ g) : Blk (put4 w g r) k t cs := (put4_other r hk).trans h
theorem RowB.put4 {w : World} {base g : Nat} {v : Value} {xs : List UInt8} (r : Rp) (h : RowB w base v xs) (hg : g < base) : RowB (put4 w g r) base v xs :=
  Row.same h fun k hk => put4_other r (by have := (h.lt k hk).1; omega)

set_option maxHeartbeats 1000000 in
set_option maxRecDepth 100000 in
theorem p_Apply (A : Option Addr) (c : Nat) (xs : List UInt8) (r : Rp) (T : Option Addr) (c2 : Nat) (l : List Tok) (window : Int) (w : World) (hr : ReadsB w A xs) (hT : ReadsT w T l) (hl : l.length ≤ 1000000000) (hlen : xs.length + 258 * l.length ≤ 1000000000000) :
    Calls Try.prog 42 #[.slice A xs.length c, rpV r, .slice T l.length c2, .int .i64 window] w (GivesA w w.heap.size (applyT window l xs r)) := by
  obtain ⟨ra, rb, rc, rd⟩ := r
  unfold rpV
  go_enter Try.func42, Try.ntmps42
  go_wp2_with fail
  go_step3
  go_wp2_with fail
  refine (p_Clone A c xs _ ((hr.alloc _).alloc _) (by omega)).mono ?_
  rintro e w1 ⟨v1, rfl, hr1, hb1, hs1⟩
  go_wp2_with fail
  go_step3
  go_wp2_with fail
  have k0 : Blk w1 w.heap.size 23 (rpCells ⟨ra, rb, rc, rd⟩) := Blk.below ((Blk.new w _ _).alloc _) hb1 (by simp; omega)
  have k1 : Blk w1 (w.heap.size + 1) 23 (rpCells ⟨0, 0, 0, 0⟩) := by
    have := Blk.below (Blk.new (w.alloc (.cells (rpCells ⟨ra, rb, rc, rd⟩) 23)) 23 (rpCells ⟨0, 0, 0, 0⟩)) hb1 (by simp)
    simpa using this
  have hb0 : Below w.heap.size w w1 := (bl_alloc (bl_alloc (Below.refl _ _) _) _).trans (hb1.mono (by simp; omega))
  have hs0 : w.heap.size + 1 < w1.heap.size := by simp at hs1; omega
  have hr1' : RowB w1 (w.heap.size + 2) v1 xs := hr1.mono (by simp)
  clear hb1 hs1 hr1
  go_loopw [11, 12, 20] (fun v11 v12 v20 wr => ∃ (k : Nat) (ys : List UInt8) (q : Rp), k ≤ l.length ∧ v20 = .int .i64 k ∧ v12 = .int .i64 0 ∧ RowB wr (w.heap.size + 2) v11 ys ∧ Blk wr w.heap.size 23 (rpCells q) ∧ Blk wr (w.heap.size + 1) 23 (rpCells ⟨0, 0, 0, 0⟩) ∧ Below w.heap.size w wr ∧ w.heap.size + 1 < wr.heap.size ∧ ys.length ≤ xs.length + 258 * k ∧ applyT window (l.drop k) ys q = applyT window l xs ⟨ra, rb, rc, rd⟩) (fun _ _ i _ => l.length - (intOf i).toNat)
  case atStart => exact ⟨0, xs, ⟨ra, rb, rc, rd⟩, Nat.zero_le _, rfl, rfl, hr1', k0, k1, hb0, hs0, by omega, rfl⟩
  case round =>
    obtain ⟨k, ys, q, hk, rfl, rfl, hry, hB0, hB1, hbw, hsz, hyl, happ⟩ := hrel
    have HA := Lib.hid happ
    clear happ
    by_cases hkl : k < l.length
    · obtain ⟨ad, rfl, had, g0, g1, g2, g3, g4⟩ := (hT.below hbw).five k hkl
      have HL := Lib.hid (show l.drop k = l[k] :: l.drop (k + 1) from List.drop_eq_getElem_cons hkl)
      generalize l[k] = t at *
      obtain ⟨tk, tb, tl, td, ti⟩ := t
      obtain ⟨qa, qb, qc, qd⟩ := q
      have bc0 := Blk.cell hB0
      have bf0 := Blk.frozen hB0
      have bc1 := Blk.cell hB1
      have bf1 := Blk.frozen hB1
      simp only [rpCells] at bc0 bc1
      have hsz0 : w.heap.size < wr.heap.size := by omega
      go_wp2_with fail
      refine (p_Use ⟨qa, qb, qc, qd⟩ ⟨tk, tb, tl, td, ti⟩ _).mono ?_
      rintro e w2 ⟨rfl, hb2⟩
      have tB : Blk w2 wr.heap.size 25 #[.int .i64 tk, .int .i64 tb, .int .i64 tl, .int .i64 td, .int .i64 ti] := Blk.below (Blk.new wr _ _) hb2 (by simp)
      have b0 : Blk w2 w.heap.size 23 (rpCells ⟨qa, qb, qc, qd⟩) := Blk.below (hB0.alloc _) hb2 (by simp; omega)
      have b1 : Blk w2 (w.heap.size + 1) 23 (rpCells ⟨0, 0, 0, 0⟩) := Blk.below (hB1.alloc _) hb2 (by simp; omega)
      have ry2 : RowB w2 (w.heap.size + 2) u11 ys := (hry.alloc _).below hb2
      have bw2 : Below w.heap.size w w2 := bl_then (bl_alloc hbw _) (by simp; omega) hb2
      have sz2 : wr.heap.size < w2.heap.size := by have := hb2.size; simp at this; omega
      clear hB0 hB1 hry hbw hb2 bc0 bf0 bc1 bf1 g0 g1 g2 g3 g4
      have bc0 := Blk.cell b0
      have bf0 := Blk.frozen b0
      have bc1 := Blk.cell b1
      have bf1 := Blk.frozen b1
      have tc := Blk.cell tB
      have tf := Blk.frozen tB
      simp only [rpCells] at bc0 bc1
      have hsz2 : w.heap.size < w2.heap.size := by omega
      have hsz3 : w.heap.size + 1 < w2.heap.size := by omega
      generalize hU : useR ⟨qa, qb, qc, qd⟩ ⟨tk, tb, tl, td, ti⟩ = U
      have HU := Lib.hid hU
      clear hU
      obtain ⟨ua, ub, uc, ud⟩ := U
      unfold rpV
      have z0 := put4_here (w := w2) ⟨ua, ub, uc, ud⟩ b0
      have z1 : Blk (put4 w2 w.heap.size ⟨ua, ub, uc, ud⟩) (w.heap.size + 1) _ _ := b1.put4 ⟨ua, ub, uc, ud⟩ (by omega)
      have zt : Blk (put4 w2 w.heap.size ⟨ua, ub, uc, ud⟩) wr.heap.size _ _ := tB.put4 ⟨ua, ub, uc, ud⟩ (by omega)
      have zr : RowB (put4 w2 w.heap.size ⟨ua, ub, uc, ud⟩) (w.heap.size + 2) u11 ys := ry2.put4 ⟨ua, ub, uc, ud⟩ (by omega)
      have zb : Below w.heap.size w (put4 w2 w.heap.size ⟨ua, ub, uc, ud⟩) := put4_below _ bw2 (Nat.le_refl _)
      have zs := put4_size w2 w.heap.size ⟨ua, ub, uc, ud⟩
      have HX := Lib.hid (show put4 w2 w.heap.size ⟨ua, ub, uc, ud⟩ = (((w2.setCell ⟨w.heap.size, 0, none⟩ (.int .i64 ua)).setCell ⟨w.heap.size, 1, none⟩ (.int .i64 ub)).setCell ⟨w.heap.size, 2, none⟩ (.int .i64 uc)).setCell ⟨w.heap.size, 3, none⟩ (.int .i64 ud) from rfl)
      generalize put4 w2 w.heap.size ⟨ua, ub, uc, ud⟩ = W4 at *
      have US := Lib.hid zs
      clear zs
      have zc0 := Blk.cell z0
      have zf0 := Blk.frozen z0
      have zc1 := Blk.cell z1
      have zf1 := Blk.frozen z1
      have ztc := Blk.cell zt
      simp only [rpCells] at zc0 zc1
      obtain ⟨A2, c3, rfl, hc3, hrd3⟩ := zr.slice
      rcases useE_cases ⟨qa, qb, qc, qd⟩ ⟨tk, tb, tl, td, ti⟩ with hE | hE
      · rw [hE]
        have HE := Lib.hid hE
        clear hE
        have hok := useOk_tok (useE_zero HE.out)
        by_cases hk0 : tk = 0
        · subst hk0
          have hb0 : 0 ≤ tb ∧ tb ≤ 255 := by simp only [tokOk] at hok; omega
          obtain ⟨hb0, hb1⟩ := hb0
          obtain ⟨y, rfl⟩ : ∃ y : UInt8, tb = (y.toNat : Int) := ⟨UInt8.ofNat tb.toNat, by simp; omega⟩
          clear hok
          go_wp2_with (at_builtin; rw [← HX.out, ← US.out]; go_must (refine wpList_append_bytes rfl (.tmp 36) (.tmp 40) rfl (w.heap.size + 2) (.slice A2 ys.length c3) ys rfl (zr.alloc _) (some ⟨W4.heap.size, 0, none⟩) 1 1 [y] rfl rfl (reads_one W4 y _) ?_ ?_ ?_); (simp; omega); (have := US.out; simp; omega); intro v3 w3 hr3 hg3 ho3)
          go_roundw
          case rel =>
            have ho : ∀ j, (Value.slice A2 ys.length c3).ownBlock = some j → w.heap.size + 2 ≤ j := fun j hj => (zr.lt j hj).1
            refine ⟨k + 1, ys ++ [y], ⟨ua, ub, uc, ud⟩, by omega, by go_num, rfl, hr3, (z0.alloc _).grown hg3 (fun h => by have := ho _ h.symm; omega), (z1.alloc _).grown hg3 (fun h => by have := ho _ h.symm; omega), (bl_alloc zb _).grown hg3 (by have := zb.size; simp; omega) (fun j hj => by have := ho j hj; omega), by have := hg3.size; have := US.out; simp at *; omega, by simp; omega, ?_⟩
            rw [← HA.out, HL.out]
            simp only [applyT, HE.out, HU.out]
            simp
          case measure => simp [intOf]; omega
        · have hk0' : (tk == 0) = false := by rw [beq_eq_false_iff_ne]; exact hk0
          have HK0 := Lib.hid hk0
          clear hk0
          have HST : Hid (applyT window (⟨tk, tb, tl, td, ti⟩ :: l.drop (k + 1)) ys ⟨qa, qb, qc, qd⟩ = if copyE ys.length tl (useD ⟨qa, qb, qc, qd⟩ ⟨tk, tb, tl, td, ti⟩) window ≠ 0 then badRes (copyE ys.length tl (useD ⟨qa, qb, qc, qd⟩ ⟨tk, tb, tl, td, ti⟩) window) else applyT window (l.drop (k + 1)) (cpy (useD ⟨qa, qb, qc, qd⟩ ⟨tk, tb, tl, td, ti⟩).toNat tl.toNat ys) ⟨ua, ub, uc, ud⟩) := by
            show _ = _
            simp only [applyT, HE.out, HU.out]
            rw [if_neg (by simp), if_neg HK0.out]
          generalize useD ⟨qa, qb, qc, qd⟩ ⟨tk, tb, tl, td, ti⟩ = D at *
          go_wp2_with fail
          rw [← HX.out]
          refine (p_dcheck _ _ _ _ _).mono ?_
          rintro e w5 ⟨rfl, rfl⟩
          by_cases hce : copyE ys.length tl D window = 0
          · obtain ⟨i1, i2, i3, i4, i5, i6, i7⟩ := copyE_zero hce
            have HCE := Lib.hid hce
            rw [hce]
            clear hce
            obtain ⟨tl, rfl⟩ := Int.eq_ofNat_of_zero_le i1
            obtain ⟨D, rfl⟩ := Int.eq_ofNat_of_zero_le (show 0 ≤ D by omega)
            go_wp2_with fail
            refine (p_behind (w.heap.size + 2) _ ys tl D _ (by have := US.out; omega) zr (by omega) (by omega) (by omega) (by omega)).mono ?_
            rintro e w6 ⟨v6, rfl, hr6, hb6, hs6⟩
            go_wp2_with fail
            go_roundw
            case rel =>
              refine ⟨k + 1, cpy D tl ys, ⟨ua, ub, uc, ud⟩, by omega, by go_num, rfl, hr6, z0.below hb6 (by omega), z1.below hb6 (by omega), zb.trans (hb6.mono (by omega)), by have := US.out; omega, by rw [cpy_length]; omega, ?_⟩
              rw [← HA.out, HL.out, HST.out, if_neg (by rw [HCE.out]; simp)]
              simp
            case measure => simp [intOf]; omega
          · have hne : (copyE ys.length tl D window != 0) = true := by rw [bne_iff_ne]; exact hce
            have HCE := Lib.hid hce
            clear hce
            generalize hG : copyE ys.length tl D window = G at *
            have HG := Lib.hid hG
            clear hG
            go_wp2_with fail
            rw [Exit.noGoto_ret]
            refine bodyPost_ret (v := .tuple #[.slice none 0 0, .agg #[.int .i64 0, .int .i64 0, .int .i64 0, .int .i64 0], .int .i64 G]) (by simp [results, Try.results42, go_sem, zc1, zf1]) rfl ?_
            have hres : applyT window l xs ⟨ra, rb, rc, rd⟩ = badRes G := by rw [← HA.out, HL.out, HST.out, if_pos (by rw [← bne_iff_ne]; exact hne)]
            exact ⟨.slice none 0 0, by rw [hres]; rfl, by rw [hres]; exact Row.nil _ _ _ _, put4_below ⟨0, 0, 0, 0⟩ zb (by omega), by show w.heap.size ≤ (put4 W4 (w.heap.size + 1) ⟨0, 0, 0, 0⟩).heap.size; rw [put4_size]; exact zb.size⟩
      · rw [hE]
        have HE := Lib.hid hE
        clear hE
        go_wp2_with fail
        rw [Exit.noGoto_ret, ← HX.out]
        refine bodyPost_ret (v := .tuple #[.slice none 0 0, .agg #[.int .i64 0, .int .i64 0, .int .i64 0, .int .i64 0], .int .i64 10]) (by simp [results, Try.results42, go_sem, zc1, zf1]) rfl ?_
        have hres : applyT window l xs ⟨ra, rb, rc, rd⟩ = badRes 10 := by
          rw [← HA.out, HL.out]
          simp only [applyT, HE.out]
          simp
        exact ⟨.slice none 0 0, by rw [hres]; rfl, by rw [hres]; exact Row.nil _ _ _ _, put4_below ⟨0, 0, 0, 0⟩ zb (by omega), by show w.heap.size ≤ (put4 W4 (w.heap.size + 1) ⟨0, 0, 0, 0⟩).heap.size; rw [put4_size]; exact zb.size⟩
    · obtain rfl : k = l.length := by omega
      obtain ⟨qa, qb, qc, qd⟩ := q
      have bc0 := Blk.cell hB0
      have bf0 := Blk.frozen hB0
      have bc1 := Blk.cell hB1
      have bf1 := Blk.frozen hB1
      simp only [rpCells] at bc0 bc1
      go_wp2_with fail
      go_region
      all_goals
        go_wp2
        rw [Exit.noGoto_ret]
        refine bodyPost_ret (v := .tuple #[u11, .agg #[.int .i64 qa, .int .i64 qb, .int .i64 qc, .int .i64 qd], .int .i64 0]) (by simp [results, Try.results42, go_sem, bc1, bf1]) rfl ?_
        have hres : applyT window l xs ⟨ra, rb, rc, rd⟩ = ⟨ys, ⟨qa, qb, qc, qd⟩, 0⟩ := by
          rw [← HA.out, List.drop_length]
          rfl
        refine ⟨u11, by rw [hres]; rfl, ?_, ?_, ?_⟩
        · rw [hres]
          exact (hry.put4 ⟨qa, qb, qc, qd⟩ (by omega)).mono (by omega)
        · exact put4_below ⟨qa, qb, qc, qd⟩ hbw.drew (by omega)
        · show w.heap.size ≤ (put4 wr (w.heap.size + 1) ⟨qa, qb, qc, qd⟩).heap.size
          rw [put4_size]
          exact hbw.size

end Go.Proofs.Ytiohdgckmolmnaa
