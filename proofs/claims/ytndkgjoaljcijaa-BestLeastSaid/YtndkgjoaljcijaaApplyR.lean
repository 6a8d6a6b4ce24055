/- Chapter 18 (denote): Apply, the reference's: what it gives, by a walk. -/
import Derived.Test.YtndkgjoaljcijaaApply
import Derived.Deep.RegionHeld3
set_option linter.unusedSimpArgs false
set_option linter.unusedVariables false
namespace Go.Proofs.Ytndkgjoaljcijaa
open Go.RowKit

theorem str_append (a b : List UInt8) : str a ++ str b = str (a ++ b) := by
  apply ByteArray.ext
  simp [str]

set_option maxHeartbeats 1000000 in
set_option maxRecDepth 100000 in
theorem r_Apply (xs : List UInt8) (r : Rp) (T : Option Addr) (c2 : Nat) (l : List Tok) (window : Int) (w : World) (hT : ReadsT w T l) (hl : l.length ≤ 1000000000) (hlen : xs.length + 258 * l.length ≤ 1000000000000) :
    Calls Try.prog 15 #[.string (str xs), rpV r, .slice T l.length c2, .int .i64 window] w fun e w' => e = .returned (.tuple #[.string (str (applyT window l xs r).bytes), rpV (applyT window l xs r).reps, .int .i64 (applyT window l xs r).err]) ∧ Below w.heap.size w w' := by
  obtain ⟨ra, rb, rc, rd⟩ := r
  unfold rpV
  go_enter Try.func15, Try.ntmps15
  go_wp2_with fail
  have k0 : Blk ((w.alloc (.cells (rpCells ⟨ra, rb, rc, rd⟩) 23)).alloc (.cells (rpCells ⟨0, 0, 0, 0⟩) 23)) w.heap.size 23 (rpCells ⟨ra, rb, rc, rd⟩) := (Blk.new w _ _).alloc _
  have k1 : Blk ((w.alloc (.cells (rpCells ⟨ra, rb, rc, rd⟩) 23)).alloc (.cells (rpCells ⟨0, 0, 0, 0⟩) 23)) (w.heap.size + 1) 23 (rpCells ⟨0, 0, 0, 0⟩) := by
    have := Blk.new (w.alloc (.cells (rpCells ⟨ra, rb, rc, rd⟩) 23)) 23 (rpCells ⟨0, 0, 0, 0⟩)
    simpa using this
  have hb0 : Below w.heap.size w ((w.alloc (.cells (rpCells ⟨ra, rb, rc, rd⟩) 23)).alloc (.cells (rpCells ⟨0, 0, 0, 0⟩) 23)) := bl_alloc (bl_alloc (Below.refl _ _) _) _
  go_loopw [0, 11] (fun v0 i wr => ∃ (k : Nat) (ys : List UInt8) (q : Rp), k ≤ l.length ∧ i = .int .i64 k ∧ v0 = .string (str ys) ∧ Blk wr w.heap.size 23 (rpCells q) ∧ Blk wr (w.heap.size + 1) 23 (rpCells ⟨0, 0, 0, 0⟩) ∧ Below w.heap.size w wr ∧ w.heap.size + 1 < wr.heap.size ∧ ys.length ≤ xs.length + 258 * k ∧ applyT window (l.drop k) ys q = applyT window l xs ⟨ra, rb, rc, rd⟩) (fun _ i _ => l.length - (intOf i).toNat)
  case atStart => exact ⟨0, xs, ⟨ra, rb, rc, rd⟩, Nat.zero_le _, rfl, rfl, k0, k1, hb0, by simp, by omega, rfl⟩
  case round =>
    obtain ⟨k, ys, q, hk, rfl, rfl, hB0, hB1, hbw, hsz, hyl, happ⟩ := hrel
    have HA := Lib.hid happ
    clear happ
    obtain ⟨qa, qb, qc, qd⟩ := q
    have bc0 := Blk.cell hB0
    have bf0 := Blk.frozen hB0
    have bc1 := Blk.cell hB1
    have bf1 := Blk.frozen hB1
    simp only [rpCells] at bc0 bc1
    have hsz0 : w.heap.size < wr.heap.size := by omega
    by_cases hkl : k < l.length
    · obtain ⟨ad, rfl, had, g0, g1, g2, g3, g4⟩ := hT.five k hkl
      have HL := Lib.hid (show l.drop k = l[k] :: l.drop (k + 1) from List.drop_eq_getElem_cons hkl)
      generalize l[k] = t at *
      obtain ⟨tk, tb, tl, td, ti⟩ := t
      have hadb : (ad.add (k * 5)).block < w.heap.size := by rw [block_of_add]; exact had
      have HTK : Hid (∀ W, Below w.heap.size w W → W.cell? (ad.add (k * 5)) = some (.int .i64 tk) ∧ W.cell? ⟨(ad.add (k * 5)).block, (ad.add (k * 5)).off + 1, none⟩ = some (.int .i64 tb) ∧ W.cell? ⟨(ad.add (k * 5)).block, (ad.add (k * 5)).off + 2, none⟩ = some (.int .i64 tl) ∧ W.cell? ⟨(ad.add (k * 5)).block, (ad.add (k * 5)).off + 3, none⟩ = some (.int .i64 td) ∧ W.cell? ⟨(ad.add (k * 5)).block, (ad.add (k * 5)).off + 4, none⟩ = some (.int .i64 ti)) :=
        fun W h => ⟨(h.cell hadb).trans g0, (h.cell (p := ⟨(ad.add (k * 5)).block, (ad.add (k * 5)).off + 1, none⟩) hadb).trans g1, (h.cell (p := ⟨(ad.add (k * 5)).block, (ad.add (k * 5)).off + 2, none⟩) hadb).trans g2, (h.cell (p := ⟨(ad.add (k * 5)).block, (ad.add (k * 5)).off + 3, none⟩) hadb).trans g3, (h.cell (p := ⟨(ad.add (k * 5)).block, (ad.add (k * 5)).off + 4, none⟩) hadb).trans g4⟩
      clear g0 g1 g2 g3 g4
      have HK : Hid (∀ w', Below wr.heap.size wr w' → w'.cell? ⟨w.heap.size, 0, none⟩ = some (.int .i64 qa) ∧ w'.cell? ⟨w.heap.size, 1, none⟩ = some (.int .i64 qb) ∧ w'.cell? ⟨w.heap.size, 2, none⟩ = some (.int .i64 qc) ∧ w'.cell? ⟨w.heap.size, 3, none⟩ = some (.int .i64 qd) ∧
          w'.cell? (ad.add (k * 5)) = some (.int .i64 tk) ∧ w'.cell? ⟨(ad.add (k * 5)).block, (ad.add (k * 5)).off + 1, none⟩ = some (.int .i64 tb) ∧ w'.cell? ⟨(ad.add (k * 5)).block, (ad.add (k * 5)).off + 2, none⟩ = some (.int .i64 tl) ∧ w'.cell? ⟨(ad.add (k * 5)).block, (ad.add (k * 5)).off + 3, none⟩ = some (.int .i64 td) ∧ w'.cell? ⟨(ad.add (k * 5)).block, (ad.add (k * 5)).off + 4, none⟩ = some (.int .i64 ti) ∧ Below wr.heap.size wr w') :=
        fun w' h => by
          obtain ⟨t0, t1, t2, t3, t4⟩ := HTK.out w' (hbw.trans (h.mono (by omega)))
          exact ⟨(h.cell hsz0).trans (bc0 0), (h.cell hsz0).trans (bc0 1), (h.cell hsz0).trans (bc0 2), (h.cell hsz0).trans (bc0 3), t0, t1, t2, t3, t4, h⟩
      go_upto_region 4 with (fail)
      go_cut [12, 13, 14] (fun v12 v13 v14 wc => ∃ g : Nat, v12 = .pointer (some ⟨g, 0, none⟩) ∧ v13 = .int .i64 (useD ⟨qa, qb, qc, qd⟩ ⟨tk, tb, tl, td, ti⟩) ∧ v14 = .int .i64 (useE ⟨qa, qb, qc, qd⟩ ⟨tk, tb, tl, td, ti⟩) ∧ Blk wc g 23 (rpCells (useR ⟨qa, qb, qc, qd⟩ ⟨tk, tb, tl, td, ti⟩)) ∧ wr.heap.size ≤ g ∧ Below wr.heap.size wr wc)
      case first =>
        go_region_held3 (fun w' => w'.cell? ⟨w.heap.size, 0, none⟩ = some (.int .i64 qa) ∧ w'.cell? ⟨w.heap.size, 1, none⟩ = some (.int .i64 qb) ∧ w'.cell? ⟨w.heap.size, 2, none⟩ = some (.int .i64 qc) ∧ w'.cell? ⟨w.heap.size, 3, none⟩ = some (.int .i64 qd) ∧
            w'.cell? (ad.add (k * 5)) = some (.int .i64 tk) ∧ w'.cell? ⟨(ad.add (k * 5)).block, (ad.add (k * 5)).off + 1, none⟩ = some (.int .i64 tb) ∧ w'.cell? ⟨(ad.add (k * 5)).block, (ad.add (k * 5)).off + 2, none⟩ = some (.int .i64 tl) ∧ w'.cell? ⟨(ad.add (k * 5)).block, (ad.add (k * 5)).off + 3, none⟩ = some (.int .i64 td) ∧ w'.cell? ⟨(ad.add (k * 5)).block, (ad.add (k * 5)).off + 4, none⟩ = some (.int .i64 ti) ∧ Below wr.heap.size wr w')
          (exact HK.out _ (by repeat (first | with_reducible assumption | exact Below.refl _ _ | refine Below.drew ?_ | refine Below.alloc ?_ (by first | assumption | omega | (simp; done) | (simp; omega)) _ | refine Below.setCell ?_ (by first | assumption | omega | (simp; done) | (simp; omega)) _)))
          ((go_at_call 28; go_must (refine (kcallB (B := wr.heap.size) (w2 := wr) (by simp) ?_ (r_Use ⟨_, _, _, _⟩ ⟨_, _, _, _, _⟩ _)).mono ?_); (first | with_reducible assumption | (repeat (first | exact Below.refl _ _ | refine Below.drew ?_ | refine Below.alloc ?_ (Nat.le_refl _) _))); go_must (rintro e w2 ⟨rfl, hb2, hb3⟩; unfold rpV; have hs2 := hb2.size; have hs3 := hb3.size; obtain ⟨hc3, hf3⟩ := bcell hb3)))
        all_goals
          go_wp2_with fail
          go_meet
          case rel =>
            refine ⟨_, rfl, rfl, rfl, ?_, ?_, ?_⟩
            · first
                | (simp only [rpCells]; with_reducible exact Blk.new w2 _ _)
                | (show Blk (put4 w2 wr.heap.size (useR ⟨qa, qb, qc, qd⟩ ⟨tk, tb, tl, td, ti⟩)) _ _ _; exact put4_here _ (Blk.below (Blk.drew (Blk.new wr 23 (rpCells ⟨0, 0, 0, 0⟩))) hb3 (by simp)))
            · first | with_reducible exact Nat.le_refl _ | exact hs2
            · first
                | with_reducible exact hb2.alloc hs2 _
                | (show Below _ _ (put4 w2 wr.heap.size (useR ⟨qa, qb, qc, qd⟩ ⟨tk, tb, tl, td, ti⟩)); exact put4_below _ hb2 (Nat.le_refl _))
      case rest =>
        obtain ⟨g, rfl, rfl, rfl, hU, hg, hbc⟩ := hcut
        have b0 := hB0.below hbc (by omega)
        have b1 := hB1.below hbc (by omega)
        have bwc : Below w.heap.size w wc := hbw.trans (hbc.mono (by omega))
        have hgs := hU.lt
        clear hB0 hB1 bc0 bf0 bc1 bf1
        have bc0 := Blk.cell b0
        have bf0 := Blk.frozen b0
        have bc1 := Blk.cell b1
        have bf1 := Blk.frozen b1
        have bcg := Blk.cell hU
        generalize hUU : useR ⟨qa, qb, qc, qd⟩ ⟨tk, tb, tl, td, ti⟩ = U at hU bcg
        have HU := Lib.hid hUU
        clear hUU
        obtain ⟨ua, ub, uc, ud⟩ := U
        simp only [rpCells] at bc0 bc1 bcg
        rcases useE_cases ⟨qa, qb, qc, qd⟩ ⟨tk, tb, tl, td, ti⟩ with hE | hE
        · rw [hE]
          have HE := Lib.hid hE
          clear hE
          have hok := useOk_tok (useE_zero HE.out)
          have z0 := put4_here (w := wc) ⟨ua, ub, uc, ud⟩ b0
          have z1 : Blk (put4 wc w.heap.size ⟨ua, ub, uc, ud⟩) (w.heap.size + 1) _ _ := b1.put4 ⟨ua, ub, uc, ud⟩ (by omega)
          have zb : Below w.heap.size w (put4 wc w.heap.size ⟨ua, ub, uc, ud⟩) := put4_below _ bwc (Nat.le_refl _)
          have zs := put4_size wc w.heap.size ⟨ua, ub, uc, ud⟩
          have HX := Lib.hid (show put4 wc w.heap.size ⟨ua, ub, uc, ud⟩ = (((wc.setCell ⟨w.heap.size, 0, none⟩ (.int .i64 ua)).setCell ⟨w.heap.size, 1, none⟩ (.int .i64 ub)).setCell ⟨w.heap.size, 2, none⟩ (.int .i64 uc)).setCell ⟨w.heap.size, 3, none⟩ (.int .i64 ud) from rfl)
          generalize put4 wc w.heap.size ⟨ua, ub, uc, ud⟩ = W4 at *
          have US := Lib.hid zs
          have hs4 : w.heap.size + 1 < W4.heap.size := by have := hbc.size; omega
          clear zs
          have zc0 := Blk.cell z0
          have zc1 := Blk.cell z1
          have zf1 := Blk.frozen z1
          simp only [rpCells] at zc0 zc1
          obtain ⟨t0, t1, t2, t3, t4⟩ := HTK.out W4 zb
          go_upto_region 8 with (fail)
          rw [← HX.out]
          by_cases hk0 : tk = 0
          · subst hk0
            have hb0 : 0 ≤ tb ∧ tb ≤ 255 := by simp only [tokOk] at hok; omega
            obtain ⟨hb0, hb1⟩ := hb0
            obtain ⟨y, rfl⟩ : ∃ y : UInt8, tb = (y.toNat : Int) := ⟨UInt8.ofNat tb.toNat, by simp; omega⟩
            clear hok
            have hstr := run_str (W4.alloc (.cells #[.int .u8 (y.toNat : Int)] 5)) _ _ 1 1 [y] (reads_one W4 y 5)
            have hadd : ∀ W, (Op.stringOp .add (str ys) (str [y])).run Try.prog W = .ok (.string (str (ys ++ [y]))) W := fun W => by rw [run_string_add_sum W _ _ (by rw [str_size, str_size]; simp; omega), str_append]
            have hasz : (str ys).size + (str [y]).size ≤ 9223372036854775807 := by rw [str_size, str_size]; simp; omega
            go_wp2_with fail
            (try rw [str_append])
            go_roundw
            case rel =>
              refine ⟨k + 1, ys ++ [y], ⟨ua, ub, uc, ud⟩, by omega, by go_num, rfl, z0.alloc _, z1.alloc _, bl_alloc zb _, by simp; omega, by simp; omega, ?_⟩
              rw [← HA.out, HL.out]
              simp only [applyT, HE.out, HU.out]
              simp
            case measure => simp [intOf]; omega
          · have hk0' : (tk == 0) = false := by rw [beq_eq_false_iff_ne]; exact hk0
            have HK0 := Lib.hid hk0
            clear hk0
            have HST : Hid (applyT window (⟨tk, tb, tl, td, ti⟩ :: l.drop (k + 1)) ys ⟨qa, qb, qc, qd⟩ = if copyE ys.length tl (useD ⟨qa, qb, qc, qd⟩ ⟨tk, tb, tl, td, ti⟩) window ≠ 0 then badRes (copyE ys.length tl (useD ⟨qa, qb, qc, qd⟩ ⟨tk, tb, tl, td, ti⟩) window) else applyT window (l.drop (k + 1)) (cpy (useD ⟨qa, qb, qc, qd⟩ ⟨tk, tb, tl, td, ti⟩).toNat tl.toNat ys) ⟨ua, ub, uc, ud⟩) := by
              show _ = _
              simp only [applyT, HE.out, HU.out]
              rw [if_neg (by simp), if_neg HK0.out]
            generalize useD ⟨qa, qb, qc, qd⟩ ⟨tk, tb, tl, td, ti⟩ = D at *
            go_wp2_with fail
            refine (r_Copy (str ys) _ _ _ _ (by rw [str_size]; omega)).mono ?_
            rintro e w5 ⟨rfl, hb5⟩
            rw [str_size, str_data]
            have y0 := z0.below hb5 (by omega)
            have y1 := z1.below hb5 (by omega)
            have yb : Below w.heap.size w w5 := zb.trans (hb5.mono (by omega))
            have ys5 := hb5.size
            have yc1 := Blk.cell y1
            have yf1 := Blk.frozen y1
            simp only [rpCells] at yc1
            by_cases hce : copyE ys.length tl D window = 0
            · obtain ⟨i1, i2, i3, i4, i5, i6, i7⟩ := copyE_zero hce
              have hcb : copyB ys tl D window = cpy D.toNat tl.toNat ys := if_pos hce
              have HCE := Lib.hid hce
              rw [hce, hcb]
              clear hce hcb
              go_wp2_with fail
              go_roundw
              case rel =>
                refine ⟨k + 1, cpy D.toNat tl.toNat ys, ⟨ua, ub, uc, ud⟩, by omega, by go_num, rfl, y0, y1, yb, by omega, by rw [cpy_length]; omega, ?_⟩
                rw [← HA.out, HL.out, HST.out, if_neg (by rw [HCE.out]; simp)]
              case measure => simp [intOf]; omega
            · have hne : (copyE ys.length tl D window != 0) = true := by rw [bne_iff_ne]; exact hce
              have HCE := Lib.hid hce
              clear hce
              generalize hG : copyE ys.length tl D window = G at *
              have HG := Lib.hid hG
              clear hG
              go_wp2_with fail
              refine bodyPost_ret (v := .tuple #[.string (str []), .agg #[.int .i64 0, .int .i64 0, .int .i64 0, .int .i64 0], .int .i64 G]) (by simp [results, Try.results15, go_sem, yc1, yf1, str]) rfl ?_
              have hres : applyT window l xs ⟨ra, rb, rc, rd⟩ = badRes G := by rw [← HA.out, HL.out, HST.out, if_pos (by rw [← bne_iff_ne]; exact hne)]
              exact ⟨by rw [hres]; rfl, put4_below ⟨0, 0, 0, 0⟩ yb (by omega)⟩
        · rw [hE]
          have HE := Lib.hid hE
          clear hE
          go_wp2_with fail
          refine bodyPost_ret (v := .tuple #[.string (str []), .agg #[.int .i64 0, .int .i64 0, .int .i64 0, .int .i64 0], .int .i64 10]) (by simp [results, Try.results15, go_sem, bc1, bf1, str]) rfl ?_
          have hres : applyT window l xs ⟨ra, rb, rc, rd⟩ = badRes 10 := by
            rw [← HA.out, HL.out]
            simp only [applyT, HE.out]
            simp
          exact ⟨by rw [hres]; rfl, put4_below ⟨0, 0, 0, 0⟩ bwc (by omega)⟩
    · obtain rfl : k = l.length := by omega
      go_wp2_with fail
      go_region
      all_goals
        go_wp2
        refine bodyPost_ret (v := .tuple #[.string (str ys), .agg #[.int .i64 qa, .int .i64 qb, .int .i64 qc, .int .i64 qd], .int .i64 0]) (by simp [results, Try.results15, go_sem, bc1, bf1]) rfl ?_
        have hres : applyT window l xs ⟨ra, rb, rc, rd⟩ = ⟨ys, ⟨qa, qb, qc, qd⟩, 0⟩ := by
          rw [← HA.out, List.drop_length]
          rfl
        exact ⟨by rw [hres], put4_below ⟨qa, qb, qc, qd⟩ hbw.drew (by omega)⟩

end Go.Proofs.Ytndkgjoaljcijaa
