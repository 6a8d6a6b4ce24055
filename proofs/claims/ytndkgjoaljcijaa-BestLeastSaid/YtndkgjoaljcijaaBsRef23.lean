/- Chapter 23's reference: what a token costs, what all cost; chapter 16's: whether two rows are the same: by walks. -/
import Derived.Test.YtndkgjoaljcijaaLaw23
import Derived.Test.YtndkgjoaljcijaaRef15D
import Derived.Test.YtndkgjoaljcijaaBsTokRow
import Derived.BigQuiet
import Derived.BigRegion
import Derived.Deep.RegionHeld3
import Derived.Deep.CutBlock
import Derived.Deep.QuietTactic
set_option linter.unusedSimpArgs false
set_option linter.unusedVariables false
set_option maxRecDepth 100000
namespace Go.Proofs.Ytndkgjoaljcijaa
open Go.RowKit

set_option maxHeartbeats 2000000 in
theorem r_tok23 (M D : Option Addr) (m d : List Int) (c1 c2 : Nat) (t : Tok) (w : World) (hm : ReadsI w M m) (hd : ReadsI w D d) (l1 : m.length = 401) (l2 : d.length = 52) (k1 : pricesOk m) (k2 : pricesOk d) (hok : tokOk t) :
    Calls Try.prog 25 #[priceV M D m d c1 c2, tokV t] w fun e w' => e = .returned (.tuple #[.int .i64 (cost m d t), .int .i64 0]) ∧ Below w.heap.size w w' := by
  obtain ⟨tk, tb, tl, td, ti⟩ := t
  have hz : chkE m d = 0 := by
    unfold chkE
    rw [if_neg (by omega), if_pos ⟨k1, k2⟩]
  unfold priceV tokV
  simp only
  have hB0 := bl_alloc (bl_alloc (Below.refl w.heap.size w) (.cells #[.slice M m.length c1, .slice D d.length c2] 32)) (.cells #[.int .i64 tk, .int .i64 tb, .int .i64 tl, .int .i64 td, .int .i64 ti] 65)
  have z1 := (Blk.new w 32 #[.slice M m.length c1, .slice D d.length c2]).alloc (.cells #[.int .i64 tk, .int .i64 tb, .int .i64 tl, .int .i64 td, .int .i64 ti] 65)
  have z2 := Blk.new (w.alloc (.cells #[.slice M m.length c1, .slice D d.length c2] 32)) 65 #[.int .i64 tk, .int .i64 tb, .int .i64 tl, .int .i64 td, .int .i64 ti]
  rw [World.size_alloc] at z2
  have hm0 := (hm.alloc (.cells #[.slice M m.length c1, .slice D d.length c2] 32)).alloc (.cells #[.int .i64 tk, .int .i64 tb, .int .i64 tl, .int .i64 td, .int .i64 ti] 65)
  have hd0 := (hd.alloc (.cells #[.slice M m.length c1, .slice D d.length c2] 32)).alloc (.cells #[.int .i64 tk, .int .i64 tb, .int .i64 tl, .int .i64 td, .int .i64 ti] 65)
  have L1 := Lib.hid l1
  have L2 := Lib.hid l2
  have hck : tokCheck ⟨tk, tb, tl, td, ti⟩ = 0 := if_pos hok
  have hsb := tokSym_bd hok
  have HCK := Lib.hid hck
  have HZ := Lib.hid hz
  have hchk := r_PCheck M D m d c1 c2 _ hm0 hd0 (by omega) (by omega)
  unfold priceV at hchk
  clear hck hz hm hd l1 l2
  go_enter Try.func25, Try.ntmps25
  go_wp2_with fail
  generalize (w.alloc (.cells #[.slice M m.length c1, .slice D d.length c2] 32)).alloc (.cells #[.int .i64 tk, .int .i64 tb, .int .i64 tl, .int .i64 td, .int .i64 ti] 65) = w0 at *
  refine hchk.mono ?_
  rintro e w1 ⟨rfl, hb1⟩
  rw [HZ.out]
  have y1 := z1.below hb1 z1.lt
  have y2 := z2.below hb1 z2.lt
  have hm1 := hm0.below hb1
  have hd1 := hd0.below hb1
  have hB1 := bl_then hB0 hB0.size hb1
  clear z1 z2 hm0 hd0 hB0 hb1 hchk
  have kc1 := Blk.cell y1
  have kc2 := Blk.cell y2
  have s1 := y1.lt
  have s2 := y2.lt
  go_wp2_with fail
  refine (r_Sym ⟨tk, tb, tl, td, ti⟩ _).mono ?_
  rintro e w2 ⟨rfl, hb2⟩
  rw [HCK.out]
  have x1 := y1.below hb2 y1.lt
  have x2 := y2.below hb2 y2.lt
  have hm2 := hm1.below hb2
  have hd2 := hd1.below hb2
  have HB1 := Lib.hid (bl_then hB1 hB1.size hb2)
  clear y1 y2 hm1 hd1 hB1 hb2 kc1 kc2 s1 s2
  obtain ⟨hsb0, hsb1⟩ := hsb
  have HC : Hid (cost m d ⟨tk, tb, tl, td, ti⟩ = m.getD (tokSym ⟨tk, tb, tl, td, ti⟩).toNat 0 + (if tk = 0 then 0 else lenX tl) + (if tk = 1 then d.getD (distS td).toNat 0 + distX td else 0)) := Lib.hid rfl
  generalize tokSym ⟨tk, tb, tl, td, ti⟩ = sy at *
  obtain ⟨sn, rfl⟩ : ∃ n : Nat, sy = n := ⟨sy.toNat, by omega⟩
  obtain ⟨ad, rfl, had, hcm⟩ := hm2.at_ sn (by rw [L1.out]; omega)
  have hsl : sn < m.length := by rw [L1.out]; omega
  have hmg : m.getD ((sn : Int)).toNat 0 = m[sn] := by rw [Int.toNat_natCast, List.getD_eq_getElem?_getD, List.getElem?_eq_getElem hsl]; rfl
  rw [hmg] at HC
  have hmb := k1 m[sn] (List.getElem_mem _)
  generalize m[sn] = ms at *
  have hsi : (sn : Int) < (m.length : Int) := by omega
  clear hmg
  have kc1 := Blk.cell x1
  have kc2 := Blk.cell x2
  have s1 := x1.lt
  have s2 := x2.lt
  by_cases hk0 : tk = 0
  · subst hk0
    have HC' : Hid (cost m d ⟨0, tb, tl, td, ti⟩ = ms) := Lib.hid (by rw [HC.out]; simp)
    go_wp2
    go_ret2
    exact ⟨by rw [HC'.out]; rfl, HB1.out⟩
  · have hkb : (tk != 0) = true := by rw [bne_iff_ne]; exact hk0
    obtain ⟨hx0, hx1⟩ := lenX_bd tl
    have HK0 := Lib.hid hk0
    have Hok := Lib.hid hok
    clear hk0 hok
    go_wp2_with fail
    refine (r_Len tl _).mono ?_
    rintro e w' ⟨rfl, rfl⟩
    generalize lenX tl = X at *
    by_cases hk2 : tk = 2
    · subst hk2
      have HC' : Hid (cost m d ⟨2, tb, tl, td, ti⟩ = ms + X) := Lib.hid (by rw [HC.out]; simp)
      go_wp2
      go_ret2
      exact ⟨by rw [HC'.out]; rfl, HB1.out⟩
    · obtain rfl : tk = 1 := by
        have h1 := Hok.out
        have h2 := HK0.out
        unfold tokOk at h1
        simp only at h1
        omega
      obtain ⟨hd0, hd1⟩ := distS_bd td
      obtain ⟨hy0, hy1⟩ := distX_bd td
      clear hk2
      go_wp2_with fail
      refine (r_Dist td _).mono ?_
      rintro e w' ⟨rfl, rfl⟩
      generalize distX td = Y at *
      generalize distS td = ds at *
      obtain ⟨dn, rfl⟩ : ∃ n : Nat, ds = n := ⟨ds.toNat, by omega⟩
      obtain ⟨ad2, rfl, had2, hcd⟩ := hd2.at_ dn (by rw [L2.out]; omega)
      have hdl : dn < d.length := by rw [L2.out]; omega
      have hdg : d.getD ((dn : Int)).toNat 0 = d[dn] := by rw [Int.toNat_natCast, List.getD_eq_getElem?_getD, List.getElem?_eq_getElem hdl]; rfl
      rw [hdg] at HC
      have hdb := k2 d[dn] (List.getElem_mem _)
      generalize d[dn] = dv at *
      have hdi : (dn : Int) < (d.length : Int) := by omega
      have HC' : Hid (cost m d ⟨1, tb, tl, td, ti⟩ = ms + X + dv + Y) := Lib.hid (by rw [HC.out]; simp; omega)
      clear hdg
      go_wp2
      go_ret2
      exact ⟨by rw [HC'.out]; rfl, HB1.out⟩
/-- Two rows that read as the same tokens. -/
theorem r_Same_eq (A B : Option Addr) (c1 c2 : Nat) (l : List Tok) (w : World) (hA : ReadsT w A l) (hB : ReadsT w B l) (hl : l.length ≤ 1000000) :
    Calls Try.prog 12 #[.slice A l.length c1, .slice B l.length c2] w fun e w' => e = .returned (.bool true) ∧ Below w.heap.size w w' := by
  go_enter Try.func12, Try.ntmps12
  go_wp2_with fail
  go_loopw [5] (fun v5 wr => ∃ k : Nat, k ≤ l.length ∧ v5 = .int .i64 k ∧ Below w.heap.size w wr) (fun v5 _ => l.length - (intOf v5).toNat)
  case atStart => exact ⟨0, Nat.zero_le _, rfl, Below.refl _ _⟩
  case round =>
    obtain ⟨k, hk, rfl, hb⟩ := hrel
    by_cases hkl : k < l.length
    · obtain ⟨ad, rfl, had, g0, g1, g2, g3, g4⟩ := (hA.below hb).five k hkl
      obtain ⟨bd, rfl, hbd, h0, h1, h2, h3, h4⟩ := (hB.below hb).five k hkl
      generalize l[k] = t at *
      obtain ⟨tk, tb, tl, td, ti⟩ := t
      have hki : (k : Int) < (l.length : Int) := by omega
      have hk0 : (0 : Int) ≤ k := by omega
      have HB := Lib.hid hb
      clear hb
      go_wp2_with fail
      go_quiet (fail)
      go_wp2
      go_roundw
      case rel => exact ⟨k + 1, by omega, by go_num, bl_drewN HB.out _⟩
      case measure => simp [intOf]; omega
    · have hki : ¬ (k : Int) < (l.length : Int) := by omega
      have HB := Lib.hid hb
      clear hb
      go_wp2
      go_ret
      exact ⟨rfl, HB.out⟩
/-- What all cost. -/
theorem costs_drop {m d : List Int} {l : List Tok} {k : Nat} (hk : k < l.length) : costs m d (l.drop k) = cost m d l[k] + costs m d (l.drop (k + 1)) := by
  rw [List.drop_eq_getElem_cons hk]; rfl
set_option maxHeartbeats 2000000 in
theorem r_All23 (M D T : Option Addr) (m d : List Int) (c1 c2 c3 : Nat) (l : List Tok) (w : World) (hm : ReadsI w M m) (hd : ReadsI w D d) (hT : ReadsT w T l) (l1 : m.length = 401) (l2 : d.length = 52) (k1 : pricesOk m) (k2 : pricesOk d) (hok : ∀ t ∈ l, tokOk t) (hl : l.length ≤ 1000000) :
    Calls Try.prog 11 #[priceV M D m d c1 c2, .slice T l.length c3] w fun e w' => e = .returned (.tuple #[.int .i64 (costs m d l), .int .i64 0]) ∧ Below w.heap.size w w' := by
  have hz : chkE m d = 0 := by
    unfold chkE
    rw [if_neg (by omega), if_pos ⟨k1, k2⟩]
  have hB0 := bl_alloc (Below.refl w.heap.size w) (.cells #[.slice M m.length c1, .slice D d.length c2] 32)
  have z0 := Blk.new w 32 #[.slice M m.length c1, .slice D d.length c2]
  have hchk := r_PCheck M D m d c1 c2 _ (hm.below hB0) (hd.below hB0) (by omega) (by omega)
  have HZ := Lib.hid hz
  have HL := Lib.hid (And.intro l1 l2)
  unfold priceV at *
  clear hz l1 l2
  go_enter Try.func11, Try.ntmps11
  go_wp2_with fail
  refine hchk.mono ?_
  rintro e w1 ⟨rfl, hb1⟩
  rw [HZ.out]
  have z1 := z0.below hb1 z0.lt
  have hB1 := bl_then hB0 hB0.size hb1
  clear z0 hB0 hb1 hchk
  go_wp2_with fail
  go_loopw [7, 8] (fun v7 v8 wr => ∃ (k : Nat) (n : Int), k ≤ l.length ∧ v8 = .int .i64 k ∧ v7 = .int .i64 n ∧ n + costs m d (l.drop k) = costs m d l ∧ (0 ≤ n ∧ n ≤ 1099511627776 * k) ∧ Below w.heap.size w wr ∧ Blk wr w.heap.size 32 #[.slice M m.length c1, .slice D d.length c2]) (fun _ v8 _ => l.length - (intOf v8).toNat)
  case atStart => exact ⟨0, 0, Nat.zero_le _, rfl, rfl, by simp, by simp, hB1, z1⟩
  case round =>
    obtain ⟨k, n, hk, rfl, rfl, hn, hnb, hb, zr⟩ := hrel
    by_cases hkl : k < l.length
    · obtain ⟨ad, rfl, had, g0, g1, g2, g3, g4⟩ := (hT.below hb).five k hkl
      have hok1 := hok l[k] (List.getElem_mem hkl)
      have HC : Hid (n + cost m d l[k] + costs m d (l.drop (k + 1)) = costs m d l) := Lib.hid (by rw [← hn, costs_drop hkl]; omega)
      have hcb := cost_bd HL.out.1 HL.out.2 k1 k2 hok1
      have htok := fun w' (hh : Below wr.heap.size wr w') => r_tok23 M D m d c1 c2 l[k] w' ((hm.below hb).below hh) ((hd.below hb).below hh) HL.out.1 HL.out.2 k1 k2 hok1
      generalize cost m d l[k] = cc at *
      generalize l[k] = t at *
      obtain ⟨tk, tb, tl, td, ti⟩ := t
      unfold priceV tokV at htok
      simp only at htok
      have hki : (k : Int) < (l.length : Int) := by omega
      have hk0 : (0 : Int) ≤ k := by omega
      have q0 := Blk.cell zr 0
      have q1 := Blk.cell zr 1
      have sr := zr.lt
      have hadb : (ad.add (k * 5)).block < wr.heap.size := by rw [block_of_add]; exact had
      have HK : Hid (∀ w', Below wr.heap.size wr w' → w'.cell? ⟨w.heap.size, 0, none⟩ = some (.slice M m.length c1) ∧ w'.cell? ⟨w.heap.size, 1, none⟩ = some (.slice D d.length c2) ∧ w'.cell? (ad.add (k * 5)) = some (.int .i64 tk) ∧ w'.cell? ⟨(ad.add (k * 5)).block, (ad.add (k * 5)).off + 1, none⟩ = some (.int .i64 tb) ∧ w'.cell? ⟨(ad.add (k * 5)).block, (ad.add (k * 5)).off + 2, none⟩ = some (.int .i64 tl) ∧ w'.cell? ⟨(ad.add (k * 5)).block, (ad.add (k * 5)).off + 3, none⟩ = some (.int .i64 td) ∧ w'.cell? ⟨(ad.add (k * 5)).block, (ad.add (k * 5)).off + 4, none⟩ = some (.int .i64 ti) ∧ Below wr.heap.size wr w') :=
        Lib.hid fun w' hh => ⟨(hh.cell (p := ⟨w.heap.size, 0, none⟩) sr).trans q0, (hh.cell (p := ⟨w.heap.size, 1, none⟩) sr).trans q1, (hh.cell hadb).trans g0, (hh.cell (p := ⟨(ad.add (k * 5)).block, (ad.add (k * 5)).off + 1, none⟩) hadb).trans g1, (hh.cell (p := ⟨(ad.add (k * 5)).block, (ad.add (k * 5)).off + 2, none⟩) hadb).trans g2, (hh.cell (p := ⟨(ad.add (k * 5)).block, (ad.add (k * 5)).off + 3, none⟩) hadb).trans g3, (hh.cell (p := ⟨(ad.add (k * 5)).block, (ad.add (k * 5)).off + 4, none⟩) hadb).trans g4, hh⟩
      have HB := Lib.hid (And.intro hb (And.intro zr hnb))
      have HNB : Hid (n + cc ≤ 1099511627776 * ((k : Int) + 1) ∧ 0 ≤ n + cc) := Lib.hid (by omega)
      have hnb1 : 0 ≤ n ∧ n ≤ 1099511627776000000 := by omega
      obtain ⟨hnb2, hnb3⟩ := hnb1
      obtain ⟨hcb1, hcb2⟩ := hcb
      clear hb zr g0 g1 g2 g3 g4 q0 q1 hn hnb
      go_upto_region 8 with (fail)
      go_cut [9, 10] (fun v9 v10 wc => v9 = .int .i64 cc ∧ v10 = .int .i64 0 ∧ Below wr.heap.size wr wc)
      case first =>
        go_region_held3 (fun w' => w'.cell? ⟨w.heap.size, 0, none⟩ = some (.slice M m.length c1) ∧ w'.cell? ⟨w.heap.size, 1, none⟩ = some (.slice D d.length c2) ∧ w'.cell? (ad.add (k * 5)) = some (.int .i64 tk) ∧ w'.cell? ⟨(ad.add (k * 5)).block, (ad.add (k * 5)).off + 1, none⟩ = some (.int .i64 tb) ∧ w'.cell? ⟨(ad.add (k * 5)).block, (ad.add (k * 5)).off + 2, none⟩ = some (.int .i64 tl) ∧ w'.cell? ⟨(ad.add (k * 5)).block, (ad.add (k * 5)).off + 3, none⟩ = some (.int .i64 td) ∧ w'.cell? ⟨(ad.add (k * 5)).block, (ad.add (k * 5)).off + 4, none⟩ = some (.int .i64 ti) ∧ Below wr.heap.size wr w')
          (first | exact HK.out _ (by with_reducible assumption) | exact HK.out _ (Below.refl _ _).drew)
          (first | (go_at_call 25; refine (kcall (w2 := wr) ?_ (htok _ ?_)).mono ?_; (first | with_reducible assumption | exact (Below.refl _ _).drew); (first | with_reducible assumption | exact (Below.refl _ _).drew); rintro e w' ⟨rfl, hb⟩))
        all_goals
          go_wp2
          go_meet
          case rel => exact ⟨rfl, rfl, by with_reducible assumption⟩
      obtain ⟨rfl, rfl, hbc⟩ := hcut
      have hbn := bl_then HB.out.1 HB.out.1.size hbc
      have zn := HB.out.2.1.below hbc sr
      have HN := Lib.hid (And.intro hbn zn)
      clear hbn zn hbc htok HK
      go_wp2_with fail
      go_roundw
      case rel => exact ⟨k + 1, n + cc, by omega, by go_num, rfl, HC.out, by have := HNB.out; push_cast; omega, HN.out.1, HN.out.2⟩
      case measure => simp [intOf]; omega
    · obtain rfl : k = l.length := by omega
      rw [List.drop_length] at hn
      have hn2 : n = costs m d l := by rw [← hn]; show n = n + 0; omega
      have HE := Lib.hid (And.intro hn2 hb)
      clear hn hn2 hb zr hnb
      go_wp2
      go_ret2
      exact ⟨by rw [← HE.out.1]; rfl, HE.out.2⟩
end Go.Proofs.Ytndkgjoaljcijaa
