/- Chapter 26's law BestNoLess: by a walk. -/
import Derived.Test.YtndkgjoaljcijaaBsAwake
import Derived.BigQuiet
import Derived.BigRegion
import Derived.Deep.RegionHeld3
import Derived.Deep.CutBlock
set_option linter.unusedSimpArgs false
set_option linter.unusedVariables false
set_option maxRecDepth 100000
namespace Go.Proofs.Ytndkgjoaljcijaa
open Go.RowKit

/-- Prices as the law takes them. -/
def lawPricesV (A B : Option Addr) (m d : List Int) (c1 c2 : Nat) : Value := .agg #[.slice A m.length c1, .slice B d.length c2]
theorem drop_str (h b : List UInt8) : (str (h ++ b)).extract ((h.length : Int)).toNat (str (h ++ b)).size = str b := by
  have e : (str (h ++ b)).extract h.length (str (h ++ b)).size = str b := by
    apply ByteArray.ext
    rw [ByteArray.data_extract, str_size]
    unfold str
    apply Array.toList_inj.1
    simp
  rw [Int.toNat_natCast]
  exact e
theorem way_hi {E : Env} (hE : EnvOk E) {s e : St} {l : List Tok} {c : Int} (w : Way E s l e c) : e.at_ ≤ s.at_ + 258 * l.length := by
  induction w with
  | nil s => simp
  | cons hs h w ih =>
    have h1 := okTok_size hE.win2 h hs
    unfold nxt at ih
    simp only [List.length_cons] at *
    omega
set_option maxHeartbeats 4000000 in
theorem law_BestNoLess (h b : List UInt8) (r : Rp) (s0 s1 s2 win : Int) (T : Option Addr) (ct : Nat) (l : List Tok) (A B : Option Addr) (c1 c2 : Nat) (m d : List Int) (w : World) (lh : h.length ≤ 9223372036854775807) (lb : b.length ≤ 9223372036854775807) (hT : ReadsT w T l) (hm : ReadsI w A m) (hd : ReadsI w B d) (l1 : m.length ≤ 9223372036854775807) (l2 : d.length ≤ 9223372036854775807) :
    Calls Try.prog 5 #[taskV h b r s0 s1 s2 win, .slice T l.length ct, lawPricesV A B m d c1 c2] w fun e w' => e = .returned (.bool true) ∧ Below w.heap.size w w' := by
  have hb0 := bl_alloc (bl_alloc (Below.refl w.heap.size w) (.cells (taskC h b r s0 s1 s2 win) 27)) (.cells #[.slice A m.length c1, .slice B d.length c2] 45)
  have z0 := (Blk.new w 27 (taskC h b r s0 s1 s2 win)).alloc (.cells #[.slice A m.length c1, .slice B d.length c2] 45)
  have hm0 := hm.below hb0
  have hd0 := hd.below hb0
  have hT0 := hT.below hb0
  have hsome := p_Some A B c1 c2 m d _ hm0 hd0 l1 l2
  unfold taskC at hb0 z0 hm0 hd0 hT0 hsome
  unfold taskV lawPricesV
  clear hm hd hT
  go_enter Try.func5, Try.ntmps5
  go_wp2_with fail
  refine hsome.mono ?_
  rintro e w1 ⟨b1, b2, xs, ys, hx, hy, rfl, hr1, hr2, hl1, hl2, hb1⟩
  clear hx hy hsome hm0 hd0
  have y0 := z0.below hb1 z0.lt
  have hT1 := hT0.below hb1
  have hbw := bl_then hb0 hb0.size hb1
  have zp := Blk.new w1 32 #[.slice (some ⟨b1, 0, none⟩) 401 401, .slice (some ⟨b2, 0, none⟩) 52 52]
  have z1 := y0.alloc (.cells #[.slice (some ⟨b1, 0, none⟩) 401 401, .slice (some ⟨b2, 0, none⟩) 52 52] 32)
  have hbz := bl_alloc hbw (.cells #[.slice (some ⟨b1, 0, none⟩) 401 401, .slice (some ⟨b2, 0, none⟩) 52 52] 32)
  have hmz := hr1.alloc (.cells #[.slice (some ⟨b1, 0, none⟩) 401 401, .slice (some ⟨b2, 0, none⟩) 52 52] 32)
  have hdz := hr2.alloc (.cells #[.slice (some ⟨b1, 0, none⟩) 401 401, .slice (some ⟨b2, 0, none⟩) 52 52] 32)
  have hTz := hT1.below (bl_alloc (Below.refl w1.heap.size w1) (.cells #[.slice (some ⟨b1, 0, none⟩) 401 401, .slice (some ⟨b2, 0, none⟩) 52 52] 32))
  have hfew := p_Few h b r s0 s1 s2 win 12 (by omega) (w1.alloc (.cells #[.slice (some ⟨b1, 0, none⟩) 401 401, .slice (some ⟨b2, 0, none⟩) 52 52] 32)) lh lb
  have hchk := fun w' hm hd => r_PCheck (some ⟨b1, 0, none⟩) (some ⟨b2, 0, none⟩) xs ys 401 52 w' hm hd (by omega) (by omega)
  unfold priceV at hchk
  have HL := Lib.hid (And.intro hl1 hl2)
  rw [hl1, hl2] at hchk
  have a2 := Blk.cell z1
  have t2 := z1.lt
  have tp := zp.lt
  unfold taskV at hfew
  clear z0 hT0 hb0 hb1 y0 hT1 hbw hr1 hr2 hl1 hl2
  go_wp2_with fail
  generalize w1.alloc (.cells #[.slice (some ⟨b1, 0, none⟩) 401 401, .slice (some ⟨b2, 0, none⟩) 52 52] 32) = w2 at *
  generalize w1.heap.size = P at *
  refine hfew.mono ?_
  rintro e w3 ⟨rfl, hb3⟩
  have x1 := z1.below hb3 z1.lt
  have xp := zp.below hb3 zp.lt
  have hm3 := hmz.below hb3
  have hd3 := hdz.below hb3
  have hT3 := hTz.below hb3
  have hbx := bl_then hbz hbz.size hb3
  clear hfew hb3 z1 zp hmz hdz hTz hbz a2 t2 tp
  have a2 := Blk.cell x1
  have ap := Blk.cell xp
  have t2 := x1.lt
  have tp := xp.lt
  by_cases hfw : 12 < h.length ∨ 12 < b.length
  · rw [if_pos hfw]
    clear hfw x1 xp hm3 hd3 hT3
    go_wp2_with fail
    refine (awake26 _).mono ?_
    rintro e wz ⟨rfl, hbq⟩
    have HB := Lib.hid (bl_then hbx hbx.size hbq)
    clear hbx hbq
    go_wp2
    go_ret
    exact ⟨rfl, HB.out⟩
  rw [if_neg hfw]
  have lh12 : h.length ≤ 12 := by omega
  clear hfw lh lb
  by_cases g1 : 12 < l.length
  · have g1b : decide ((12 : Int) < (l.length : Int)) = true := decide_eq_true (by omega)
    have g1n : decide (12 < l.length) = true := decide_eq_true g1
    clear g1 x1 xp hm3 hd3 hT3
    go_wp2_with fail
    refine (awake26 _).mono ?_
    rintro e wz ⟨rfl, hbq⟩
    have HB := Lib.hid (bl_then hbx hbx.size hbq)
    clear hbx hbq
    go_wp2
    go_ret
    exact ⟨rfl, HB.out⟩
  have g1b : decide ((12 : Int) < (l.length : Int)) = false := decide_eq_false (by omega)
  have g1n : decide (12 < l.length) = false := decide_eq_false g1
  have HN := Lib.hid g1
  clear g1
  by_cases g2 : win < 1
  · clear x1 xp hm3 hd3 hT3
    go_wp2_with fail
    refine (awake26 _).mono ?_
    rintro e wz ⟨rfl, hbq⟩
    have HB := Lib.hid (bl_then hbx hbx.size hbq)
    clear hbx hbq
    go_wp2
    go_ret
    exact ⟨rfl, HB.out⟩
  by_cases g3 : 67108864 < win
  · clear x1 xp hm3 hd3 hT3
    go_wp2_with fail
    refine (awake26 _).mono ?_
    rintro e wz ⟨rfl, hbq⟩
    have HB := Lib.hid (bl_then hbx hbx.size hbq)
    clear hbx hbq
    go_wp2
    go_ret
    exact ⟨rfl, HB.out⟩
  go_wp2_with fail
  refine (hchk _ hm3 hd3).mono ?_
  rintro e w4 ⟨rfl, hb4⟩
  have z1 := x1.below hb4 x1.lt
  have zp := xp.below hb4 xp.lt
  have hm4 := hm3.below hb4
  have hd4 := hd3.below hb4
  have hT4 := hT3.below hb4
  have hbz := bl_then hbx hbx.size hb4
  clear hchk hb4 x1 xp hm3 hd3 hT3 hbx a2 ap t2 tp
  have a2 := Blk.cell z1
  have ap := Blk.cell zp
  have t2 := z1.lt
  have tp := zp.lt
  by_cases hk : chkE xs ys = 0
  · have hE0 := chk_env (h := h) (b := []) (m := xs) (d := ys) (window := win) (by unfold bchk; rw [if_neg (by omega)]; exact hk)
    rw [hk]
    clear hk
    have happ := r_Apply h r T ct l win w4 hT4 (by have := HN.out; omega) (by have := HN.out; omega)
    have hpre := apply_prefix win l h r
    have HOK := Lib.hid (fun b' (e0 : (applyT win l h r).err = 0) (e1 : (applyT win l h r).bytes = h ++ b') => apply_way (E := ⟨h ++ b', h.length, xs, ys, win⟩) (by obtain ⟨u1, u2, u3, u4, u5, u6, _⟩ := hE0; exact ⟨u1, u2, u3, u4, u5, u6, by simp⟩) l ⟨h.length, r⟩ (by simp) (by simpa using e0) (by simpa using e1))
    have HER := Lib.hid (show ∀ b' : List UInt8, EnvOk ⟨h ++ b', h.length, xs, ys, win⟩ from fun b' => by obtain ⟨u1, u2, u3, u4, u5, u6, _⟩ := hE0; exact ⟨u1, u2, u3, u4, u5, u6, by simp⟩)
    have HLE := Lib.hid (fun b' l' c (hg : ParseGives h b' r xs ys win l' c) (e0 : (applyT win l h r).err = 0) (e1 : (applyT win l h r).bytes = h ++ b') => hg.least l e0 e1)
    unfold rpV at happ
    have hl1 := HL.out.1
    have hl2 := HL.out.2
    have HMK := Lib.hid hE0.mok
    have HDK := Lib.hid hE0.dok
    clear hE0
    go_wp2_with fail
    refine happ.mono ?_
    rintro e w5 ⟨rfl, hb5⟩
    have x1 := z1.below hb5 z1.lt
    have xp := zp.below hb5 zp.lt
    have hm5 := hm4.below hb5
    have hd5 := hd4.below hb5
    have hT5 := hT4.below hb5
    have hbx := bl_then hbz hbz.size hb5
    clear happ hb5 z1 zp hm4 hd4 hT4 hbz a2 ap t2 tp
    generalize applyT win l h r = R at *
    obtain ⟨rb1, ⟨u0, u1, u2, u3⟩, re⟩ := R
    simp only at hpre HOK HLE
    simp only
    have g2b : decide (win < 1) = false := decide_eq_false (by omega)
    have g3b : decide (67108864 < win) = false := decide_eq_false (by omega)
    replace x1 := x1.alloc (.cells #[.int .i64 u0, .int .i64 u1, .int .i64 u2, .int .i64 u3] 23)
    replace xp := xp.alloc (.cells #[.int .i64 u0, .int .i64 u1, .int .i64 u2, .int .i64 u3] 23)
    replace hm5 := hm5.alloc (.cells #[.int .i64 u0, .int .i64 u1, .int .i64 u2, .int .i64 u3] 23)
    replace hd5 := hd5.alloc (.cells #[.int .i64 u0, .int .i64 u1, .int .i64 u2, .int .i64 u3] 23)
    replace hT5 := hT5.below (bl_alloc (Below.refl w5.heap.size w5) (.cells #[.int .i64 u0, .int .i64 u1, .int .i64 u2, .int .i64 u3] 23))
    replace hbx := bl_alloc hbx (.cells #[.int .i64 u0, .int .i64 u1, .int .i64 u2, .int .i64 u3] 23)
    have a2 := Blk.cell x1
    have ap := Blk.cell xp
    have t2 := x1.lt
    have tp := xp.lt
    by_cases he : re = 0
    · subst he
      obtain ⟨b', hb'⟩ := hpre rfl
      subst hb'
      have hsh : (str h).size = h.length := str_size h
      have hsb : (str (h ++ b')).size = h.length + b'.length := by rw [str_size, List.length_append]
      by_cases hlb : 12 < b'.length
      · have e1 : IntKind.i64.wrap (((str (h ++ b')).size : Int) - ((str h).size : Int)) = (b'.length : Int) := by
          rw [hsh, hsb, show ((h.length + b'.length : Nat) : Int) - (h.length : Int) = (b'.length : Int) by omega]
          obtain ⟨e', hway, hea⟩ := HOK.out b' rfl rfl
          have hh := way_hi (HER.out b') hway
          have := HN.out
          simp only [List.length_append] at hea hh
          exact Go.IntWalk.i64_in _ (by omega)
        have b1b : decide ((12 : Int) < (b'.length : Int)) = true := decide_eq_true (by omega)
        have b1n : decide (12 < b'.length) = true := decide_eq_true hlb
        clear x1 xp hm5 hd5 hT5 hsh hsb hlb
        go_wp2_with fail
        refine (awake26 _).mono ?_
        rintro e wz ⟨rfl, hbq⟩
        have HB := Lib.hid (bl_then hbx hbx.size hbq)
        clear hbx hbq
        go_wp2
        go_ret
        exact ⟨rfl, HB.out⟩
      · have e1 : IntKind.i64.wrap (((str (h ++ b')).size : Int) - ((str h).size : Int)) = (b'.length : Int) := by
          rw [hsh, hsb, show ((h.length + b'.length : Nat) : Int) - (h.length : Int) = (b'.length : Int) by omega]
          exact Go.IntWalk.i64_in _ (by omega)
        have b1b : decide ((12 : Int) < (b'.length : Int)) = false := decide_eq_false (by omega)
        have b1n : decide (12 < b'.length) = false := decide_eq_false hlb
        have hE := HER.out b'
        obtain ⟨e', hway, _⟩ := HOK.out b' rfl rfl
        obtain ⟨l', c, hg⟩ := parse_gives h b' r xs ys win lh12 (by omega) hE
        have hcc : c ≤ costs xs ys l := HLE.out b' l' c hg rfl rfl
        have hok := way_toks hE hway
        have hall := fun w' hm hd hT => r_All23 (some ⟨b1, 0, none⟩) (some ⟨b2, 0, none⟩) T xs ys 401 52 ct l w' hm hd hT hl1 hl2 HMK.out HDK.out hok (by have := HN.out; omega)
        have hcall := fun w' hm hd => hg.call (some ⟨b1, 0, none⟩) (some ⟨b2, 0, none⟩) 401 52 w' hm hd
        unfold priceV at hall
        unfold priceV rpV at hcall
        rw [hl1, hl2] at hall hcall
        have hsl := fun W : World => run_slice_string_l (P := Try.prog) W 9 (str (h ++ b')) Try.underlying9 .i64 (h.length : Int) (by omega) (by rw [hsb]; omega)
        rw [drop_str] at hsl
        rw [← hsh] at hsl
        have hcd : decide (c ≤ costs xs ys l) = true := decide_eq_true hcc
        clear hl1 hl2 hE hway hg hcc hok hsb hlb hsh
        go_wp2_with fail
        refine (hall _ hm5 hd5 hT5).mono ?_
        rintro e w7 ⟨rfl, hb7⟩
        have z1 := x1.below hb7 x1.lt
        have zp := xp.below hb7 xp.lt
        have hm7 := hm5.below hb7
        have hd7 := hd5.below hb7
        have hbz := bl_then hbx hbx.size hb7
        clear hall hb7 x1 xp hm5 hd5 hT5 hbx a2 ap t2 tp
        have a2 := Blk.cell z1
        have ap := Blk.cell zp
        have t2 := z1.lt
        have tp := zp.lt
        generalize costs xs ys l = C at *
        go_upto_region 8 with (fail)
        have HK : Hid (∀ w', Below w7.heap.size w7 w' → w'.cell? ⟨w.heap.size, 0, none⟩ = some (.string (str h)) ∧ w'.cell? ⟨w.heap.size, 2, none⟩ = some (.int .i64 r.a) ∧ w'.cell? ⟨w.heap.size, 3, none⟩ = some (.int .i64 r.b) ∧ w'.cell? ⟨w.heap.size, 4, none⟩ = some (.int .i64 r.c) ∧ w'.cell? ⟨w.heap.size, 5, none⟩ = some (.int .i64 r.d) ∧ w'.cell? ⟨w.heap.size, 9, none⟩ = some (.int .i64 win) ∧ w'.cell? ⟨P, 0, none⟩ = some (.slice (some ⟨b1, 0, none⟩) 401 401) ∧ w'.cell? ⟨P, 1, none⟩ = some (.slice (some ⟨b2, 0, none⟩) 52 52) ∧ Below w7.heap.size w7 w') := Lib.hid fun w' hh => by
          have kX := Blk.cell (z1.below hh t2)
          have kG := Blk.cell (zp.below hh tp)
          exact ⟨kX 0, kX 2, kX 3, kX 4, kX 5, kX 9, kG 0, kG 1, hh⟩
        have hbk : ∀ w', Below w7.heap.size w7 w' → Calls Try.prog 9 #[.string (str h), .string (str b'), .agg #[.int .i64 r.a, .int .i64 r.b, .int .i64 r.c, .int .i64 r.d], .agg #[.slice (some ⟨b1, 0, none⟩) 401 401, .slice (some ⟨b2, 0, none⟩) 52 52], .int .i64 win] w' fun e w'' => ∃ v, e = .returned (.tuple #[v, .int .i64 c, .int .i64 0]) ∧ Below w7.heap.size w7 w'' := fun w' hh => by
          refine (hcall w' (hm7.below hh) (hd7.below hh)).mono ?_
          rintro e w'' ⟨v, rfl, hr, hb⟩
          exact ⟨v, rfl, bl_then hh hh.size hb⟩
        have HBZ := Lib.hid hbz
        clear hcall z1 zp hm7 hd7 hbz a2 ap
        go_cut [13, 14, 15] (fun v13 v14 v15 wc => v14 = .int .i64 c ∧ v15 = .int .i64 0 ∧ Below w7.heap.size w7 wc)
        case first =>
          go_region_held3 (fun w' => w'.cell? ⟨w.heap.size, 0, none⟩ = some (.string (str h)) ∧ w'.cell? ⟨w.heap.size, 2, none⟩ = some (.int .i64 r.a) ∧ w'.cell? ⟨w.heap.size, 3, none⟩ = some (.int .i64 r.b) ∧ w'.cell? ⟨w.heap.size, 4, none⟩ = some (.int .i64 r.c) ∧ w'.cell? ⟨w.heap.size, 5, none⟩ = some (.int .i64 r.d) ∧ w'.cell? ⟨w.heap.size, 9, none⟩ = some (.int .i64 win) ∧ w'.cell? ⟨P, 0, none⟩ = some (.slice (some ⟨b1, 0, none⟩) 401 401) ∧ w'.cell? ⟨P, 1, none⟩ = some (.slice (some ⟨b2, 0, none⟩) 52 52) ∧ Below w7.heap.size w7 w')
            (first | exact HK.out _ (by with_reducible assumption) | exact HK.out _ (Below.refl _ _).drew)
            (first | (go_at_call 9; refine (hbk _ ?_).mono ?_; (first | with_reducible assumption | exact (Below.refl _ _).drew); rintro e w3 ⟨v3, rfl, hb3⟩))
          all_goals
            go_wp2
            go_meet
            case rel => exact ⟨rfl, rfl, by with_reducible assumption⟩
        obtain ⟨rfl, rfl, hbc⟩ := hcut
        have hbx := bl_then HBZ.out HBZ.out.size hbc
        clear hbc hbk HK t2 tp
        go_wp2_with fail
        refine (awake26 _).mono ?_
        rintro e wz ⟨rfl, hbq⟩
        have HB := Lib.hid (bl_then hbx hbx.size hbq)
        clear hbx hbq
        go_wp2
        go_ret
        exact ⟨rfl, HB.out⟩
    · have he' : (re != 0) = true := by simpa using he
      clear he x1 xp hm5 hd5 hT5
      go_wp2_with fail
      refine (awake26 _).mono ?_
      rintro e wz ⟨rfl, hbq⟩
      have HB := Lib.hid (bl_then hbx hbx.size hbq)
      clear hbx hbq
      go_wp2
      go_ret
      exact ⟨rfl, HB.out⟩
  · have hk' : (chkE xs ys != 0) = true := by simpa using hk
    clear hk zp hm4 hd4 hT4
    go_wp2_with fail
    refine (awake26 _).mono ?_
    rintro e wz ⟨rfl, hbq⟩
    have HB := Lib.hid (bl_then hbz hbz.size hbq)
    clear hbz hbq
    go_wp2
    go_ret
    exact ⟨rfl, HB.out⟩
end Go.Proofs.Ytndkgjoaljcijaa
