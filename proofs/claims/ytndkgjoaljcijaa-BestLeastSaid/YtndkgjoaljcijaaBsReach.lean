/- Chapter 26 (best): reach: by a walk. -/
import Derived.Test.YtndkgjoaljcijaaBsFd
import Derived.Test.YtndkgjoaljcijaaPut5
import Derived.Deep.RegionHeld3
import Derived.Deep.RegionLaw
import Derived.Deep.CutBlock
import Derived.BigQuiet
import Derived.BigRegion
import Derived.StillTailTactics
import Derived.Deep.QuietTactic
import Derived.Deep.DeepMust
set_option linter.unusedSimpArgs false
set_option linter.unusedVariables false
set_option maxRecDepth 100000
namespace Go.Proofs.Ytndkgjoaljcijaa
open Go.RowKit

/-- What a piece of the search leaves behind. -/
def After (w : World) (F mb base : Nat) (ob : Option Nat) (p : PS) (n : Nat) (e : Ending) (w' : World) : Prop := e = .returned (.tuple #[]) ∧ ∃ ob', Fp w' F mb base p ob' n ∧ Tc w w' F mb ob ob'
set_option maxHeartbeats 4000000 in
theorem p_reach {w : World} {F mb base c1 c2 c3 n : Nat} {E : Env} {M D LA : Option Addr} {p : PS} {ob : Option Nat} {cur : St} {t : Tok} {c : Int} (hs : Fs w F mb base E M D LA c1 c2 c3 (leftsF E (E.s.length - E.b) (E.s.length - E.b))) (hp : Fp w F mb base p ob n)
    (hE : EnvOk E) (hleft : ∀ i, 0 ≤ leftAt E i ∧ leftAt E i ≤ 1000000000000000) (ht : okTok E cur t) (hb : E.b ≤ cur.at_) (hl : cur.at_ < E.s.length) (hsl : E.s.length ≤ 1000000) (hc0 : 0 ≤ c) (hc1 : c ≤ 1000000000000000) (hk0 : 0 ≤ p.came) (hk1 : p.came ≤ 1000000000000) (hL : p.L.length ≤ 200000000000) :
    Calls Try.prog 37 #[.pointer (some ⟨F, 0, none⟩), stV cur, .int .i64 c, tokV t] w (After w F mb base ob (reachF E cur c p t) (n + 1)) := by
  have hsz := okTok_size hE.win2 ht hl
  have huse := okTok_use hE.win2 ht
  have hcp := cost_pos hE ht
  unfold bigC at hcp
  have hbr := hs.hbase
  have hFb := hs.ltF
  have hmb := hs.ltm
  have hF : F < w.heap.size := by omega
  have hpU := fun w => p_Use cur.r t w
  have hpS := fun w => p_Size t w
  have hpC := fun w' (hb : Below w.heap.size w w') => p_fcost_ok (hs.below hb).fin hE (hs.below hb).lng ht
  obtain ⟨Z, hZ⟩ : ∃ Z : Nat, tokSize t = Z := ⟨(tokSize t).toNat, by omega⟩
  rw [huse] at hpU
  rw [hZ] at hpS
  rw [hZ, Int.toNat_natCast] at hsz
  have HN : Hid (nxt cur t = ⟨cur.at_ + Z, useR cur.r t⟩) := Lib.hid (by unfold nxt; rw [hZ, Int.toNat_natCast])
  clear hZ huse
  generalize useR cur.r t = U at *
  generalize useD cur.r t = X at *
  have HK : Hid (reachF E cur c p t = if knows p.f (nxt cur t) (c + cost E.m E.d t) then p else ⟨setF p.f (nxt cur t) ⟨c + cost E.m E.d t, cur, t⟩, pushW p.L ⟨nxt cur t, c + cost E.m E.d t, c + cost E.m E.d t + leftAt E ((nxt cur t).at_ - E.b), p.came + 1⟩, p.came + 1⟩) := Lib.hid (by
    unfold reachF
    rw [if_neg (by rw [okTok_use hE.win2 ht]; simp)])
  rw [HN.out] at HK
  generalize hκ : cost E.m E.d t = κ at *
  clear hκ
  obtain ⟨hz1, hz2, hz3⟩ := hsz
  obtain ⟨hk3, hk4⟩ := hcp
  have hl0 := hleft (cur.at_ + Z - E.b)
  have HLS : Hid ((leftsF E (E.s.length - E.b) (E.s.length - E.b)).length = E.s.length - E.b + 1 ∧ leftAt E (cur.at_ + Z - E.b) = (leftsF E (E.s.length - E.b) (E.s.length - E.b)).getD (cur.at_ + Z - E.b) 0) := Lib.hid ⟨leftsF_length _ _ _, rfl⟩
  generalize leftAt E (cur.at_ + Z - E.b) = lf at *
  generalize leftsF E (E.s.length - E.b) (E.s.length - E.b) = ls at *
  have HHE := Lib.hid hE
  clear hleft hE ht
  obtain ⟨ca, ⟨r1, r2, r3, r4⟩⟩ := cur
  obtain ⟨tk, tb, tl, td, ti⟩ := t
  obtain ⟨u1, u2, u3, u4⟩ := U
  unfold stV tokV
  have k0 := (Blk.new w 61 #[.int .i64 ca, .int .i64 r1, .int .i64 r2, .int .i64 r3, .int .i64 r4]).alloc (.cells #[.int .i64 tk, .int .i64 tb, .int .i64 tl, .int .i64 td, .int .i64 ti] 65)
  have k1 : Blk ((w.alloc (.cells #[.int .i64 ca, .int .i64 r1, .int .i64 r2, .int .i64 r3, .int .i64 r4] 61)).alloc (.cells #[.int .i64 tk, .int .i64 tb, .int .i64 tl, .int .i64 td, .int .i64 ti] 65)) (w.heap.size + 1) 65 #[.int .i64 tk, .int .i64 tb, .int .i64 tl, .int .i64 td, .int .i64 ti] := by
    have := Blk.new (w.alloc (.cells #[.int .i64 ca, .int .i64 r1, .int .i64 r2, .int .i64 r3, .int .i64 r4] 61)) 65 #[.int .i64 tk, .int .i64 tb, .int .i64 tl, .int .i64 td, .int .i64 ti]
    simpa using this
  have k2 : Below w.heap.size w ((w.alloc (.cells #[.int .i64 ca, .int .i64 r1, .int .i64 r2, .int .i64 r3, .int .i64 r4] 61)).alloc (.cells #[.int .i64 tk, .int .i64 tb, .int .i64 tl, .int .i64 td, .int .i64 ti] 65)) := bl_alloc (bl_alloc (Below.refl _ _) _) _
  have HS := Lib.hid hs
  have HP := Lib.hid hp
  clear hs hp
  go_enter Try.func37, Try.ntmps37
  go_wp2_with fail
  refine (hpU _).mono ?_
  rintro e w1 ⟨rfl, hb1⟩
  have b0 := k0.below hb1 k0.lt
  have b1 := k1.below hb1 k1.lt
  have bb := bl_then k2 k2.size hb1
  unfold rpV
  simp only
  clear hpU k0 k1 k2 hb1
  have c0 := Blk.cell b0
  have c1' := Blk.cell b1
  have g0 := b0.lt
  have g1 := b1.lt
  go_upto_region 3 with (fail)
  have a0 := b0.alloc (.cells #[.int .i64 u1, .int .i64 u2, .int .i64 u3, .int .i64 u4] 23)
  have a1 := b1.alloc (.cells #[.int .i64 u1, .int .i64 u2, .int .i64 u3, .int .i64 u4] 23)
  have a2 := Blk.new w1 23 #[.int .i64 u1, .int .i64 u2, .int .i64 u3, .int .i64 u4]
  have ab := bl_alloc bb (.cells #[.int .i64 u1, .int .i64 u2, .int .i64 u3, .int .i64 u4] 23)
  have aw := bb.size
  clear b0 b1 bb c0 c1'
  generalize w1.alloc (.cells #[.int .i64 u1, .int .i64 u2, .int .i64 u3, .int .i64 u4] 23) = w2 at *
  have HK3 : Hid (∀ w', Below w2.heap.size w2 w' → w'.cell? ⟨w.heap.size, 0, none⟩ = some (.int .i64 ca) ∧ w'.cell? ⟨w.heap.size + 1, 0, none⟩ = some (.int .i64 tk) ∧ w'.cell? ⟨w.heap.size + 1, 1, none⟩ = some (.int .i64 tb) ∧ w'.cell? ⟨w.heap.size + 1, 2, none⟩ = some (.int .i64 tl) ∧ w'.cell? ⟨w.heap.size + 1, 3, none⟩ = some (.int .i64 td) ∧ w'.cell? ⟨w.heap.size + 1, 4, none⟩ = some (.int .i64 ti) ∧ w'.cell? ⟨w1.heap.size, 0, none⟩ = some (.int .i64 u1) ∧ w'.cell? ⟨w1.heap.size, 1, none⟩ = some (.int .i64 u2) ∧ w'.cell? ⟨w1.heap.size, 2, none⟩ = some (.int .i64 u3) ∧ w'.cell? ⟨w1.heap.size, 3, none⟩ = some (.int .i64 u4) ∧ Below w2.heap.size w2 w') := Lib.hid fun w' h => by
    have z0 := Blk.cell (a0.below h a0.lt)
    have z1 := Blk.cell (a1.below h a1.lt)
    have z2 := Blk.cell (a2.below h a2.lt)
    exact ⟨z0 0, z1 0, z1 1, z1 2, z1 3, z1 4, z2 0, z2 1, z2 2, z2 3, h⟩
  have q1 : IntKind.i64.wrap ((ca : Int) + (Z : Int)) = (ca : Int) + Z := Go.IntWalk.i64_in _ (by omega)
  go_cut [11] (fun v11 wc => ∃ B, v11 = .pointer (some ⟨B, 0, none⟩) ∧ Blk wc B 61 #[.int .i64 ((ca : Int) + Z), .int .i64 u1, .int .i64 u2, .int .i64 u3, .int .i64 u4] ∧ w2.heap.size ≤ B ∧ Below w2.heap.size w2 wc)
  case first =>
    go_region_held3 (fun w' => w'.cell? ⟨w.heap.size, 0, none⟩ = some (.int .i64 ca) ∧ w'.cell? ⟨w.heap.size + 1, 0, none⟩ = some (.int .i64 tk) ∧ w'.cell? ⟨w.heap.size + 1, 1, none⟩ = some (.int .i64 tb) ∧ w'.cell? ⟨w.heap.size + 1, 2, none⟩ = some (.int .i64 tl) ∧ w'.cell? ⟨w.heap.size + 1, 3, none⟩ = some (.int .i64 td) ∧ w'.cell? ⟨w.heap.size + 1, 4, none⟩ = some (.int .i64 ti) ∧ w'.cell? ⟨w1.heap.size, 0, none⟩ = some (.int .i64 u1) ∧ w'.cell? ⟨w1.heap.size, 1, none⟩ = some (.int .i64 u2) ∧ w'.cell? ⟨w1.heap.size, 2, none⟩ = some (.int .i64 u3) ∧ w'.cell? ⟨w1.heap.size, 3, none⟩ = some (.int .i64 u4) ∧ Below w2.heap.size w2 w')
      (exact HK3.out _ (by repeat (first | with_reducible assumption | exact Below.refl _ _ | refine Below.drew ?_ | refine Below.alloc ?_ (by first | assumption | omega | (simp; done) | (simp; omega)) _ | refine Below.setCell ?_ (by first | assumption | omega | (simp; done) | (simp; omega)) _)))
      ((go_at_call 49; go_must (refine (kcallB (B := w2.heap.size) (w2 := w2) (by simp) ?_ (hpS _)).mono ?_); (first | with_reducible assumption | (repeat (first | exact Below.refl _ _ | refine Below.drew ?_ | refine Below.alloc ?_ (Nat.le_refl _) _))); go_must (rintro e w3 ⟨rfl, hb2, hb3⟩; have hs2 := hb2.size; have hs3 := hb3.size; obtain ⟨hc3, hf3⟩ := bcell hb3)))
    all_goals
      go_wp2_with fail
      go_meet
      case rel =>
        refine ⟨_, rfl, ?_, ?_, ?_⟩
        · first
            | with_reducible exact Blk.new w3 _ _
            | (show Blk (put5 w3 w2.heap.size ((ca : Int) + Z) u1 u2 u3 u4) _ _ _; exact put5_here _ _ _ _ _ (Blk.below (Blk.drew (Blk.new w2 61 #[.int .i64 0, .int .i64 0, .int .i64 0, .int .i64 0, .int .i64 0])) hb3 (by simp)))
        · first | with_reducible exact Nat.le_refl _ | exact hs2
        · first
            | with_reducible exact hb2.alloc hs2 _
            | (show Below _ _ (put5 w3 w2.heap.size ((ca : Int) + Z) u1 u2 u3 u4); exact put5_below _ _ _ _ _ hb2 (Nat.le_refl _))
  case rest =>
    obtain ⟨B, rfl, zB, hBs, hb3⟩ := hcut
    generalize wc = w3 at *
    have z0 := a0.below hb3 a0.lt
    have z1 := a1.below hb3 a1.lt
    have ab3 := bl_then ab ab.size hb3
    have aw2 := ab.size
    clear a0 a1 a2 ab HK3 hpS q1 hb3
    have t1 := Blk.cell z1
    have s1 := z1.lt
    go_wp2_with fail
    refine (hpC _ ab3).mono ?_
    rintro e w4 ⟨rfl, hb4⟩
    have y0 := z0.below hb4 z0.lt
    have y1 := z1.below hb4 z1.lt
    have yB := zB.below hb4 zB.lt
    have ab4 := bl_then ab3 ab3.size hb4
    have fs4 := HS.out.below ab4
    have fp4 := HP.out.below hF ab4
    clear z0 z1 zB ab3 hb4 t1 s1 hpC
    have v6 := fs4.c6
    have cB := Blk.cell yB
    have sB := yB.lt
    have hlk := fun (w' : World) (hh : w'.heap[mb]? = w4.heap[mb]?) => (fp4.map.same hh).look ⟨ca + Z, ⟨u1, u2, u3, u4⟩⟩ true
    have HKN : Hid ((p.f ⟨ca + Z, ⟨u1, u2, u3, u4⟩⟩ = none ∧ (p.f ⟨ca + Z, ⟨u1, u2, u3, u4⟩⟩).isSome = false) ∨ ((p.f ⟨ca + Z, ⟨u1, u2, u3, u4⟩⟩).isSome = true ∧ p.f ⟨ca + Z, ⟨u1, u2, u3, u4⟩⟩ = some ((p.f ⟨ca + Z, ⟨u1, u2, u3, u4⟩⟩).getD sp0))) := Lib.hid (by
      cases p.f ⟨ca + Z, ⟨u1, u2, u3, u4⟩⟩ with
      | none => exact .inl ⟨rfl, rfl⟩
      | some x => exact .inr ⟨rfl, rfl⟩)
    generalize hxx : (p.f ⟨ca + Z, ⟨u1, u2, u3, u4⟩⟩).getD sp0 = x at *
    generalize hbk : (p.f ⟨ca + Z, ⟨u1, u2, u3, u4⟩⟩).isSome = bk at *
    clear hxx hbk
    obtain ⟨xc, ⟨xa, ⟨x1, x2, x3, x4⟩⟩, ⟨e1, e2, e3, e4, e5⟩⟩ := x
    simp only [if_true] at hlk
    unfold spV stV at hlk
    simp only [Int.natCast_add] at hlk
    have hmb4 : mb < w4.heap.size := fp4.map.lt
    have l1 := hlk w4 rfl
    have l2 := hlk w4.drew rfl
    have l3 := hlk (w4.alloc (.cells #[.int .i64 0, .int .i64 0, .int .i64 0, .int .i64 0, .int .i64 0, .int .i64 0, .int .i64 0, .int .i64 0, .int .i64 0, .int .i64 0, .int .i64 0] 67)) (Below.heap_alloc w4 _ mb hmb4)
    have l4 := hlk (w4.alloc (.cells #[.int .i64 0, .int .i64 0, .int .i64 0, .int .i64 0, .int .i64 0, .int .i64 0, .int .i64 0, .int .i64 0, .int .i64 0, .int .i64 0, .int .i64 0] 67)).drew (Below.heap_alloc w4 _ mb hmb4)
    have hF4 : F < w4.heap.size := by have := ab4.size; omega
    clear hlk
    go_upto_region 5 with (fail)
    go_cut [12, 13] (fun v12 v13 wc => ∃ B, v12 = .pointer (some ⟨B, 0, none⟩) ∧ v13 = .bool bk ∧ Blk wc B 67 #[.int .i64 xc, .int .i64 xa, .int .i64 x1, .int .i64 x2, .int .i64 x3, .int .i64 x4, .int .i64 e1, .int .i64 e2, .int .i64 e3, .int .i64 e4, .int .i64 e5] ∧ w4.heap.size ≤ B ∧ Below w4.heap.size w4 wc)
    case first =>
      go_region
      all_goals
        go_wp2_with fail
        go_meet
        case rel =>
          first
            | exact ⟨_, rfl, rfl, Blk.new w4 _ _, Nat.le_refl _, bl_alloc (Below.refl _ _) _⟩
            | exact ⟨_, rfl, rfl, Blk.drew (Blk.new w4 _ _), Nat.le_refl _, (bl_alloc (Below.refl _ _) _).drew⟩
            | exact ⟨_, rfl, rfl, Blk.new w4.drew _ _, Nat.le_refl _, bl_alloc (Below.refl _ _).drew _⟩
    case rest =>
      obtain ⟨BX, rfl, rfl, zX, hBX, hb6⟩ := hcut
      generalize wc = w6 at *
      have ab6 := bl_then ab4 ab4.size hb6
      have fs6 := HS.out.below ab6
      have fp6 := HP.out.below hF ab6
      have z0 := y0.below hb6 y0.lt
      have z1 := y1.below hb6 y1.lt
      have zB := yB.below hb6 yB.lt
      have hF6 : F < w6.heap.size := by have := ab6.size; omega
      have HKB : Hid (knows p.f ⟨ca + Z, ⟨u1, u2, u3, u4⟩⟩ (c + κ) ↔ (bk = true ∧ xc ≤ c + κ)) := Lib.hid (by
        rcases HKN.out with ⟨h1, h2⟩ | ⟨h1, h2⟩
        · constructor
          · rintro ⟨y, hy, _⟩; rw [h1] at hy; cases hy
          · rintro ⟨h3, _⟩; rw [h2] at h3; cases h3
        · constructor
          · rintro ⟨y, hy, hle⟩
            rw [h2] at hy
            injection hy with hy
            subst hy
            exact ⟨h1, hle⟩
          · rintro ⟨_, hle⟩
            exact ⟨_, h2, hle⟩)
      clear l1 l2 l3 l4 v6 cB sB yB y0 y1 fs4 fp4 ab4 hF4 hmb4 HKN hb6 hBX
      go_upto_region 6 with (fail)
      go_cut [45, 46, 47, 48, 49, 50, 51] (fun _ _ _ _ _ _ v51 wc => v51 = .bool (decide (knows p.f ⟨ca + Z, ⟨u1, u2, u3, u4⟩⟩ (c + κ))) ∧ wc = w6)
      case first =>
        have cX := Blk.cell zX
        have sX := zX.lt
        cases bk with
        | false =>
          have HD : Hid (decide (knows p.f ⟨ca + Z, ⟨u1, u2, u3, u4⟩⟩ (c + κ)) = false) := Lib.hid (by rw [decide_eq_false_iff_not, HKB.out]; simp)
          generalize decide (knows p.f ⟨ca + Z, ⟨u1, u2, u3, u4⟩⟩ (c + κ)) = KB at *
          clear HKB
          go_wp2
          go_meet
          case rel => exact ⟨by rw [HD.out], rfl⟩
        | true =>
          have HD : Hid (decide (knows p.f ⟨ca + Z, ⟨u1, u2, u3, u4⟩⟩ (c + κ)) = decide (xc ≤ c + κ)) := Lib.hid (by rw [decide_eq_decide, HKB.out]; simp)
          generalize decide (knows p.f ⟨ca + Z, ⟨u1, u2, u3, u4⟩⟩ (c + κ)) = KB at *
          clear HKB
          go_wp2
          go_meet
          case rel => exact ⟨by rw [HD.out], rfl⟩
      obtain ⟨rfl, hw⟩ := hcut
      rw [hw] at *
      clear hw zX HKB
      by_cases hkn : knows p.f ⟨ca + Z, ⟨u1, u2, u3, u4⟩⟩ (c + κ)
      · have HR := Lib.hid (HK.out.trans (if_pos hkn))
        have e1 : decide (knows p.f ⟨ca + Z, ⟨u1, u2, u3, u4⟩⟩ (c + κ)) = true := by simpa using hkn
        rw [e1]
        clear hkn e1
        go_wp2
        refine bodyPost_ret (results_none rfl _ _ _) rfl ⟨rfl, ob, ?_, Tc.below ab6 hF mb ob⟩
        rw [HR.out]
        exact ⟨fp6.row, fp6.came, fp6.map.mono (by omega)⟩
      · have HR := Lib.hid (HK.out.trans (if_neg hkn))
        have e1 : decide (knows p.f ⟨ca + Z, ⟨u1, u2, u3, u4⟩⟩ (c + κ)) = false := by simpa using hkn
        rw [e1]
        clear hkn e1
        have v6 := fs6.c6
        have k0 := Blk.cell z0
        have k1 := Blk.cell z1
        have kB := Blk.cell zB
        have s0 := z0.lt
        have s1 := z1.lt
        have sB := zB.lt
        obtain ⟨w7, r7, m7, g7⟩ := (fp6.map.same (w' := w6.drew) rfl).store ⟨ca + Z, ⟨u1, u2, u3, u4⟩⟩ ⟨c + κ, ⟨ca, ⟨r1, r2, r3, r4⟩⟩, ⟨tk, tb, tl, td, ti⟩⟩
        unfold spV stV at r7
        simp only [Int.natCast_add] at r7
        go_upto_region 7 with (fail)
        go_cut [60] (fun _ wc => wc = w7)
        case first =>
          go_region
          all_goals
            go_wp2_with fail
            go_meet
            case rel => rfl
        have hw7 : wc = w7 := hcut
        rw [hw7]
        clear hw7 hcut r7
        have hne := fs6.hne
        have g7' : w6.grownBy w7 (some mb) := ⟨g7.os, g7.tape, g7.output, g7.size, g7.block⟩
        have tc7 : Tc w6 w7 F mb ob ob := Tc.map g7' hF6 hne ob
        have hob := Fp.base_le fp6
        have fs7 := fs6.move (fun k q => (hob k q).1) tc7
        obtain ⟨v, h7, hrow, hvo⟩ := fp6.row
        have hFo : ∀ k, v.ownBlock = some k → k ≠ F ∧ k ≠ mb := fun k q => by have := hob k (hvo ▸ q); omega
        have hgF := g7'.block F hF6 (fun q => hne (by injection q))
        have h77 := (World.cell?_of_block (a := ⟨F, 7, none⟩) hgF).trans h7
        have h79 := (World.cell?_of_block (a := ⟨F, 9, none⟩) hgF).trans fp6.came
        have hrow7 : RowW w7 base v p.L := Row.same hrow (fun k hk => g7'.block k (hob k (hvo ▸ hk)).2 (fun q => (hFo k hk).2 (by injection q)))
        have f79 := fs7.frz 9
        have hF7 : F < w7.heap.size := by have := g7.size; simp at this; omega
        have j0 : Blk w7 w.heap.size _ _ := (g7'.block _ s0 (fun q => by injection q; omega)).trans z0
        have jB : Blk w7 B _ _ := (g7'.block _ sB (fun q => by have := fp6.map.lt; injection q; omega)).trans zB
        have m8 : MapS (w7.setCell ⟨F, 9, none⟩ (.int .i64 (p.came + 1))) mb _ _ := m7.same (Below.heap_setCell w7 ⟨F, 9, none⟩ _ mb (fun q => hne q.symm))
        have tc8 := tc7.trans (Tc.set9 w7 F mb ob (.int .i64 (p.came + 1)))
        have fs8 := fs7.move (fun k q => (hob k q).1) (Tc.set9 w7 F mb ob (.int .i64 (p.came + 1)))
        have h87 : (w7.setCell ⟨F, 9, none⟩ (.int .i64 (p.came + 1))).cell? ⟨F, 7, none⟩ = some v := (World.cell?_setCell_other w7 _ _ _ (by simp)).trans h77
        have h89 : (w7.setCell ⟨F, 9, none⟩ (.int .i64 (p.came + 1))).cell? ⟨F, 9, none⟩ = some (.int .i64 (p.came + 1)) := World.cell?_setCell_same w7 _ _ h79
        have hrow8 : RowW (w7.setCell ⟨F, 9, none⟩ (.int .i64 (p.came + 1))) base v p.L := Row.setCell hrow7 _ (fun q => (hFo F q).1 rfl)
        have jB8 : Blk (w7.setCell ⟨F, 9, none⟩ (.int .i64 (p.came + 1))) B _ _ := (Below.heap_setCell w7 ⟨F, 9, none⟩ _ B (by show B ≠ F; omega)).trans jB
        clear k0 k1 kB z0 z1 zB v6 m7 hrow hrow7 h7 h77 fp6 fs6 g7 g7' hgF
        go_upto_region 9 with (fail)
        generalize hw8 : w7.setCell ⟨F, 9, none⟩ (.int .i64 (p.came + 1)) = w8 at *
        have HW8 := Lib.hid hw8
        clear hw8
        obtain ⟨I, hI⟩ : ∃ I, I = ca + Z - E.b := ⟨_, rfl⟩
        have hIl : I < ls.length := by have := HLS.out.1; omega
        obtain ⟨ad, rfl, had, hcl⟩ := fs8.rl.at_ I hIl
        have hlf : lf = ls[I] := by
          rw [HLS.out.2, ← hI, List.getD_eq_getElem?_getD, List.getElem?_eq_getElem hIl]; rfl
        rw [← hlf] at hcl
        have q1 : IntKind.i64.wrap ((ca : Int) + Z - E.b) = (I : Int) := by rw [show (ca : Int) + Z - E.b = I by omega]; exact Go.IntWalk.i64_in _ (by omega)
        have q2 : (0 : Int) ≤ (I : Int) := by omega
        have q3 : (I : Int) < (ls.length : Int) := by omega
        have q4 : IntKind.i64.wrap (c + κ + lf) = c + κ + lf := Go.IntWalk.i64_in _ (by omega)
        have HI := Lib.hid hI
        clear hI hlf hIl
        have d5 := fs8.c5
        have d1 := fs8.fin.b
        have kB := Blk.cell jB8
        have sB := jB8.lt
        have hF8 : F < w8.heap.size := by have := fs8.fin.lt; omega
        have HFS := Lib.hid fs8
        have HTC := Lib.hid tc8
        clear fs8 tc8 fs7 tc7 j0 jB jB8
        go_still_tail 25, (by kernel_rfl)
        change wpList _ _ _ _ _ w8.drew
        have hpush := p_push (w := w8.drew) ⟨⟨ca + Z, ⟨u1, u2, u3, u4⟩⟩, c + κ, c + κ + lf, p.came + 1⟩ (Row.drew hrow8) hF8 (HFS.out.frz 7) h87 HFS.out.less (fun q => (hFo F q).1 rfl) hL HFS.out.hbase
        unfold wtV at hpush
        simp only [Int.natCast_add] at hpush
        have h89' : w8.cell? ⟨F, 9, none⟩ = _ := h89
        clear h87 f79
        go_wp2_with fail
        refine hpush.mono ?_
        rintro e w9 ⟨rfl, hP⟩
        obtain ⟨v', w97, wr9, wo9⟩ := hP.row
        have hfr := hP.fr
        have hmne : some mb ≠ v.ownBlock := fun q => (hFo mb q.symm).2 rfl
        have hm9 := hfr.block mb m8.lt (fun q => hne q.symm) hmne
        have tc9 : Tc w8 w9 F mb ob v'.ownBlock := ⟨fun i h7 _ => hfr.cells i h7, hfr.frozen, hfr.os, hfr.tape, hfr.output, hfr.size, fun k hk hF _ hv => hfr.block k hk hF (fun q => hv (by rw [q, hvo])), by
          rcases wo9 with h | ⟨k, h, hk⟩
          · exact .inl (h.trans hvo)
          · exact .inr ⟨k, h, hk⟩⟩
        have tcA := (Tc.below ab6 hF mb ob).trans (HTC.out.trans tc9)
        have hc9 : w9.cell? ⟨F, 9, none⟩ = some (.int .i64 (p.came + 1)) := (hfr.cells 9 (by omega)).trans h89'
        have mp9 : MapS w9 mb (setF p.f ⟨ca + Z, ⟨u1, u2, u3, u4⟩⟩ ⟨c + κ, ⟨ca, ⟨r1, r2, r3, r4⟩⟩, ⟨tk, tb, tl, td, ti⟩⟩) (n + 1) := m8.same hm9
        have HA : Hid (∃ ob', Fp w9 F mb base (reachF E ⟨ca, ⟨r1, r2, r3, r4⟩⟩ c p ⟨tk, tb, tl, td, ti⟩) ob' (n + 1) ∧ Tc w w9 F mb ob ob') := Lib.hid (by
          rw [HR.out]
          exact ⟨_, ⟨⟨v', w97, wr9, rfl⟩, hc9, mp9⟩, tcA⟩)
        clear tcA tc9 hc9 mp9 hfr hm9 w97 wr9 wo9 hP
        go_wp2
        exact bodyPost_end (results_none rfl _ _ _) rfl ⟨rfl, HA.out⟩
end Go.Proofs.Ytndkgjoaljcijaa
