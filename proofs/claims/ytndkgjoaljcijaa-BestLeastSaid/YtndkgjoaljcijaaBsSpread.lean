/- Chapter 26 (best): spread: by a walk. -/
import Derived.Test.YtndkgjoaljcijaaBsReach
set_option linter.unusedSimpArgs false
set_option linter.unusedVariables false
set_option maxRecDepth 100000
namespace Go.Proofs.Ytndkgjoaljcijaa
open Go.RowKit

structure Cx (E : Env) : Prop where
  hE : EnvOk E
  left : ∀ i, 0 ≤ leftAt E i ∧ leftAt E i ≤ 1000000000000000
  len : E.s.length ≤ 24
/-- As far as the search from a state has come: the tokens that are left. -/
def SpR (w wr : World) (F mb base : Nat) (ob : Option Nat) (E : Env) (cur : St) (c : Int) (target : PS) (ts : List Tok) : Prop :=
  ∃ p' ob' n', ts.foldl (reachF E cur c) p' = target ∧ Fp wr F mb base p' ob' n' ∧ Tc w wr F mb ob ob' ∧ (phiB E p'.L : Int) + p'.came + (tokB E cur ts : Nat) ≤ 100000000000 ∧ 0 ≤ p'.came
section
variable {w wr : World} {F mb base c1 c2 c3 : Nat} {E : Env} {M D LA : Option Addr} {ob : Option Nat} {cur : St} {c : Int} {target : PS} {ts : List Tok} {ls : List Int}
theorem SpR.below {w' : World} (h : SpR w wr F mb base ob E cur c target ts) (hF : F < w.heap.size) (hb : Below wr.heap.size wr w') : SpR w w' F mb base ob E cur c target ts := by
  obtain ⟨p', ob', n', h1, h2, h3, h4, h5⟩ := h
  have := h3.size
  exact ⟨p', ob', n', h1, h2.below (by omega) hb, h3.trans (Tc.below hb (by omega) mb ob'), h4, h5⟩
theorem SpR.size (h : SpR w wr F mb base ob E cur c target ts) : w.heap.size ≤ wr.heap.size := by
  obtain ⟨p', ob', n', h1, h2, h3, h4, h5⟩ := h
  exact h3.size
theorem SpR.fs (h : SpR w wr F mb base ob E cur c target ts) (hs : Fs w F mb base E M D LA c1 c2 c3 ls) (hob : ∀ k, ob = some k → base ≤ k) : Fs wr F mb base E M D LA c1 c2 c3 ls := by
  obtain ⟨p', ob', n', h1, h2, h3, h4, h5⟩ := h
  exact hs.move hob h3
theorem SpR.blk {S : Nat} {t : TypeId} {cs : Array Value} (h : SpR w wr F mb base ob E cur c target ts) (hb : Blk w S t cs) (h1 : S ≠ F) (h2 : S ≠ mb) (h3 : some S ≠ ob) : Blk wr S t cs := by
  obtain ⟨p', ob', n', _, _, h, _, _⟩ := h
  exact (h.block S hb.lt h1 h2 h3).trans hb
theorem tokB_cons (E : Env) (cur : St) (t : Tok) (ts : List Tok) : tokB E cur (t :: ts) = bB (rem E (nxt cur t)) + 1 + tokB E cur ts := by
  unfold tokB sumN
  simp
theorem p_reach_step {t : Tok} (hs : Fs w F mb base E M D LA c1 c2 c3 (leftsF E (E.s.length - E.b) (E.s.length - E.b))) (hob : ∀ k, ob = some k → base ≤ k) (hx : Cx E) (hb : E.b ≤ cur.at_) (hl : cur.at_ < E.s.length) (hc0 : 0 ≤ c) (hc1 : c ≤ 1000000000000000)
    (h : SpR w wr F mb base ob E cur c target (t :: ts)) (ht : okTok E cur t) :
    Calls Try.prog 37 #[.pointer (some ⟨F, 0, none⟩), stV cur, .int .i64 c, tokV t] wr fun e w' => e = .returned (.tuple #[]) ∧ SpR w w' F mb base ob E cur c target ts := by
  have hs2 := h.fs hs hob
  obtain ⟨p', ob', n', h1, h2, h3, h4, h5⟩ := h
  have h6 := phiB_len E p'.L
  rw [tokB_cons] at h4
  refine (p_reach hs2 h2 hx.hE hx.left ht hb hl (by have := hx.len; omega) hc0 hc1 h5 (by omega) (by omega)).mono ?_
  rintro e w' ⟨rfl, ob2, hp2, ht2⟩
  have hrb := reach_bound E cur c p' t
  exact ⟨rfl, _, ob2, _, h1, hp2, h3.trans ht2, by omega, by omega⟩
end
theorem run_idx4 (w : World) (r : Rp) (k : Nat) (hk : k < 4) : (Instr.index 23 (.agg #[.int .i64 r.a, .int .i64 r.b, .int .i64 r.c, .int .i64 r.d]) (.int .i64 k)).run Try.prog w = .ok (.int .i64 (r.get k)) w := by
  match k, hk with
  | 0, _ => go_simp; rfl
  | 1, _ => go_simp; rfl
  | 2, _ => go_simp; rfl
  | 3, _ => go_simp; rfl
theorem toks_list (E : Env) (cur : St) : toks E cur = litT E cur.at_ :: ((List.range' 0 4).flatMap (toksR E cur) ++ (List.range' 1 (farC E cur.at_)).flatMap (toksC E cur.at_)) := rfl
theorem range_cons (k n : Nat) : List.range' k (n + 1) = k :: List.range' (k + 1) n := rfl
theorem downL_cons {n : Nat} (h : 2 ≤ n) : downL n = n :: downL (n - 1) := by
  obtain ⟨m, rfl⟩ : ∃ m, n = m + 2 := ⟨n - 2, by omega⟩
  rfl
theorem downL_end {n : Nat} (h : n < 2) : downL n = [] := by
  match n, h with
  | 0, _ => rfl
  | 1, _ => rfl
set_option maxHeartbeats 4000000 in
theorem p_spread {w : World} {F mb base c1 c2 c3 n : Nat} {E : Env} {M D LA : Option Addr} {ob : Option Nat} {cur : St} {c : Int} {p : PS} (hs : Fs w F mb base E M D LA c1 c2 c3 (leftsF E (E.s.length - E.b) (E.s.length - E.b))) (hp : Fp w F mb base p ob n) (hx : Cx E)
    (hb : E.b ≤ cur.at_) (hl : cur.at_ < E.s.length) (hc0 : 0 ≤ c) (hc1 : c ≤ 1000000000000000) (hk0 : 0 ≤ p.came) (hK : (phiB E p.L : Int) + p.came + (tokB E cur (toks E cur) : Nat) ≤ 100000000000) :
    Calls Try.prog 23 #[.pointer (some ⟨F, 0, none⟩), stV cur, .int .i64 c] w fun e w' => e = .returned (.tuple #[]) ∧ ∃ ob' n', Fp w' F mb base (spreadF E cur c p) ob' n' ∧ Tc w w' F mb ob ob' := by
  have hob := fun k q => (hp.base_le k q).1
  have hbr := hs.hbase
  have hFb := hs.ltF
  have hmb := hs.ltm
  have hF : F < w.heap.size := by omega
  have h24 := hx.len
  have hbox := bl_alloc (Below.refl w.heap.size w) (.cells #[.int .i64 cur.at_, .int .i64 cur.r.a, .int .i64 cur.r.b, .int .i64 cur.r.c, .int .i64 cur.r.d] 61)
  have z0 := Blk.new w 61 #[.int .i64 cur.at_, .int .i64 cur.r.a, .int .i64 cur.r.b, .int .i64 cur.r.c, .int .i64 cur.r.d]
  have hs1 := hs.below hbox
  have hp1 := hp.below hF hbox
  obtain ⟨w1, hw1⟩ : ∃ w1, w1 = w.alloc (.cells #[.int .i64 cur.at_, .int .i64 cur.r.a, .int .i64 cur.r.b, .int .i64 cur.r.c, .int .i64 cur.r.d] 61) := ⟨_, rfl⟩
  rw [← hw1] at hbox z0 hs1 hp1
  have hF1 : F < w1.heap.size := by rw [hw1]; simp; omega
  have hR0 : SpR w1 w1 F mb base ob E cur c (spreadF E cur c p) (toks E cur) := ⟨p, ob, n, rfl, hp1, Tc.refl _ _ _ _, hK, hk0⟩
  have hstep := fun (wr : World) (t : Tok) (ts : List Tok) (h : SpR w1 wr F mb base ob E cur c (spreadF E cur c p) (t :: ts)) (ht : okTok E cur t) => p_reach_step hs1 hob hx hb hl hc0 hc1 h ht
  have hbyte := fun w' => run_byte E.s (cur.at_ : Int) (by omega) (by omega) w'
  rw [Int.toNat_natCast] at hbyte
  have HT := Lib.hid (toks_list E cur)
  have hSF : w.heap.size ≠ F := by omega
  have hSm : w.heap.size ≠ mb := by omega
  have hSo : some w.heap.size ≠ ob := fun q => by have := (hp.base_le _ q.symm).2; omega
  have HFIN : Hid (∀ w', SpR w1 w' F mb base ob E cur c (spreadF E cur c p) [] → ∃ ob' n', Fp w' F mb base (spreadF E cur c p) ob' n' ∧ Tc w w' F mb ob ob') := Lib.hid (by
    rintro w' ⟨p', ob', n', h1, h2, h3, _, _⟩
    rw [List.foldl_nil] at h1
    subst h1
    exact ⟨ob', n', h2, (Tc.below hbox hF mb ob).trans h3⟩)
  have HX := Lib.hid (And.intro hs hp)
  unfold stV
  clear hs hp hK hbox hp1
  generalize spreadF E cur c p = target at *
  go_enter Try.func23, Try.ntmps23
  go_wp2_with fail
  rw [← hw1]
  have HW1 := Lib.hid hw1
  clear hw1
  have k0 := Blk.cell z0
  have f0 := hs1.fin.s
  have s0 := z0.lt
  rw [HT.out] at hR0
  have hi0 : (0 : Int) ≤ (cur.at_ : Int) := by omega
  have hr1 := hstep w1.drew _ _ (hR0.below hF1 (Below.refl _ _).drew) (.inl rfl)
  unfold litT tokV stV at hr1
  have hY := UInt8.toNat_lt (E.s.getD cur.at_ 0)
  generalize (E.s.getD cur.at_ 0).toNat = Y at hbyte hr1 hY
  have hYw : IntKind.i64.wrap (Y : Int) = (Y : Int) := Go.IntWalk.i64_in _ (by omega)
  go_still_tail 12, (by kernel_rfl)
  change wpList _ _ _ _ _ w1.drew
  go_wp2_with fail
  refine hr1.mono ?_
  rintro e w2 ⟨rfl, hR2⟩
  clear hR0 hr1 k0 s0 f0 hbyte hYw hY
  have z2 := hR2.blk z0 hSF hSm hSo
  have k0 := Blk.cell z2
  have s0 := z2.lt
  have hidx := fun w k (h : k < 4) => run_idx4 w cur.r k h
  go_wp2_with fail
  go_loopw [26] (fun v26 wr => ∃ k, k ≤ 4 ∧ v26 = .int .i64 (k : Nat) ∧ SpR w1 wr F mb base ob E cur c target ((List.range' k (4 - k)).flatMap (toksR E cur) ++ (List.range' 1 (farC E cur.at_)).flatMap (toksC E cur.at_))) (fun v26 _ => 4 - (intOf v26).toNat)
  case atStart =>
    refine ⟨0, by omega, rfl, ?_⟩
    rw [Nat.sub_zero]
    exact hR2
  case round =>
    obtain ⟨k, hk, rfl, hR⟩ := hrel
    by_cases hk4 : k < 4
    · have zr := hR.blk z0 hSF hSm hSo
      have q0 := Blk.cell zr
      have q1 := zr.lt
      have fsr := hR.fs hs1 hob
      have HLT : Hid ((List.range' k (4 - k)).flatMap (toksR E cur) = (downL (shr E cur.at_ (cur.r.get k))).map (fun m => repT m k) ++ (List.range' (k + 1) (4 - (k + 1))).flatMap (toksR E cur)) := Lib.hid (by
        rw [show 4 - k = (4 - (k + 1)) + 1 by omega, range_cons, List.flatMap_cons]; rfl)
      rw [HLT.out, List.append_assoc] at hR
      generalize hRS : (List.range' (k + 1) (4 - (k + 1))).flatMap (toksR E cur) ++ (List.range' 1 (farC E cur.at_)).flatMap (toksC E cur.at_) = rest at *
      have HRS := Lib.hid hRS
      clear hRS
      have hi1 := hidx wr k hk4
      go_wp2_with fail
      refine (p_shared fsr.fin cur.at_ (cur.r.get k) (by omega) (by omega)).mono ?_
      rintro e w3 ⟨rfl, hb3⟩
      have hR3 := hR.below hF1 hb3
      have hsr := shr_le E cur.at_ (cur.r.get k)
      clear zr q0 q1 fsr hR hb3 hi1
      have HSH := Lib.hid (show shr E cur.at_ (cur.r.get k) = shr E cur.at_ (cur.r.get k) from rfl)
      go_wp2_with fail
      go_loopw [8] (fun v8 wr => ∃ m : Nat, m ≤ shr E cur.at_ (cur.r.get k) ∧ v8 = .int .i64 m ∧ SpR w1 wr F mb base ob E cur c target ((downL m).map (fun m => repT m k) ++ rest)) (fun v8 _ => (intOf v8).toNat)
      case atStart => exact ⟨_, Nat.le_refl _, rfl, hR3⟩
      case round =>
        obtain ⟨m, hm, rfl, hR⟩ := hrel
        by_cases h2 : 2 ≤ m
        · have zr := hR.blk z0 hSF hSm hSo
          have q0 := Blk.cell zr
          have q1 := zr.lt
          rw [downL_cons h2, List.map_cons, List.cons_append] at hR
          have hcall := hstep wr _ _ hR (.inr (.inl ⟨m, k, hk4, h2, hm, rfl⟩))
          unfold repT tokV stV at hcall
          simp only at hcall
          have h2i : (2 : Int) ≤ (m : Int) := by omega
          clear hR zr
          go_wp2_with fail
          refine hcall.mono ?_
          rintro e w4 ⟨rfl, hR4⟩
          clear hcall q0 q1
          go_wp2_with fail
          go_roundw
          case rel => exact ⟨m - 1, by omega, by rw [Int.ofNat_sub (by omega)]; rfl, hR4⟩
          case measure => simp [intOf]; omega
        · rw [downL_end (by omega), List.map_nil, List.nil_append] at hR
          have h2i : (m : Int) < 2 := by omega
          go_wp2_with fail
          go_roundw
          case rel => exact ⟨k + 1, by omega, by go_num, by rw [HRS.out]; exact hR⟩
          case measure => simp [intOf]; omega
    · obtain rfl : k = 4 := by omega
      rw [show ((4 : Nat) : Int) = 4 from rfl]
      rw [Nat.sub_self, List.range'_zero, List.flatMap_nil, List.nil_append] at hR
      clear hidx
      have HFR : Hid (farC E cur.at_ = if (cur.at_ : Int) ≤ E.win then cur.at_ else E.win.toNat) := Lib.hid rfl
      generalize hfar : farC E cur.at_ = far at *
      have hfar24 : far ≤ 24 := by have := HFR.out; split at this <;> omega
      have HWE := Lib.hid hx.hE
      have hw1e := hx.hE.win1
      have hw2e := hx.hE.win2
      go_wp2_with fail
      go_loopw [9] (fun v9 wr => ∃ d : Nat, 1 ≤ d ∧ d ≤ far + 1 ∧ v9 = .int .i64 d ∧ SpR w1 wr F mb base ob E cur c target ((List.range' d (far + 1 - d)).flatMap (toksC E cur.at_))) (fun v9 _ => 25 - (intOf v9).toNat)
      case atStart =>
        refine ⟨1, by omega, by omega, rfl, ?_⟩
        rw [show far + 1 - 1 = far by omega]
        exact hR
      case round =>
        obtain ⟨d, hd1, hd2, rfl, hR⟩ := hrel
        have zr := hR.blk z0 hSF hSm hSo
        have q0 := Blk.cell zr
        have q1 := zr.lt
        have fsr := hR.fs hs1 hob
        have f4 := fsr.fin.win
        have hFr := fsr.fin.lt
        go_upto_region 11 with (fail)
        go_cut [55] (fun v55 wc => v55 = .bool (decide (d ≤ far)) ∧ Below wr.heap.size wr wc)
        case first =>
          go_region
          all_goals go_wp2_with fail
          all_goals
            go_meet
            case rel =>
              refine ⟨?_, (Below.refl _ _).drew⟩
              congr 1
              rw [decide_eq_decide]
              have := HFR.out
              split at this <;> omega
        obtain ⟨rfl, hbc⟩ := hcut
        generalize wc = wq at *
        have hR := hR.below hF1 hbc
        clear zr q0 q1 fsr f4 hFr hbc
        have zr := hR.blk z0 hSF hSm hSo
        have q0 := Blk.cell zr
        have q1 := zr.lt
        have fsr := hR.fs hs1 hob
        by_cases hdf : d ≤ far
        · have e1 : decide (d ≤ far) = true := by simpa using hdf
          rw [e1]
          have HLT : Hid ((List.range' d (far + 1 - d)).flatMap (toksC E cur.at_) = (downL (shr E cur.at_ (d : Nat))).map (fun m => copyT m d) ++ (List.range' (d + 1) (far + 1 - (d + 1))).flatMap (toksC E cur.at_)) := Lib.hid (by
            rw [show far + 1 - d = (far + 1 - (d + 1)) + 1 by omega, range_cons, List.flatMap_cons]; rfl)
          rw [HLT.out] at hR
          generalize hRS : (List.range' (d + 1) (far + 1 - (d + 1))).flatMap (toksC E cur.at_) = rest at *
          have HRS := Lib.hid hRS
          clear hRS e1
          go_wp2_with fail
          refine (p_shared fsr.fin cur.at_ (d : Int) (by omega) (by omega)).mono ?_
          rintro e w3 ⟨rfl, hb3⟩
          have hR3 := hR.below hF1 hb3
          have hsr := shr_le E cur.at_ (d : Int)
          clear zr q0 q1 fsr hR hb3
          go_wp2_with fail
          go_loopw [10] (fun v10 wr => ∃ m : Nat, m ≤ shr E cur.at_ (d : Int) ∧ v10 = .int .i64 m ∧ SpR w1 wr F mb base ob E cur c target ((downL m).map (fun m => copyT m d) ++ rest)) (fun v10 _ => (intOf v10).toNat)
          case atStart => exact ⟨_, Nat.le_refl _, rfl, hR3⟩
          case round =>
            obtain ⟨m, hm, rfl, hR⟩ := hrel
            by_cases h2 : 2 ≤ m
            · have zr := hR.blk z0 hSF hSm hSo
              have q0 := Blk.cell zr
              have q1 := zr.lt
              rw [downL_cons h2, List.map_cons, List.cons_append] at hR
              have hcall := hstep wr _ _ hR (.inr (.inr ⟨m, d, h2, hm, rfl⟩))
              unfold copyT tokV stV at hcall
              simp only at hcall
              have h2i : (2 : Int) ≤ (m : Int) := by omega
              clear hR zr
              go_wp2_with fail
              refine hcall.mono ?_
              rintro e w4 ⟨rfl, hR4⟩
              clear hcall q0 q1
              go_wp2_with fail
              go_roundw
              case rel => exact ⟨m - 1, by omega, by rw [Int.ofNat_sub (by omega)]; rfl, hR4⟩
              case measure => simp [intOf]; omega
            · rw [downL_end (by omega), List.map_nil, List.nil_append] at hR
              have h2i : (m : Int) < 2 := by omega
              go_wp2_with fail
              go_roundw
              case rel => exact ⟨d + 1, by omega, by omega, by go_num, by rw [HRS.out]; exact hR⟩
              case measure => simp [intOf]; omega
        · have e1 : decide (d ≤ far) = false := by simpa using hdf
          rw [e1]
          rw [show far + 1 - d = 0 by omega, List.range'_zero, List.flatMap_nil] at hR
          have HA := Lib.hid (HFIN.out wq hR)
          clear e1
          go_wp2
          exact bodyPost_end (results_none rfl _ _ _) rfl ⟨rfl, HA.out⟩
end Go.Proofs.Ytndkgjoaljcijaa
