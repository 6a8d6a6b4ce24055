/- Chapter 29 (window): Put: what it does, by a walk. -/
import Derived.Test.YtiohdgckmolmnaaWin2
set_option linter.unusedSimpArgs false
set_option linter.unusedVariables false
namespace Go.Proofs.Ytiohdgckmolmnaa
open Go.RowKit

theorem str_extract (l : List UInt8) (k : Nat) : (str l).extract k (str l).size = str (l.drop k) := by
  apply ByteArray.ext
  simp [str]
  rw [List.take_of_length_le (by rw [List.length_drop]; exact Nat.le_refl _)]

/-- copy(dst, s), s a string of whatever length: as many bytes as fit. -/
theorem Touch.wide {w w' : World} {g b : Nat} (h : Touch w w' b b) : Touch w w' g b := ⟨h.os, h.tape, h.output, h.size, fun k hk _ h2 => h.block k hk h2 h2⟩
theorem Touch.undrew {w w' : World} {g b : Nat} (h : Touch w.drew w' g b) : Touch w w' g b := ⟨h.os, h.tape, h.output, h.size, h.block⟩
theorem copy_str (w : World) (b at_ dLen dCap : Nat) (ring rest : List UInt8) (hb : Blk w b 5 (bvals ring).toArray) (hfit : at_ + min rest.length dLen ≤ ring.length) :
    ∃ W', (Builtin.copy_ #[68, 9] 3 #[.slice (some ⟨b, at_, none⟩) dLen dCap, .string (str rest)]).run Try.prog w = .ok (.int .i64 (min rest.length dLen : Nat)) W' ∧
      Blk W' b 5 (bvals (ring.take at_ ++ (rest.take (min rest.length dLen) ++ ring.drop (at_ + min rest.length dLen)))).toArray ∧ Touch w W' b b := by
  obtain ⟨i0, hi, hz0, hz1, hz2⟩ := info_parts info_u8
  have hlen : (bvals (rest.take (min rest.length dLen))).length = min rest.length dLen := by rw [bvals_length, List.length_take]; omega
  have hst := run_storeCells_at Try.prog b at_ 5 (bvals (rest.take (min rest.length dLen))) 0 (bvals ring).toArray w hb (by rw [hlen]; simp [bvals_length]; omega) (bvals_one _)
  rw [hlen] at hst
  simp only [Nat.add_zero] at hst
  have htk : List.take (min rest.length dLen) (List.map (fun x : UInt8 => Value.int IntKind.u8 (x.toNat : Int)) rest) = bvals (rest.take (min rest.length dLen)) := by
    rw [← List.map_take]; rfl
  have hrow : Blk (w.setRow b (List.take at_ (bvals ring) ++ bvals (List.take (min rest.length dLen) rest) ++ List.drop (at_ + min rest.length dLen) (bvals ring)).toArray) b 5 (bvals (ring.take at_ ++ (rest.take (min rest.length dLen) ++ ring.drop (at_ + min rest.length dLen)))).toArray :=
    Blk.as (setRow_heap w b _ _ 5 _ hb) (by simp [bvals])
  refine ⟨_, ?_, hrow, ⟨rfl, rfl, rfl, by simp [World.setRow], fun k _ _ h2 => setRow_other w b k _ h2⟩⟩
  have hmin : Nat.min rest.length dLen = min rest.length dLen := rfl
  simp [Builtin.copy_, run_underlying Try.underlying68, Builtin.lenOf, Builtin.firstCells, sizeOf, typeInfo, hi, hz1, str_size, str_data, hmin]
  rw [htk, hst]
  simp [Result.andThen, goInt]

theorem p_Put_nil (s : ByteArray) (w : World) : Calls Try.prog 37 #[.pointer none, .string s] w fun e w' => e = .returned (.tuple #[]) ∧ w = w' := by
  go_enter Try.func37, Try.ntmps37
  go_wp2
  refine bodyPost_ret (results_none rfl _ _ _) rfl ?_
  exact ⟨rfl, rfl⟩

/-- What a part of a write leaves. -/
theorem put_close {w w' W : World} {g b size : Nat} {ring : List UInt8} {at_ : Nat} {H c : List UInt8} (h : Win w g b size ring at_ H) (hm : at_ + c.length ≤ ring.length) (hr : H.length + c.length ≤ ring.length ∨ ring.length = size)
    (h1 : Blk W b 5 (bvals (ring.take at_ ++ (c ++ ring.drop (at_ + c.length)))).toArray) (hT : Touch w W g b)
    (k1 : Blk W b 5 (bvals (ring.take at_ ++ (c ++ ring.drop (at_ + c.length)))).toArray → Blk w' b 5 (bvals (ring.take at_ ++ (c ++ ring.drop (at_ + c.length)))).toArray)
    (k2 : Blk w' g 96 (winC size b ring.length (if at_ + c.length = ring.length then 0 else at_ + c.length) (min size (H.length + c.length)))) :
    ∃ ring' at', Win w' g b size ring' at' (lastN size (H ++ c)) ∧ ring'.length = ring.length := by
  have hl : (ring.take at_ ++ (c ++ ring.drop (at_ + c.length))).length = ring.length := by simp; omega
  refine ⟨_, _, ⟨h.rg.chunk c hm hr, ?_, k1 h1, h.ne⟩, hl⟩
  rw [hl, lastN_length, List.length_append]
  exact k2
def sizeOfStr : Value → Nat | .string s => s.size | _ => 0
theorem extract_m (rest : List UInt8) (m : Nat) : (str rest).extract m rest.length = str (rest.drop m) := by
  have := str_extract rest m
  rwa [str_size] at this

theorem put_rel {w w1 W w' : World} {g b size n1 : Nat} {ring t done rest held : List UInt8} {at_ : Nat} {H c : List UInt8} (h : Win w g b size ring at_ H) (hm : at_ + c.length ≤ ring.length) (hr : H.length + c.length ≤ ring.length ∨ ring.length = size)
    (h1 : Blk W b 5 (bvals (ring.take at_ ++ (c ++ ring.drop (at_ + c.length)))).toArray) (hT : Touch w W g b)
    (hl : ring.length = n1) (ht : t = done ++ rest) (hc : c ++ rest.drop c.length = rest) (hH : lastN size (held ++ (done ++ c)) = lastN size (H ++ c)) (hT1 : Touch w1 w g b)
    (k1 : Blk W b 5 (bvals (ring.take at_ ++ (c ++ ring.drop (at_ + c.length)))).toArray → Blk w' b 5 (bvals (ring.take at_ ++ (c ++ ring.drop (at_ + c.length)))).toArray)
    (k2 : Blk w' g 96 (winC size b ring.length (if at_ + c.length = ring.length then 0 else at_ + c.length) (min size (H.length + c.length))))
    (k3 : Touch w1 W g b → Touch w1 w' g b) :
    ∃ done' rest' ring3 at3, t = done' ++ rest' ∧ Value.string ((str rest).extract c.length rest.length) = .string (str rest') ∧ Win w' g b size ring3 at3 (lastN size (held ++ done')) ∧ ring3.length = n1 ∧ Touch w1 w' g b := by
  obtain ⟨ring3, at3, hW3, hl3⟩ := put_close h hm hr h1 hT k1 k2
  exact ⟨done ++ c, rest.drop c.length, ring3, at3, by rw [ht, List.append_assoc, hc], by rw [extract_m], by rw [hH]; exact hW3, hl3.trans hl, k3 (hT1.trans hT (.inl rfl))⟩

def PutCut (size : Nat) (s : List UInt8) (w : World) (v : Value) (w' : World) : Prop := v = .string (str (lastN size s)) ∧ w' = w

set_option maxHeartbeats 2000000 in
set_option maxRecDepth 100000 in
theorem p_Put' (g b size : Nat) (ring : List UInt8) (at_ : Nat) (held : List UInt8) (s : List UInt8) (w : World) (h : Win w g b size ring at_ held) (hs : s.length ≤ 1000000000) :
    Calls Try.prog 37 #[.pointer (some ⟨g, 0, none⟩), .string (str s)] w (GivesWin w g b size (lastN size (held ++ lastN size s)) 0) := by
  have kc := Blk.cell h.blk
  have h3 := h.rg.hmax
  simp only [winC] at kc
  have HW := Lib.hid h
  have hsz := str_size s
  clear h
  go_enter Try.func37, Try.ntmps37
  go_upto_region 1 with (fail)
  go_cut [1] (fun v wc => PutCut size s w v wc)
  case first =>
    have hex := str_extract s (s.length - size)
    rw [hsz] at hex
    have HX := Lib.hid hex
    clear hex
    by_cases hsl : s.length ≤ size
    · go_wp2
      all_goals
        go_meet
        case rel =>
          have h0 := HX.out
          rw [show s.length - size = 0 by omega] at h0
          exact ⟨by rw [h0]; unfold lastN; rw [show s.length - size = 0 by omega], rfl⟩
    · go_wp2
      all_goals
        go_meet
        case rel => exact ⟨by rw [HX.out]; rfl, rfl⟩
  case rest =>
    obtain ⟨rfl, hwc⟩ := hcut
    subst hwc
    have hsl : (lastN size s).length ≤ 1000000000 := by rw [lastN_length]; omega
    generalize lastN size s = t at *
    clear hsz hs
    have htz := str_size t
    go_wp2_with fail
    refine (p_grow g b size ring at_ held t.length wc HW.out hsl).mono ?_
    rintro e w1 ⟨b1, ring1, at1, rfl, hW1, hb1, hT1, hroom⟩
    clear kc
    go_wp2_with fail
    go_loopw [1] (fun v1 wr => ∃ done rest ring2 at2, t = done ++ rest ∧ v1 = .string (str rest) ∧ Win wr g b1 size ring2 at2 (lastN size (held ++ done)) ∧ ring2.length = ring1.length ∧ Touch w1 wr g b1) (fun v1 _ => sizeOfStr v1)
    case atStart => exact ⟨[], t, ring1, at1, rfl, rfl, by rw [List.append_nil, lastN_all (by have := hW1.rg.hh; have := hW1.rg.hn; omega)]; exact hW1, rfl, Touch.refl _ _ _⟩
    case round =>
      obtain ⟨done, rest, ring2, at2, ht, rfl, hW2, hl2, hT2⟩ := hrel
      have hrz := str_size rest
      have HHL := Lib.hid (lastN_length size (held ++ done))
      have HH := Lib.hid (show ∀ c, lastN size (held ++ (done ++ c)) = lastN size (lastN size (held ++ done) ++ c) from fun c => by rw [lastN_append, List.append_assoc])
      generalize lastN size (held ++ done) = H at *
      by_cases hr0 : 0 < rest.length
      · have kc := Blk.cell hW2.blk
        have kf := Blk.frozen hW2.blk
        simp only [winC] at kc
        have g1 := hW2.rg.hat
        have g2 := hW2.rg.hh
        have g3 := hW2.rg.hn
        have htl : done.length + rest.length = t.length := by rw [ht, List.length_append]
        obtain ⟨W', hcp, hrow, hTW⟩ := copy_str wr.drew b1 at2 (ring2.length - at2) (ring2.length - at2) ring2 rest hW2.row (by omega)
        have hml : (rest.take (min rest.length (ring2.length - at2))).length = min rest.length (ring2.length - at2) := by rw [List.length_take]; omega
        have HX := Lib.hid (extract_m rest (min rest.length (ring2.length - at2)))
        have hm1 : at2 + min rest.length (ring2.length - at2) ≤ ring2.length := by omega
        have hm2 : min rest.length (ring2.length - at2) ≤ rest.length := by omega
        have hm3 : 0 < min rest.length (ring2.length - at2) := by omega
        generalize min rest.length (ring2.length - at2) = m at *
        obtain ⟨c, hc⟩ : ∃ c, c = rest.take m := ⟨_, rfl⟩
        rw [← hc] at hrow hml
        subst hml
        have hcd : c ++ rest.drop c.length = rest := by
          have e1 : c ++ rest.drop c.length = rest.take c.length ++ rest.drop c.length := by rw [← hc]
          rw [e1, List.take_append_drop]
        have HCD := Lib.hid hcd
        clear hcd hc
        have HRM := Lib.hid hroom
        have hroom2 : Hid (H.length + c.length ≤ ring2.length ∨ ring2.length = size) := by
          rcases hroom with h | h
          · have hh := HHL.out
            rw [List.length_append] at hh
            exact Lib.hid (.inl (by omega))
          · exact Lib.hid (.inr (by omega))
        have hI1 : ((c.length : Int)) ≤ rest.length := by omega
        have hI2 : ¬ ring2.length = at2 := by omega
        have hI3 : (at2 : Int) ≤ ring2.length := by omega
        have HR := Lib.hid hrow
        have HT := Lib.hid ht
        have HG := Lib.hid (show Blk W' g _ _ from (hW2.blk.drew).touch hTW hW2.ne hW2.ne)
        have kc' := Blk.cell HG.out
        have kf' := Blk.frozen HG.out
        simp only [winC] at kc'
        have hgb : ¬ g = b1 := hW2.ne
        have hgb' : ¬ b1 = g := fun e => hW2.ne e.symm
        have HW2 := Lib.hid hW2
        have HTW := Lib.hid hTW
        have HT2 := Lib.hid hT2
        have HL2 := Lib.hid hl2
        clear hrow ht hW2 hTW hT2 hroom hl2
        by_cases hw : at2 + c.length = ring2.length
        · have hw1 : ((at2 : Int) + c.length == (ring2.length : Int)) = true := by rw [beq_iff_eq]; omega
          have Hw := Lib.hid hw
          clear hw
          go_wp2
          go_region
          go_wp2
          go_region
          go_wp2
          all_goals
            go_quiet (fail)
            go_wp2
            go_roundw
            case rel =>
              refine put_rel HW2.out hm1 hroom2.out HR.out HTW.out.wide.undrew HL2.out HT.out HCD.out (HH.out c) HT2.out (fun k => ?_) ?_ (fun k => ?_)
              · repeat (first | with_reducible exact k | refine Blk.drewN ?_ _ | refine Blk.drew ?_ | refine Blk.far ?_ hgb' _)
              · rw [if_pos Hw.out]
                refine Blk.as ((((HG.out.set_ 3 _).set_ 2 _).drewN _).set_ 2 _) ?_
                simp [winC]
                omega
              · repeat (first | with_reducible exact k | refine Touch.drewN ?_ _ | refine Touch.drew ?_ | refine Touch.set ?_ (.inl rfl) _)
            case measure => rw [HX.out]; simp only [sizeOfStr, str_size, List.length_drop]; omega
        · have hw1 : ((at2 : Int) + c.length == (ring2.length : Int)) = false := by rw [beq_eq_false_iff_ne]; omega
          have Hw := Lib.hid hw
          clear hw
          go_wp2
          go_region
          go_wp2
          go_region
          go_wp2
          all_goals
            go_quiet (fail)
            go_wp2
            go_roundw
            case rel =>
              refine put_rel HW2.out hm1 hroom2.out HR.out HTW.out.wide.undrew HL2.out HT.out HCD.out (HH.out c) HT2.out (fun k => ?_) ?_ (fun k => ?_)
              · repeat (first | with_reducible exact k | refine Blk.drewN ?_ _ | refine Blk.drew ?_ | refine Blk.far ?_ hgb' _)
              · rw [if_neg Hw.out]
                refine Blk.as ((((HG.out.set_ 3 _).set_ 2 _).drew).drewN _) ?_
                simp [winC]
                omega
              · repeat (first | with_reducible exact k | refine Touch.drewN ?_ _ | refine Touch.drew ?_ | refine Touch.set ?_ (.inl rfl) _)
            case measure => rw [HX.out]; simp only [sizeOfStr, str_size, List.length_drop]; omega
      · obtain rfl : rest = [] := List.eq_nil_of_length_eq_zero (by omega)
        go_wp2
        go_end0
        refine ⟨b1, ring2, at2, rfl, ?_, hb1, ?_, .inl (Nat.zero_le _)⟩
        · have := HH.out []
          rw [List.append_nil, List.append_nil, lastN_all (l := H) (by have := HHL.out; omega)] at this
          rw [List.append_nil] at ht
          rw [ht, this]
          exact hW2
        · exact hT1.trans hT2 hb1

theorem p_Put (g b size : Nat) (ring : List UInt8) (at_ : Nat) (held : List UInt8) (s : List UInt8) (w : World) (h : Win w g b size ring at_ held) (hs : s.length ≤ 1000000000) :
    Calls Try.prog 37 #[.pointer (some ⟨g, 0, none⟩), .string (str s)] w (GivesWin w g b size (lastN size (held ++ s)) 0) := by
  have := p_Put' g b size ring at_ held s w h hs
  rwa [lastN_append_last] at this

end Go.Proofs.Ytiohdgckmolmnaa
