/- Chapter 07 (pmerge): least of the reference: by a walk. -/
import Derived.Test.YtoefkkgnabjmdaaBest07
set_option linter.unusedSimpArgs false
set_option linter.unusedVariables false
set_option maxRecDepth 100000
namespace Go.Proofs.Ytoefkkgnabjmdaa
open Go.RowKit

theorem leastF_bd {limit k room : Nat} {x : Int} {g : Nat → Nat → Int} {G M : Int} (hx : 0 ≤ x ∧ x ≤ 4294967296) (hg : ∀ b r, -1 ≤ g b r ∧ g b r ≤ G) (hM : G + 4294967296 * limit ≤ M) {best : Int} (hb : -1 ≤ best ∧ best ≤ M) {n : Nat} (hn : n ≤ limit) :
    -1 ≤ leastF limit k room x g best n ∧ leastF limit k room x g best n ≤ M := by
  have h1 : 0 ≤ x * (n : Int) := Int.mul_nonneg hx.1 (by omega)
  have h2 : x * (n : Int) ≤ 4294967296 * limit := Int.le_trans (Int.mul_le_mul_of_nonneg_right hx.2 (by omega)) (Int.mul_le_mul_of_nonneg_left (by omega) (by decide))
  unfold leastF
  have := hg n (room - 2 ^ (limit - n))
  generalize g n (room - 2 ^ (limit - n)) = c at *
  split
  · exact hb
  · split <;> omega
theorem leastF_fold {limit k room : Nat} {x : Int} {g : Nat → Nat → Int} {G M : Int} (hx : 0 ≤ x ∧ x ≤ 4294967296) (hg : ∀ b r, -1 ≤ g b r ∧ g b r ≤ G) (hM : G + 4294967296 * limit ≤ M) :
    ∀ (ns : List Nat), (∀ n ∈ ns, n ≤ limit) → ∀ best : Int, -1 ≤ best → best ≤ M → -1 ≤ ns.foldl (leastF limit k room x g) best ∧ ns.foldl (leastF limit k room x g) best ≤ M
  | [], _, best, h1, h2 => ⟨h1, h2⟩
  | n :: ns, hns, best, h1, h2 => by
    have := leastF_bd hx hg hM (k := k) (room := room) ⟨h1, h2⟩ (hns n (by simp))
    exact leastF_fold hx hg hM ns (fun m hm => hns m (by simp [hm])) _ this.1 this.2
theorem leastP_bd (limit : Nat) : ∀ (l : List Int), (∀ x ∈ l, 0 ≤ x ∧ x ≤ 4294967296) → ∀ b room, -1 ≤ leastP limit l b room ∧ leastP limit l b room ≤ 4294967296 * limit * l.length
  | [], _, b, room => by unfold leastP; split <;> simp
  | x :: r, h, b, room => by
    have ih := leastP_bd limit r (fun y hy => h y (by simp [hy]))
    unfold leastP
    refine leastF_fold (h x (by simp)) ih (by rw [List.length_cons, Int.natCast_add, Int.mul_add]; omega) _ (fun n hn => ?_) _ (by omega) ?_
    · rw [List.mem_range'_1] at hn; omega
    · have : (0 : Int) ≤ 4294967296 * limit * ((x :: r).length : Nat) := Int.mul_nonneg (by omega) (by omega)
      omega
def LeastOk (w : World) (v : Value) : Ending → World → Prop := fun e w' => e = .returned v ∧ Below w.heap.size w w'
set_option maxHeartbeats 8000000 in
theorem r_least (limit : Nat) (hl1 : 1 ≤ limit) (hl8 : limit ≤ 8) : ∀ (l : List Int), (∀ x ∈ l, 0 ≤ x ∧ x ≤ 4294967296) → l.length ≤ 100000 → ∀ (A : Option Addr) (n c b room : Nat) (w : World), n = l.length → n ≤ c → ReadsI w A l → b ≤ limit → room ≤ 256 →
    Calls Try.prog 48 #[.slice A n c, .int .i64 b, .int .i64 room, .int .i64 limit] w (LeastOk w (.int .i64 (leastP limit l b room)))
  | [], _, _, A, n, c, b, room, w, hn, hnc, h, hb, hroom => by
    obtain rfl : n = 0 := hn
    by_cases h0 : room = 0
    · subst h0
      have e : leastP limit [] b 0 = 0 := rfl
      rw [e]
      clear e h
      go_enter Try.func48, Try.ntmps48
      go_wp2
      go_ret
      exact ⟨rfl, Below.refl _ _⟩
    · have e : leastP limit [] b room = -1 := if_neg h0
      rw [e]
      have hb0 : ((room : Int) == 0) = false := by rw [beq_eq_false_iff_ne]; omega
      clear e h
      go_enter Try.func48, Try.ntmps48
      go_wp2
      go_ret
      exact ⟨rfl, Below.refl _ _⟩
  | x :: r, hx, hlen, A, n, c, b, room, w, hn, hnc, h, hb, hroom => by
    obtain ⟨q, rfl⟩ : ∃ q, n = q + 1 := ⟨r.length, hn⟩
    have hq : q = r.length := by simpa using hn
    have ih := r_least limit hl1 hl8 r (fun y hy => hx y (by simp [hy])) (by simp at hlen; omega)
    have hbd := leastP_bd limit r (fun y hy => hx y (by simp [hy]))
    have hx0 := hx x (by simp)
    obtain ⟨ad, rfl, had, a0⟩ := h.at_ 0 (by simp)
    have hcut := h.cut 1 (q + 1) c (by omega) (by omega) (by omega)
    have e1 : (((x :: r).drop 1).take (q + 1 - 1)) = r := by simp [hq]
    rw [e1] at hcut
    have E : Hid (leastP limit (x :: r) b room = (List.range' b (limit + 1 - b)).foldl (leastF limit (q + 1) room x (leastP limit r)) (-1)) := Lib.hid (by rw [hq]; rfl)
    have hM : (4294967296 : Int) * limit * (r.length : Nat) + 4294967296 * limit ≤ 4000000000000000 := by
      have h1 : (4294967296 : Int) * limit ≤ 4294967296 * 8 := Int.mul_le_mul_of_nonneg_left (by omega) (by decide)
      have h2 : (4294967296 : Int) * limit * (r.length : Nat) ≤ 4294967296 * 8 * 100000 := Int.le_trans (Int.mul_le_mul_of_nonneg_right h1 (by omega)) (Int.mul_le_mul_of_nonneg_left (by simp at hlen; omega) (by decide))
      omega
    have HBD := Lib.hid (fun m (hm : m ≤ limit + 1) => leastF_fold (k := q + 1) (room := room) hx0 hbd hM (List.range' b (m - b)) (fun n hn => by rw [List.mem_range'_1] at hn; omega) (-1) (by omega) (by omega))
    have HST := Lib.hid (fun m (hm : b ≤ m) => show (List.range' b (m + 1 - b)).foldl (leastF limit (q + 1) room x (leastP limit r)) (-1) = leastF limit (q + 1) room x (leastP limit r) ((List.range' b (m - b)).foldl (leastF limit (q + 1) room x (leastP limit r)) (-1)) m by
      rw [show m + 1 - b = (m - b) + 1 by omega, List.range'_concat, List.foldl_append, Nat.one_mul, show b + (m - b) = m by omega]; rfl)
    have HH := Lib.hid (And.intro ih (And.intro hcut (And.intro (fun W (hW : Below w.heap.size w W) => (hcut.below hW)) (fun W (hW : Below w.heap.size w W) => (h.below hW).at_ 0 (by simp)))))
    rw [E.out]
    have HBDR := Lib.hid (And.intro (fun b z => show -1 ≤ leastP limit r b z ∧ leastP limit r b z ≤ 4000000000000000 from ⟨(hbd b z).1, by have := (hbd b z).2; omega⟩) hq)
    have hq2 : q ≤ 100000 := by simp at hlen; omega
    clear ih hcut e1 hM hbd hx hlen hn hq h E a0
    generalize hGG : leastP limit r = g at *
    have HGG := Lib.hid hGG
    clear hGG
    have hq0 : ((((q + 1 : Nat) : Int)) == 0) = false := by rw [beq_eq_false_iff_ne]; omega
    have hq1 : ((q : Int) + 1 == 0) = false := hq0
    go_enter Try.func48, Try.ntmps48
    go_wp2_with fail
    go_loopw [9, 10] (fun v9 v10 wr => ∃ m : Nat, b ≤ m ∧ m ≤ limit + 1 ∧ v10 = .int .i64 m ∧ v9 = .int .i64 ((List.range' b (m - b)).foldl (leastF limit (q + 1) room x g) (-1)) ∧ Below w.heap.size w wr) (fun _ v10 _ => limit + 1 - (intOf v10).toNat)
    case atStart => exact ⟨b, Nat.le_refl _, by omega, rfl, by rw [Nat.sub_self]; rfl, Below.refl _ _⟩
    case round =>
      obtain ⟨m, hm, hm2, rfl, rfl, hbr⟩ := hrel
      by_cases hml : m ≤ limit
      · have hd0 : decide ((m : Int) ≤ (limit : Int)) = true := by rw [decide_eq_true_eq]; omega
        obtain ⟨B1, B2⟩ := HBD.out m (by omega)
        have HT := Lib.hid (HST.out m hm)
        have HBR := Lib.hid hbr
        have hp : (2 : Nat) ^ (limit - m) ≤ 256 := Nat.le_trans (Nat.pow_le_pow_right (by decide) (show limit - m ≤ 8 by omega)) (by decide)
        have hp0 : 0 < (2 : Nat) ^ (limit - m) := Nat.pow_pos (by decide)
        generalize (List.range' b (m - b)).foldl (leastF limit (q + 1) room x g) (-1) = best at *
        have HF : Hid (leastF limit (q + 1) room x g best m = if room < 2 ^ (limit - m) ∨ 2 ^ (limit - m) * (q + 1) < room ∨ room < q + 1 then best
          else if 0 ≤ g m (room - 2 ^ (limit - m)) ∧ (best < 0 ∨ g m (room - 2 ^ (limit - m)) + x * m < best) then g m (room - 2 ^ (limit - m)) + x * m else best) := Lib.hid rfl
        obtain ⟨d, hd⟩ : ∃ d, d = limit - m := ⟨_, rfl⟩
        rw [← hd] at HF hp hp0
        have hw2 : IntKind.i64.wrap ((limit : Int) - (m : Int)) = d := by rw [show (limit : Int) - (m : Int) = d by omega]; exact Go.IntWalk.i64_in _ (by omega)
        have hw1 : (limit : Int) - (m : Int) = d := by omega
        have hw : wrap64 ((2 : Int) ^ d) = ((2 ^ d : Nat) : Int) := by
          have : (2 : Int) ^ d = ((2 ^ d : Nat) : Int) := by simp
          rw [this]
          unfold wrap64; omega
        have HMB := Lib.hid hm
        clear hbr hm hd
        obtain ⟨wo, rfl⟩ : ∃ wo : World, wo = wr := ⟨_, rfl⟩
        go_upto_region 9 with (fail)
        go_cut [11] (fun v11 wc => v11 = .int .i64 ((2 ^ d : Nat) : Int) ∧ wc = wo)
        case first =>
          go_wp2
          go_meet
          case rel => exact ⟨congrArg (Value.int .i64) hw, rfl⟩
        obtain ⟨rfl, rfl⟩ := hcut
        clear hw hw1 hw2
        generalize 2 ^ d = S at *
        obtain ⟨P, hP⟩ : ∃ P, P = S * (q + 1) := ⟨_, rfl⟩
        have hPb : P ≤ 25600256 := by rw [hP]; exact Nat.le_trans (Nat.mul_le_mul hp (show q + 1 ≤ 100001 by omega)) (by omega)
        have hm1 : wrap64 ((S : Int) * ((q : Int) + 1)) = (P : Int) := by
          have e : (S : Int) * ((q : Int) + 1) = (P : Int) := by rw [hP]; simp
          rw [e]
          unfold wrap64; omega
        rw [← hP] at HF
        have HP := Lib.hid hP
        clear hP
        by_cases c1 : room < S ∨ P < room ∨ room < q + 1
        · have HF2 := Lib.hid (HF.out.trans (if_pos c1))
          clear HF
          by_cases c2 : room < S
          · have d1 : decide ((room : Int) < (S : Int)) = true := decide_eq_true (Int.ofNat_lt.2 c2)
            have d1n : decide (room < S) = true := decide_eq_true c2
            clear c1
            go_wp2
            go_roundw
            case rel => exact ⟨m + 1, by have := HMB.out; omega, by omega, by go_num, by rw [HT.out, HF2.out], HBR.out⟩
            case measure => simp [intOf]; omega
          · have d1 : decide ((room : Int) < (S : Int)) = false := decide_eq_false (fun h => c2 (Int.ofNat_lt.1 h))
            have d1n : decide (room < S) = false := decide_eq_false c2
            have c4 : P < room ∨ room < q + 1 := c1.resolve_left c2
            clear c1
            by_cases c3 : P < room
            · have d2 : decide ((P : Int) < (room : Int)) = true := decide_eq_true (Int.ofNat_lt.2 c3)
              have d2n : decide (P < room) = true := decide_eq_true c3
              clear c4
              go_wp2
              go_roundw
              case rel => exact ⟨m + 1, by have := HMB.out; omega, by omega, by go_num, by rw [HT.out, HF2.out], HBR.out⟩
              case measure => simp [intOf]; omega
            · have d2 : decide ((P : Int) < (room : Int)) = false := decide_eq_false (fun h => c3 (Int.ofNat_lt.1 h))
              have d2n : decide (P < room) = false := decide_eq_false c3
              have c5 : room < q + 1 := c4.resolve_left c3
              have d3 : decide ((room : Int) < ((q : Int) + 1)) = true := decide_eq_true (Int.ofNat_lt.2 c5)
              have d3n : decide (room < q + 1) = true := decide_eq_true c5
              clear c4
              go_wp2
              go_roundw
              case rel => exact ⟨m + 1, by have := HMB.out; omega, by omega, by go_num, by rw [HT.out, HF2.out], HBR.out⟩
              case measure => simp [intOf]; omega
        · have HF2 := Lib.hid (HF.out.trans (if_neg c1))
          have c2 : ¬ room < S := fun h => c1 (.inl h)
          have c3 : ¬ P < room := fun h => c1 (.inr (.inl h))
          have c4 : ¬ room < q + 1 := fun h => c1 (.inr (.inr h))
          have d1 : decide ((room : Int) < (S : Int)) = false := decide_eq_false (fun h => c2 (Int.ofNat_lt.1 h))
          have d1n : decide (room < S) = false := decide_eq_false c2
          have d2 : decide ((P : Int) < (room : Int)) = false := decide_eq_false (fun h => c3 (Int.ofNat_lt.1 h))
          have d2n : decide (P < room) = false := decide_eq_false c3
          have d3 : decide ((room : Int) < ((q : Int) + 1)) = false := decide_eq_false (fun h => c4 (Int.ofNat_lt.1 h))
          have d3n : decide (room < q + 1) = false := decide_eq_false c4
          have hrs : (room : Int) - (S : Int) = ((room - S : Nat) : Int) := by clear hm1; omega
          have hrs2 : room - S ≤ 256 := by clear hm1; omega
          generalize hz : room - S = z at *
          have HZ := Lib.hid hz
          clear HF c1 hz
          have i1 : (1 : Int) ≤ (q : Int) + 1 := by clear hm1; omega
          have i2 : (1 : Int) ≤ (c : Int) := by clear hm1; omega
          have i3 : (q : Int) + 1 ≤ (c : Int) := by clear hm1; omega
          go_upto_region 11 with (fail)
          go_cut [12] (fun v12 wc => v12 = .int .i64 (g m z) ∧ Below w.heap.size w wc)
          case first =>
            have hrr := HH.out.2.2.1 _ HBR.out
            by_cases hc1 : c = 1
            · subst hc1
              rw [if_pos rfl] at hrr
              have i4 : (q : Int) + 1 ≤ 1 := i3
              have HQ : Hid (0 = r.length) := Lib.hid (by have := HBDR.out.2; clear hm1; omega)
              go_wp2_with fail
              refine (HH.out.1 (some ad) 0 0 m z _ HQ.out (Nat.le_refl _) hrr hml hrs2).mono ?_
              rintro e w2 ⟨rfl, hb2⟩
              have HB2 := Lib.hid (bl_then HBR.out HBR.out.size hb2)
              clear hb2
              go_wp2
              go_meet
              case rel => exact ⟨rfl, HB2.out⟩
            · rw [if_neg hc1] at hrr
              have hcc : q ≤ c - 1 := by clear hm1; omega
              go_wp2_with fail
              refine (HH.out.1 _ _ _ _ _ _ HBDR.out.2 hcc hrr hml hrs2).mono ?_
              rintro e w2 ⟨rfl, hb2⟩
              have HB2 := Lib.hid (bl_then HBR.out HBR.out.size hb2)
              clear hb2
              go_wp2
              go_meet
              case rel => exact ⟨rfl, HB2.out⟩
          obtain ⟨rfl, hcb⟩ := hcut
          obtain ⟨w2, rfl⟩ : ∃ w2 : World, w2 = wc := ⟨_, rfl⟩
          obtain ⟨g1, g2⟩ := HBDR.out.1 m z
          obtain ⟨ad', e1, _, a1⟩ := HH.out.2.2.2 w2 hcb
          obtain rfl : ad' = ad := by simpa using e1.symm
          have e0 : ad'.add 0 = ad' := by cases ad'; simp [Addr.add]
          have a2 := a1
          rw [e0] at a2
          clear e0
          have HB2 := Lib.hid hcb
          have HF3 : Hid (leastF limit (q + 1) room x g best m = if 0 ≤ g m z ∧ (best < 0 ∨ g m z + x * m < best) then g m z + x * m else best) := Lib.hid (by rw [HF2.out, ← HZ.out])
          obtain ⟨p, hp⟩ : ∃ p, p = x * (m : Int) := ⟨_, rfl⟩
          have hp1 : 0 ≤ p := by rw [hp]; exact Int.mul_nonneg hx0.1 (by omega)
          have hp2 : p ≤ 34359738368 := by rw [hp]; exact Int.le_trans (Int.mul_le_mul_of_nonneg_right hx0.2 (by omega)) (by clear hm1 hp hp1 HF2 HF3; omega)
          have hxm : wrap64 (x * (m : Int)) = p := by rw [← hp]; clear hm1; unfold wrap64; omega
          rw [← hp] at HF3
          clear HF2 hp hcb e1
          generalize g m z = cc at *
          have hsum : wrap64 (cc + p) = cc + p := by clear hm1 hxm; unfold wrap64; omega
          clear c2 c3 c4
          by_cases k1 : 0 ≤ cc
          · have k1d : decide (0 ≤ cc) = true := decide_eq_true k1
            by_cases k2 : best < 0
            · have k2d : decide (best < 0) = true := decide_eq_true k2
              have HF4 := Lib.hid (HF3.out.trans (if_pos ⟨k1, .inl k2⟩))
              clear HF3
              go_wp2
              go_roundw
              case rel => exact ⟨m + 1, by have := HMB.out; omega, by omega, by go_num, by rw [HT.out, HF4.out], HB2.out⟩
              case measure => simp [intOf]; omega
            · have k2d : decide (best < 0) = false := decide_eq_false k2
              by_cases k3 : cc + p < best
              · have k3d : decide (cc + p < best) = true := decide_eq_true k3
                have HF4 := Lib.hid (HF3.out.trans (if_pos ⟨k1, .inr k3⟩))
                clear HF3
                go_wp2
                go_roundw
                case rel => exact ⟨m + 1, by have := HMB.out; omega, by omega, by go_num, by rw [HT.out, HF4.out], HB2.out⟩
                case measure => simp [intOf]; omega
              · have k3d : decide (cc + p < best) = false := decide_eq_false k3
                have HF4 := Lib.hid (HF3.out.trans (if_neg (fun h => h.2.elim k2 k3)))
                clear HF3
                go_wp2
                go_roundw
                case rel => exact ⟨m + 1, by have := HMB.out; omega, by omega, by go_num, by rw [HT.out, HF4.out], HB2.out⟩
                case measure => simp [intOf]; omega
          · have k1d : decide (0 ≤ cc) = false := decide_eq_false k1
            have HF4 := Lib.hid (HF3.out.trans (if_neg (fun h => k1 h.1)))
            clear HF3
            go_wp2
            go_roundw
            case rel => exact ⟨m + 1, by have := HMB.out; omega, by omega, by go_num, by rw [HT.out, HF4.out], HB2.out⟩
            case measure => simp [intOf]; omega
      · have hd0 : decide ((m : Int) ≤ (limit : Int)) = false := by rw [decide_eq_false_iff_not]; omega
        obtain rfl : m = limit + 1 := by omega
        go_wp2
        go_ret
        exact ⟨rfl, hbr⟩

end Go.Proofs.Ytoefkkgnabjmdaa
