/- Chapter 07 (pmerge): Lengths of two symbols and more: by a walk. -/
import Derived.Test.YtoefkkgnabjmdaaHuff
import Derived.Test.YtoefkkgnabjmdaaLens1
import Derived.Test.YtoefkkgnabjmdaaSortB
set_option linter.unusedSimpArgs false
set_option linter.unusedVariables false
set_option maxRecDepth 100000
namespace Go.Proofs.Ytoefkkgnabjmdaa
open Go.RowKit

def bumpS (out : List Int) (s : Int) : List Int := out.set s.toNat (out.getD s.toNat 0 + 1)
def bumpAll (out : List Int) (ks : List Coin) : List Int := ks.foldl (fun o p => p.2.foldl bumpS o) out
theorem bumpS_length (out : List Int) (s : Int) : (bumpS out s).length = out.length := by simp [bumpS]
theorem bumps_length : ∀ (l : List Int) (out : List Int), (l.foldl bumpS out).length = out.length
  | [], _ => rfl
  | s :: l, out => by rw [List.foldl_cons, bumps_length l, bumpS_length]
theorem bumpAll_length : ∀ (ks : List Coin) (out : List Int), (bumpAll out ks).length = out.length
  | [], _ => rfl
  | p :: ks, out => by
    show (bumpAll (p.2.foldl bumpS out) ks).length = _
    rw [bumpAll_length ks, bumps_length]
theorem bumpAll_snoc (ks : List Coin) (p : Coin) (out : List Int) : bumpAll out (ks ++ [p]) = p.2.foldl bumpS (bumpAll out ks) := by simp [bumpAll]
theorem bumpS_bd {out : List Int} {B : Nat} (h : ∀ s : Nat, 0 ≤ out.getD s 0 ∧ out.getD s 0 ≤ B) (x : Int) : ∀ s : Nat, 0 ≤ (bumpS out x).getD s 0 ∧ (bumpS out x).getD s 0 ≤ (B + 1 : Nat) := by
  intro s
  have h1 := h s
  have h2 := h x.toNat
  unfold bumpS
  simp only [List.getD_eq_getElem?_getD, List.getElem?_set] at *
  by_cases e : x.toNat = s
  · rw [if_pos e]
    split
    · simp only [Option.getD_some]; omega
    · simp only [Option.getD_none]; omega
  · rw [if_neg e]; omega
instance (D : List Nat) (limit : Int) (n : Nat) : Decidable (within D limit n) := inferInstanceAs (Decidable (∀ i, i < n → (D.getD i 0 : Int) ≤ limit))
/-- The lengths, out of the symbols that occur, by rising frequencies. -/
def lensOf (ks : List Coin) (many : Nat) (limit : Int) : List Int :=
  if within (depthsH (ks.map (·.1))) limit ks.length then layTo ks (depthsH (ks.map (·.1))) (zeros many) ks.length
  else bumpAll (zeros many) ((levelK ks (limit.toNat - 1)).take (2 * ks.length - 2))

theorem coinKeys_pos : ∀ (s : Nat) (l : List Int), ∀ x ∈ coinKeys s l, 0 < x.1
  | _, [], x, h => by cases h
  | s, f :: l, x, h => by
    unfold coinKeys at h
    split at h
    · rcases List.mem_cons.1 h with rfl | h
      · assumption
      · exact coinKeys_pos _ l x h
    · exact coinKeys_pos _ l x h
/-- What every item of a level has. -/
theorem levelK_bd (first : List Coin) (many : Nat) (hc : ∀ p ∈ first, 0 ≤ p.1 ∧ p.1 ≤ 4294967295) (hs : ∀ p ∈ first, 1 ≤ p.2.length ∧ p.2.length ≤ 1) (hm : ∀ p ∈ first, ∀ s ∈ p.2, 0 ≤ s ∧ s < many) :
    ∀ j, ∀ p ∈ levelK first j, 0 ≤ p.1 ∧ p.1 ≤ 4294967295 * 2 ^ j ∧ 1 ≤ p.2.length ∧ p.2.length ≤ 2 ^ j ∧ ∀ s ∈ p.2, 0 ≤ s ∧ s < many
  | 0 => fun p hp => ⟨(hc p hp).1, by simpa using (hc p hp).2, (hs p hp).1, by simpa using (hs p hp).2, hm p hp⟩
  | j + 1 => by
    intro p hp
    have ih := levelK_bd first many hc hs hm j
    have hj : (1 : Int) ≤ 2 ^ j := by
      have : (2 : Int) ^ j = ((2 ^ j : Nat) : Int) := by simp
      rw [this]
      have : 0 < 2 ^ j := Nat.pow_pos (by decide)
      omega
    have hjn : 1 ≤ 2 ^ (j + 1) := Nat.pow_pos (by decide)
    have hj2 : (2 : Int) ^ (j + 1) = 2 * 2 ^ j := by rw [Int.pow_succ]; omega
    rcases List.mem_append.1 ((mergeK_perm first (pairK (levelK first j))).mem_iff.1 hp) with h | h
    · refine ⟨(hc p h).1, ?_, (hs p h).1, Nat.le_trans (hs p h).2 hjn, hm p h⟩
      have := (hc p h).2
      rw [hj2]
      omega
    · have key : ∀ (l : List Coin), (∀ q ∈ l, 0 ≤ q.1 ∧ q.1 ≤ 4294967295 * 2 ^ j ∧ 1 ≤ q.2.length ∧ q.2.length ≤ 2 ^ j ∧ ∀ s ∈ q.2, 0 ≤ s ∧ s < (many : Int)) → ∀ q ∈ pairK l, 0 ≤ q.1 ∧ q.1 ≤ 4294967295 * 2 ^ (j + 1) ∧ 1 ≤ q.2.length ∧ q.2.length ≤ 2 ^ (j + 1) ∧ ∀ s ∈ q.2, 0 ≤ s ∧ s < (many : Int) := by
        intro l
        induction l using pairK.induct with
        | case1 a b r ih2 =>
          intro hl q hq
          simp only [pairK, List.mem_cons] at hq
          rcases hq with rfl | hq
          · have ha := hl a (by simp)
            have hb := hl b (by simp)
            refine ⟨by simp only; omega, by simp only; rw [hj2]; omega, by simp; omega, by simp only [List.length_append]; rw [Nat.pow_succ]; omega, fun s hs => ?_⟩
            simp only [List.mem_append] at hs
            rcases hs with hs | hs
            · exact ha.2.2.2.2 s hs
            · exact hb.2.2.2.2 s hs
          · exact ih2 (fun q hq => hl q (by simp [hq])) q hq
        | case2 l hl2 =>
          intro _ q hq
          match l, hl2 with
          | [], _ => simp [pairK] at hq
          | [a], _ => simp [pairK] at hq
          | a :: b :: r, h => exact absurd rfl (h a b r)
      exact key _ ih p h

theorem PRow.some {w : World} {base : Nat} {v : Value} {l : List Pe} (h : PRow w base v l) (hl : l ≠ []) : ∃ g o c, v = .slice (some ⟨g, o, none⟩) l.length c ∧ l.length ≤ c ∧ base ≤ g ∧ g < w.heap.size := by
  obtain ⟨_, h1⟩ := h.row
  rcases h1 with ⟨_, h2⟩ | ⟨g, o, cap, cur, m, hv, hb, k1, k2, _⟩
  · exact absurd (List.length_eq_zero_iff.1 h2) hl
  · exact ⟨g, o, cap, hv, k2, hb, heap_lt k1⟩
/-- What Lengths gives. -/
def LensDone (w : World) (many : Nat) (L : List Int) (e : Ending) (w' : World) : Prop :=
  ∃ b, e = .returned (.tuple #[.slice (some ⟨b, 0, none⟩) many many, .int .i64 0]) ∧ BI w' b L ∧ w.heap.size ≤ b ∧ Below w.heap.size w w'

set_option maxHeartbeats 16000000 in
theorem p_Lengths_many (A : Option Addr) (c : Nat) (f : List Int) (limit : Int) (w : World) (h : ReadsI w A f) (hl : f.length ≤ 1024) (hc : chkPm f limit = 0) (hu : 2 ≤ usedN f) (first : List Coin)
    (hfirst : ∀ l : List Pe, l.map Pe.key = coinKeys 0 f → (stableL l).map Pe.key = first) (hperm : List.Perm first (coinKeys 0 f)) (hlim : 1 ≤ limit ∧ limit ≤ 16) (hfb : ∀ x ∈ f, x ≤ 4294967295) (hen : usedN f ≤ 2 ^ limit.toNat) :
    Calls Try.prog 13 #[.slice A f.length c, .int .i64 limit] w (LensDone w f.length (lensOf first f.length limit)) := by
  have hn : first.length = usedN f := by rw [hperm.length_eq, coinKeys_length]
  obtain ⟨m, rfl⟩ : ∃ m : Nat, limit = (m : Int) := ⟨limit.toNat, by omega⟩
  rw [Int.toNat_natCast] at hen
  obtain ⟨n, hnn⟩ : ∃ n, n = first.length := ⟨_, rfl⟩
  have hn2 : 2 ≤ n := by omega
  have hn3 : n ≤ 1024 := by rw [hnn, hn]; exact Nat.le_trans (usedN_le f) hl
  have hcoin : ∀ p ∈ first, ∃ i : Nat, i < f.length ∧ p = (f.getD i 0, [(i : Int)]) ∧ 0 < p.1 := fun p hp => by
    have hp' := hperm.mem_iff.1 hp
    obtain ⟨i, hi, rfl⟩ := coinKeys_mem 0 f p hp'
    refine ⟨i, hi, by rw [Nat.zero_add], ?_⟩
    exact coinKeys_pos 0 f _ hp'
  have hfc : ∀ p ∈ first, 0 ≤ p.1 ∧ p.1 ≤ 4294967295 := fun p hp => by
    obtain ⟨i, hi, e, h0⟩ := hcoin p hp
    refine ⟨by omega, ?_⟩
    rw [e]
    show f.getD i 0 ≤ _
    rw [List.getD_eq_getElem?_getD, List.getElem?_eq_getElem hi]
    exact hfb _ (List.getElem_mem hi)
  have hbd := levelK_bd first f.length hfc (fun p hp => by obtain ⟨i, hi, e, _⟩ := hcoin p hp; rw [e]; simp) (fun p hp s hs => by
    obtain ⟨i, hi, e, _⟩ := hcoin p hp
    rw [e] at hs
    simp only [List.mem_singleton] at hs
    subst hs
    omega)
  have henough := level_enough first (m - 1) (by rw [hn, show m - 1 + 1 = m by omega]; exact hen)
  have hmk := fun w => run_zeros w f.length (by omega)
  have HU := Lib.hid hu
  have hB1 := bl_alloc (Below.refl w.heap.size w) (.cells (ivals (zeros f.length)).toArray 3)
  have hk1 := Blk.new w 3 (ivals (zeros f.length)).toArray
  have h1 := h.below hB1
  have HF := Lib.hid hfirst
  have HP := Lib.hid hperm
  have HC := Lib.hid (And.intro hcoin (And.intro hfc (And.intro hbd henough)))
  have HN := Lib.hid (And.intro hnn hn)
  clear hu hfirst hperm hcoin hfc hbd henough hn hnn hfb hen
  go_enter Try.func13, Try.ntmps13
  go_wp2_with fail
  refine (p_PmCheck A c f (m : Int) w h (by omega)).mono ?_
  rintro e w' ⟨rfl, rfl⟩
  rw [hc]
  clear hc h
  go_wp2_with fail
  clear hmk
  refine (p_coins stableL 1024 (sorts_stable 1024 (by omega)) stableL_length A c f _ h1 hl (Nat.le_trans (usedN_le f) hl)).mono ?_
  rintro e w1 ⟨B, c', l, hkey, hsl, rfl, hrow, hb1⟩
  have hks := HF.out l hkey
  have hll : l.length = n := by
    have := congrArg List.length hkey
    rw [List.length_map, coinKeys_length] at this
    rw [this, HN.out.1, HN.out.2]
  rw [hll] at hrow hsl
  rw [hll]
  generalize stableL l = fl at *
  obtain ⟨g, o, c2, hv, hc2, hg1, hg2⟩ := PRow.some hrow (by intro h0; rw [h0] at hsl; simp at hsl; omega)
  simp only [Value.slice.injEq] at hv
  obtain ⟨rfl, hnx, rfl⟩ := hv
  clear hnx
  have hz1 := hb1.size
  rw [World.size_alloc] at hz1 hg1 hrow
  have hk2 := hk1.below hb1 hk1.lt
  have HB1 := Lib.hid (bl_then hB1 hB1.size hb1)
  have HK2 := Lib.hid hk2
  have HROW := Lib.hid hrow
  have HKS := Lib.hid hks
  have HSL := Lib.hid hsl
  have hcf : ∀ p ∈ fl, 0 ≤ p.cost ∧ p.cost ≤ 4294967295 := fun p hp => HC.out.2.1 (p.cost, p.syms) (by rw [← hks]; exact List.mem_map_of_mem hp)
  have hsf : ∀ p ∈ fl, ∃ s : Nat, p.syms = [(s : Int)] ∧ s < f.length := fun p hp => by
    obtain ⟨i, hi, e, _⟩ := HC.out.1 (p.cost, p.syms) (by rw [← hks]; exact List.mem_map_of_mem hp)
    simp only [Prod.mk.injEq] at e
    exact ⟨i, e.2, hi⟩
  have q := p_short (w.heap.size + 1) g o _ fl n hn2 (by omega) f.length (by omega) (m : Int) w1 hrow hcf hsf
  have HCF := Lib.hid (And.intro hcf hsf)
  clear hk1 hk2 hrow hks hkey hll hsl hcf hsf hb1 hB1 h1
  go_wp2_with fail
  refine q.mono ?_
  rintro e w2 ⟨hb2, hq⟩
  clear q
  rw [HKS.out] at hq
  rcases hq with ⟨hno, rfl⟩ | ⟨hyes, b, rfl, hbi, hwb⟩
  · have HY : Hid (lensOf first f.length (m : Int) = bumpAll (zeros f.length) ((levelK first (m - 1)).take (2 * n - 2))) := Lib.hid (by
      rw [HN.out.1]
      exact (if_neg hno).trans (by rw [Int.toNat_natCast]))
    have hrow2 := HROW.out.below hb2
    have hk3 := HK2.out.below hb2 HK2.out.lt
    have HB2 := Lib.hid (bl_then HB1.out HB1.out.size hb2)
    have HROW2 := Lib.hid hrow2
    have HK3 := Lib.hid hk3
    have hz2 : w.heap.size + 1 ≤ w2.heap.size := Nat.le_trans hz1 hb2.size
    have q1 : IntKind.i64.wrap ((m : Int) - 1) = ((m - 1 : Nat) : Int) := by rw [show (m : Int) - 1 = ((m - 1 : Nat) : Int) by omega]; exact Go.IntWalk.i64_in _ (by omega)
    have hgw2 := hrow2.g_lt.2
    clear hno hb2 hrow2 hk3
    go_wp2_with fail
    go_loopw [12, 53] (fun v12 v53 wr => ∃ (t nl : Nat) (lv : List Pe) (g1 o1 c1 : Nat), t ≤ m - 1 ∧ v53 = .int .i64 t ∧ v12 = .slice (some ⟨g1, o1, none⟩) nl c1 ∧ PRow wr (w.heap.size + 1) (.slice (some ⟨g1, o1, none⟩) nl c1) lv ∧ lv.map Pe.key = levelK first t ∧ Below w2.heap.size w2 wr) (fun _ v53 _ => m - (intOf v53).toNat)
    case atStart => exact ⟨0, n, fl, g, o, c', Nat.zero_le _, rfl, rfl, HROW2.out, HKS.out, Below.refl _ _⟩
    case round =>
      obtain ⟨t, nl, lv, g1, o1, c1, ht, rfl, rfl, hlv, hkv, hbr⟩ := hrel
      have hnl := hlv.len_
      have hlev := levelK_length first t
      have hll : lv.length = (levelK first t).length := by rw [← hkv, List.length_map]
      have hbds : ∀ p ∈ lv, _ := fun p hp => HC.out.2.2.1 t (p.cost, p.syms) (by rw [← hkv]; exact List.mem_map_of_mem hp)
      have hpw : 2 ^ t ≤ 2 ^ 15 := Nat.pow_le_pow_right (by decide) (by omega)
      have hpwI : (2 : Int) ^ t ≤ 32768 := by
        have e : (2 : Int) ^ t = ((2 ^ t : Nat) : Int) := by simp
        rw [e]; omega
      have hn' := HN.out.1
      have hnl2 : nl ≤ 2048 := by omega
      have hzr : w.heap.size + 1 ≤ wr.heap.size := Nat.le_trans hz2 hbr.size
      by_cases htm : t < m - 1
      · have q1 := p_pairs (w.heap.size + 1) g1 o1 c1 nl lv (by omega) wr hlv hzr (fun p hp => by
          have := hbds p hp
          simp only at this
          refine ⟨this.1, ?_⟩
          omega) (fun p hp => by
          have := hbds p hp
          simp only at this
          omega)
        have HLV := Lib.hid (And.intro hlv (And.intro hkv hnl))
        have HBR := Lib.hid hbr
        have hrf : PRow wr (w.heap.size + 1) (.slice (some ⟨g, o, none⟩) n c') fl := HROW2.out.below hbr
        have HRF := Lib.hid hrf
        clear hlv hkv hnl hlev hll hbds hpw hpwI hn' hbr hrf
        go_wp2_with fail
        refine q1.mono ?_
        rintro e w3 ⟨v, l2, rfl, hr2, hk2, hb3⟩
        clear q1
        obtain ⟨B2, cb, hv2, hcb⟩ := Row.slice hr2.row
        subst hv2
        have hl2 : l2.length ≤ 2048 := by
          have := congrArg List.length hk2
          rw [List.length_map, pairK_length, List.length_map] at this
          have := HLV.out.2.2
          omega
        have q2 := p_merged (w.heap.size + 1) (some ⟨g, o, none⟩) B2 n l2.length c' cb fl l2 w3 (HRF.out.below hb3) (hr2.mono hzr) (Nat.le_trans hzr hb3.size) (by rw [HSL.out]; omega) (by omega)
        have HK2' := Lib.hid hk2
        have HB3 := Lib.hid hb3
        clear hr2 hcb hk2 hb3
        go_wp2_with fail
        refine q2.mono ?_
        rintro e w4 ⟨v4, l4, rfl, hr4, hk4, _, hb4⟩
        clear q2
        have HBW := Lib.hid (bl_then (bl_then HBR.out HBR.out.size HB3.out) (Nat.le_trans HBR.out.size HB3.out.size) hb4)
        have hk4' : l4.map Pe.key = levelK first (t + 1) := by rw [hk4, HKS.out, HK2'.out, HLV.out.2.1]; rfl
        obtain ⟨g4, o4, c4, rfl, hc4, hg4, _⟩ := PRow.some hr4 (by
          intro h0
          rw [h0, List.map_nil] at hk4'
          have := congrArg List.length hk4'
          have h5 := levelK_length first (t + 1)
          simp only [List.length_nil] at this
          have h6 : (levelK first (t + 1)).length = first.length + (pairK (levelK first t)).length := mergeK_length _ _
          have := HN.out.1
          omega)
        have HK4 := Lib.hid hk4'
        have HR4 := Lib.hid hr4
        clear hk4 hk4' hr4 hb4 hc4 hg4
        go_wp2
        go_roundw
        case rel => exact ⟨t + 1, l4.length, l4, g4, o4, c4, by omega, by go_num, rfl, HR4.out, HK4.out, HBW.out⟩
        case measure => simp [intOf]; omega
      · obtain rfl : t = m - 1 := by omega
        obtain ⟨N2, hN2⟩ : ∃ N2, N2 = 2 * n - 2 := ⟨_, rfl⟩
        have q2 : IntKind.i64.wrap (2 * (n : Int)) = 2 * n := Go.IntWalk.i64_in _ (by omega)
        have q3 : IntKind.i64.wrap (2 * (n : Int) - 2) = N2 := by rw [show 2 * (n : Int) - 2 = N2 by omega]; exact Go.IntWalk.i64_in _ (by omega)
        have q4 : 2 * (n : Int) - 2 = N2 := by omega
        have hN3 : N2 ≤ nl := by
          have := HC.out.2.2.2
          omega
        obtain ⟨_, hc1, _⟩ := hlv.readsP
        have q5 : (N2 : Int) ≤ (c1 : Int) := by omega
        have q6 : (0 : Int) ≤ (N2 : Int) := by omega
        have HN2 := Lib.hid hN2
        have hN4 : N2 ≤ 2048 := by omega
        have hkO := HK3.out.below hbr HK3.out.lt
        have HLV := Lib.hid (And.intro hlv (And.intro hkv hnl))
        have HBW := Lib.hid (bl_then HB2.out HB2.out.size hbr)
        have HKO := Lib.hid hkO
        have HBD : Hid (∀ p ∈ lv, 1 ≤ p.syms.length ∧ p.syms.length ≤ 32768 ∧ ∀ s ∈ p.syms, 0 ≤ s ∧ s < (f.length : Int)) := Lib.hid (fun p hp => by
          have := hbds p hp
          simp only at this
          exact ⟨this.2.2.1, by omega, this.2.2.2.2⟩)
        have hg1 := hlv.g_lt
        clear hlv hkv hnl hlev hll hbds hpw hpwI hn' hbr hkO hN2
        go_wp2_with fail
        obtain ⟨wl, rfl⟩ : ∃ wl : World, wl = wr := ⟨_, rfl⟩
        go_loopw [68] (fun v68 wr => ∃ i : Nat, i ≤ N2 ∧ v68 = .int .i64 i ∧ BI wr w.heap.size (bumpAll (zeros f.length) ((lv.take i).map Pe.key)) ∧ wl.grownBy wr (some w.heap.size) ∧ (∀ s : Nat, 0 ≤ (bumpAll (zeros f.length) ((lv.take i).map Pe.key)).getD s 0 ∧ (bumpAll (zeros f.length) ((lv.take i).map Pe.key)).getD s 0 ≤ (32768 * i : Nat))) (fun v68 _ => N2 - (intOf v68).toNat)
        case atStart =>
          refine ⟨0, Nat.zero_le _, rfl, HKO.out, grown_refl _ _, fun s => ?_⟩
          simp only [List.take_zero, List.map_nil, bumpAll, List.foldl_nil, zeros, List.getD_eq_getElem?_getD, List.getElem?_replicate]
          split <;> simp
        case round =>
          obtain ⟨i, hi, rfl, ho, hgr, hob⟩ := hrel
          have hszw := hgr.size
          by_cases hiN : i < N2
          · have hnl := HLV.out.2.2
            obtain ⟨a1, a2, _, _⟩ := HLV.out.1.at_ i (by omega)
            have hSr := HLV.out.1.syms lv[i] (List.getElem_mem (by omega))
            obtain ⟨hb1, hb2, hb3⟩ := HBD.out lv[i] (List.getElem_mem (by omega))
            obtain ⟨A2, c5, e5, hcc, hrs⟩ := RowI.slice hSr
            have hAo : ∀ ad, A2 = some ad → w.heap.size + 1 ≤ ad.block := fun ad had => by
              subst had
              exact (hSr.lt ad.block (by rw [e5]; rfl)).1
            rw [e5] at a2
            have HT : Hid (bumpAll (zeros f.length) ((lv.take (i + 1)).map Pe.key) = lv[i].syms.foldl bumpS (bumpAll (zeros f.length) ((lv.take i).map Pe.key))) := Lib.hid (by
              rw [List.take_succ_eq_append_getElem (by omega), List.map_append, List.map_cons, List.map_nil, bumpAll_snoc]; rfl)
            have hcg : ∀ q, wr.cell? ⟨g1, q, none⟩ = wl.cell? ⟨g1, q, none⟩ := fun q => World.cell?_of_block (hgr.block g1 hg1.2 (by simp; omega))
            have b1 := (hcg _).trans a1
            have b2 := (hcg _).trans a2
            have HOB := Lib.hid hob
            have hol := ho.lt
            have hgw : g1 < wr.heap.size := by omega
            have hbl : (bumpAll (zeros f.length) ((lv.take i).map Pe.key)).length = f.length := by rw [bumpAll_length, zeros_length]
            generalize hX : lv[i].cost = X at *
            generalize hSS : lv[i].syms = SS at *
            generalize bumpAll (zeros f.length) ((lv.take i).map Pe.key) = OUT at *
            have HO := Lib.hid ho
            have HGR := Lib.hid hgr
            have HRS := Lib.hid hrs
            have HAO := Lib.hid hAo
            have HB3 := Lib.hid hb3
            have HBL := Lib.hid hbl
            clear ho hgr hrs hcg hob hX hSS hSr e5 a1 a2 hcc hnl hAo hb3 hbl
            go_wp2_with fail
            obtain ⟨wo, rfl⟩ : ∃ wo : World, wo = wr := ⟨_, rfl⟩
            have HG1 := Lib.hid (only_alloc HGR.out (.cells #[.int .i64 X, .slice A2 SS.length c5] 71))
            have HO1 := Lib.hid (HO.out.alloc (.cells #[.int .i64 X, .slice A2 SS.length c5] 71))
            clear b1 b2
            go_loopw [16, 75] (fun _ v75 wr => ∃ j : Nat, j ≤ SS.length ∧ v75 = .int .i64 j ∧ BI wr w.heap.size ((SS.take j).foldl bumpS OUT) ∧ wl.grownBy wr (some w.heap.size) ∧ (∀ s : Nat, 0 ≤ ((SS.take j).foldl bumpS OUT).getD s 0 ∧ ((SS.take j).foldl bumpS OUT).getD s 0 ≤ (32768 * i + j : Nat))) (fun _ v75 _ => SS.length - (intOf v75).toNat)
            case atStart => exact ⟨0, Nat.zero_le _, rfl, HO1.out, HG1.out, HOB.out⟩
            case round =>
              obtain ⟨j, hj, rfl, ho, hgr, hob⟩ := hrel
              by_cases hjl : j < SS.length
              · obtain ⟨ad, rfl, had, hac⟩ := HRS.out.at_ j hjl
                have haB := HAO.out ad rfl
                have hac2 : wr.cell? (ad.add j) = some (.int .i64 SS[j]) := (World.cell?_of_block (hgr.block (ad.add j).block (by rw [block_of_add]; exact had) (by rw [block_of_add]; simp; omega))).trans hac
                obtain ⟨s0, s1⟩ := HB3.out SS[j] (List.getElem_mem hjl)
                have HT2 : Hid ((SS.take (j + 1)).foldl bumpS OUT = bumpS ((SS.take j).foldl bumpS OUT) SS[j]) := Lib.hid (by
                  rw [List.take_succ_eq_append_getElem hjl, List.foldl_append]; rfl)
                have hbl2 : ((SS.take j).foldl bumpS OUT).length = f.length := by rw [bumps_length, HBL.out]
                generalize SS[j] = S at *
                obtain ⟨s, rfl⟩ := Int.eq_ofNat_of_zero_le s0
                generalize (SS.take j).foldl bumpS OUT = OUT2 at *
                have k1 := ho.at_ s (by omega)
                have k2 := Blk.frozen ho s
                have hvb := hob s
                have hset := ho.setInt s (OUT2.getD s 0 + 1)
                have HOB2 := Lib.hid (bumpS_bd hob (s : Int))
                have HSET : Hid (BI (wr.setCell ⟨w.heap.size, s, none⟩ (.int .i64 (OUT2.getD s 0 + 1))) w.heap.size (bumpS OUT2 (s : Int))) := Lib.hid (by
                  unfold bumpS
                  rw [Int.toNat_natCast]
                  exact hset)
                generalize OUT2.getD s 0 = V at *
                have hol2 := ho.lt
                have HGR2 := Lib.hid (only_setCell hgr (p := ⟨w.heap.size, s, none⟩) (.inl rfl) (.int .i64 (V + 1)))
                obtain ⟨v1, v2⟩ := hvb
                have v3 : V ≤ 4294967296 := by omega
                clear hset ho hgr hob hac hbl2
                go_wp2
                go_roundw
                case rel => exact ⟨j + 1, by omega, by go_num, by rw [HT2.out]; exact HSET.out, HGR2.out, by rw [HT2.out]; exact HOB2.out⟩
                case measure => simp [intOf]; omega
              · obtain rfl : j = SS.length := by omega
                rw [List.take_length] at ho hob
                have HO2 := Lib.hid ho
                have HGR2 := Lib.hid hgr
                have HOB2 := Lib.hid hob
                clear ho hgr hob
                go_wp2
                go_roundw
                case rel =>
                  refine ⟨i + 1, by omega, by go_num, by rw [HT.out]; exact HO2.out, HGR2.out, fun s => ?_⟩
                  rw [HT.out]
                  have := HOB2.out s
                  omega
                case measure => simp [intOf]; omega
          · obtain rfl : i = N2 := by omega
            have HO := Lib.hid ho
            have HGR := Lib.hid hgr
            have HFIN : Hid (bumpAll (zeros f.length) ((lv.take i).map Pe.key) = lensOf first f.length (m : Int)) := Lib.hid (by
              rw [HY.out, ← HLV.out.2.1, List.map_take, ← HN2.out])
            clear ho hgr hob
            go_wp2
            go_ret2
            exact ⟨w.heap.size, rfl, by rw [← HFIN.out]; exact HO.out, Nat.le_refl _, HBW.out.grown HGR.out HBW.out.size (fun j hj => by simp at hj; omega)⟩
  · have HY : Hid (lensOf first f.length (m : Int) = layTo first (depthsH (first.map (·.1))) (zeros f.length) first.length) := Lib.hid (if_pos hyes)
    have HBI := Lib.hid hbi
    have HB2 := Lib.hid hb2
    clear hyes hbi hb2
    go_wp2
    go_ret2
    exact ⟨b, rfl, by rw [HY.out]; exact HBI.out, by omega, bl_then HB1.out HB1.out.size HB2.out⟩

end Go.Proofs.Ytoefkkgnabjmdaa
