/- Chapter 43 (grams): the laws GramsCount and GramsHold: by walks. -/
import Derived.Test.YtoefkkgnabjmdaaGrBuild
import Derived.Test.YtoefkkgnabjmdaaGrRef3
import Derived.Test.YtoefkkgnabjmdaaPGramsCountx2
import Derived.Test.YtoefkkgnabjmdaaPGramsCountx26
import Derived.SliceStrings
set_option linter.unusedSimpArgs false
set_option linter.unusedVariables false
set_option maxRecDepth 100000
namespace Go.Proofs.Ytoefkkgnabjmdaa
open Go.RowKit PGramsCount Go.Sort Go.Maps Go.Lib Go.Proofs.YtoefkkgnabjmdaaW.PrintWords

def K : Nat := 300000
theorem refC (l : List ByteArray) (n : Int) (hl : l.length ≤ 12) (hs : ∀ s ∈ l, s.size ≤ 60) : ∃ G, gladstoneref43_Count.f K l n = some G ∧ G.length ≤ 10000 ∧ (¬ (n < 1 ∨ 16 < n) → GoodG l n.toNat G) ∧ ∀ w e w', CountDone w l n e w' → ∃ A c, e = .returned (.slice A G.length c) ∧ G.length ≤ c ∧ Kd.C k64 w' A G.length G ∧ Below w.heap.size w w' := by
  by_cases h : n < 1 ∨ 16 < n
  · refine ⟨[], count_none l n h K (by decide), by simp, fun q => absurd h q, ?_⟩
    rintro w e w' ⟨A, c, out, rfl, hc, hk, _, hg, hb⟩
    rw [if_pos h] at hg
    subst hg
    exact ⟨A, c, rfl, hc, hk, hb⟩
  · obtain ⟨k, rfl⟩ : ∃ k : Nat, n = k := ⟨n.toNat, by omega⟩
    obtain ⟨G, g1, g2, g3⟩ := count_ok l k hl hs (by omega) (by omega) K (by decide)
    refine ⟨G, g1, g3, fun _ => by rw [Int.toNat_natCast]; exact g2, ?_⟩
    rintro w e w' ⟨A, c, out, rfl, hc, hk, _, hg, hb⟩
    rw [if_neg h, Int.toNat_natCast] at hg
    obtain rfl := g2.unique hg
    exact ⟨A, c, rfl, hc, hk, hb⟩
theorem refB (l : List ByteArray) (size n : Int) (hl : l.length ≤ 12) (hs : ∀ s ∈ l, s.size ≤ 60) : ∃ r, gladstoneref43_Build.f K l size n = some (r, bErr size n) ∧ ∀ w e w', BuildDone w l size n e w' → e = .returned (.tuple #[.string r, .int .i64 (bErr size n)]) ∧ Below w.heap.size w w' := by
  by_cases h : bErr size n = 0
  · have h' : ¬ (n < 2 ∨ 16 < n ∨ size < 0 ∨ 67108864 < size) := fun q => by unfold bErr at h; rw [if_pos q] at h; omega
    obtain ⟨k, rfl⟩ : ∃ k : Nat, n = k := ⟨n.toNat, by omega⟩
    obtain ⟨G, _, g2, g3⟩ := build_ok l size k hl hs h K (by decide)
    refine ⟨_, by rw [h]; exact g3, ?_⟩
    rintro w e w' ⟨r, rfl, _, hr, hb⟩
    obtain ⟨G', h1, _, rfl⟩ := hr h
    rw [Int.toNat_natCast] at h1
    obtain rfl := g2.unique h1
    exact ⟨rfl, hb⟩
  · have he := build_err l size n h K (by decide)
    refine ⟨⟨#[]⟩, ?_, ?_⟩
    · rw [he]; unfold bErr at h ⊢; split at h
      · rw [if_pos (by assumption)]
      · exact absurd rfl h
    · rintro w e w' ⟨r, rfl, hr, _, hb⟩
      rw [hr h]
      exact ⟨rfl, hb⟩
/-! The example. -/
def abab : ByteArray := ⟨#[97, 98, 97, 98]⟩
def l43 : List ByteArray := [abab, abab]
def g43 : List S64 := [⟨⟨#[97, 98]⟩, 4⟩, ⟨⟨#[98, 97]⟩, 2⟩]
theorem good43 : GoodG l43 2 g43 := by
  refine ⟨by decide, fun g => ⟨fun h => ?_, fun h => ?_⟩⟩
  · simp [g43] at h
    rcases h with rfl | rfl <;> decide
  · obtain ⟨h1, h2⟩ := h
    have e : rowsK l43 2 = [[97, 98], [98, 97], [97, 98], [97, 98], [98, 97], [97, 98]] := by decide
    rw [e] at h1 h2
    have h3 : T g.f0 = [97, 98] ∨ T g.f0 = [98, 97] := by
      simp only [List.mem_cons, List.not_mem_nil, or_false] at h1
      rcases h1 with h1 | h1 | h1 | h1 | h1 | h1
      · exact .inl h1
      · exact .inr h1
      · exact .inl h1
      · exact .inl h1
      · exact .inr h1
      · exact .inl h1
    rcases h3 with h3 | h3
    · rw [h3] at h2
      have : g = ⟨⟨#[97, 98]⟩, 4⟩ := s64_ext h3 h2
      rw [this]; simp [g43]
    · rw [h3] at h2
      have : g = ⟨⟨#[98, 97]⟩, 2⟩ := s64_ext h3 h2
      rw [this]; simp [g43]
theorem build43 : buildR 2 4 g43 = ⟨#[98, 97, 97, 98]⟩ := by
  apply T_inj
  decide +kernel
theorem C_strs2 (w : World) (t : TypeId) (a b : ByteArray) : Kd.C Kd.string (w.alloc (.cells #[.string a, .string b] t)) (some ⟨w.heap.size, 0, none⟩) 2 [a, b] := by
  refine ⟨rfl, by omega, fun _ => ⟨_, rfl, fun j p hp => ⟨[.string p], rfl, rfl, fun i u hu => ?_⟩⟩⟩
  have hi : i = 0 := by have := (List.getElem?_eq_some_iff.1 hu).1; simpa using this
  subst hi
  simp only [List.getElem?_cons_zero, Option.some.injEq] at hu
  subst hu
  have e1 : ((⟨w.heap.size, 0, none⟩ : Addr).add (j * 1 + 0)) = ⟨w.heap.size, j, none⟩ := by unfold Addr.add; split <;> simp_all
  show (w.alloc _).cell? ((⟨w.heap.size, 0, none⟩ : Addr).add (j * 1 + 0)) = _
  rw [e1, Blk.cell (Blk.new w t _), List.getElem?_toArray]
  match j, hp with
  | 0, hp => simp at hp; subst hp; rfl
  | 1, hp => simp at hp; subst hp; rfl
theorem cell0_below {w w' : World} {m : Int} {B : Nat} (h : w.cell? ⟨0, 0, none⟩ = some (.int .i64 m)) (h0 : 0 < B) (hb : Below B w w') : w'.cell? ⟨0, 0, none⟩ = some (.int .i64 m) := (hb.cell (show (⟨0, 0, none⟩ : Addr).block < B from h0)).trans h
theorem C_g43 (w : World) (t : TypeId) : Kd.C k64 (w.alloc (.cells #[.string ⟨#[97, 98]⟩, .int .i64 4, .string ⟨#[98, 97]⟩, .int .i64 2] t)) (some ⟨w.heap.size, 0, none⟩) 2 g43 := by
  refine C_grams (B := (w.alloc (.cells #[.string ⟨#[97, 98]⟩, .int .i64 4, .string ⟨#[98, 97]⟩, .int .i64 2] t)).heap.size) (l := g43) ⟨rfl, fun _ => ⟨_, rfl, by simp, fun j u hu => ?_⟩⟩ (by decide)
  have e1 : ((⟨w.heap.size, 0, none⟩ : Addr).add j) = ⟨w.heap.size, j, none⟩ := by unfold Addr.add; split <;> simp_all
  rw [e1, Blk.cell (Blk.new w t _), List.getElem?_toArray]
  exact hu
set_option maxHeartbeats 4000000 in
theorem awake43 (m0 : Int) (w : World) (hm : w.cell? ⟨0, 0, none⟩ = some (.int .i64 m0)) : Calls Try.prog 32 #[] w fun e w' => e = .returned (.bool true) ∧ Below w.heap.size w w' := by
  have h0 : 0 < w.heap.size := World.block_lt_of_cell? w _ hm
  have hB0 := bl_alloc (Below.refl w.heap.size w) (.cells #[.string abab, .string abab] 9)
  have r0 := C_strs2 w 9 abab abab
  have hs : ∀ s ∈ l43, s.size ≤ 60 := by decide
  have hq : 0 < (w.alloc (.cells #[.string abab, .string abab] 9)).heap.size := by simp
  have c1 := p_GBuild (some ⟨w.heap.size, 0, none⟩) 2 l43 4 2 m0 _ r0 (by decide) hs (cell0_below hm h0 hB0) hq
  go_enter Try.func32, Try.ntmps32
  go_wp2_with fail
  refine c1.mono ?_
  rintro e w1 ⟨r, rfl, _, hr, hb1⟩
  have e1 : bErr 4 2 = 0 := by decide
  obtain ⟨G, hG, _, rfl⟩ := hr e1
  obtain rfl := GoodG.unique good43 hG
  rw [show (2 : Int).toNat = 2 from rfl, build43, e1]
  have hB1 := bl_then hB0 hB0.size hb1
  have r1 := Kd.C_below r0 hb1
  have c2 := p_GBuild (some ⟨w.heap.size, 0, none⟩) 2 l43 4 1 m0 _ r1 (by decide) hs (cell0_below hm h0 hB1) (by have := hB1.size; omega)
  clear hG hr c1 hB0 r0 hq hb1
  go_wp2_with fail
  refine c2.mono ?_
  rintro e w2 ⟨r, rfl, hr, _, hb2⟩
  have e2 : bErr 4 1 = 1 := by decide
  rw [e2] at hr
  obtain rfl := hr (by decide)
  rw [e2]
  have hB2 := bl_then hB1 hB1.size hb2
  have r2 := Kd.C_below r1 hb2
  have c3 := p_GCount (some ⟨w.heap.size, 0, none⟩) 2 l43 2 _ r2 (by decide) hs
  clear hr c2 hB1 r1 hb2
  go_wp2_with fail
  refine c3.mono ?_
  rintro e w3 ⟨A3, cap3, out, rfl, hc3, hk3, _, hg3, hb3⟩
  rw [if_neg (by decide)] at hg3
  obtain rfl := GoodG.unique good43 hg3
  have hB3 := bl_then hB2 hB2.size hb3
  have r3 := Kd.C_below r2 hb3
  clear hg3 c3 hB2 r2 hb3
  go_wp2_with fail
  have rg := C_g43 w3 64
  have hA3 := bl_alloc (Below.refl w3.heap.size w3) (.cells #[.string ⟨#[97, 98]⟩, .int .i64 4, .string ⟨#[98, 97]⟩, .int .i64 2] 64)
  have c4 := gladstoneref43_Same.calls K A3 cap3 g43 (some ⟨w3.heap.size, 0, none⟩) 2 g43 true _ (Kd.C_below hk3 hA3) hc3 rg (Nat.le_refl _) (by rw [same_ok g43 g43 (by decide) K (by decide), decide_eq_true rfl])
  refine c4.mono ?_
  rintro e w4 ⟨rfl, hd4⟩
  have hB4 := bl_then hB3 hB3.size (bl_then hA3 hA3.size hd4.below)
  have r4 := Kd.C_below r3 (bl_then hA3 hA3.size hd4.below)
  have c5 := p_GCount (some ⟨w.heap.size, 0, none⟩) 2 l43 5 _ r4 (by decide) hs
  clear c4 hB3 r3 hA3 hd4 rg hk3
  go_wp2_with fail
  refine c5.mono ?_
  rintro e w5 ⟨A5, cap5, out5, rfl, _, _, _, hg5, hb5⟩
  rw [if_neg (by decide)] at hg5
  have e5 : out5 = [] := by
    cases out5 with
    | nil => rfl
    | cons x xs => exact absurd ((hg5.2 x).1 (by simp)).1 (by rw [show rowsK l43 (5 : Int).toNat = [] by decide]; simp)
  subst e5
  have hB5 := bl_then hB4 hB4.size hb5
  have r5 := Kd.C_below r4 hb5
  have c6 := p_GCount (some ⟨w.heap.size, 0, none⟩) 2 l43 0 _ r5 (by decide) hs
  clear c5 hB4 r4 hb5 hg5
  go_wp2_with fail
  refine c6.mono ?_
  rintro e w6 ⟨A6, cap6, out6, rfl, _, _, _, hg6, hb6⟩
  rw [if_pos (by decide)] at hg6
  subst hg6
  have hB6 := bl_then hB5 hB5.size hb6
  clear c6 hB5 r5 hb6
  go_wp2
  go_ret
  exact ⟨rfl, hB6⟩
set_option maxHeartbeats 4000000 in
theorem law_GramsCount (A : Option Addr) (l : List ByteArray) (c : Nat) (n size m0 : Int) (w : World) (h : Kd.C Kd.string w A l.length l) (hc : l.length ≤ c) (hm : w.cell? ⟨0, 0, none⟩ = some (.int .i64 m0)) : Calls Try.prog 10 #[.slice A l.length c, .int .i64 n, .int .i64 size] w fun e w' => e = .returned (.bool true) ∧ Below w.heap.size w w' := by
  have h0 : 0 < w.heap.size := World.block_lt_of_cell? w _ hm
  have c0 := gladstonelaw43_few.calls K A c l _ w h hc (few_ok l K (by decide))
  by_cases hf : fewP l
  · rw [decide_eq_true hf] at c0
    obtain ⟨r, hr, hR⟩ := refB l size n hf.1 hf.2
    obtain ⟨G, hG, hGl, _, hGR⟩ := refC l n hf.1 hf.2
    go_enter Try.func10, Try.ntmps10
    go_wp2_with fail
    refine c0.mono ?_
    rintro e w1 ⟨rfl, hd⟩
    have hB1 := hd.below
    have r1 := Kd.C_below h hB1
    have c1 := p_GBuild A c l size n m0 _ r1 hf.1 hf.2 (cell0_below hm h0 hB1) (by have := hB1.size; omega)
    clear hd c0 h
    go_wp2_with fail
    refine c1.mono ?_
    intro e w2 hbd
    obtain ⟨rfl, hb2⟩ := hR _ _ _ hbd
    have hB2 := bl_then hB1 hB1.size hb2
    have r2 := Kd.C_below r1 hb2
    have c2 := gladstoneref43_Build.calls K A c l size n _ _ w2 r2 hc hr
    clear hbd hb2 hB1 r1 c1 hr hR
    go_wp2_with fail
    refine c2.mono ?_
    rintro e w3 ⟨rfl, hb3⟩
    have hB3 := bl_then hB2 hB2.size hb3
    have r3 := Kd.C_below r2 hb3
    have c3 := p_GCount A c l n w3 r3 hf.1 hf.2
    clear hb3 hB2 r2 c2
    go_wp2_with fail
    refine c3.mono ?_
    intro e w4 hcd
    obtain ⟨A4, cap4, rfl, hc4, hk4, hb4⟩ := hGR _ _ _ hcd
    have hB4 := bl_then hB3 hB3.size hb4
    have r4 := Kd.C_below r3 hb4
    have c4 := gladstoneref43_Count.calls K A c l n G w4 r4 hc hG
    clear hcd hb4 hB3 r3 c3 hG hGR
    go_wp2_with fail
    refine c4.mono ?_
    rintro e w5 ⟨v5, rfl, ho5, hb5⟩
    obtain ⟨A5, cap5, rfl⟩ := Kd.R_slice ho5
    obtain ⟨_, hc5, hk5⟩ := Kd.R_reads' ho5
    have hB5 := bl_then hB4 hB4.size hb5
    have c5 := gladstoneref43_Same.calls K A4 cap4 G A5 cap5 G true w5 (Kd.C_below hk4 hb5) hc4 hk5 hc5 (by rw [same_ok G G (by omega) K (by unfold K; omega), decide_eq_true rfl])
    clear hb5 hB4 r4 c4 ho5 hk5 hk4
    go_wp2_with fail
    refine c5.mono ?_
    rintro e w6 ⟨rfl, hd6⟩
    have hB6 := bl_then hB5 hB5.size hd6.below
    have c6 := awake43 m0 w6 (cell0_below hm h0 hB6)
    clear hd6 hB5 c5
    go_wp2_with fail
    refine c6.mono ?_
    rintro e w7 ⟨rfl, hb7⟩
    have hB7 := bl_then hB6 hB6.size hb7
    clear c6 hB6 hb7
    go_wp2
    go_ret
    exact ⟨rfl, hB7⟩
  · rw [decide_eq_false hf] at c0
    go_enter Try.func10, Try.ntmps10
    go_wp2_with fail
    refine c0.mono ?_
    rintro e w1 ⟨rfl, hd⟩
    have hB1 := hd.below
    have c1 := awake43 m0 w1 (cell0_below hm h0 hB1)
    clear hd c0 h
    go_wp2_with fail
    refine c1.mono ?_
    rintro e w2 ⟨rfl, hb2⟩
    have hB2 := bl_then hB1 hB1.size hb2
    clear c1 hB1 hb2
    go_wp2
    go_ret
    exact ⟨rfl, hB2⟩
theorem build_size (n : Nat) (size : Int) (G : List S64) (hn : ∀ g ∈ G, g.f0.size = n) (h16 : n ≤ 16) : (buildR n size G).size ≤ G.length * 16 := by
  have key : ∀ (G : List S64) (out : ByteArray), (∀ g ∈ G, g.f0.size = n) → (G.foldl (bStep n size) out).size ≤ out.size + G.length * 16 := by
    intro G
    induction G with
    | nil => intro out _; simp
    | cons g G ih =>
      intro out hn
      have h1 := ih (bStep n size out g) (fun x hx => hn x (by simp [hx]))
      have h2 := bStep_size n size out g (hn g (by simp))
      rw [List.foldl_cons, List.length_cons]
      omega
  have := key G ⟨#[]⟩ hn
  rw [show (⟨#[]⟩ : ByteArray).size = 0 from rfl, Nat.zero_add] at this
  exact this
set_option maxHeartbeats 4000000 in
theorem law_GramsHold (A : Option Addr) (l : List ByteArray) (c : Nat) (k z m0 : Int) (w : World) (hk0 : 0 ≤ k) (hk1 : k ≤ 255) (hz0 : 0 ≤ z) (hz1 : z ≤ 255) (h : Kd.C Kd.string w A l.length l) (hc : l.length ≤ c) (hm : w.cell? ⟨0, 0, none⟩ = some (.int .i64 m0)) : Calls Try.prog 11 #[.slice A l.length c, .int .u8 k, .int .u8 z] w fun e w' => e = .returned (.bool true) ∧ Below w.heap.size w w' := by
  have h0 : 0 < w.heap.size := World.block_lt_of_cell? w _ hm
  have c0 := gladstonelaw43_few.calls K A c l _ w h hc (few_ok l K (by decide))
  by_cases hf : fewP l
  · rw [decide_eq_true hf] at c0
    obtain ⟨n, hn⟩ : ∃ n : Nat, n = (k % 15 + 2).toNat := ⟨_, rfl⟩
    have hn2 : 2 ≤ n := by omega
    have hn16 : n ≤ 16 := by omega
    have hkn : k % 15 + 2 = (n : Int) := by omega
    have b1 : bErr z (n : Int) = 0 := if_neg (by omega)
    have b2 : bErr 67108864 (n : Int) = 0 := if_neg (by omega)
    obtain ⟨G, hG, hGl, hgood, _⟩ := refC l n hf.1 hf.2
    have hgood := hgood (by omega)
    rw [Int.toNat_natCast] at hgood
    have HGS := Lib.hid (good_size (by omega) hgood)
    clear hn
    go_enter Try.func11, Try.ntmps11
    go_wp2_with fail
    refine c0.mono ?_
    rintro e w1 ⟨rfl, hd⟩
    have hB1 := hd.below
    have r1 := Kd.C_below h hB1
    have c1 := p_GBuild A c l z n m0 _ r1 hf.1 hf.2 (cell0_below hm h0 hB1) (by have := hB1.size; omega)
    clear hd c0 h
    go_wp2_with fail
    refine c1.mono ?_
    rintro e w2 ⟨d, rfl, _, hd2, hb2⟩
    obtain ⟨Gx, hGx, _, rfl⟩ := hd2 b1
    rw [Int.toNat_natCast] at hGx
    obtain rfl := hgood.unique hGx
    rw [Int.toNat_natCast, b1]
    have hle := build_le n z G ⟨#[]⟩ HGS.out hz0
    change ((buildR n z G).size : Int) ≤ z at hle
    generalize buildR n z G = d at *
    have hB2 := bl_then hB1 hB1.size hb2
    have r2 := Kd.C_below r1 hb2
    have c2 := p_GBuild A c l 67108864 n m0 w2 r2 hf.1 hf.2 (cell0_below hm h0 hB2) (by have := hB2.size; omega)
    clear hd2 hb2 hB1 r1 c1 hGx b1
    go_wp2_with fail
    refine c2.mono ?_
    rintro e w3 ⟨d3, rfl, _, hd3, hb3⟩
    obtain ⟨G2, hG2, hl2, rfl⟩ := hd3 b2
    rw [Int.toNat_natCast] at hG2
    obtain rfl := hgood.unique hG2
    rw [Int.toNat_natCast, b2]
    have hho := Lib.hid (build_holds n G ⟨#[]⟩ hn16 HGS.out (by rw [show (⟨#[]⟩ : ByteArray).size = 0 from rfl]; omega))
    have hsz := Lib.hid (build_size n 67108864 G HGS.out hn16)
    change Hid (∀ g ∈ G, 2 ≤ g.f1 → 0 < occ (T (buildR n 67108864 G)) (T g.f0) 0) at hho
    generalize buildR n 67108864 G = all at *
    have hB3 := bl_then hB2 hB2.size hb3
    have r3 := Kd.C_below r2 hb3
    have c3 := gladstoneref43_Count.calls K A c l n G w3 r3 hc hG
    clear hd3 hb3 hB2 r2 c2 hG2 b2 hG hgood
    go_wp2_with fail
    refine c3.mono ?_
    rintro e w4 ⟨v4, rfl, ho4, hb4⟩
    obtain ⟨A4, cap4, rfl⟩ := Kd.R_slice ho4
    obtain ⟨_, hc4, hk4⟩ := Kd.R_reads' ho4
    have hB4 := bl_then hB3 hB3.size hb4
    have HK := Lib.hid (And.intro hk4 hB4)
    clear hb4 hB3 r3 c3 ho4 hk4 hB4
    go_wp2_with fail
    go_loopw [13] (fun v13 wr => ∃ i : Nat, i ≤ G.length ∧ v13 = .int .i64 i ∧ Below w.heap.size w wr ∧ Below w4.heap.size w4 wr) (fun v13 _ => G.length - (intOf v13).toNat)
    case atStart => exact ⟨0, Nat.zero_le _, rfl, HK.out.2, Below.refl _ _⟩
    case round =>
      obtain ⟨i, hi, rfl, hbr, hb1⟩ := hrel
      have HB := Lib.hid (And.intro hbr hb1)
      by_cases hil : i < G.length
      · have hi1 : (i : Int) < (G.length : Int) := Int.ofNat_lt.2 hil
        obtain ⟨ad, rfl, hx0, hx1⟩ := at_T64 (Kd.C_below HK.out.1 hb1) (i : Int) (by omega) (by omega)
        have e0 : rd_T64 G (i : Int) = G[i] := by rw [rd64, List.getD_eq_getElem?_getD, List.getElem?_eq_getElem hil]; rfl
        rw [e0, Int.toNat_natCast] at hx0 hx1
        have hgs := HGS.out G[i] (List.getElem_mem hil)
        have HO := Lib.hid (hho.out G[i] (List.getElem_mem hil))
        clear hbr hb1 e0
        generalize G[i] = g at *
        obtain ⟨p, N⟩ := g
        simp only at hx0 hx1 hgs
        by_cases d1 : 2 ≤ N
        · obtain ⟨rr, hr1, hr2⟩ := find_ok all p (by have := hsz.out; omega) (by omega) K (by have := hsz.out; unfold K; omega)
          have hpos : 0 < rr.length := by rw [hr2]; exact HO.out d1
          have c5 := fun w => gladstoneref42_Find.calls K all p rr w hr1
          clear hr1 hr2
          go_wp2_with fail
          refine (c5 _).mono ?_
          rintro e w5 ⟨v5, rfl, ho5, hb5⟩
          obtain ⟨A5, cap5, rfl⟩ := Kd.R_slice ho5
          have hB5 := Lib.hid (And.intro (bl_then HB.out.1 HB.out.1.size hb5) (bl_then HB.out.2 HB.out.2.size hb5))
          have d2 : ((rr.length : Int) == 0) = false := by rw [beq_eq_false_iff_ne]; omega
          clear c5 ho5 hb5 hx0 hx1 HB
          go_wp2
          go_roundw
          case rel => exact ⟨i + 1, hil, by go_num, hB5.out.1, hB5.out.2⟩
          case measure => simp [intOf]; omega
        · go_wp2
          go_roundw
          case rel => exact ⟨i + 1, hil, by go_num, HB.out.1, HB.out.2⟩
          case measure => simp [intOf]; omega
      · obtain rfl : i = G.length := by omega
        have c6 := awake43 m0 wr (cell0_below hm h0 hbr)
        clear hbr hb1
        go_wp2_with fail
        refine c6.mono ?_
        rintro e w7 ⟨rfl, hb7⟩
        have hB7 := bl_then HB.out.1 HB.out.1.size hb7
        clear c6 HB hb7
        go_wp2
        go_ret
        exact ⟨rfl, hB7⟩
  · rw [decide_eq_false hf] at c0
    go_enter Try.func11, Try.ntmps11
    go_wp2_with fail
    refine c0.mono ?_
    rintro e w1 ⟨rfl, hd⟩
    have hB1 := hd.below
    have c1 := awake43 m0 w1 (cell0_below hm h0 hB1)
    clear hd c0 h
    go_wp2_with fail
    refine c1.mono ?_
    rintro e w2 ⟨rfl, hb2⟩
    have hB2 := bl_then hB1 hB1.size hb2
    clear c1 hB1 hb2
    go_wp2
    go_ret
    exact ⟨rfl, hB2⟩
theorem law_GramsCount' (A : Option Addr) (l : List ByteArray) (c : Nat) (n size : Int) (w : World) (hsh : w.ShapedOpen Try.prog) (h : Kd.C Kd.string w A l.length l) (hc : l.length ≤ c) : Calls Try.prog 10 #[.slice A l.length c, .int .i64 n, .int .i64 size] w fun e w' => e = .returned (.bool true) ∧ Below w.heap.size w w' := by
  obtain ⟨m0, hm⟩ := Try.laysM144.s1_3 w hsh
  exact law_GramsCount A l c n size m0 w h hc hm
theorem law_GramsHold' (A : Option Addr) (l : List ByteArray) (c : Nat) (k z : Int) (w : World) (hsh : w.ShapedOpen Try.prog) (hk : 0 ≤ k ∧ k ≤ 255) (hz : 0 ≤ z ∧ z ≤ 255) (h : Kd.C Kd.string w A l.length l) (hc : l.length ≤ c) : Calls Try.prog 11 #[.slice A l.length c, .int .u8 k, .int .u8 z] w fun e w' => e = .returned (.bool true) ∧ Below w.heap.size w w' := by
  obtain ⟨m0, hm⟩ := Try.laysM144.s1_3 w hsh
  exact law_GramsHold A l c k z m0 w hk.1 hk.2 hz.1 hz.2 h hc hm
end Go.Proofs.Ytoefkkgnabjmdaa
