/- Chapter 24's example: by a walk. -/
import Derived.Test.YtoefkkgnabjmdaaCount5
set_option linter.unusedSimpArgs false
set_option linter.unusedVariables false
set_option maxRecDepth 100000
namespace Go.Proofs.Ytoefkkgnabjmdaa
open Go.RowKit

theorem reads_toks (w : World) (l : List Tok) (t : TypeId) : ReadsT (w.alloc (.cells (tvals l).toArray t)) (some ⟨w.heap.size, 0, none⟩) l :=
  ⟨tvals_length l, fun _ => ⟨_, rfl, by simp, fun j u hu => by
    have e1 : ((⟨w.heap.size, 0, none⟩ : Addr).add j) = ⟨w.heap.size, j, none⟩ := by unfold Addr.add; split <;> simp_all
    rw [e1, cell_of_row _ _ j _ _ (0, 0) (heap_alloc_new w _), List.getElem?_toArray]
    exact hu⟩⟩
def p24m : List Int := pricesOf one24 401
def p24d : List Int := pricesOf [] 52
theorem p24m_len : p24m.length = 401 := pricesOf_length _ _
theorem p24d_len : p24d.length = 52 := pricesOf_length _ _
theorem priceOf_bd (l : List Int) (i : Nat) : 1 ≤ priceOf l i ∧ priceOf l i ≤ 16 := by
  unfold priceOf codeOk
  split
  · rename_i h; rw [decide_eq_true_eq] at h; omega
  · omega
theorem pricesOk_of (l : List Int) (n : Nat) : pricesOk (pricesOf l n) := by
  intro x hx
  obtain ⟨i, _, rfl⟩ := List.mem_map.1 hx
  have := priceOf_bd l i
  omega
theorem chkE24 : chkE p24m p24d = 0 := by
  unfold chkE
  rw [if_neg (by rw [p24m_len, p24d_len]; decide), if_pos ⟨pricesOk_of _ _, pricesOk_of _ _⟩]
theorem cell_at {w : World} {b : Nat} {l : List Int} (h : ReadsI w (some ⟨b, 0, none⟩) l) (i : Nat) (z : Int) (hz : l[i]? = some z) : w.cell? ⟨b, i, none⟩ = some (.int .i64 z) := by
  obtain ⟨hi, hz⟩ := List.getElem?_eq_some_iff.1 hz
  obtain ⟨ad, h1, _, h2⟩ := h.at_ i hi
  simp only [Option.some.injEq] at h1
  subst h1
  rw [hz] at h2
  have e1 : ((⟨b, 0, none⟩ : Addr).add i) = ⟨b, i, none⟩ := by unfold Addr.add; split <;> simp_all
  rwa [e1] at h2
theorem at_m24 : m24[97]? = some 3 := by kernel_rfl
theorem at_one24 : one24[97]? = some 1 := by kernel_rfl
theorem at_p1 : p24m[97]? = some 1 := by kernel_rfl
theorem at_p2 : p24m[98]? = some 16 := by kernel_rfl
theorem at_p3 : p24d[0]? = some 16 := by kernel_rfl
def t24b : Tok := ⟨9, 0, 0, 0, 0⟩
theorem tokErr24b : tokErr [t24b] = 10 := by
  have h1 : tokCheck t24b = 10 := by decide
  have h2 : ¬ (10 : Int) = 0 := by decide
  simp only [tokErr, h1, if_neg h2]

set_option maxHeartbeats 4000000 in
theorem awake24 (w : World) : Calls Try.prog 23 #[] w fun e w' => e = .returned (.bool true) ∧ Below w.heap.size w w' := by
  have hB0 := bl_alloc (Below.refl w.heap.size w) (.cells (tvals l24).toArray 83)
  have hT0 := reads_toks w l24 83
  have hq1 := p_Tables24 _ 3 _ hT0
  go_enter Try.func23, Try.ntmps23
  go_wp2_with fail
  refine Calls.mono hq1 ?_
  clear hq1
  rintro e w1 ⟨b1, b2, rfl, hm1, hb1⟩
  have hT1 := hT0.below hb1
  have hB1 := bl_then hB0 hB0.size hb1
  clear hT0 hB0 hb1
  have hq2 : Calls Try.prog 24 #[.slice (some ⟨w.heap.size, 0, none⟩) 3 3] w1 (Counted w1 l24) := p_Freqs _ 3 l24 w1 hT1 (by decide)
  go_wp2_with fail
  refine hq2.mono ?_
  clear hq2
  rintro e w2 hh
  obtain ⟨_, b3, b4, rfl, k3, k4, _, hb2⟩ := hh.resolve_right (fun h => h.1 tokErr24)
  rw [cnM24] at k3
  have hm2 := hm1.below hb2
  have hB2 := bl_then hB1 hB1.size hb2
  have hf2 := reads_ints k3
  clear hT1 hB1 hb2 k3 k4 hm1
  have hbt := bl_alloc (Below.refl w2.heap.size w2) (.cells (tvals [t24b]).toArray 83)
  have hq3 : Calls Try.prog 24 #[.slice (some ⟨w2.heap.size, 0, none⟩) 1 1] _ (Counted _ [t24b]) := p_Freqs _ 1 [t24b] _ (reads_toks w2 [t24b] 83) (by decide)
  have hm3 := hm2.below hbt
  have hf3 := hf2.below hbt
  have hB3 := bl_then hB2 hB2.size hbt
  clear hm2 hf2 hB2 hbt
  go_wp2_with fail
  refine Calls.mono hq3 ?_
  clear hq3
  rintro e w4 hh
  obtain ⟨_, rfl, hb4⟩ := hh.resolve_left (fun h => by have := h.1; rw [tokErr24b] at this; cases this)
  rw [tokErr24b]
  have hm4 := hm3.below hb4
  have hf4 := hf3.below hb4
  have hB4 := bl_then hB3 hB3.size hb4
  clear hm3 hf3 hB3 hb4
  have hq4 := p_Prices (some ⟨b1, 0, none⟩) none one24 [] 401 0 w4 hm4 (ReadsI.nil _ _) (by rw [one24_len]; omega) (by simp)
  rw [one24_len] at hq4
  go_wp2_with fail
  refine Calls.mono (show Calls _ _ #[_, .slice none 0 0] _ _ from hq4) ?_
  clear hq4
  rintro e w5 ⟨b5, b6, rfl, hp5, hd5, hb5⟩
  have hq5 := bl_alloc (Below.refl w5.heap.size w5) (.cells #[.slice (some ⟨b5, 0, none⟩) 401 401, .slice (some ⟨b6, 0, none⟩) 52 52] 48)
  have hk6 := Blk.new w5 48 #[.slice (some ⟨b5, 0, none⟩) 401 401, .slice (some ⟨b6, 0, none⟩) 52 52]
  have hm6 := (hm4.below hb5).below hq5
  have hf6 := (hf4.below hb5).below hq5
  have hp6 := hp5.below hq5
  have hd6 := hd5.below hq5
  have HB6 := Lib.hid (bl_then (bl_then hB4 hB4.size hb5) (bl_then hB4 hB4.size hb5).size hq5)
  have c1 := cell_at hm6 97 _ at_one24
  have c2 := cell_at hf6 97 _ at_m24
  have kc := Blk.cell hk6
  have hz6 := hk6.lt
  clear hm4 hf4 hB4 hb5 hp5 hd5 hm6 hf6 hq5
  go_wp2_with fail
  generalize w5.alloc (.cells #[.slice (some ⟨b5, 0, none⟩) 401 401, .slice (some ⟨b6, 0, none⟩) 52 52] 48) = w6 at *
  have hq := r_PCheck _ _ p24m p24d 401 52 w6 hp6 hd6 (by rw [p24m_len]; omega) (by rw [p24d_len]; omega)
  rw [chkE24] at hq
  unfold priceV at hq
  rw [p24m_len, p24d_len] at hq
  refine Calls.mono hq ?_
  clear hq
  rintro e w7 ⟨rfl, hb7⟩
  have HB7 := Lib.hid (bl_then HB6.out HB6.out.size hb7)
  have c3 := cell_at (hp6.below hb7) 97 _ at_p1
  have c4 := cell_at (hp6.below hb7) 98 _ at_p2
  have c5 := cell_at (hd6.below hb7) 0 _ at_p3
  have kc7 := Blk.cell (hk6.below hb7 hz6)
  clear hb7 hp6 hd6 hk6 kc hz6 c1 c2
  go_wp2
  go_ret
  exact ⟨rfl, HB7.out⟩

end Go.Proofs.Ytoefkkgnabjmdaa
