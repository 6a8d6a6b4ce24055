/- Chapter 26 (best): what Parse gives, once for all its calls. · Chapter 26's laws: awake: by a walk. -/
import Derived.Test.YtndkgjoaljcijaaBsLawA
import Derived.Test.YtndkgjoaljcijaaBsRef23
import Derived.Test.YtndkgjoaljcijaaValid
set_option linter.unusedSimpArgs false
set_option linter.unusedVariables false
set_option maxRecDepth 100000
namespace Go.Proofs.Ytndkgjoaljcijaa
open Go.RowKit

theorem way_toks {E : Env} (hE : EnvOk E) {s e : St} {l : List Tok} {c : Int} (w : Way E s l e c) : ∀ t ∈ l, tokOk t := by
  induction w with
  | nil s => intro t ht; cases ht
  | cons hs h w ih =>
    intro t ht
    rcases List.mem_cons.1 ht with rfl | ht
    · exact okTok_ok hE.win2 h
    · exact ih t ht
structure ParseGives (h b : List UInt8) (r : Rp) (m d : List Int) (window : Int) (l : List Tok) (c : Int) : Prop where
  call : ∀ (M D : Option Addr) (c1 c2 : Nat) (w : World), ReadsI w M m → ReadsI w D d → Calls Try.prog 9 #[.string (str h), .string (str b), rpV r, priceV M D m d c1 c2, .int .i64 window] w (GivesP w l c)
  cost : costs m d l = c
  toks : ∀ t ∈ l, tokOk t
  len : l.length ≤ 24
  err : (applyT window l h r).err = 0
  bytes : (applyT window l h r).bytes = h ++ b
  least : ∀ l', (applyT window l' h r).err = 0 → (applyT window l' h r).bytes = h ++ b → c ≤ costs m d l'
theorem parse_gives (h b : List UInt8) (r : Rp) (m d : List Int) (window : Int) (lh : h.length ≤ 12) (lb : b.length ≤ 12) (hE : EnvOk ⟨h ++ b, h.length, m, d, window⟩) : ∃ l c, ParseGives h b r m d window l c := by
  obtain ⟨k1, k2, p, wf, l, e, h1, h2, h3, h4, h5⟩ := parse_ok hE r
  have hlen := way_len hE h3
  have hel : e.at_ = h.length + b.length := by rw [h4]; simp
  have hl24 : l.length ≤ 24 := by simp only at hlen; omega
  have htk : (h ++ b).take h.length = h := by simp
  have hap := way_apply hE h3
  simp only at hap
  rw [htk] at hap
  have hte : (h ++ b).take e.at_ = h ++ b := by rw [hel]; exact List.take_of_length_le (by simp)
  refine ⟨l, wf.cost, ⟨fun M D c1 c2 w hm hd => p_Parse_ok h b r M D m d c1 c2 window w hm hd lh lb hE k1 k2 p wf l h1 h2 (by omega), (way_cost hE h3).1, way_toks hE h3, hl24, by rw [hap], by rw [hap]; exact hte, fun l' e1 e2 => ?_⟩⟩
  obtain ⟨e', hw, he'⟩ := apply_way hE l' ⟨h.length, r⟩ (by simp) (by simp only; rw [htk]; exact e1) (by simp only; rw [htk]; exact e2)
  exact h5 l' e' _ hw he'
theorem chk_env {h b : List UInt8} {m d : List Int} {window : Int} (hz : bchk window m d = 0) : EnvOk ⟨h ++ b, h.length, m, d, window⟩ := by
  unfold bchk at hz
  split at hz
  · omega
  · rename_i hw
    obtain ⟨a1, a2, a3, a4⟩ := chkE_zero hz
    exact ⟨by simp only; omega, by simp only; omega, a1, a2, a3, a4, by simp⟩
/-! The wakeful example: four bytes alike, all prices one. -/
theorem cost_one {m d : List Int} (l1 : m.length = 401) (l2 : d.length = 52) (k1 : pricesOk m) (k2 : pricesOk d) {t : Tok} (h : tokOk t) : 1 ≤ cost m d t := by
  have hb := tokSym_bd h
  have hi : (tokSym t).toNat < m.length := by rw [l1]; omega
  have h1 := k1 m[(tokSym t).toNat] (List.getElem_mem hi)
  have h2 := lenX_bd t.len
  have hj : (distS t.dist).toNat < d.length := by have := distS_bd t.dist; rw [l2]; omega
  have h3 := k2 d[(distS t.dist).toNat] (List.getElem_mem hj)
  have h4 := distX_bd t.dist
  unfold cost
  rw [List.getD_eq_getElem?_getD, List.getElem?_eq_getElem hi, List.getD_eq_getElem?_getD, List.getElem?_eq_getElem hj]
  simp only [Option.getD_some]
  split <;> split <;> omega
theorem costs_len {m d : List Int} (l1 : m.length = 401) (l2 : d.length = 52) (k1 : pricesOk m) (k2 : pricesOk d) : ∀ (l : List Tok), (∀ t ∈ l, tokOk t) → (l.length : Int) ≤ costs m d l
  | [], _ => by simp [costs]
  | t :: l, h => by
    have h1 := costs_len l1 l2 k1 k2 l (fun t ht => h t (List.mem_cons_of_mem _ ht))
    have h2 := cost_one l1 l2 k1 k2 (h t List.mem_cons_self)
    show ((l.length + 1 : Nat) : Int) ≤ cost m d t + costs m d l
    push_cast
    omega
theorem awake_cost {l : List Tok} {c : Int} (hg : ParseGives [] [97, 97, 97, 97] ⟨1, 2, 3, 4⟩ (List.replicate 401 1) (List.replicate 52 1) 99 l c) : c = 2 := by
  have h1 := hg.least [⟨0, 97, 0, 0, 0⟩, ⟨2, 0, 3, 0, 0⟩] (by decide +kernel) (by decide +kernel)
  have h2 : costs (List.replicate 401 1) (List.replicate 52 1) [⟨0, 97, 0, 0, 0⟩, ⟨2, 0, 3, 0, 0⟩] = 2 := by decide +kernel
  rw [h2] at h1
  have h3 := costs_len (m := List.replicate 401 1) (d := List.replicate 52 1) List.length_replicate List.length_replicate (pricesOk_replicate _ _ (by omega)) (pricesOk_replicate _ _ (by omega)) l hg.toks
  rw [hg.cost] at h3
  have hb := hg.bytes
  have he := hg.err
  have htk := hg.toks
  match l, hb, he, htk, h3 with
  | [], hb, _, _, _ => simp [applyT] at hb
  | [t], hb, he, htk, h3 =>
    exfalso
    have hl : (applyT 99 [t] [] ⟨1, 2, 3, 4⟩).bytes.length = 4 := by rw [hb]; rfl
    simp only [applyT] at he hl
    by_cases u : useE ⟨1, 2, 3, 4⟩ t ≠ 0
    · rw [if_pos u] at he
      exact u he
    · rw [if_neg u] at he hl
      by_cases k0 : t.kind = 0
      · rw [if_pos k0] at hl
        simp at hl
      · rw [if_neg k0] at he
        by_cases q : copyE (([] : List UInt8).length : Int) t.len (useD ⟨1, 2, 3, 4⟩ t) 99 ≠ 0
        · rw [if_pos q] at he
          exact q he
        · have := copyE_zero (Classical.not_not.1 q)
          simp only [List.length_nil] at this
          omega
  | t :: u :: l', _, _, _, h3 =>
    simp only [List.length_cons] at h3
    push_cast at h3
    omega
theorem some_ones (q : Int) (n : Nat) : someL q [1] n = List.replicate n 1 := by
  refine List.ext_getElem (by rw [someL_length, List.length_replicate]) (fun j a b => ?_)
  rw [List.getElem_replicate]
  simp [someL, someAt, Nat.mod_one]
theorem env_ones (b : List UInt8) (window : Int) (h1 : 1 ≤ window) (h2 : window ≤ 67108864) : EnvOk ⟨[] ++ b, ([] : List UInt8).length, List.replicate 401 1, List.replicate 52 1, window⟩ :=
  ⟨h1, h2, List.length_replicate, List.length_replicate, pricesOk_replicate _ _ (by omega), pricesOk_replicate _ _ (by omega), by simp⟩
theorem awake_none {l : List Tok} {c : Int} (hg : ParseGives [] [] ⟨1, 2, 3, 4⟩ (List.replicate 401 1) (List.replicate 52 1) 9 l c) : c = 0 ∧ l = [] := by
  have h1 := hg.least [] (by decide +kernel) (by decide +kernel)
  have h3 := costs_len (m := List.replicate 401 1) (d := List.replicate 52 1) List.length_replicate List.length_replicate (pricesOk_replicate _ _ (by omega)) (pricesOk_replicate _ _ (by omega)) l hg.toks
  rw [hg.cost] at h3
  have h2 : costs (List.replicate 401 1) (List.replicate 52 1) [] = 0 := rfl
  rw [h2] at h1
  exact ⟨by omega, List.length_eq_zero_iff.1 (by omega)⟩
theorem reads_one1 (w : World) : ReadsI (w.alloc (.cells #[.int .i64 1] 3)) (some ⟨w.heap.size, 0, none⟩) [1] :=
  BlkI.reads (xs := [1]) (Blk.new w 3 #[.int .i64 1])
set_option maxHeartbeats 4000000 in
theorem awake26 (w : World) : Calls Try.prog 7 #[] w fun e w' => e = .returned (.bool true) ∧ Below w.heap.size w w' := by
  have k0 := ((Blk.new w 23 #[.int .i64 1, .int .i64 2, .int .i64 3, .int .i64 4]).alloc (.cells #[.int .i64 1] 3)).alloc (.cells #[.int .i64 1] 3)
  have r1 := (reads_one1 (w.alloc (.cells #[.int .i64 1, .int .i64 2, .int .i64 3, .int .i64 4] 23))).alloc (.cells #[.int .i64 1] 3)
  have r2 := reads_one1 ((w.alloc (.cells #[.int .i64 1, .int .i64 2, .int .i64 3, .int .i64 4] 23)).alloc (.cells #[.int .i64 1] 3))
  rw [World.size_alloc] at r1
  rw [World.size_alloc, World.size_alloc] at r2
  have hb0 := bl_alloc (bl_alloc (bl_alloc (Below.refl w.heap.size w) (.cells #[.int .i64 1, .int .i64 2, .int .i64 3, .int .i64 4] 23)) (.cells #[.int .i64 1] 3)) (.cells #[.int .i64 1] 3)
  have hsome := p_Some _ _ 1 1 [1] [1] _ r1 r2 (by simp) (by simp)
  simp only [List.length_cons, List.length_nil, Nat.zero_add] at hsome
  go_enter Try.func7, Try.ntmps7
  go_wp2_with fail
  refine hsome.mono ?_
  rintro e w1 ⟨b1, b2, xs, ys, hx, hy, rfl, hr1, hr2, hl1, hl2, hb1⟩
  rw [some_ones] at hx hy
  have y0 := k0.below hb1 k0.lt
  have hbw := bl_then hb0 hb0.size hb1
  clear hsome k0 r1 r2 hb0 hb1
  subst hx
  subst hy
  obtain ⟨l1, c1, hg1⟩ := parse_gives [] [97, 97, 97, 97] ⟨1, 2, 3, 4⟩ (List.replicate 401 1) (List.replicate 52 1) 99 (by simp) (by simp) (env_ones _ 99 (by omega) (by omega))
  obtain ⟨l4, c4, hg4⟩ := parse_gives [] [] ⟨1, 2, 3, 4⟩ (List.replicate 401 1) (List.replicate 52 1) 9 (by simp) (by simp) (env_ones _ 9 (by omega) (by omega))
  have ec := awake_cost hg1
  obtain ⟨ed, el⟩ := awake_none hg4
  subst ec
  subst ed
  subst el
  have s0 : str [] = ⟨#[]⟩ := rfl
  have s4 : str [97, 97, 97, 97] = ⟨#[97, 97, 97, 97]⟩ := rfl
  have hp1 := fun w' hm hd => hg1.call (some ⟨b1, 0, none⟩) (some ⟨b2, 0, none⟩) 401 52 w' hm hd
  have hp4 := fun w' hm hd => hg4.call (some ⟨b1, 0, none⟩) (some ⟨b2, 0, none⟩) 401 52 w' hm hd
  have hp3 := fun w' hm hd => p_Parse_err [] [97, 97, 97, 97] ⟨1, 2, 3, 4⟩ (some ⟨b1, 0, none⟩) (some ⟨b2, 0, none⟩) (List.replicate 401 1) (List.replicate 52 1) 401 52 0 w' hm hd (by rw [hl1]; omega) (by rw [hl2]; omega) (by simp) (by simp) (by unfold bchk; rw [if_pos (by omega)]; omega)
  have hp2 := fun w' hm hd => p_Parse_err [] [97, 97, 97, 97] ⟨1, 2, 3, 4⟩ none none [] [] 0 0 99 w' hm hd (by simp) (by simp) (by simp) (by simp) (by unfold bchk chkE; simp)
  have e3 : bchk 0 (List.replicate 401 1) (List.replicate 52 1) = 1 := by unfold bchk; rw [if_pos (by omega)]
  have e2 : bchk 99 [] [] = 4 := by unfold bchk chkE; simp
  have hval := fun T c w' hT => r_Valid [] ⟨1, 2, 3, 4⟩ T c l1 99 [97, 97, 97, 97] w' hT (by have := hg1.len; omega) (by have := hg1.len; simp; omega) (by simp)
  have ev : validT 99 [] ⟨1, 2, 3, 4⟩ l1 [97, 97, 97, 97] = true := by unfold validT; rw [hg1.err, hg1.bytes]; simp
  rw [ev] at hval
  rw [e3] at hp3
  rw [e2] at hp2
  unfold priceV rpV at hp1 hp2 hp3 hp4
  unfold rpV at hval
  rw [s0, s4] at hp1 hp2 hp3 hval
  rw [s0] at hp4
  rw [hl1, hl2] at hp1 hp3 hp4
  simp only [List.length_nil] at hp2
  have zp := Blk.new w1 32 #[.slice (some ⟨b1, 0, none⟩) 401 401, .slice (some ⟨b2, 0, none⟩) 52 52]
  have z0 := y0.alloc (.cells #[.slice (some ⟨b1, 0, none⟩) 401 401, .slice (some ⟨b2, 0, none⟩) 52 52] 32)
  have hbz := bl_alloc hbw (.cells #[.slice (some ⟨b1, 0, none⟩) 401 401, .slice (some ⟨b2, 0, none⟩) 52 52] 32)
  have hm2 := hr1.alloc (.cells #[.slice (some ⟨b1, 0, none⟩) 401 401, .slice (some ⟨b2, 0, none⟩) 52 52] 32)
  have hd2 := hr2.alloc (.cells #[.slice (some ⟨b1, 0, none⟩) 401 401, .slice (some ⟨b2, 0, none⟩) 52 52] 32)
  have hws := y0.lt
  have q0 := Blk.cell y0
  have hl1len := hg1.len
  generalize List.replicate 401 (1 : Int) = M1 at *
  generalize List.replicate 52 (1 : Int) = D1 at *
  clear y0 hbw hr1 hr2 hg1 hg4 ev e2 e3 s0 s4 hl1 hl2
  go_wp2_with fail
  generalize w1.alloc (.cells #[.slice (some ⟨b1, 0, none⟩) 401 401, .slice (some ⟨b2, 0, none⟩) 52 52] 32) = w2 at *
  generalize w1.heap.size = P at *
  clear q0
  refine (hp1 _ hm2 hd2).mono ?_
  rintro e w3 ⟨v3, rfl, hr3, hb3⟩
  have x0 := z0.below hb3 z0.lt
  have xp := zp.below hb3 zp.lt
  have hm3 := hm2.below hb3
  have hd3 := hd2.below hb3
  have hbx := bl_then hbz hbz.size hb3
  clear z0 zp hm2 hd2 hbz hb3 hp1
  have u0 := Blk.cell x0
  have up := Blk.cell xp
  have t0 := x0.lt
  have tp := xp.lt
  go_wp2_with fail
  refine (hp2 _ (ReadsI.nil _ _) (ReadsI.nil _ _)).mono ?_
  rintro e w4 ⟨rfl, hb4⟩
  have z0 := x0.below hb4 x0.lt
  have zp := xp.below hb4 xp.lt
  have hm4 := hm3.below hb4
  have hd4 := hd3.below hb4
  have hr4 := Row.below hr3 hb4
  have hbz := bl_then hbx hbx.size hb4
  clear x0 xp hm3 hd3 hr3 hbx hb4 hp2 u0 up t0 tp
  have u0 := Blk.cell z0
  have up := Blk.cell zp
  have t0 := z0.lt
  have tp := zp.lt
  go_wp2_with fail
  refine (hp3 _ hm4 hd4).mono ?_
  rintro e w5 ⟨rfl, hb5⟩
  have x0 := z0.below hb5 z0.lt
  have xp := zp.below hb5 zp.lt
  have hm5 := hm4.below hb5
  have hd5 := hd4.below hb5
  have hr5 := Row.below hr4 hb5
  have hbx := bl_then hbz hbz.size hb5
  clear z0 zp hm4 hd4 hr4 hbz hb5 hp3 u0 up t0 tp
  have u0 := Blk.cell x0
  have up := Blk.cell xp
  have t0 := x0.lt
  have tp := xp.lt
  go_wp2_with fail
  refine (hp4 _ hm5 hd5).mono ?_
  rintro e w6 ⟨v6, rfl, hr6, hb6⟩
  have z0 := x0.below hb6 x0.lt
  have hr7 := Row.below hr5 hb6
  have hbz := bl_then hbx hbx.size hb6
  obtain ⟨T, c, rfl, hc⟩ := Row.slice hr7
  obtain ⟨T6, c6, rfl, hc6⟩ := Row.slice hr6
  have hT := (RowT.reads hr7).2
  clear x0 xp hm5 hd5 hr5 hbx hb6 hp4 u0 up t0 tp hr6 hr7
  have u0 := Blk.cell z0
  have t0 := z0.lt
  simp only [List.length_nil] at *
  go_wp2_with fail
  refine (hval T c _ hT).mono ?_
  rintro e w7 ⟨rfl, hb7⟩
  have HBZ := Lib.hid (bl_then hbz hbz.size hb7)
  clear hbz hb7 hval hT z0 u0
  go_wp2
  go_ret
  exact ⟨rfl, HBZ.out⟩
end Go.Proofs.Ytndkgjoaljcijaa
