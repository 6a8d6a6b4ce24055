/- Chapter 07 (pmerge): short: by a walk. -/
import Derived.Test.YtoefkkgnabjmdaaHuff2
set_option linter.unusedSimpArgs false
set_option linter.unusedVariables false
set_option maxRecDepth 100000
namespace Go.Proofs.Ytoefkkgnabjmdaa
open Go.RowKit

/-- The lengths of the first so many coins are laid down by their symbols. -/
def layTo (ks : List Coin) (D : List Nat) (z : List Int) : Nat → List Int
  | 0 => z
  | i + 1 => (layTo ks D z i).set ((ks.getD i (0, [])).2.getD 0 0).toNat (D.getD i 0 : Int)
theorem layTo_length (ks : List Coin) (D : List Nat) (z : List Int) : ∀ k, (layTo ks D z k).length = z.length
  | 0 => rfl
  | k + 1 => by unfold layTo; rw [List.length_set, layTo_length ks D z k]
/-- Are the first so many within a limit? -/
def within (D : List Nat) (limit : Int) (n : Nat) : Prop := ∀ i, i < n → (D.getD i 0 : Int) ≤ limit

/-- What short gives. -/
def ShortDone (w : World) (ks : List Coin) (many : Nat) (limit : Int) (e : Ending) (w' : World) : Prop :=
  Below w.heap.size w w' ∧
  ((¬ within (depthsH (ks.map (·.1))) limit ks.length ∧ e = .returned (.tuple #[.slice none 0 0, .bool false])) ∨
   (within (depthsH (ks.map (·.1))) limit ks.length ∧ ∃ b, e = .returned (.tuple #[.slice (some ⟨b, 0, none⟩) many many, .bool true]) ∧ BI w' b (layTo ks (depthsH (ks.map (·.1))) (zeros many) ks.length) ∧ w.heap.size ≤ b))

set_option maxHeartbeats 8000000 in
theorem p_short (base : Nat) (g o c : Nat) (l : List Pe) (n : Nat) (hn1 : 2 ≤ n) (hn : n ≤ 2000) (many : Nat) (hm : many ≤ 2000) (limit : Int) (w : World) (h : PRow w base (.slice (some ⟨g, o, none⟩) n c) l) (hcost : ∀ p ∈ l, 0 ≤ p.cost ∧ p.cost ≤ 4294967295)
    (hsy : ∀ p ∈ l, ∃ s : Nat, p.syms = [(s : Int)] ∧ s < many) :
    Calls Try.prog 41 #[.slice (some ⟨g, o, none⟩) n c, .int .i64 many, .int .i64 limit] w (ShortDone w (l.map Pe.key) many limit) := by
  have hlen := h.len_
  have hq := p_plain base g o c l n hn1 hn w h hcost
  have HLEN := Lib.hid hlen
  have hdl := depthsH_length (l.map Pe.cost)
  have ekey : (l.map Pe.key).map (·.1) = l.map Pe.cost := by rw [List.map_map]; rfl
  unfold ShortDone
  rw [ekey]
  have HKL : Hid ((l.map Pe.key).length = n) := Lib.hid (by rw [List.length_map, hlen])
  rw [HKL.out]
  have HBD : Hid (∀ i, i < n → (depthsH (l.map Pe.cost)).getD i 0 ≤ 2 * n) := Lib.hid (fun i hi => by
    have := (depthsH_ok (l.map Pe.cost) (by simp; omega)).1 i (by simp; omega)
    simp only [List.length_map] at this
    omega)
  generalize hD : depthsH (l.map Pe.cost) = D at *
  rw [List.length_map, ← hlen] at hdl
  have HDL := Lib.hid hdl
  have hmk : ∀ W : World, (Instr.makeSlice 22 (.int .i64 many) (.int .i64 many)).run Try.prog W = .ok (.slice (some ⟨W.heap.size, 0, none⟩) many many) (W.alloc (.cells (ivals (zeros many)).toArray 3)) := fun W => run_zeros W many (by omega)
  have HH := Lib.hid h
  have HSY := Lib.hid hsy
  clear hlen hD hdl ekey h hsy hcost
  go_enter Try.func41, Try.ntmps41
  go_wp2_with fail
  refine hq.mono ?_
  rintro e w1 ⟨bD, rfl, hbD, hbw, hb1⟩
  have hz1 := hb1.size
  clear hq
  have HB1 := Lib.hid (bl_alloc hb1 (.cells (ivals (zeros many)).toArray 3))
  have HD1 := Lib.hid (hbD.alloc (.cells (ivals (zeros many)).toArray 3))
  have HO1 := Lib.hid (Blk.new w1 3 (ivals (zeros many)).toArray)
  have hbDl := hbD.lt
  clear hb1 hbD
  go_wp2_with fail
  clear hmk
  go_loopw [10, 11, 18] (fun _ _ v18 wr => ∃ k : Nat, k ≤ n ∧ v18 = .int .i64 k ∧ within D limit k ∧ BI wr w1.heap.size (layTo (l.map Pe.key) D (zeros many) k) ∧ BI wr bD (D.map Int.ofNat) ∧ Below w.heap.size w wr) (fun _ _ v18 _ => n - (intOf v18).toNat)
  case atStart => exact ⟨0, Nat.zero_le _, rfl, fun i hi => by omega, HO1.out, HD1.out, HB1.out⟩
  case round =>
    obtain ⟨k, hk, rfl, hwi, ho, hd, hbr⟩ := hrel
    by_cases hkn : k < n
    · have hlen := HLEN.out
      obtain ⟨a1, a2, _, _⟩ := HH.out.at_ k (by omega)
      have hSr : RowI wr base l[k].v l[k].syms := Row.same (HH.out.syms l[k] (List.getElem_mem (by omega))) (w' := wr) (fun j hj => hbr.block j ((HH.out.syms l[k] (List.getElem_mem (by omega))).lt j hj).2)
      obtain ⟨s, hs, hsm⟩ := HSY.out l[k] (List.getElem_mem (by omega))
      obtain ⟨A, c', e, hcc, hrs⟩ := RowI.slice hSr
      rw [e] at a2
      rw [hs] at hrs a2
      simp only [List.length_singleton] at a2
      obtain ⟨ad, rfl, had, hac⟩ := hrs.at_ 0 (by simp)
      have ead : ad.add 0 = ad := by unfold Addr.add; simp
      rw [ead] at hac
      simp only [List.getElem_cons_zero] at hac
      have hgl := HH.out.g_lt.2
      have b1 := (hbr.cell (p := ⟨g, o + k * 2, none⟩) hgl).trans a1
      have b2 := (hbr.cell (p := ⟨g, o + k * 2 + 1, none⟩) hgl).trans a2
      have d1 := hd.at_ k (by simp only [List.length_map]; have := HDL.out; omega)
      have e3 : (D.map Int.ofNat).getD k 0 = ((D.getD k 0 : Nat) : Int) := by
        simp only [List.getD_eq_getElem?_getD, List.getElem?_map]
        rw [List.getElem?_eq_getElem (by have := HDL.out; omega)]; rfl
      rw [e3] at d1
      have o1 := ho.at_ s (by rw [layTo_length, zeros_length]; exact hsm)
      have o2 := Blk.frozen ho s
      have hset := ho.setInt s ((D.getD k 0 : Nat) : Int)
      have HLY : Hid ((layTo (l.map Pe.key) D (zeros many) k).set s ((D.getD k 0 : Nat) : Int) = layTo (l.map Pe.key) D (zeros many) (k + 1)) := Lib.hid (by
        conv => rhs; unfold layTo
        have e4 : ((l.map Pe.key).getD k (0, [])).2.getD 0 0 = (s : Int) := by
          simp only [List.getD_eq_getElem?_getD, List.getElem?_map]
          rw [List.getElem?_eq_getElem (show k < l.length by omega)]
          show (Pe.key l[k]).2[0]?.getD 0 = _
          rw [show (Pe.key l[k]).2 = l[k].syms from rfl, hs]; rfl
        rw [e4]; rfl)
      have hzr := hbr.size
      have hol := ho.lt
      have hdlt := hd.lt
      have hvb := HBD.out k hkn
      have HW := Lib.hid hwi
      have HO := Lib.hid ho
      have HD := Lib.hid hd
      have HBR := Lib.hid hbr
      have HSET := Lib.hid hset
      have hne : ¬ w1.heap.size = bD := by omega
      generalize hX : l[k].cost = X at *
      generalize hV : D.getD k 0 = V at *
      generalize (layTo (l.map Pe.key) D (zeros many) k).getD s 0 = z0 at o1
      have HV := Lib.hid hV
      have hadw : ad.block < wr.heap.size := had
      have hgw : g < wr.heap.size := Nat.lt_of_lt_of_le hgl hbr.size
      have i2 : (k : Int) < (n : Int) := by omega
      have i3 : (s : Int) < (many : Int) := by omega
      by_cases hlim : (V : Int) ≤ limit
      · have HLIM := Lib.hid hlim
        clear hwi ho hd hbr hset e3 hX hV a1 a2 hcc hlen hs e hSr hrs had ead
        have hdc : decide (limit < (V : Int)) = false := by simp; omega
        go_wp2_with fail
        go_region
        all_goals
          go_wp2
          go_roundw
          case rel =>
            refine ⟨k + 1, by omega, by go_num, fun i hi => ?_, ?_, ?_, ?_⟩
            · by_cases hik : i = k
              · rw [hik, HV.out]; exact HLIM.out
              · exact HW.out i (by omega)
            · rw [← HLY.out]; exact (HSET.out.alloc _).drew
            · exact ((HD.out.far (p := ⟨w1.heap.size, s, none⟩) (fun e => hne e.symm) _).alloc _).drew
            · exact (bl_alloc (HBR.out.setCell (p := ⟨w1.heap.size, s, none⟩) hz1 _) _).drew
          case measure => simp [intOf]; omega
      · have hcl : limit < (V : Int) := by omega
        have HLIM := Lib.hid hlim
        have hdc : decide (limit < (V : Int)) = true := by simp; omega
        clear hwi ho hd hbr hset e3 hX hV a1 a2 hcc hlen hs e hSr hrs had ead
        go_wp2
        go_ret2
        exact ⟨bl_alloc HBR.out _, .inl ⟨fun h => absurd (h k hkn) (by rw [HV.out]; have := HLIM.out; omega), rfl⟩⟩
    · obtain rfl : k = n := by omega
      have HO := Lib.hid ho
      have HW := Lib.hid hwi
      clear ho hd hwi
      go_wp2
      go_ret2
      exact ⟨hbr, .inr ⟨HW.out, w1.heap.size, rfl, HO.out, hz1⟩⟩

end Go.Proofs.Ytoefkkgnabjmdaa
