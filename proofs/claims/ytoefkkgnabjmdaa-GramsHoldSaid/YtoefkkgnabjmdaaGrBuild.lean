/- Chapter 43 (grams): Build: by a walk. -/
import Derived.Test.YtoefkkgnabjmdaaGrCount
import Derived.Test.YtoefkkgnabjmdaaSh43
set_option linter.unusedSimpArgs false
set_option linter.unusedVariables false
set_option maxRecDepth 100000
namespace Go.Proofs.Ytoefkkgnabjmdaa
open Go.RowKit PGramsCount Go.Sort Go.Maps Go.Lib Go.Proofs.YtoefkkgnabjmdaaW.PrintWords

def BuildDone (w : World) (l : List ByteArray) (size n : Int) : Ending → World → Prop := fun e w' => ∃ r, e = .returned (.tuple #[.string r, .int .i64 (bErr size n)]) ∧ (bErr size n ≠ 0 → r = ⟨#[]⟩) ∧ (bErr size n = 0 → ∃ G, GoodG l n.toNat G ∧ G.length ≤ 1000 ∧ r = buildR n.toNat size G) ∧ Below w.heap.size w w'
theorem bErr_bad {w : World} {l : List ByteArray} {size n : Int} (h : n < 2 ∨ 16 < n ∨ size < 0 ∨ 67108864 < size) : BuildDone w l size n (.returned (.tuple #[.string ⟨#[]⟩, .int .i64 1])) w := by
  have e : bErr size n = 1 := by unfold bErr; rw [if_pos h]
  exact ⟨_, by rw [e], fun _ => rfl, fun q => (by rw [e] at q; cases q), Below.refl _ _⟩
theorem take_step (n : Nat) (size : Int) (G : List S64) (i : Nat) (hi : i < G.length) (z : ByteArray) : (G.take (i + 1)).foldl (bStep n size) z = bStep n size ((G.take i).foldl (bStep n size) z) G[i] := by
  rw [List.take_succ_eq_append_getElem hi, List.foldl_append]; rfl
set_option maxHeartbeats 4000000 in
theorem p_GBuild (A : Option Addr) (c : Nat) (l : List ByteArray) (size n m0 : Int) (w : World) (h : Kd.C Kd.string w A l.length l) (hl : l.length ≤ 12) (hs : ∀ s ∈ l, s.size ≤ 60) (hm : w.cell? ⟨0, 0, none⟩ = some (.int .i64 m0)) (h0 : 0 < w.heap.size) :
    Calls Try.prog 33 #[.slice A l.length c, .int .i64 size, .int .i64 n] w (BuildDone w l size n) := by
  by_cases hbad : n < 2 ∨ 16 < n ∨ size < 0 ∨ 67108864 < size
  · have HE := Lib.hid (bErr_bad (w := w) (l := l) hbad)
    clear h hm h0
    by_cases c1 : n < 2
    · clear hbad
      go_enter Try.func33, Try.ntmps33
      go_wp2
      go_ret2
      exact HE.out
    · by_cases c2 : 16 < n
      · clear hbad
        go_enter Try.func33, Try.ntmps33
        go_wp2
        go_ret2
        exact HE.out
      · by_cases c3 : size < 0
        · clear hbad
          go_enter Try.func33, Try.ntmps33
          go_wp2
          go_ret2
          exact HE.out
        · have c4 : 67108864 < size := by omega
          clear hbad
          go_enter Try.func33, Try.ntmps33
          go_wp2
          go_ret2
          exact HE.out
  · have HN := Lib.hid (show bErr size n = 0 from if_neg hbad)
    obtain ⟨k, rfl⟩ : ∃ k : Nat, n = k := ⟨n.toNat, by omega⟩
    have c1 : ¬ (k : Int) < 2 := by omega
    have c2 : ¬ 16 < (k : Int) := by omega
    have c3 : ¬ size < 0 := by omega
    have c4 : ¬ 67108864 < size := by omega
    have hcon := p_GCount A c l k w h hl hs
    have HB0 := Lib.hid (And.intro h0 hm)
    clear hbad h hm h0
    go_enter Try.func33, Try.ntmps33
    go_wp2_with fail
    refine hcon.mono ?_
    rintro e w1 ⟨B, cap, G, rfl, hcap, hC, hG, hgood, hbw⟩
    rw [if_neg (by omega), Int.toNat_natCast] at hgood
    have HGS := Lib.hid (good_size (by omega) hgood)
    have HG := Lib.hid (And.intro hgood hC)
    have HBW := Lib.hid hbw
    clear hgood hC hbw hcon hs
    go_wp2_with fail
    go_loopw [8, 29] (fun v8 v29 wr => ∃ (i : Nat) (out : ByteArray), i ≤ G.length ∧ v29 = .int .i64 i ∧ v8 = .string out ∧ out = (G.take i).foldl (bStep k size) ⟨#[]⟩ ∧ out.size ≤ i * 16 ∧ Below w.heap.size w wr ∧ Below w1.heap.size w1 wr) (fun _ v29 _ => G.length - (intOf v29).toNat)
    case atStart => exact ⟨0, ⟨#[]⟩, Nat.zero_le _, rfl, rfl, rfl, Nat.le_refl _, HBW.out, Below.refl _ _⟩
    case round =>
      obtain ⟨i, out, hi, rfl, rfl, hout, hos, hbr, hb1⟩ := hrel
      by_cases hil : i < G.length
      · have hi1 : (i : Int) < (G.length : Int) := Int.ofNat_lt.2 hil
        obtain ⟨ad, rfl, hx0, hx1⟩ := at_T64 (Kd.C_below HG.out.2 hb1) (i : Int) (by omega) (by omega)
        have e0 : rd_T64 G (i : Int) = G[i] := by rw [rd64, List.getD_eq_getElem?_getD, List.getElem?_eq_getElem hil]; rfl
        rw [e0, Int.toNat_natCast] at hx0 hx1
        have hst := take_step k size G i hil ⟨#[]⟩
        rw [← hout] at hst
        have hgs := HGS.out G[i] (List.getElem_mem hil)
        have hbs := bStep_size k size out G[i] hgs
        have HS := Lib.hid (And.intro hst (show (bStep k size out G[i]).size ≤ (i + 1) * 16 by omega))
        have HBB := Lib.hid (And.intro hbr hb1)
        have HCL := Lib.hid (show ∀ o : Obj, (wr.alloc o).cell? ⟨0, 0, none⟩ = some (.int .i64 m0) from fun o => ((hbr.alloc hbr.size o).cell (show (⟨0, 0, none⟩ : Addr).block < w.heap.size from HB0.out.1)).trans HB0.out.2)
        generalize G[i] = g at *
        obtain ⟨p, N⟩ := g
        have hcc := contains_occ (T out) (T p) (by rw [T_size]; simp at hgs; omega)
        simp only at hx0 hx1 hgs
        clear hst hbr hb1 hout e0 hbs
        by_cases d1 : 2 ≤ N
        · by_cases d2 : (out.size : Int) + k ≤ size
          · by_cases d3 : occ (T out) (T p) 0 = 0
            · have eb : bStep k size out ⟨p, N⟩ = p ++ out := if_pos ⟨d1, d3, d2⟩
              rw [eb] at HS
              rw [d3] at hcc
              have hcon := fun w => Try.strings_Contains out p m0 w (by omega)
              clear eb d3
              go_wp2_with fail
              refine (hcon _ (HCL.out _)).mono ?_
              rintro e w2 ⟨rfl, rfl⟩
              rw [show Lib.contains out.data.toList p.data.toList = false from hcc]
              go_wp2
              go_roundw
              case rel => exact ⟨i + 1, p ++ out, hil, by go_num, rfl, HS.out.1.symm, HS.out.2, HBB.out.1.alloc HBB.out.1.size _, HBB.out.2.alloc HBB.out.2.size _⟩
              case measure => simp [intOf]; omega
            · have eb : bStep k size out ⟨p, N⟩ = out := if_neg (fun h => d3 h.2.1)
              rw [eb] at HS
              rw [decide_eq_true d3] at hcc
              have hcon := fun w => Try.strings_Contains out p m0 w (by omega)
              clear eb d3
              go_wp2_with fail
              refine (hcon _ (HCL.out _)).mono ?_
              rintro e w2 ⟨rfl, rfl⟩
              rw [show Lib.contains out.data.toList p.data.toList = true from hcc]
              go_wp2
              go_roundw
              case rel => exact ⟨i + 1, out, hil, by go_num, rfl, HS.out.1.symm, HS.out.2, HBB.out.1.alloc HBB.out.1.size _, HBB.out.2.alloc HBB.out.2.size _⟩
              case measure => simp [intOf]; omega
          · have eb : bStep k size out ⟨p, N⟩ = out := if_neg (fun h => d2 h.2.2)
            rw [eb] at HS
            clear eb hcc
            go_wp2
            go_roundw
            case rel => exact ⟨i + 1, out, hil, by go_num, rfl, HS.out.1.symm, HS.out.2, HBB.out.1.alloc HBB.out.1.size _, HBB.out.2.alloc HBB.out.2.size _⟩
            case measure => simp [intOf]; omega
        · have eb : bStep k size out ⟨p, N⟩ = out := if_neg (fun h => d1 h.1)
          rw [eb] at HS
          clear eb hcc
          go_wp2
          go_roundw
          case rel => exact ⟨i + 1, out, hil, by go_num, rfl, HS.out.1.symm, HS.out.2, HBB.out.1.alloc HBB.out.1.size _, HBB.out.2.alloc HBB.out.2.size _⟩
          case measure => simp [intOf]; omega
      · obtain rfl : i = G.length := by omega
        rw [List.take_length] at hout
        have HR := Lib.hid (And.intro hout hbr)
        clear hout hbr hb1
        go_wp2
        go_ret2
        exact ⟨out, (by rw [HN.out]; rfl), fun q => absurd HN.out q, fun _ => ⟨G, HG.out.1, by assumption, HR.out.1⟩, HR.out.2⟩
end Go.Proofs.Ytoefkkgnabjmdaa
