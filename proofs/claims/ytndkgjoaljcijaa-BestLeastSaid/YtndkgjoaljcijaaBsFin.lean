/- Chapter 26 (best): the finder's block: what is read of it: shared. -/
import Derived.Test.YtndkgjoaljcijaaBsWay
import Derived.Test.YtndkgjoaljcijaaBytes
import Derived.Test.YtndkgjoaljcijaaInts
import Derived.BigQuiet
import Derived.Deep.QuietTactic
import Derived.Deep.CutBlock
set_option linter.unusedSimpArgs false
set_option linter.unusedVariables false
set_option maxRecDepth 100000
namespace Go.Proofs.Ytndkgjoaljcijaa
open Go.RowKit

structure Fin_ (w : World) (F : Nat) (E : Env) (M D : Option Addr) (c1 c2 : Nat) : Prop where
  s : w.cell? ⟨F, 0, none⟩ = some (.string (str E.s))
  b : w.cell? ⟨F, 1, none⟩ = some (.int .i64 E.b)
  pm : w.cell? ⟨F, 2, none⟩ = some (.slice M E.m.length c1)
  pd : w.cell? ⟨F, 3, none⟩ = some (.slice D E.d.length c2)
  win : w.cell? ⟨F, 4, none⟩ = some (.int .i64 E.win)
  rm : ReadsI w M E.m
  rd : ReadsI w D E.d
  lt : F < w.heap.size
/-- A byte of a text. -/
theorem run_byte (l : List UInt8) (z : Int) (h0 : 0 ≤ z) (h1 : z < l.length) (w : World) : (Instr.index 9 (.string (str l)) (.int .i64 z)).run Try.prog w = .ok (.int .u8 ((l.getD z.toNat 0).toNat : Int)) w := by
  rw [run_index_string w _ _ _ _ Try.underlying9, dif_pos ⟨h0, by rw [str_size]; exact h1⟩]
  have : (str l)[z.toNat]'(by rw [str_size]; omega) = l.getD z.toNat 0 := by
    have hz : z.toNat < l.length := by omega
    rw [List.getD_eq_getElem?_getD, List.getElem?_eq_getElem hz]
    rfl
  rw [this]
set_option maxHeartbeats 4000000 in
theorem p_shared {w : World} {F : Nat} {E : Env} {M D : Option Addr} {c1 c2 : Nat} (h : Fin_ w F E M D c1 c2) (i : Nat) (x : Int) (hi : i ≤ E.s.length) (hl : E.s.length ≤ 1000000) :
    Calls Try.prog 35 #[.pointer (some ⟨F, 0, none⟩), .int .i64 i, .int .i64 x] w fun e w' => e = .returned (.int .i64 (shr E i x)) ∧ Below w.heap.size w w' := by
  have g0 := h.s
  have g4 := h.win
  have hlt := h.lt
  clear h
  by_cases hbad : x < 1 ∨ (i : Int) < x ∨ E.win < x
  · have HR := Lib.hid (show shr E i x = 0 from if_pos hbad)
    by_cases q1 : x < 1
    · clear hbad
      go_enter Try.func35, Try.ntmps35
      go_wp2
      go_ret
      exact ⟨(by rw [HR.out]; rfl), Below.refl _ _⟩
    · by_cases q2 : (i : Int) < x
      · clear hbad
        go_enter Try.func35, Try.ntmps35
        go_wp2
        go_ret
        exact ⟨(by rw [HR.out]; rfl), Below.refl _ _⟩
      · have q3 : E.win < x := by omega
        clear hbad
        go_enter Try.func35, Try.ntmps35
        go_wp2
        go_ret
        exact ⟨(by rw [HR.out]; rfl), Below.refl _ _⟩
  · obtain ⟨d, rfl⟩ : ∃ d : Nat, x = d := ⟨x.toNat, by omega⟩
    obtain ⟨R, hR⟩ : ∃ R, R = shrN E.s i (i - d) 258 0 := ⟨_, rfl⟩
    have HR := Lib.hid (show shr E i (d : Int) = R by rw [hR]; unfold shr; rw [if_neg hbad, Int.toNat_natCast])
    have HQ := Lib.hid hR
    clear hR
    have q1 : ¬ (d : Int) < 1 := by omega
    have q2 : ¬ (i : Int) < (d : Int) := by omega
    have q3 : ¬ E.win < (d : Int) := by omega
    clear hbad
    go_enter Try.func35, Try.ntmps35
    go_wp2
    go_loopw [7] (fun v7 wr => ∃ n : Nat, n ≤ 258 ∧ v7 = .int .i64 n ∧ shrN E.s i (i - d) (258 - n) n = R ∧ Below w.heap.size w wr) (fun v7 _ => 258 - (intOf v7).toNat)
    case atStart => exact ⟨0, by omega, rfl, HQ.out.symm, Below.refl _ _⟩
    case round =>
      obtain ⟨n, hn, rfl, hsh, hb⟩ := hrel
      have z0 := (hb.cell (show (⟨F, 0, none⟩ : Addr).block < w.heap.size from hlt)).trans g0
      have HB := Lib.hid hb
      have hsz := str_size E.s
      clear hb
      by_cases c1 : n < 258
      · obtain ⟨fu, hfu⟩ : ∃ fu, 258 - n = fu + 1 := ⟨258 - n - 1, by omega⟩
        rw [hfu] at hsh
        unfold shrN at hsh
        by_cases c2 : i + n < E.s.length
        · have b1 : decide ((n : Int) < 258) = true := decide_eq_true (by omega)
          have b2 : decide ((i : Int) + (n : Int) < ((str E.s).size : Int)) = true := decide_eq_true (by rw [hsz]; omega)
          have e1 : IntKind.i64.wrap ((i : Int) + (n : Int)) = (i : Int) + (n : Int) := Go.IntWalk.i64_in _ (by omega)
          have e2 : IntKind.i64.wrap ((i : Int) + (n : Int) - (d : Int)) = (i : Int) + (n : Int) - (d : Int) := Go.IntWalk.i64_in _ (by omega)
          have x1 := run_byte E.s ((i : Int) + (n : Int)) (by omega) (by omega)
          have x2 := run_byte E.s ((i : Int) + (n : Int) - (d : Int)) (by omega) (by omega)
          rw [show ((i : Int) + (n : Int)).toNat = i + n by omega] at x1
          rw [show ((i : Int) + (n : Int) - (d : Int)).toNat = i - d + n by omega] at x2
          obtain ⟨y1, hy1⟩ : ∃ y, y = E.s.getD (i + n) 0 := ⟨_, rfl⟩
          obtain ⟨y2, hy2⟩ : ∃ y, y = E.s.getD (i - d + n) 0 := ⟨_, rfl⟩
          rw [← hy1] at x1 hsh
          rw [← hy2] at x2 hsh
          have hfu2 : 258 - (n + 1) = fu := by omega
          clear hsz hy1 hy2
          by_cases c3 : y1 = y2
          · have b3 : ((y1.toNat : Int) == (y2.toNat : Int)) = true := by rw [c3]; simp
            have b3n : (y1.toNat == y2.toNat) = true := by rw [c3]; simp
            rw [if_pos ⟨c2, c3⟩] at hsh
            have HS := Lib.hid (And.intro hsh hfu2)
            clear c3 hsh hfu hfu2
            go_wp2_with fail
            go_quiet (fail)
            all_goals
              go_wp2
              go_roundw
              case rel => exact ⟨n + 1, by omega, by go_num, by rw [HS.out.2]; exact HS.out.1, bl_drewN HB.out _⟩
              case measure => simp [intOf]; omega
          · have b3 : ((y1.toNat : Int) == (y2.toNat : Int)) = false := by
              rw [beq_eq_false_iff_ne]
              intro e
              exact c3 (UInt8.toNat_inj.1 (by omega))
            have b3n : (y1.toNat == y2.toNat) = false := by
              rw [beq_eq_false_iff_ne]
              intro e
              exact c3 (UInt8.toNat_inj.1 e)
            rw [if_neg (fun q => c3 q.2)] at hsh
            have HS := Lib.hid hsh
            clear c3 hsh hfu hfu2
            go_wp2_with fail
            go_quiet (fail)
            all_goals
              go_wp2
              go_ret
              exact ⟨(by rw [HR.out, ← HS.out]; rfl), bl_drewN HB.out _⟩
        · have e1 : IntKind.i64.wrap ((i : Int) + (n : Int)) = (i : Int) + (n : Int) := Go.IntWalk.i64_in _ (by omega)
          have b1 : decide ((n : Int) < 258) = true := decide_eq_true (by omega)
          have b2 : decide ((i : Int) + (n : Int) < ((str E.s).size : Int)) = false := decide_eq_false (by rw [hsz]; omega)
          rw [if_neg (fun q => c2 q.1)] at hsh
          have HS := Lib.hid hsh
          clear hsh hfu hsz
          go_wp2_with fail
          go_quiet (fail)
          all_goals
            go_wp2
            go_ret
            exact ⟨(by rw [HR.out, ← HS.out]; rfl), bl_drewN HB.out _⟩
      · obtain rfl : n = 258 := by omega
        have b1 : decide (((258 : Nat) : Int) < 258) = false := by decide
        have HS := Lib.hid (show (258 : Nat) = R from hsh)
        clear hsh hsz
        go_wp2_with fail
        go_quiet (fail)
        all_goals
          go_wp2
          go_ret
          exact ⟨(by rw [HR.out, ← HS.out]; rfl), bl_drewN HB.out _⟩
end Go.Proofs.Ytndkgjoaljcijaa
