/- Chapter 26 (best): what the finder tells a token to cost. -/
import Derived.Test.YtndkgjoaljcijaaBsFin
import Derived.Test.YtndkgjoaljcijaaSlots
set_option linter.unusedSimpArgs false
set_option linter.unusedVariables false
set_option maxRecDepth 100000
namespace Go.Proofs.Ytndkgjoaljcijaa
open Go.RowKit

def LongOk (w : World) (F : Nat) (m : List Int) : Prop := ∀ k n : Nat, k < 5 → 2 ≤ n → n ≤ 258 → w.cell? ⟨F, 10 + k * 259 + n, none⟩ = some (.int .i64 (longF m k n))
theorem okTok_cost {E : Env} (hE : EnvOk E) {st : St} {t : Tok} (ht : okTok E st t) : tokOk t := okTok_ok hE.win2 ht
set_option maxHeartbeats 4000000 in
theorem p_fcost_lit {w : World} {F : Nat} {E : Env} {M D : Option Addr} {c1 c2 : Nat} (h : Fin_ w F E M D c1 c2) (hE : EnvOk E) (i : Nat) :
    Calls Try.prog 50 #[.pointer (some ⟨F, 0, none⟩), tokV (litT E i)] w fun e w' => e = .returned (.int .i64 (cost E.m E.d (litT E i))) ∧ Below w.heap.size w w' := by
  have hb := UInt8.toNat_lt (E.s.getD i 0)
  have ho : tokOk (litT E i) := .inl ⟨rfl, by simp [litT], by simp only [litT]; omega, rfl, rfl, rfl⟩
  have HC : Hid (cost E.m E.d (litT E i) = E.m.getD (E.s.getD i 0).toNat 0) := Lib.hid (by
    unfold cost tokSym
    rw [if_pos ho, if_pos (show (litT E i).kind = 0 from rfl), if_pos (show (litT E i).kind = 0 from rfl), if_neg (by simp [litT])]
    simp [litT])
  unfold litT tokV at *
  simp only
  generalize (E.s.getD i 0).toNat = b at *
  obtain ⟨ad, hM, had, hcm⟩ := h.rm.at_ b (by rw [hE.m]; omega)
  have hg : E.m.getD b 0 = E.m[b]'(by rw [hE.m]; omega) := by rw [List.getD_eq_getElem?_getD, List.getElem?_eq_getElem (by rw [hE.m]; omega)]; rfl
  rw [hg] at HC
  generalize E.m[b]'(by rw [hE.m]; omega) = y at *
  have g2 := h.pm
  rw [hM, hE.m] at g2
  have hlt := h.lt
  have hbl : (b : Int) < 401 := by omega
  clear hg h ho
  have hB0 := bl_alloc (Below.refl w.heap.size w) (.cells #[.int .i64 0, .int .i64 b, .int .i64 0, .int .i64 0, .int .i64 0] 65)
  have a2 := (hB0.cell (show (⟨F, 2, none⟩ : Addr).block < w.heap.size from hlt)).trans g2
  have a3 := (hB0.cell (show (ad.add b).block < w.heap.size by rw [block_of_add]; exact had)).trans hcm
  have HB0 := Lib.hid hB0
  clear g2 hcm hB0
  have q1 : 0 ≤ (b : Int) := by omega
  go_enter Try.func50, Try.ntmps50
  go_wp2_with fail
  go_quiet (fail)
  all_goals
    go_wp2
    go_ret
    exact ⟨(by rw [HC.out]; rfl), bl_drewN HB0.out _⟩
set_option maxHeartbeats 4000000 in
theorem p_fcost_rep {w : World} {F : Nat} {E : Env} {M D : Option Addr} {c1 c2 : Nat} (h : Fin_ w F E M D c1 c2) (hL : LongOk w F E.m) (n k : Nat) (hk : k < 4) (hn : 2 ≤ n) (hn2 : n ≤ 258) :
    Calls Try.prog 50 #[.pointer (some ⟨F, 0, none⟩), tokV (repT n k)] w fun e w' => e = .returned (.int .i64 (cost E.m E.d (repT n k))) ∧ Below w.heap.size w w' := by
  have HC : Hid (cost E.m E.d (repT n k) = longF E.m (k + 1) n) := Lib.hid (by
    unfold cost longF
    rw [if_neg (by simp [repT]), if_neg (by simp [repT]), if_neg (by omega)]
    simp [repT])
  have g2 := hL (k + 1) n (by omega) hn hn2
  generalize longF E.m (k + 1) n = y at *
  unfold repT tokV at *
  simp only
  have hlt := h.lt
  clear h hL
  have hB0 := bl_alloc (Below.refl w.heap.size w) (.cells #[.int .i64 2, .int .i64 0, .int .i64 n, .int .i64 0, .int .i64 k] 65)
  have a2 := (hB0.cell (show (⟨F, 10 + (k + 1) * 259 + n, none⟩ : Addr).block < w.heap.size from hlt)).trans g2
  have HB0 := Lib.hid hB0
  clear g2 hB0
  have q1 : 0 ≤ (n : Int) := by omega
  have q2 : (n : Int) < 259 := by omega
  have q3 : (k : Int) + 1 < 5 := by omega
  have e1 : IntKind.i64.wrap ((k : Int) + 1) = (k : Int) + 1 := Go.IntWalk.i64_in _ (by omega)
  have e2 : ((k : Int) + 1).toNat = k + 1 := by omega
  go_enter Try.func50, Try.ntmps50
  go_wp2_with fail
  go_quiet (fail)
  all_goals
    go_wp2
    go_ret
    exact ⟨(by rw [HC.out]; rfl), bl_drewN HB0.out _⟩
set_option maxHeartbeats 4000000 in
theorem p_fcost_copy {w : World} {F : Nat} {E : Env} {M D : Option Addr} {c1 c2 : Nat} (h : Fin_ w F E M D c1 c2) (hE : EnvOk E) (hL : LongOk w F E.m) (n x : Nat) (hx : 1 ≤ x) (hx2 : x ≤ 67108864) (hn : 2 ≤ n) (hn2 : n ≤ 258) :
    Calls Try.prog 50 #[.pointer (some ⟨F, 0, none⟩), tokV (copyT n x)] w fun e w' => e = .returned (.int .i64 (cost E.m E.d (copyT n x))) ∧ Below w.heap.size w w' := by
  have hds := distS_bd x
  have hdx := distX_bd x
  have ho : tokOk (copyT n x) := .inr (.inl ⟨rfl, by simp only [copyT]; omega, by simp only [copyT]; omega, rfl, rfl, by simp only [copyT]; omega, by simp only [copyT]; omega⟩)
  have o1 : tokOk (copyT n 1) := .inr (.inl ⟨rfl, by simp [copyT], by simp [copyT], rfl, rfl, by simp only [copyT]; omega, by simp only [copyT]; omega⟩)
  have HC : Hid (cost E.m E.d (copyT n x) = longF E.m 0 n + (E.d.getD (distS x).toNat 0 + distX x)) := Lib.hid (by
    unfold cost longF
    rw [if_neg (by simp [copyT]), if_pos (by simp [copyT]), if_pos rfl]
    have : tokSym (copyT n x) = tokSym (copyT n 1) := by
      unfold tokSym
      rw [if_pos ho, if_pos o1]
      simp [copyT]
    rw [this]
    simp [copyT])
  have g2 := hL 0 n (by omega) hn hn2
  have hdl := hE.d
  have hpd := hE.dok
  have hlt := h.lt
  have hrd := h.rd
  have g3 := h.pd
  have HDL := Lib.hid hdl
  generalize hy0 : longF E.m 0 n = y at *
  have hyb : 0 ≤ y ∧ y ≤ 4194304 := by
    have hs := tokSym_bd o1
    have hi : (tokSym (copyT n 1)).toNat < E.m.length := by rw [hE.m]; omega
    have h1 := hE.mok E.m[(tokSym (copyT n 1)).toNat] (List.getElem_mem hi)
    have h2 := lenX_bd n
    rw [← hy0]
    unfold longF
    rw [if_pos rfl, List.getD_eq_getElem?_getD, List.getElem?_eq_getElem hi]
    simp only [Option.getD_some]
    omega
  clear hy0 hE hL h
  unfold copyT tokV at *
  simp only
  have hB0 := bl_alloc (Below.refl w.heap.size w) (.cells #[.int .i64 1, .int .i64 0, .int .i64 n, .int .i64 x, .int .i64 0] 65)
  have a2 := (hB0.cell (show (⟨F, 10 + 0 * 259 + n, none⟩ : Addr).block < w.heap.size from hlt)).trans g2
  have a3 := (hB0.cell (show (⟨F, 3, none⟩ : Addr).block < w.heap.size from hlt)).trans g3
  have hrd0 := hrd.below hB0
  have HB0 := Lib.hid hB0
  clear g2 g3 hB0 hrd ho o1
  rw [show 10 + 0 * 259 + n = 10 + n by omega] at a2
  have q1 : 0 ≤ (n : Int) := by omega
  have q2 : (n : Int) < 259 := by omega
  go_enter Try.func50, Try.ntmps50
  go_wp2_with fail
  refine (p_Dist x _).mono ?_
  rintro e w1 ⟨rfl, rfl⟩
  generalize distX (x : Int) = X at *
  obtain ⟨S, hS⟩ : ∃ S : Nat, distS (x : Int) = S := ⟨(distS (x : Int)).toNat, by omega⟩
  rw [hS] at hds HC
  rw [hS]
  rw [Int.toNat_natCast] at HC
  obtain ⟨ad, rfl, had, hcm⟩ := hrd0.at_ S (by rw [hdl]; omega)
  have hg : E.d.getD S 0 = E.d[S]'(by rw [hdl]; omega) := by rw [List.getD_eq_getElem?_getD, List.getElem?_eq_getElem (by rw [hdl]; omega)]; rfl
  have hb1 := hpd (E.d[S]'(by rw [hdl]; omega)) (List.getElem_mem _)
  rw [hg] at HC
  generalize E.d[S]'(by rw [hdl]; omega) = Y at *
  rw [hdl] at a3
  clear hS hg hrd0 hdl hpd had
  have q3 : (S : Int) < 52 := by omega
  have q4 : 0 ≤ (S : Int) := by omega
  have e1 : IntKind.i64.wrap (y + Y) = y + Y := Go.IntWalk.i64_in _ (by omega)
  have e2 : IntKind.i64.wrap (y + Y + X) = y + Y + X := Go.IntWalk.i64_in _ (by omega)
  go_wp2_with fail
  go_quiet (fail)
  all_goals
    go_wp2
    go_ret
    exact ⟨(by rw [HC.out, ← Int.add_assoc]; rfl), bl_drewN HB0.out _⟩
end Go.Proofs.Ytndkgjoaljcijaa
