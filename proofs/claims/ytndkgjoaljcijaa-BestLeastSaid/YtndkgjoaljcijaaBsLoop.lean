/- Chapter 26 (best): the great loop's relation, and how it goes on: the plain part. -/
import Derived.Test.YtndkgjoaljcijaaBsSpread
import Derived.Test.YtndkgjoaljcijaaBsBack
set_option linter.unusedSimpArgs false
set_option linter.unusedVariables false
set_option maxRecDepth 100000
namespace Go.Proofs.Ytndkgjoaljcijaa
open Go.RowKit

theorem pushW_length (L : List Wt) (x : Wt) : (pushW L x).length = L.length + 1 := by unfold pushW; rw [siftUp_length]; simp
theorem reach_gap (E : Env) (cur : St) (c : Int) (p : PS) (t : Tok) : (reachF E cur c p t).came - (reachF E cur c p t).L.length = p.came - p.L.length ∧ p.came ≤ (reachF E cur c p t).came := by
  unfold reachF
  split
  · omega
  · split
    · omega
    · simp only
      rw [pushW_length]
      push_cast
      omega
theorem spread_fold (E : Env) (cur : St) (c : Int) : ∀ (ts : List Tok) (p : PS), (ts.foldl (reachF E cur c) p).came - (ts.foldl (reachF E cur c) p).L.length = p.came - p.L.length ∧ p.came ≤ (ts.foldl (reachF E cur c) p).came ∧ (phiB E (ts.foldl (reachF E cur c) p).L : Int) + (ts.foldl (reachF E cur c) p).came ≤ (phiB E p.L : Int) + p.came + (tokB E cur ts : Nat)
  | [], p => ⟨rfl, Int.le_refl _, by simp [tokB, sumN]⟩
  | t :: ts, p => by
    obtain ⟨h1, h2, h3⟩ := spread_fold E cur c ts (reachF E cur c p t)
    have h4 := reach_gap E cur c p t
    have h5 := reach_bound E cur c p t
    rw [tokB_cons]
    simp only [List.foldl_cons]
    refine ⟨by omega, by omega, by omega⟩
/-- How many rounds are left at most. -/
def measP (p : PS) : Int := 100000000001 + p.L.length - p.came
structure Good (E : Env) (r : Rp) (p : PS) : Prop where
  inv : Inv E r none p
  bd : (phiB E p.L : Int) + p.came ≤ 100000000000
  came : 0 ≤ p.came
theorem good_start {E : Env} (hE : EnvOk E) (r : Rp) (h12 : E.s.length - E.b ≤ 12) : Good E r (startF E r) := by
  refine ⟨start_inv hE r, ?_, Int.le_refl _⟩
  have h1 : phiB E (startF E r).L = bB (E.s.length - E.b) := by
    simp [phiB, startF, sumN, rem]
  have h2 := bB_le 12 _ h12
  have h3 := bB_12
  rw [h1]
  show ((bB (E.s.length - E.b) : Nat) : Int) + 0 ≤ _
  omega
/-- One round. -/
theorem loop_step {E : Env} {r : Rp} (hE : EnvOk E) (h24 : E.s.length ≤ 24) {p : PS} (hg : Good E r p) {k : Nat} {target : PS × Wt} (h : loopF E k p = some target) : p.L ≠ [] ∧
    (((gw p.L 0).s.at_ = E.s.length ∧ target = (⟨p.f, popW p.L, p.came⟩, gw p.L 0)) ∨
     ((gw p.L 0).s.at_ ≠ E.s.length ∧ (gw p.L 0).cost = costOf p.f (gw p.L 0).s ∧ (∃ k', loopF E k' (spreadF E (gw p.L 0).s (gw p.L 0).cost ⟨p.f, popW p.L, p.came⟩) = some target) ∧ Good E r (spreadF E (gw p.L 0).s (gw p.L 0).cost ⟨p.f, popW p.L, p.came⟩) ∧
        measP (spreadF E (gw p.L 0).s (gw p.L 0).cost ⟨p.f, popW p.L, p.came⟩) = measP p - 1 ∧ E.b ≤ (gw p.L 0).s.at_ ∧ (gw p.L 0).s.at_ < E.s.length ∧ 0 ≤ (gw p.L 0).cost ∧ (gw p.L 0).cost ≤ 1000000000000000 ∧ (phiB E (popW p.L) : Int) + p.came + (tokB E (gw p.L 0).s (toks E (gw p.L 0).s) : Nat) ≤ 100000000000) ∨
     ((gw p.L 0).s.at_ ≠ E.s.length ∧ (gw p.L 0).cost ≠ costOf p.f (gw p.L 0).s ∧ (∃ k', loopF E k' ⟨p.f, popW p.L, p.came⟩ = some target) ∧ Good E r ⟨p.f, popW p.L, p.came⟩ ∧ measP ⟨p.f, popW p.L, p.came⟩ = measP p - 1)) := by
  cases k with
  | zero => simp [loopF] at h
  | succ k =>
    unfold loopF at h
    by_cases hne : p.L = []
    · rw [if_pos hne] at h; cases h
    · rw [if_neg hne] at h
      refine ⟨hne, ?_⟩
      have h0 : 0 < p.L.length := List.length_pos_iff.2 hne
      obtain ⟨i1, i2, i3⟩ := pop_inv hg.inv hne
      have hpb := phiB_pop E h0
      have hbd := hg.bd
      have hpl := popW_length p.L
      by_cases ha : (gw p.L 0).s.at_ = E.s.length
      · rw [if_pos ha] at h
        injection h with h
        exact .inl ⟨ha, h.symm⟩
      · rw [if_neg ha] at h
        by_cases hc : (gw p.L 0).cost = costOf p.f (gw p.L 0).s
        · rw [if_pos hc] at h
          obtain ⟨x, hx, hxc⟩ := i3 hc
          obtain ⟨a1, a2, a3, a4⟩ := hg.inv.at_ _ x hx
          have hlt : (gw p.L 0).s.at_ < E.s.length := by omega
          have htb := toks_bound hE hlt h24
          obtain ⟨s1, s2, s3⟩ := spread_fold E (gw p.L 0).s (gw p.L 0).cost (toks E (gw p.L 0).s) ⟨p.f, popW p.L, p.came⟩
          have hcm := hg.came
          have hb1 : (phiB E (popW p.L) : Int) + p.came + (tokB E (gw p.L 0).s (toks E (gw p.L 0).s) : Nat) ≤ 100000000000 := by omega
          refine .inr (.inl ⟨ha, hc, ⟨k, h⟩, ⟨spread_inv hE hlt i1 ⟨x, hx, hxc⟩, ?_, ?_⟩, ?_, a1, hlt, by omega, ?_, hb1⟩)
          · unfold spreadF
            simp only at s3
            omega
          · unfold spreadF
            simp only at s2
            omega
          · unfold measP spreadF
            simp only at s1
            omega
          · have : ((gw p.L 0).s.at_ - E.b : Int) * bigC ≤ 24 * bigC := Int.mul_le_mul_of_nonneg_right (by omega) (by unfold bigC; omega)
            unfold bigC at this a4
            omega
        · rw [if_neg hc] at h
          refine .inr (.inr ⟨ha, hc, ⟨k, h⟩, ⟨i2 hc, ?_, hg.came⟩, ?_⟩)
          · simp only; omega
          · unfold measP; simp only; omega
/-! In memory. -/
theorem Fp.push {w w' : World} {F mb base n : Nat} {p : PS} {ob : Option Nat} {v : Value} {L' : List Wt} (h : Fp w F mb base p ob n) (h7 : w.cell? ⟨F, 7, none⟩ = some v) (hvo : v.ownBlock = ob) (hF : F < base) (hm : mb < base) (hne : F ≠ mb) (hP : Push_ w w' F base v L') :
    ∃ ob', Fp w' F mb base ⟨p.f, L', p.came⟩ ob' n ∧ Tc w w' F mb ob ob' := by
  obtain ⟨v', w97, wr9, wo9⟩ := hP.row
  have hfr := hP.fr
  have hob := h.base_le
  have hm9 := hfr.block mb h.map.lt (fun q => hne q.symm) (fun q => by rw [hvo] at q; have := hob _ q.symm; omega)
  refine ⟨v'.ownBlock, ⟨⟨v', w97, wr9, rfl⟩, (hfr.cells 9 (by omega)).trans h.came, h.map.same hm9⟩, ⟨fun i h7 _ => hfr.cells i h7, hfr.frozen, hfr.os, hfr.tape, hfr.output, hfr.size, fun k hk hF _ hv => hfr.block k hk hF (fun q => hv (by rw [q, hvo])), ?_⟩⟩
  rcases wo9 with h | ⟨k, h, hk⟩
  · exact .inl (h.trans hvo)
  · exact .inr ⟨k, h, hk⟩
theorem Tc.lower {w0 w w' : World} {F mb base : Nat} {ob ob' : Option Nat} (h : Tc w w' F mb ob ob') (hb : Below w0.heap.size w0 w) (hF : w0.heap.size ≤ F) (hm : w0.heap.size ≤ mb) (hbase : w0.heap.size ≤ base) (hob : ∀ k, ob = some k → base ≤ k) : Below w0.heap.size w0 w' :=
  hb.trans ⟨h.os, h.tape, h.output, h.size, fun k hk => h.block k (by have := hb.size; omega) (by omega) (by omega) (fun q => by have := hob _ q.symm; omega)⟩
def measW (F : Nat) (w : World) : Nat := ((100000000001 : Int) + (lenV ((w.cell? ⟨F, 7, none⟩).getD undef) : Int) - intOf ((w.cell? ⟨F, 9, none⟩).getD undef)).toNat
theorem Fp.meas {w : World} {F mb base n : Nat} {p : PS} {ob : Option Nat} (h : Fp w F mb base p ob n) : measW F w = (measP p).toNat := by
  obtain ⟨v, h7, hr, _⟩ := h.row
  obtain ⟨A, c, rfl, _⟩ := Row.slice hr
  unfold measW measP
  rw [h7, h.came]
  rfl
/-- The great loop's state. -/
def LoopW (w wr : World) (F mb base G : Nat) (E : Env) (r : Rp) (M D LA : Option Addr) (c1 c2 c3 : Nat) (p : PS) : Prop :=
  ∃ ob n, Fs wr F mb base E M D LA c1 c2 c3 (leftsF E (E.s.length - E.b) (E.s.length - E.b)) ∧ Fp wr F mb base p ob n ∧ Blk wr G 61 (stCells ⟨E.b, r⟩).toArray ∧ Below w.heap.size w wr
theorem LoopW.next {w wr w' : World} {F mb base G c1 c2 c3 n n' : Nat} {E : Env} {r : Rp} {M D LA : Option Addr} {p p' : PS} {ob ob' : Option Nat} (hs : Fs wr F mb base E M D LA c1 c2 c3 (leftsF E (E.s.length - E.b) (E.s.length - E.b))) (hp : Fp wr F mb base p ob n) (hg : Blk wr G 61 (stCells ⟨E.b, r⟩).toArray) (hb : Below w.heap.size w wr)
    (hG : G < base ∧ G ≠ F ∧ G ≠ mb) (hw : w.heap.size ≤ F ∧ w.heap.size ≤ mb ∧ w.heap.size ≤ base) (hp' : Fp w' F mb base p' ob' n') (ht : Tc wr w' F mb ob ob') : LoopW w w' F mb base G E r M D LA c1 c2 c3 p' := by
  have hob := fun k q => (hp.base_le k q).1
  refine ⟨ob', n', hs.move hob ht, hp', ?_, ht.lower hb hw.1 hw.2.1 hw.2.2 hob⟩
  exact (ht.block G hg.lt hG.2.1 hG.2.2 (fun q => by have := hob _ q.symm; omega)).trans hg
end Go.Proofs.Ytndkgjoaljcijaa
