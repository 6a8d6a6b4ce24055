/- Chapter 26 (best): the finder in memory, whole: what is known of it, and what a change leaves. -/
import Derived.Test.YtndkgjoaljcijaaBsPush
import Derived.Test.YtndkgjoaljcijaaBsPop
import Derived.Test.YtndkgjoaljcijaaBsMap
import Derived.Test.YtndkgjoaljcijaaBsBound
import Derived.Test.YtndkgjoaljcijaaRepsU
set_option linter.unusedSimpArgs false
set_option linter.unusedVariables false
set_option maxRecDepth 100000
namespace Go.Proofs.Ytndkgjoaljcijaa
open Go.RowKit

/-- What a change of the search leaves. -/
structure Tc (w w' : World) (F mb : Nat) (ob ob' : Option Nat) : Prop where
  cells : ∀ i, i ≠ 7 → i ≠ 9 → w'.cell? ⟨F, i, none⟩ = w.cell? ⟨F, i, none⟩
  frozen : ∀ i, w'.frozen? ⟨F, i, none⟩ = w.frozen? ⟨F, i, none⟩
  os : w'.os = w.os
  tape : w'.tape = w.tape
  output : w'.output = w.output
  size : w.heap.size ≤ w'.heap.size
  block : ∀ k, k < w.heap.size → k ≠ F → k ≠ mb → some k ≠ ob → w'.heap[k]? = w.heap[k]?
  own : ob' = ob ∨ ∃ k, ob' = some k ∧ w.heap.size ≤ k
theorem Tc.trans {w w1 w2 : World} {F mb : Nat} {ob ob1 ob2 : Option Nat} (h : Tc w w1 F mb ob ob1) (h2 : Tc w1 w2 F mb ob1 ob2) : Tc w w2 F mb ob ob2 := by
  have hs := h.size
  refine ⟨fun i h7 h9 => (h2.cells i h7 h9).trans (h.cells i h7 h9), fun i => (h2.frozen i).trans (h.frozen i), h2.os.trans h.os, h2.tape.trans h.tape, h2.output.trans h.output, Nat.le_trans h.size h2.size, fun k hk hF hm hv => ?_, ?_⟩
  · refine (h2.block k (by omega) hF hm (fun q => ?_)).trans (h.block k hk hF hm hv)
    rcases h.own with e | ⟨j, e, hj⟩
    · exact hv (q.trans e)
    · rw [e] at q; injection q with q; omega
  · rcases h2.own with e | ⟨j, e, hj⟩
    · rw [e]; exact h.own
    · exact .inr ⟨j, e, by omega⟩
theorem Tc.below {w w' : World} {F : Nat} (hb : Below w.heap.size w w') (hF : F < w.heap.size) (mb : Nat) (ob : Option Nat) : Tc w w' F mb ob ob :=
  ⟨fun i _ _ => hb.cell (p := ⟨F, i, none⟩) hF, fun i => hb.frozen (p := ⟨F, i, none⟩) hF, hb.os, hb.tape, hb.output, hb.size, fun k hk _ _ _ => hb.block k hk, .inl rfl⟩
theorem Tc.refl (w : World) (F mb : Nat) (ob : Option Nat) : Tc w w F mb ob ob := ⟨fun _ _ _ => rfl, fun _ => rfl, rfl, rfl, rfl, Nat.le_refl _, fun _ _ _ _ _ => rfl, .inl rfl⟩
theorem Tc.drewN {w w' : World} {F mb : Nat} {ob ob' : Option Nat} (h : Tc w w' F mb ob ob') (n : Nat) : Tc w (w'.drewN n) F mb ob ob' := ⟨h.cells, h.frozen, h.os, h.tape, h.output, h.size, h.block, h.own⟩
theorem Tc.map {w w' : World} {F mb : Nat} (h : w.grownBy w' (some mb)) (hF : F < w.heap.size) (hne : F ≠ mb) (ob : Option Nat) : Tc w w' F mb ob ob :=
  have hb := h.block F hF (fun q => hne (by injection q))
  ⟨fun i _ _ => World.cell?_of_block hb, fun i => frozen_of hb, h.os, h.tape, h.output, h.size, fun k hk _ hm _ => h.block k hk (fun q => hm (by injection q)), .inl rfl⟩
theorem Tc.set9 (w : World) (F mb : Nat) (ob : Option Nat) (u : Value) : Tc w (w.setCell ⟨F, 9, none⟩ u) F mb ob ob :=
  ⟨fun i _ h9 => World.cell?_setCell_other w _ _ _ (by simp only [ne_eq, Addr.mk.injEq, and_true, true_and]; exact fun q => h9 q.symm), fun i => World.frozen?_setCell _ _ _ _, rfl, rfl, rfl, by simp [World.setCell], fun k _ hk _ _ => Below.heap_setCell w ⟨F, 9, none⟩ _ k hk, .inl rfl⟩

/-- The finder, but for what the search changes. -/
structure Fs (w : World) (F mb base : Nat) (E : Env) (M D LA : Option Addr) (c1 c2 c3 : Nat) (ls : List Int) : Prop where
  fin : Fin_ w F E M D c1 c2
  lng : LongOk w F E.m
  c5 : w.cell? ⟨F, 5, none⟩ = some (.slice LA ls.length c3)
  rl : ReadsI w LA ls
  c6 : w.cell? ⟨F, 6, none⟩ = some (.map (some mb))
  less : w.cell? ⟨F, 8, none⟩ = some (.func (.func 17) #[] #[])
  frz : ∀ i, w.frozen? ⟨F, i, none⟩ = false
  ltF : F < base
  ltm : mb < base
  hbase : base ≤ w.heap.size
  hne : F ≠ mb
  safe : ∀ ad, (M = some ad ∨ D = some ad ∨ LA = some ad) → ad.block < base ∧ ad.block ≠ F ∧ ad.block ≠ mb
/-- What the search changes. -/
structure Fp (w : World) (F mb base : Nat) (p : PS) (ob : Option Nat) (n : Nat) : Prop where
  row : ∃ v, w.cell? ⟨F, 7, none⟩ = some v ∧ RowW w base v p.L ∧ v.ownBlock = ob
  came : w.cell? ⟨F, 9, none⟩ = some (.int .i64 p.came)
  map : MapS w mb p.f n
theorem Fp.base_le {w : World} {F mb base n : Nat} {p : PS} {ob : Option Nat} (h : Fp w F mb base p ob n) : ∀ k, ob = some k → base ≤ k ∧ k < w.heap.size := by
  obtain ⟨v, _, hr, rfl⟩ := h.row
  exact Row.lt hr
theorem reads_keep {w w' : World} {A : Option Addr} {l : List Int} (h : ReadsI w A l) (hs : w.heap.size ≤ w'.heap.size) (hb : ∀ ad, A = some ad → w'.heap[ad.block]? = w.heap[ad.block]?) : ReadsI w' A l :=
  ⟨h.1, fun hn => by
    obtain ⟨ad, e, hlt, hc⟩ := h.2 hn
    exact ⟨ad, e, Nat.lt_of_lt_of_le hlt hs, fun j u hu => (World.cell?_of_block (by rw [block_of_add]; exact hb ad e)).trans (hc j u hu)⟩⟩
theorem Fs.move {w w' : World} {F mb base c1 c2 c3 : Nat} {E : Env} {M D LA : Option Addr} {ls : List Int} {ob ob' : Option Nat} (h : Fs w F mb base E M D LA c1 c2 c3 ls) (hob : ∀ k, ob = some k → base ≤ k) (ht : Tc w w' F mb ob ob') : Fs w' F mb base E M D LA c1 c2 c3 ls := by
  have hs := ht.size
  have hb := h.hbase
  have hF := h.ltF
  have hr : ∀ ad, (M = some ad ∨ D = some ad ∨ LA = some ad) → w'.heap[ad.block]? = w.heap[ad.block]? := fun ad hd => by
    obtain ⟨a1, a2, a3⟩ := h.safe ad hd
    exact ht.block _ (by omega) a2 a3 (fun q => by have := hob _ q.symm; omega)
  have hf := h.fin
  exact ⟨⟨(ht.cells 0 (by omega) (by omega)).trans hf.s, (ht.cells 1 (by omega) (by omega)).trans hf.b, (ht.cells 2 (by omega) (by omega)).trans hf.pm, (ht.cells 3 (by omega) (by omega)).trans hf.pd, (ht.cells 4 (by omega) (by omega)).trans hf.win, reads_keep hf.rm hs (fun ad e => hr ad (.inl e)), reads_keep hf.rd hs (fun ad e => hr ad (.inr (.inl e))), by omega⟩,
    fun k n a b c => (ht.cells _ (by omega) (by omega)).trans (h.lng k n a b c), (ht.cells 5 (by omega) (by omega)).trans h.c5, reads_keep h.rl hs (fun ad e => hr ad (.inr (.inr e))), (ht.cells 6 (by omega) (by omega)).trans h.c6, (ht.cells 8 (by omega) (by omega)).trans h.less, fun i => (ht.frozen i).trans (h.frz i), h.ltF, h.ltm, by omega, h.hne, h.safe⟩
theorem Fs.below {w w' : World} {F mb base c1 c2 c3 : Nat} {E : Env} {M D LA : Option Addr} {ls : List Int} (h : Fs w F mb base E M D LA c1 c2 c3 ls) (hb : Below w.heap.size w w') : Fs w' F mb base E M D LA c1 c2 c3 ls :=
  h.move (ob := none) (fun k q => by cases q) (Tc.below hb (by have := h.ltF; have := h.hbase; omega) mb none)
theorem Fp.below {w w' : World} {F mb base n : Nat} {p : PS} {ob : Option Nat} (h : Fp w F mb base p ob n) (hF : F < w.heap.size) (hb : Below w.heap.size w w') : Fp w' F mb base p ob n := by
  obtain ⟨v, h7, hr, ho⟩ := h.row
  exact ⟨⟨v, (hb.cell (p := ⟨F, 7, none⟩) hF).trans h7, Row.below hr hb, ho⟩, (hb.cell (p := ⟨F, 9, none⟩) hF).trans h.came, h.map.below hb⟩
/-- What a token costs, by the finder. -/
theorem p_fcost_ok {w : World} {F : Nat} {E : Env} {M D : Option Addr} {c1 c2 : Nat} {st : St} {t : Tok} (h : Fin_ w F E M D c1 c2) (hE : EnvOk E) (hL : LongOk w F E.m) (ht : okTok E st t) :
    Calls Try.prog 50 #[.pointer (some ⟨F, 0, none⟩), tokV t] w fun e w' => e = .returned (.int .i64 (cost E.m E.d t)) ∧ Below w.heap.size w w' := by
  rcases ht with rfl | ⟨n, k, hk, h1, h2, rfl⟩ | ⟨n, x, h1, h2, rfl⟩
  · exact p_fcost_lit h hE _
  · exact p_fcost_rep h hL n k hk h1 (by have := shr_le E st.at_ (st.r.get k); omega)
  · have h3 := shr_pos (show 0 < shr E st.at_ x by omega)
    have h4 := hE.win2
    exact p_fcost_copy h hE hL n x (by omega) (by omega) h1 (by have := shr_le E st.at_ x; omega)
end Go.Proofs.Ytndkgjoaljcijaa
