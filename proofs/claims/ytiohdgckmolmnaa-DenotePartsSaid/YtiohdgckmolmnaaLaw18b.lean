/- Chapter 18's second law, by a walk. -/
import Derived.Test.YtiohdgckmolmnaaAwake18
set_option linter.unusedSimpArgs false
set_option linter.unusedVariables false
namespace Go.Proofs.Ytiohdgckmolmnaa
open Go.RowKit

set_option maxHeartbeats 16000000 in
set_option maxRecDepth 100000 in
theorem law_DenoteApplies_small (h : List UInt8) (r : Rp) (T : Option Addr) (c2 : Nat) (l : List Tok) (window : Int) (b : List UInt8) (w : World) (hT : ReadsT w T l) (h1 : h.length ≤ 500) (h2 : l.length ≤ 60) (h3 : b.length ≤ 3000) :
    Calls Try.prog 11 #[.agg #[.string (str h), .int .i64 r.a, .int .i64 r.b, .int .i64 r.c, .int .i64 r.d, .slice T l.length c2, .int .i64 window], .string (str b)] w fun e w' => e = .returned (.bool true) ∧ Below w.heap.size w w' := by
  obtain ⟨ra, rb, rc, rd⟩ := r
  have l1 : (str h).size ≤ 500 := h1
  have l3 : (str b).size ≤ 3000 := h3
  have hconv := fun W => Lib.run_convert_string_bytes (P := Try.prog) W 9 68 5 (str h) Try.underlying9 Try.underlying68 Try.underlying5
  have hbox := bytesWorld_below (w.alloc (.cells #[.string (str h), .int .i64 ra, .int .i64 rb, .int .i64 rc, .int .i64 rd, .slice T l.length c2, .int .i64 window] 76)) 5 (str h)
  have hrow := Row.of_string (w.alloc (.cells #[.string (str h), .int .i64 ra, .int .i64 rb, .int .i64 rc, .int .i64 rd, .slice T l.length c2, .int .i64 window] 76)) 0 5 (str h) (Nat.zero_le _) (by simp only [maxLen, str_size]; omega)
  have hrd : ReadsB (Lib.bytesWorld (w.alloc (.cells #[.string (str h), .int .i64 ra, .int .i64 rb, .int .i64 rc, .int .i64 rd, .slice T l.length c2, .int .i64 window] 76)) 5 (str h)) (some ⟨(w.alloc (.cells #[.string (str h), .int .i64 ra, .int .i64 rb, .int .i64 rc, .int .i64 rd, .slice T l.length c2, .int .i64 window] 76)).heap.size, 0, none⟩) h := Row.reads hrow rfl
  have hblk := Blk.below (Blk.new w 76 #[.string (str h), .int .i64 ra, .int .i64 rb, .int .i64 rc, .int .i64 rd, .slice T l.length c2, .int .i64 window]) hbox (by simp)
  have hT1 := (hT.below ((Below.refl _ _).alloc (Nat.le_refl _) (.cells #[.string (str h), .int .i64 ra, .int .i64 rb, .int .i64 rc, .int .i64 rd, .slice T l.length c2, .int .i64 window] 76))).below hbox
  have hbs := hbox.size
  have B1 := bl_then (bl_alloc (Below.refl w.heap.size w) (.cells #[.string (str h), .int .i64 ra, .int .i64 rb, .int .i64 rc, .int .i64 rd, .slice T l.length c2, .int .i64 window] 76)) (by simp) hbox
  have hqr := fun W => eqReps W
  have hqm := eqRepsMark
  simp only [World.size_alloc] at hrd hbs
  have kc1 := Blk.cell hblk
  clear hrow hbox
  go_enter Try.func11, Try.ntmps11
  go_wp2_with fail
  generalize Lib.bytesWorld (w.alloc (.cells #[.string (str h), .int .i64 ra, .int .i64 rb, .int .i64 rc, .int .i64 rd, .slice T l.length c2, .int .i64 window] 76)) 5 (str h) = w1 at *
  refine (p_Apply _ _ h ⟨ra, rb, rc, rd⟩ T c2 l window _ hrd hT1 (by omega) (by omega)).mono ?_
  rintro e w2 ⟨v2, rfl, hr2, hb2, hs2⟩
  have k2 := hblk.below hb2 (by omega)
  have hT2 := hT1.below hb2
  have B2 := bl_then B1 (by omega) hb2
  clear hblk hrd B1 kc1
  generalize hR : applyT window l h ⟨ra, rb, rc, rd⟩ = R at *
  have HR := Lib.hid hR
  clear hR
  obtain ⟨X, ⟨u0, u1, u2, u3⟩, er⟩ := R
  unfold rpV
  have kc2 := Blk.cell k2
  have hz2 : w.heap.size < w2.heap.size := by omega
  go_wp2_with fail
  refine (r_Apply h ⟨ra, rb, rc, rd⟩ T c2 l window _ (hT2.below ((Below.refl _ _).alloc (Nat.le_refl _) _)) (by omega) (by omega)).mono ?_
  rintro e w3 ⟨rfl, hb3⟩
  rw [HR.out]
  unfold rpV
  have hs3 := hb3.size
  have hz3 : w2.heap.size < w3.heap.size := by simp at hs3; omega
  have hz3' : w.heap.size < w3.heap.size := by omega
  have k3 := (k2.alloc (.cells #[.int .i64 u0, .int .i64 u1, .int .i64 u2, .int .i64 u3] 23)).below hb3 (by simp; omega)
  have m3 := Blk.below (Blk.new w2 23 #[.int .i64 u0, .int .i64 u1, .int .i64 u2, .int .i64 u3]) hb3 (by simp)
  have hT3 := (hT2.below ((Below.refl _ _).alloc (Nat.le_refl _) (.cells #[.int .i64 u0, .int .i64 u1, .int .i64 u2, .int .i64 u3] 23))).below hb3
  have hr3 := (hr2.alloc (.cells #[.int .i64 u0, .int .i64 u1, .int .i64 u2, .int .i64 u3] 23)).below hb3
  have B3 := bl_then (bl_alloc B2 (.cells #[.int .i64 u0, .int .i64 u1, .int .i64 u2, .int .i64 u3] 23)) (by simp; omega) hb3
  -- behind the second store
  obtain ⟨A, c, rfl, hc, hrdx⟩ := hr3.slice
  have k5 := k3.alloc (.cells #[.int .i64 u0, .int .i64 u1, .int .i64 u2, .int .i64 u3] 23)
  have m5 := m3.alloc (.cells #[.int .i64 u0, .int .i64 u1, .int .i64 u2, .int .i64 u3] 23)
  have n5 := Blk.new w3 23 #[.int .i64 u0, .int .i64 u1, .int .i64 u2, .int .i64 u3]
  have hT5 := hT3.below ((Below.refl _ _).alloc (Nat.le_refl _) (.cells #[.int .i64 u0, .int .i64 u1, .int .i64 u2, .int .i64 u3] 23))
  have hrd5 : ReadsB (w3.alloc (.cells #[.int .i64 u0, .int .i64 u1, .int .i64 u2, .int .i64 u3] 23)) A X := hrdx.alloc _
  have HB := Lib.hid (bl_alloc B3 (.cells #[.int .i64 u0, .int .i64 u1, .int .i64 u2, .int .i64 u3] 23))
  have hs5 : w3.heap.size < (w3.alloc (.cells #[.int .i64 u0, .int .i64 u1, .int .i64 u2, .int .i64 u3] 23)).heap.size := by simp
  clear hb2 hs2 hb3 hs3 k2 kc2 hT1 hT2 hT3 B2 B3 hr2 hr3 hrdx k3 m3 hconv hbs
  go_wp2_with fail
  generalize w3.alloc (.cells #[.int .i64 u0, .int .i64 u1, .int .i64 u2, .int .i64 u3] 23) = w5 at *
  have HS5 := Lib.hid hs5
  clear hs5
  have HK : Hid (∀ w', Below w5.heap.size w5 w' → (convert 68 9 (.slice A X.length c)).run Try.prog w' = .ok (.string (str X)) w' ∧ w'.cell? ⟨w.heap.size, 0, none⟩ = some (.string (str h)) ∧ w'.cell? ⟨w.heap.size, 1, none⟩ = some (.int .i64 ra) ∧ w'.cell? ⟨w.heap.size, 2, none⟩ = some (.int .i64 rb) ∧ w'.cell? ⟨w.heap.size, 3, none⟩ = some (.int .i64 rc) ∧ w'.cell? ⟨w.heap.size, 4, none⟩ = some (.int .i64 rd) ∧ w'.cell? ⟨w.heap.size, 5, none⟩ = some (.slice T l.length c2) ∧ w'.cell? ⟨w.heap.size, 6, none⟩ = some (.int .i64 window) ∧ w'.cell? ⟨w2.heap.size, 0, none⟩ = some (.int .i64 u0) ∧ w'.cell? ⟨w2.heap.size, 1, none⟩ = some (.int .i64 u1) ∧ w'.cell? ⟨w2.heap.size, 2, none⟩ = some (.int .i64 u2) ∧ w'.cell? ⟨w2.heap.size, 3, none⟩ = some (.int .i64 u3) ∧ w'.cell? ⟨w3.heap.size, 0, none⟩ = some (.int .i64 u0) ∧ w'.cell? ⟨w3.heap.size, 1, none⟩ = some (.int .i64 u1) ∧ w'.cell? ⟨w3.heap.size, 2, none⟩ = some (.int .i64 u2) ∧ w'.cell? ⟨w3.heap.size, 3, none⟩ = some (.int .i64 u3) ∧ Below w5.heap.size w5 w') := by
    intro w' hb
    have q0 := Blk.cell (k5.below hb (by have := HS5.out; omega))
    have q1 := Blk.cell (m5.below hb (by have := HS5.out; omega))
    have q2 := Blk.cell (n5.below hb HS5.out)
    exact ⟨run_str w' _ A X.length c X (hrd5.below hb), q0 0, q0 1, q0 2, q0 3, q0 4, q0 5, q0 6, q1 0, q1 1, q1 2, q1 3, q2 0, q2 1, q2 2, q2 3, hb⟩
  have HTT : Hid (∀ w', Below w5.heap.size w5 w' → ReadsT w' T l) := fun w' hb => hT5.below hb
  clear k5 m5 n5 hT5 hrd5
  go_region_held3 (fun w' => (convert 68 9 (.slice A X.length c)).run Try.prog w' = .ok (.string (str X)) w' ∧ w'.cell? ⟨w.heap.size, 0, none⟩ = some (.string (str h)) ∧ w'.cell? ⟨w.heap.size, 1, none⟩ = some (.int .i64 ra) ∧ w'.cell? ⟨w.heap.size, 2, none⟩ = some (.int .i64 rb) ∧ w'.cell? ⟨w.heap.size, 3, none⟩ = some (.int .i64 rc) ∧ w'.cell? ⟨w.heap.size, 4, none⟩ = some (.int .i64 rd) ∧ w'.cell? ⟨w.heap.size, 5, none⟩ = some (.slice T l.length c2) ∧ w'.cell? ⟨w.heap.size, 6, none⟩ = some (.int .i64 window) ∧ w'.cell? ⟨w2.heap.size, 0, none⟩ = some (.int .i64 u0) ∧ w'.cell? ⟨w2.heap.size, 1, none⟩ = some (.int .i64 u1) ∧ w'.cell? ⟨w2.heap.size, 2, none⟩ = some (.int .i64 u2) ∧ w'.cell? ⟨w2.heap.size, 3, none⟩ = some (.int .i64 u3) ∧ w'.cell? ⟨w3.heap.size, 0, none⟩ = some (.int .i64 u0) ∧ w'.cell? ⟨w3.heap.size, 1, none⟩ = some (.int .i64 u1) ∧ w'.cell? ⟨w3.heap.size, 2, none⟩ = some (.int .i64 u2) ∧ w'.cell? ⟨w3.heap.size, 3, none⟩ = some (.int .i64 u3) ∧ Below w5.heap.size w5 w')
    (first | exact HK.out _ (by with_reducible assumption) | exact HK.out _ (Below.refl _ _).drew)
    (first | (go_at_call 44; refine (kcall (w2 := w5) ?_ (p_Valid h ⟨_, _, _, _⟩ T c2 l window b _ (HTT.out _ (by first | with_reducible assumption | exact (Below.refl _ _).drew)) (by omega) (by omega) (by omega))).mono ?_; (first | with_reducible assumption | exact (Below.refl _ _).drew); rintro e w' ⟨rfl, hb⟩)
           | (go_at_call 45; refine (kcall (w2 := w5) ?_ (r_Valid h ⟨_, _, _, _⟩ T c2 l window b _ (HTT.out _ (by first | with_reducible assumption | exact (Below.refl _ _).drew)) (by omega) (by omega) (by omega))).mono ?_; (first | with_reducible assumption | exact (Below.refl _ _).drew); rintro e w' ⟨rfl, hb⟩)
           | (go_at_call 39; refine (kcall (w2 := w5) ?_ (awake18 _)).mono ?_; (first | with_reducible assumption | exact (Below.refl _ _).drew); rintro e w' ⟨rfl, hb⟩))
  all_goals
    go_wp2
    go_ret
    exact ⟨rfl, bl_then HB.out HB.out.size (by assumption)⟩

end Go.Proofs.Ytiohdgckmolmnaa
