/- Chapter 26 (best): Parse: by a walk. -/
import Derived.Test.YtndkgjoaljcijaaBsLoop
import Derived.Test.YtndkgjoaljcijaaBsLower
import Derived.Test.YtndkgjoaljcijaaBsBack
import Derived.Test.YtndkgjoaljcijaaMem
import Derived.Laws.Tables
import Derived.Great.Walk
set_option linter.unusedSimpArgs false
set_option linter.unusedVariables false
set_option maxRecDepth 100000
namespace Go.Proofs.Ytndkgjoaljcijaa
open Go.RowKit


/-- A finder's cells that is none. -/
def z59 : Array Value := ([Value.string ⟨#[]⟩, .int .i64 0, .slice none 0 0, .slice none 0 0, .int .i64 0, .slice none 0 0, .map none, .slice none 0 0, .nilFunc, .int .i64 0] ++ List.replicate 1295 (Value.int .i64 0)).toArray
theorem zero59 (w : World) : (zeroValue 59).run Try.prog w = .ok (.agg z59) w := by kernel_rfl
theorem z59_size : z59.size = 1305 := by
  unfold z59
  rw [List.size_toArray, List.length_append, List.length_replicate]
  rfl
theorem z59_get (i : Nat) : z59[i]? = ([Value.string ⟨#[]⟩, .int .i64 0, .slice none 0 0, .slice none 0 0, .int .i64 0, .slice none 0 0, .map none, .slice none 0 0, .nilFunc, .int .i64 0] ++ List.replicate 1295 (Value.int .i64 0))[i]? := by
  unfold z59
  rw [List.getElem?_toArray]
theorem z59_zero (i : Nat) (hi : i < 1295) : z59[10 + i]? = some (.int .i64 0) := by
  rw [z59_get, List.getElem?_append_right (Nat.le_add_right 10 i)]
  show (List.replicate 1295 (Value.int .i64 0))[10 + i - 10]? = _
  rw [Nat.add_sub_cancel_left, List.getElem?_replicate, if_pos hi]
theorem z59_low : z59[5]? = some (.slice none 0 0) ∧ z59[7]? = some (.slice none 0 0) ∧ z59[8]? = some .nilFunc ∧ z59[9]? = some (.int .i64 0) := ⟨z59_get 5, z59_get 7, z59_get 8, z59_get 9⟩
def finS (Z : Array Value) (a b c d e f : Value) : Array Value := (((((Z.setIfInBounds 0 a).setIfInBounds 1 b).setIfInBounds 2 c).setIfInBounds 3 d).setIfInBounds 4 e).setIfInBounds 6 f
theorem finS_get {Z : Array Value} (hZ : Z.size = 1305) (a b c d e f : Value) : (finS Z a b c d e f)[0]? = some a ∧ (finS Z a b c d e f)[1]? = some b ∧ (finS Z a b c d e f)[2]? = some c ∧ (finS Z a b c d e f)[3]? = some d ∧ (finS Z a b c d e f)[4]? = some e ∧ (finS Z a b c d e f)[6]? = some f := by
  unfold finS
  simp [Array.getElem?_setIfInBounds, hZ]
theorem finS_other (Z : Array Value) (a b c d e f : Value) (i : Nat) (hi : i = 5 ∨ 7 ≤ i) : (finS Z a b c d e f)[i]? = Z[i]? := by
  unfold finS
  simp only [Array.getElem?_setIfInBounds]
  rw [if_neg (by omega), if_neg (by omega), if_neg (by omega), if_neg (by omega), if_neg (by omega), if_neg (by omega)]

theorem str_appendB (a b : List UInt8) : str a ++ str b = str (a ++ b) := by
  apply ByteArray.ext
  simp [str]
theorem hadd_ofB (x y : List UInt8) (h : x.length + y.length ≤ 9223372036854775807) (W : World) : (Op.stringOp .add (str x) (str y)).run Try.prog W = .ok (.string (str (x ++ y))) W := by
  rw [run_string_add_sum W _ _ (by rw [str_size, str_size]; exact h), str_appendB]
theorem run_makeMap51 (w : World) : (Instr.makeMap 51 none).run Try.prog w = .ok (.map (some w.heap.size)) (w.alloc (.map #[] 0)) := by kernel_rfl
theorem run_fieldC (w : World) (y : Sp) : (Instr.field 67 (spV y) 0).run Try.prog w = .ok (.int .i64 y.cost) w := by kernel_rfl
/-- It may not be. -/
theorem p_Parse_err (h b : List UInt8) (r : Rp) (M D : Option Addr) (m d : List Int) (c1 c2 : Nat) (window : Int) (w : World) (hm : ReadsI w M m) (hd : ReadsI w D d) (l1 : m.length ≤ 1000000000) (l2 : d.length ≤ 1000000000) (lh : h.length ≤ 24) (lb : b.length ≤ 24) (he : bchk window m d ≠ 0) :
    Calls Try.prog 9 #[.string (str h), .string (str b), rpV r, priceV M D m d c1 c2, .int .i64 window] w fun e w' => e = .returned (.tuple #[.slice none 0 0, .int .i64 0, .int .i64 (bchk window m d)]) ∧ Below w.heap.size w w' := by
  have hB := bl_alloc (bl_alloc (Below.refl w.heap.size w) (.cells #[.int .i64 r.a, .int .i64 r.b, .int .i64 r.c, .int .i64 r.d] 23)) (.cells #[.slice M m.length c1, .slice D d.length c2] 32)
  have hck := p_bcheck h b M D m d c1 c2 window _ (hm.below hB) (hd.below hB) l1 l2 lh lb
  have hne : (bchk window m d != 0) = true := by simpa using he
  generalize bchk window m d = E at *
  unfold rpV priceV at *
  go_enter Try.func9, Try.ntmps9
  go_wp2_with fail
  refine hck.mono ?_
  rintro e w3 ⟨rfl, hb3⟩
  have HB := Lib.hid (bl_then hB hB.size hb3)
  clear hB hb3 hck
  go_wp2
  go_ret3
  exact ⟨rfl, HB.out⟩
/-- What Parse gives. -/
def GivesP (w : World) (l : List Tok) (c : Int) (e : Ending) (w' : World) : Prop := ∃ v, e = .returned (.tuple #[v, .int .i64 c, .int .i64 0]) ∧ RowT w' w.heap.size v l ∧ Below w.heap.size w w'
/-- The finder is made, and its costs and what is left are reckoned; the way begins. -/
def ParseMid (w wc : World) (E : Env) (r : Rp) (M D : Option Addr) (c1 c2 : Nat) (v14 v15 : Value) : Prop :=
  ∃ F mb G LA c3, v14 = .pointer (some ⟨F, 0, none⟩) ∧ v15 = .pointer (some ⟨G, 0, none⟩) ∧ Fs wc F mb wc.heap.size E M D LA c1 c2 c3 (leftsF E (E.s.length - E.b) (E.s.length - E.b)) ∧ MapS wc mb (fun _ => none) 0 ∧
    wc.cell? ⟨F, 7, none⟩ = some (.slice none 0 0) ∧ wc.cell? ⟨F, 9, none⟩ = some (.int .i64 0) ∧ Blk wc G 61 (stCells ⟨E.b, r⟩).toArray ∧ G ≠ F ∧ G ≠ mb ∧ w.heap.size ≤ F ∧ w.heap.size ≤ mb ∧ w.heap.size ≤ G ∧ Below w.heap.size w wc
set_option maxHeartbeats 4000000 in
theorem p_Parse_ok (h b : List UInt8) (r : Rp) (M D : Option Addr) (m d : List Int) (c1 c2 : Nat) (window : Int) (w : World) (hm : ReadsI w M m) (hd : ReadsI w D d) (lh : h.length ≤ 12) (lb : b.length ≤ 12) (hE : EnvOk ⟨h ++ b, h.length, m, d, window⟩)
    (k1 k2 : Nat) (pf : PS) (wf : Wt) (l : List Tok) (hloop : loopF ⟨h ++ b, h.length, m, d, window⟩ k1 (startF ⟨h ++ b, h.length, m, d, window⟩ r) = some (pf, wf)) (hback : backF pf.f ⟨h.length, r⟩ k2 wf.s = some l) (hlen : l.length ≤ 1000000) :
    Calls Try.prog 9 #[.string (str h), .string (str b), rpV r, priceV M D m d c1 c2, .int .i64 window] w (GivesP w l wf.cost) := by
  have hB := bl_alloc (bl_alloc (Below.refl w.heap.size w) (.cells #[.int .i64 r.a, .int .i64 r.b, .int .i64 r.c, .int .i64 r.d] 23)) (.cells #[.slice M m.length c1, .slice D d.length c2] 32)
  have k0 := (Blk.new w 23 #[.int .i64 r.a, .int .i64 r.b, .int .i64 r.c, .int .i64 r.d]).alloc (.cells #[.slice M m.length c1, .slice D d.length c2] 32)
  have k1' : Blk ((w.alloc (.cells #[.int .i64 r.a, .int .i64 r.b, .int .i64 r.c, .int .i64 r.d] 23)).alloc (.cells #[.slice M m.length c1, .slice D d.length c2] 32)) (w.heap.size + 1) 32 #[.slice M m.length c1, .slice D d.length c2] := by
    have := Blk.new (w.alloc (.cells #[.int .i64 r.a, .int .i64 r.b, .int .i64 r.c, .int .i64 r.d] 23)) 32 #[.slice M m.length c1, .slice D d.length c2]
    simpa using this
  have hm1 : m.length = 401 := hE.m
  have hd1 : d.length = 52 := hE.d
  have hck := p_bcheck h b M D m d c1 c2 window _ (hm.below hB) (hd.below hB) (by omega) (by omega) (by omega) (by omega)
  have hz : bchk window m d = 0 := by
    unfold bchk chkE
    rw [if_neg (by have := hE.win1; have := hE.win2; simp only at *; omega), if_neg (by omega), if_pos ⟨hE.mok, hE.dok⟩]
  rw [hz] at hck
  clear hz
  have HM1 := Lib.hid (And.intro hm1 hd1)
  clear hm1 hd1
  unfold rpV priceV at *
  have hsb := str_appendB h b
  have hss := str_size h
  have hss2 := str_size b
  go_enter Try.func9, Try.ntmps9
  go_wp2_with fail
  refine hck.mono ?_
  rintro e w2 ⟨rfl, hb2⟩
  have y0 := k0.below hb2 k0.lt
  have y1 := k1'.below hb2 k1'.lt
  have hBW := bl_then hB hB.size hb2
  have hm2 := hm.below hBW
  have hd2 := hd.below hBW
  clear k0 k1' hB hb2 hck
  have a0 := Blk.cell y0
  have a1 := Blk.cell y1
  have s0 := y0.lt
  have s1 := y1.lt
  have hadd := hadd_ofB h b (by omega)
  clear hsb
  obtain ⟨E, hEE⟩ : ∃ E : Env, E = ⟨h ++ b, h.length, m, d, window⟩ := ⟨_, rfl⟩
  have HEE := Lib.hid hEE
  rw [← hEE] at hE hloop
  have e1 : E.s = h ++ b := by rw [hEE]
  have e2 : E.b = h.length := by rw [hEE]
  have e3 : E.m = m := by rw [hEE]
  have e4 : E.d = d := by rw [hEE]
  have e5 : E.win = window := by rw [hEE]
  have h24 : E.s.length ≤ 24 := by rw [e1, List.length_append]; omega
  have HE5 := Lib.hid (And.intro e1 (And.intro e2 (And.intro e3 (And.intro e4 e5))))
  clear hEE e1 e2 e3 e4 e5
  have hmk := run_makeMap51 w2
  have hz59 := zero59 (w2.alloc (.map #[] 0))
  have hZs := z59_size
  have hZ0 : ¬ z59 = #[] := fun q => by rw [q] at hZs; simp at hZs
  have HZL := Lib.hid z59_low
  have HZ0 := Lib.hid z59_zero
  generalize z59 = Z at *
  have HZS := Lib.hid hZs
  go_upto_region 5 with (fail)
  obtain ⟨FC, hFC⟩ : ∃ FC, finS Z (.string (str (h ++ b))) (.int .i64 h.length) (.slice M m.length c1) (.slice D d.length c2) (.int .i64 window) (.map (some w2.heap.size)) = FC := ⟨_, rfl⟩
  obtain ⟨q0, q1, q2, q3, q4, q6⟩ := finS_get hZs (.string (str (h ++ b))) (.int .i64 h.length) (.slice M m.length c1) (.slice D d.length c2) (.int .i64 window) (.map (some w2.heap.size))
  have qo := finS_other Z (.string (str (h ++ b))) (.int .i64 h.length) (.slice M m.length c1) (.slice D d.length c2) (.int .i64 window) (.map (some w2.heap.size))
  rw [hFC] at q0 q1 q2 q3 q4 q6 qo
  unfold finS at hFC
  rw [hFC]
  clear hFC hz59 hZs hZ0 hmk hadd
  have zF : Blk ((w2.alloc (.map #[] 0)).alloc (.cells FC 59)) (w2.heap.size + 1) 59 FC := by
    have := Blk.new (w2.alloc (.map #[] 0)) 59 FC
    simpa using this
  have hmap3 : MapS ((w2.alloc (.map #[] 0)).alloc (.cells FC 59)) w2.heap.size (fun _ => none) 0 := (MapS.made w2).same (Below.heap_alloc _ _ _ (by simp))
  have hbl3 := bl_alloc (bl_alloc (Below.refl w2.heap.size w2) (.map #[] 0)) (.cells FC 59)
  generalize (w2.alloc (.map #[] 0)).alloc (.cells FC 59) = w3 at *
  have z8 := Blk.cell zF 8
  rw [qo 8 (by omega), HZL.out.2.2.1] at z8
  have f8 := Blk.frozen zF 8
  have zF4 := Blk.set_ zF 8 (.func (.func 17) #[] #[])
  have hs3 : w2.heap.size + 1 < w3.heap.size := zF.lt
  have HZF := Lib.hid (And.intro zF4 hmap3)
  clear zF zF4 hmap3 a0 a1
  have hst8 : (store ⟨w2.heap.size + 1, 8, none⟩ (.func (.func 17) #[] #[])).run Try.prog w3 = .ok () (w3.setCell ⟨w2.heap.size + 1, 8, none⟩ (.func (.func 17) #[] #[])) := by
    rw [run_store _ _ _ _ _ rfl, z8]
    simp [f8]
  go_upto_region 6 with (fail)
  obtain ⟨zF4, hmap3⟩ := HZF.out
  have hbl4 : Below w2.heap.size w2 (w3.setCell ⟨w2.heap.size + 1, 8, none⟩ (.func (.func 17) #[] #[])) := hbl3.setCell (by show w2.heap.size ≤ w2.heap.size + 1; omega) _
  have hmap4 : MapS (w3.setCell ⟨w2.heap.size + 1, 8, none⟩ (.func (.func 17) #[] #[])) w2.heap.size (fun _ => none) 0 := hmap3.same (Below.heap_setCell w3 _ _ _ (by show w2.heap.size ≠ w2.heap.size + 1; omega))
  generalize w3.setCell ⟨w2.heap.size + 1, 8, none⟩ (.func (.func 17) #[] #[]) = w4 at *
  clear hst8 z8 f8 HZF
  have hF4 : w2.heap.size + 1 < w4.heap.size := zF4.lt
  have cF : ∀ i, i ≠ 8 → w4.cell? ⟨w2.heap.size + 1, i, none⟩ = FC[i]? := fun i hi => by
    rw [Blk.cell zF4 i, Array.getElem?_setIfInBounds, if_neg (fun q => hi q.symm)]
  have cF8 : w4.cell? ⟨w2.heap.size + 1, 8, none⟩ = some (.func (.func 17) #[] #[]) := by
    rw [Blk.cell zF4 8, Array.getElem?_setIfInBounds, if_pos rfl, if_pos]
    have h8 := qo 8 (by omega)
    rw [HZL.out.2.2.1] at h8
    exact (Array.getElem?_eq_some_iff.1 h8).1
  have hMb : ∀ ad, (M = some ad ∨ D = some ad) → ad.block < w2.heap.size := fun ad hd => by
    rcases hd with q | q
    · obtain ⟨ad', e, hlt, _⟩ := hm2.at_ 0 (by have := HM1.out; omega)
      rw [q] at e; injection e with e; subst e; exact hlt
    · obtain ⟨ad', e, hlt, _⟩ := hd2.at_ 0 (by have := HM1.out; omega)
      rw [q] at e; injection e with e; subst e; exact hlt
  have hfin4 : Fin_ w4 (w2.heap.size + 1) E M D c1 c2 := by
    obtain ⟨x1, x2, x3, x4, x5⟩ := HE5.out
    refine ⟨by rw [x1, cF 0 (by omega)]; exact q0, by rw [x2, cF 1 (by omega)]; exact q1, by rw [x3, cF 2 (by omega)]; exact q2, by rw [x4, cF 3 (by omega)]; exact q3, by rw [x5, cF 4 (by omega)]; exact q4, by rw [x3]; exact hm2.below hbl4, by rw [x4]; exact hd2.below hbl4, hF4⟩
  have hrk := p_reckon hF4 hfin4.pm hfin4.rm hE.m hE.mok (fun ad q => by have := hMb ad (.inl q); omega) (fun j hj => by
    by_cases q : j = 8
    · subst q; exact ⟨_, cF8⟩
    · rw [cF j q]
      by_cases qq : j = 5 ∨ 7 ≤ j
      · rw [qo j qq]
        exact ⟨_, Array.getElem?_eq_getElem (by rw [HZS.out]; exact hj)⟩
      · have : j = 0 ∨ j = 1 ∨ j = 2 ∨ j = 3 ∨ j = 4 ∨ j = 6 := by omega
        rcases this with rfl | rfl | rfl | rfl | rfl | rfl
        · exact ⟨_, q0⟩
        · exact ⟨_, q1⟩
        · exact ⟨_, q2⟩
        · exact ⟨_, q3⟩
        · exact ⟨_, q4⟩
        · exact ⟨_, q6⟩) (Blk.frozen zF4)
  have HCF := Lib.hid (And.intro cF (And.intro cF8 hfin4))
  clear cF cF8 hfin4
  go_wp2_with fail
  refine hrk.mono ?_
  rintro e w5 ⟨rfl, hx5, hL5⟩
  have hfin5 := hx5.fin HCF.out.2.2 (fun i hi => by unfold RS; omega) (fun ad q => ⟨by have := hMb ad q; omega, by have := hMb ad q; omega⟩)
  have hI5 : AllInt w5 (w2.heap.size + 1) := fun j hj => by
    by_cases q : 2 ≤ j % 259
    · have := hL5 (j / 259) (j % 259) (by omega) q (by omega)
      rw [show 10 + j / 259 * 259 + j % 259 = 10 + j by omega] at this
      exact ⟨_, this⟩
    · refine ⟨0, (hx5.cells (10 + j) (by unfold RS; omega)).trans ?_⟩
      rw [HCF.out.1 (10 + j) (by omega), qo (10 + j) (by omega)]
      exact HZ0.out j hj
  have hlo := p_lower hfin5 hE hL5 hI5 ⟨.slice none 0 0, by rw [hx5.cells 5 (by unfold RS; omega), HCF.out.1 5 (by omega), qo 5 (.inl rfl)]; exact HZL.out.1⟩ (fun i => by rw [hx5.frozen]; exact Blk.frozen zF4 i) h24 (fun ad q => ⟨by have := hMb ad q; have := hx5.size; omega, by have := hMb ad q; omega⟩)
  have hs5 := hx5.size
  have HX5 := Lib.hid (And.intro hx5 (And.intro hL5 hfin5))
  clear hrk hx5 hL5 hfin5 hI5
  go_wp2_with fail
  refine hlo.mono ?_
  rintro e w6 ⟨rfl, g6, hg6, hx6, c56, hb6⟩
  have hs6 := hx6.size
  obtain ⟨hx5, hL5, hfin5⟩ := HX5.out
  have hb46 : Below w2.heap.size w2 w6 := hbl4.trans (by
    have h1 : Below w2.heap.size w4 w5 := ⟨hx5.os, hx5.tape, hx5.output, hx5.size, fun k hk => hx5.block k (by omega) (by omega)⟩
    have h2 : Below w2.heap.size w5 w6 := ⟨hx6.os, hx6.tape, hx6.output, hx6.size, fun k hk => hx6.block k (by omega) (by omega)⟩
    exact h1.trans h2)
  have y06 : Blk w6 w.heap.size _ _ := (hb46.block _ s0).trans y0
  have hmap6 : MapS w6 w2.heap.size (fun _ => none) 0 := hmap4.same ((hx6.block _ (by omega) (by omega)).trans (hx5.block _ (by omega) (by omega)))
  have b0 := Blk.cell y06
  have t0 := y06.lt
  have hG := Blk.new w6 61 (stCells ⟨E.b, r⟩).toArray
  have hb7 := bl_alloc (Below.refl w6.heap.size w6) (.cells (stCells ⟨E.b, r⟩).toArray 61)
  have HF7 : Hid (ParseMid w (w6.alloc (.cells (stCells ⟨E.b, r⟩).toArray 61)) E r M D c1 c2 (.pointer (some ⟨w2.heap.size + 1, 0, none⟩)) (.pointer (some ⟨w6.heap.size, 0, none⟩))) := Lib.hid (by
    have hF5 : w2.heap.size + 1 < w5.heap.size := by omega
    have hx7 := hx6.call hF5 hb7
    have hs7 := hb7.size
    have hsz7 : (w6.alloc (.cells (stCells ⟨E.b, r⟩).toArray 61)).heap.size = w6.heap.size + 1 := by simp
    have hbw := hBW.size
    refine ⟨w2.heap.size + 1, w2.heap.size, w6.heap.size, some ⟨g6, 0, none⟩, _, rfl, rfl, ⟨hx7.fin hfin5 (fun i hi => by omega) (fun ad q => ⟨by have := hMb ad q; omega, by have := hMb ad q; omega⟩), hx7.long hL5 (fun i hi => by omega), (hb7.cell (p := ⟨w2.heap.size + 1, 5, none⟩) (show w2.heap.size + 1 < w6.heap.size by omega)).trans c56, (hb6.reads).below hb7, ?_, ?_, fun i => ?_, by omega, by omega, Nat.le_refl _, by omega, fun ad hd => ?_⟩, hmap6.below hb7, ?_, ?_, hG, by omega, by omega, by omega, by omega, by omega, hBW.trans ((hb46.trans (hb7.mono (by omega))).mono (by omega))⟩
    · rw [hx7.cells 6 (by omega), hx5.cells 6 (by unfold RS; omega), HCF.out.1 6 (by omega)]; exact q6
    · rw [hx7.cells 8 (by omega), hx5.cells 8 (by unfold RS; omega)]; exact HCF.out.2.1
    · rw [hx7.frozen, hx5.frozen]; exact Blk.frozen zF4 i
    · rcases hd with q | q | q
      · have := hMb ad (.inl q); omega
      · have := hMb ad (.inr q); omega
      · injection q with q; subst q; show g6 < _ ∧ g6 ≠ _ ∧ g6 ≠ _; have := hb6.lt; omega
    · rw [hx7.cells 7 (by omega), hx5.cells 7 (by unfold RS; omega), HCF.out.1 7 (by omega), qo 7 (by omega)]; exact HZL.out.2.1
    · rw [hx7.cells 9 (by omega), hx5.cells 9 (by unfold RS; omega), HCF.out.1 9 (by omega), qo 9 (by omega)]; exact HZL.out.2.2.2)
  have hEb := HE5.out.2.1
  rw [hEb] at HF7 hG
  clear hx5 hL5 hfin5 hb46 y06 hmap6 hx6 c56 hb6 hlo HX5 HCF hMb hbl4 hmap4 hbl3 zF4 hmap3 q0 q1 q2 q3 q4 q6 qo y0 y1 hBW hm2 hd2 hb7 hG
  go_upto_region 9 with (fail)
  obtain ⟨w7, hw7⟩ : ∃ w7, w7 = w6.alloc (.cells (stCells ⟨h.length, r⟩).toArray 61) := ⟨_, rfl⟩
  rw [← hw7] at HF7
  have hw7' : w6.alloc (.cells #[.int .i64 h.length, .int .i64 r.a, .int .i64 r.b, .int .i64 r.c, .int .i64 r.d] 61) = w7 := hw7.symm
  rw [hw7']
  obtain ⟨F, mb, G, LA, c3, eF, eG, hFs, hMp, h7, h9, hG, hGF, hGm, hwF, hwm, hwG, hbw⟩ := HF7.out
  simp only [Value.pointer.injEq, Option.some.injEq, Addr.mk.injEq, and_true] at eF eG
  rw [eF, eG]
  rw [hEb] at hG
  clear eF eG hw7 hw7' HF7 b0 t0 hs6 hg6 hs5 hF4 hs3 s0 s1
  have hFl : F < w7.heap.size := hFs.ltF
  obtain ⟨w8, r8, m8, g8⟩ := (hMp.same (w' := w7.drew) rfl).store ⟨h.length, r⟩ sp0
  have r8' : (Instr.mapUpdate 51 (.map (some mb)) (.agg #[.int .i64 h.length, .int .i64 r.a, .int .i64 r.b, .int .i64 r.c, .int .i64 r.d]) (.agg #[.int .i64 0, .int .i64 0, .int .i64 0, .int .i64 0, .int .i64 0, .int .i64 0, .int .i64 0, .int .i64 0, .int .i64 0, .int .i64 0, .int .i64 0])).run Try.prog w7.drew = .ok () w8 := r8
  have c6 := hFs.c6
  have cG := Blk.cell hG
  have sG := hG.lt
  unfold stCells at cG
  clear r8
  go_cut [52] (fun _ wc => wc = w8)
  case first =>
    go_region
    all_goals
      go_wp2_with fail
      go_meet
      case rel => rfl
  have hw8 : wc = w8 := hcut
  rw [hw8]
  clear hw8 hcut r8' c6 cG
  have g8' : w7.grownBy w8 (some mb) := ⟨g8.os, g8.tape, g8.output, g8.size, g8.block⟩
  have tc8 : Tc w7 w8 F mb none none := Tc.map g8' hFl hFs.hne none
  have fs8 := hFs.move (fun k q => by cases q) tc8
  have hG8 : Blk w8 G _ _ := (g8'.block G sG (fun q => hGm (by injection q))).trans hG
  have c7 : w8.cell? ⟨F, 7, none⟩ = some (.slice none 0 0) := (World.cell?_of_block (g8'.block F hFl (fun q => hFs.hne (by injection q)))).trans h7
  have c9 : w8.cell? ⟨F, 9, none⟩ = some (.int .i64 0) := (World.cell?_of_block (g8'.block F hFl (fun q => hFs.hne (by injection q)))).trans h9
  have hsz8 := g8'.size
  have hF8 : F < w8.heap.size := by omega
  have hl0 : 0 < (leftsF E (E.s.length - E.b) (E.s.length - E.b)).length := by rw [leftsF_length]; omega
  obtain ⟨la, rfl, hla, hlc⟩ := fs8.rl.at_ 0 hl0
  have hlf : Hid ((leftsF E (E.s.length - E.b) (E.s.length - E.b))[0] = leftAt E 0) := Lib.hid (by
    unfold leftAt
    rw [List.getD_eq_getElem?_getD, List.getElem?_eq_getElem hl0]; rfl)
  rw [hlf.out] at hlc
  have hla0 : la.add 0 = la := by unfold Addr.add; simp
  rw [hla0] at hlc
  have c5 := fs8.c5
  have HLS : Hid ((leftsF E (E.s.length - E.b) (E.s.length - E.b)).length = (leftsF E (E.s.length - E.b) (E.s.length - E.b)).length) := Lib.hid rfl
  generalize hls : leftsF E (E.s.length - E.b) (E.s.length - E.b) = ls at *
  have hl0i : (0 : Int) < (ls.length : Int) := by omega
  have cG := Blk.cell hG8
  have sG8 := hG8.lt
  unfold stCells at cG
  have HFS8 := Lib.hid fs8
  have HTC8 := Lib.hid tc8
  have hpush := p_push (w := w8.drew) (base := w7.heap.size) (v := .slice none 0 0) (L := []) ⟨⟨h.length, r⟩, 0, leftAt E 0, 0⟩ (Row.nil _ _ _ _) hF8 (fs8.frz 7) c7 fs8.less (by simp [Value.ownBlock]) (by simp) (by show w7.heap.size ≤ w8.heap.size; omega)
  unfold wtV at hpush
  have HLS2 := Lib.hid hls
  clear fs8 tc8 hFs hMp h7 h9 hG g8 HLS hls
  go_upto_region 10 with (fail)
  go_still_tail 11, (by kernel_rfl)
  change wpList _ _ _ _ _ w8.drew
  go_wp2_with fail
  refine hpush.mono ?_
  rintro e w9 ⟨rfl, hP⟩
  -- the great loop
  have hfpm : Fp w8 F mb w7.heap.size ⟨setF (fun _ => none) ⟨h.length, r⟩ sp0, [], 0⟩ none 1 := ⟨⟨.slice none 0 0, c7, Row.nil _ _ _ _, rfl⟩, c9, m8⟩
  have hfs8 := HFS8.out
  have hEb2 : E.b = h.length := HE5.out.2.1
  obtain ⟨ob9, fp9, tc9⟩ := Fp.push (w := w8) (v := .slice none 0 0) hfpm c7 rfl hfs8.ltF hfs8.ltm hfs8.hne ⟨hP.row, ⟨hP.fr.cells, hP.fr.frozen, hP.fr.os, hP.fr.tape, hP.fr.output, hP.fr.size, hP.fr.block⟩⟩
  have hw3 : w.heap.size ≤ F ∧ w.heap.size ≤ mb ∧ w.heap.size ≤ w7.heap.size := ⟨hwF, hwm, by omega⟩
  have hG3 : G < w7.heap.size ∧ G ≠ F ∧ G ≠ mb := ⟨sG, hGF, hGm⟩
  have hLW9 : LoopW w w9 F mb w7.heap.size G E r M D (some la) c1 c2 c3 (startF E r) := by
    refine LoopW.next (n' := 1) (by rw [HLS2.out]; exact hfs8) hfpm (by rw [hEb2]; exact hG8) (HTC8.out.lower hbw hwF hwm (base := w7.heap.size) (by omega) (fun k q => by cases q)) hG3 hw3 ?_ tc9
    unfold startF
    rw [hEb2]
    exact fp9
  have hgood0 := good_start hE r (by rw [HE5.out.1, hEb2, List.length_append]; omega)
  have hback' : backF pf.f ⟨E.b, r⟩ k2 wf.s = some l := by rw [hEb2]; exact hback
  have hrun0 := hloop
  have HLOOP := Lib.hid (And.intro hLW9 (And.intro hgood0 (And.intro hback' hrun0)))
  have HW3 := Lib.hid (And.intro hw3 hG3)
  clear hfpm hfs8 fp9 tc9 hP hpush hLW9 hgood0 hback' hrun0 hback hloop HFS8 HTC8 c7 c9 m8 c5 cG sG8 hG8 hl0 hl0i hla hla0 hlc hlf HLS2 hsz8 hF8 g8' hGF hGm hwF hwm hwG hw3 hG3 hEb2 hEb hbw sG
  generalize w7.heap.size = base at *
  go_wp2_with fail
  go_loopw [16] (fun _ wr => ∃ p k, loopF E k p = some (pf, wf) ∧ Good E r p ∧ LoopW w wr F mb base G E r M D (some la) c1 c2 c3 p) (fun _ wr => measW F wr)
  case atStart => exact ⟨startF E r, k1, HLOOP.out.2.2.2, HLOOP.out.2.1, HLOOP.out.1⟩
  case round =>
    obtain ⟨p, k, hrun, hgd, ob, n, fsr, fpr, gr, bwr⟩ := hrel
    obtain ⟨hne, hcs⟩ := loop_step hE h24 hgd hrun
    obtain ⟨v, h7, hrow, hvo⟩ := fpr.row
    have hob := fpr.base_le
    have hl0 : 0 < p.L.length := List.length_pos_iff.2 hne
    have hbd := hgd.bd
    have hcm := hgd.came
    have hpl := phiB_len E p.L
    have hpop := p_pop hrow fsr.fin.lt (fsr.frz 7) h7 fsr.less (fun q => by have h1 := hob F (hvo ▸ q); have h2 := fsr.ltF; omega) (by omega) hl0
    have HCS := Lib.hid hcs
    have HME := Lib.hid fpr.meas
    have HR := Lib.hid (And.intro hgd (And.intro fsr (And.intro fpr (And.intro gr bwr))))
    have HV := Lib.hid (And.intro h7 hvo)
    clear hcs hrun hgd hrow hne hl0 hbd hcm hpl h7 hvo hob
    go_wp2_with fail
    refine hpop.mono ?_
    rintro e wq ⟨rfl, hPq⟩
    obtain ⟨hgd, fsr, fpr, gr, bwr⟩ := HR.out
    obtain ⟨obq, fpq, tcq⟩ := Fp.push fpr HV.out.1 HV.out.2 fsr.ltF fsr.ltm fsr.hne hPq
    obtain ⟨hw3, hG3⟩ := HW3.out
    have lwq : LoopW w wq F mb base G E r M D (some la) c1 c2 c3 ⟨p.f, popW p.L, p.came⟩ := LoopW.next fsr fpr gr bwr hG3 hw3 fpq tcq
    clear hpop hPq fpq tcq gr bwr fsr fpr
    have hgx : gw p.L 0 = gw p.L 0 := rfl
    generalize hxx : gw p.L 0 = x at *
    have HXX := Lib.hid hxx
    clear hgx hxx
    obtain ⟨⟨xa, ⟨x1, x2, x3, x4⟩⟩, xc, xl, xm⟩ := x
    unfold wtV
    have nX := Blk.new wq 63 #[.int .i64 xa, .int .i64 x1, .int .i64 x2, .int .i64 x3, .int .i64 x4, .int .i64 xc, .int .i64 xl, .int .i64 xm]
    have hbX := bl_alloc (Below.refl wq.heap.size wq) (.cells #[.int .i64 xa, .int .i64 x1, .int .i64 x2, .int .i64 x3, .int .i64 x4, .int .i64 xc, .int .i64 xl, .int .i64 xm] 63)
    obtain ⟨obq, npq, fsq, fpq, gq, bwq⟩ := lwq
    have hFq : F < wq.heap.size := fsq.fin.lt
    have fsx := fsq.below hbX
    have fpx := fpq.below hFq hbX
    have gx := gq.below hbX gq.lt
    have bwx := bl_then bwq bwq.size hbX
    clear fsq fpq gq bwq hbX
    go_upto_region 12 with (fail)
    generalize hXb : wq.heap.size = X at *
    generalize wq.alloc (.cells #[.int .i64 xa, .int .i64 x1, .int .i64 x2, .int .i64 x3, .int .i64 x4, .int .i64 xc, .int .i64 xl, .int .i64 xm] 63) = wx at *
    clear hXb
    have cX := Blk.cell nX
    have sX := nX.lt
    have c0 := fsx.fin.s
    have hFx : F < wx.heap.size := fsx.fin.lt
    have hsE := str_size E.s
    have HS := Lib.hid (And.intro fsx (And.intro fpx (And.intro gx bwx)))
    have HNX := Lib.hid nX
    clear fsx fpx gx bwx nX
    by_cases hat : xa = E.s.length
    · have e1 : ((xa : Int) == (E.s.length : Int)) = true := by rw [beq_iff_eq]; omega
      have e2 : decide ((xa : Int) = (E.s.length : Int)) = true := by rw [decide_eq_true_eq]; omega
      have htg : (pf, wf) = ((⟨p.f, popW p.L, p.came⟩ : PS), (⟨⟨xa, ⟨x1, x2, x3, x4⟩⟩, xc, xl, xm⟩ : Wt)) := by
        rcases HCS.out with ⟨_, q⟩ | ⟨q, _⟩ | ⟨q, _⟩
        · exact q
        · exact absurd hat q
        · exact absurd hat q
      injection htg with tg1 tg2
      have HTG := Lib.hid (And.intro tg1 tg2)
      clear tg1 tg2 hat
      go_quiet (fail)
      obtain ⟨fsx, fpx, gx, bwx⟩ := HS.out
      have hdr : Below wx.heap.size wx (wx.drewN nq) := below_drewN (Below.refl _ _) _
      have fsy := fsx.below hdr
      have fpy := fpx.below hFx hdr
      have gy := gx.below hdr gx.lt
      have ny := HNX.out.below hdr sX
      have bwy := bl_then bwx bwx.size hdr
      clear fsx fpx gx bwx hdr cX c0
      go_upto_region 13 with (fail)
      generalize wx.drewN nq = wy at *
      have cX := Blk.cell ny
      have cG := Blk.cell gy
      have sX2 := ny.lt
      have sG2 := gy.lt
      have c6 := fsy.c6
      have hFy : F < wy.heap.size := fsy.fin.lt
      unfold stCells at cG
      have HK : Hid (∀ w', Below wy.heap.size wy w' → w'.cell? ⟨F, 6, none⟩ = some (.map (some mb)) ∧ w'.cell? ⟨X, 0, none⟩ = some (.int .i64 xa) ∧ w'.cell? ⟨X, 1, none⟩ = some (.int .i64 x1) ∧ w'.cell? ⟨X, 2, none⟩ = some (.int .i64 x2) ∧ w'.cell? ⟨X, 3, none⟩ = some (.int .i64 x3) ∧ w'.cell? ⟨X, 4, none⟩ = some (.int .i64 x4) ∧ w'.cell? ⟨X, 5, none⟩ = some (.int .i64 xc) ∧ w'.cell? ⟨G, 0, none⟩ = some (.int .i64 E.b) ∧ w'.cell? ⟨G, 1, none⟩ = some (.int .i64 r.a) ∧ w'.cell? ⟨G, 2, none⟩ = some (.int .i64 r.b) ∧ w'.cell? ⟨G, 3, none⟩ = some (.int .i64 r.c) ∧ w'.cell? ⟨G, 4, none⟩ = some (.int .i64 r.d) ∧ Below wy.heap.size wy w') := Lib.hid fun w' hh => by
        have kX := Blk.cell (ny.below hh sX2)
        have kG := Blk.cell (gy.below hh sG2)
        exact ⟨(hh.cell (p := ⟨F, 6, none⟩) hFy).trans c6, kX 0, kX 1, kX 2, kX 3, kX 4, kX 5, kG 0, kG 1, kG 2, kG 3, kG 4, hh⟩
      have hbk : ∀ w', Below wy.heap.size wy w' → Calls Try.prog 22 #[.map (some mb), .agg #[.int .i64 xa, .int .i64 x1, .int .i64 x2, .int .i64 x3, .int .i64 x4], .agg #[.int .i64 E.b, .int .i64 r.a, .int .i64 r.b, .int .i64 r.c, .int .i64 r.d]] w' fun e w'' => ∃ v, e = .returned v ∧ RowT w'' w.heap.size v l ∧ Below wy.heap.size wy w'' := fun w' hh => by
        have h1 := HLOOP.out.2.2.1
        rw [HTG.out.1, HTG.out.2] at h1
        refine (p_back (fpy.map.below hh) h1 hlen).mono ?_
        rintro e w'' ⟨v, rfl, hr, hb⟩
        exact ⟨v, rfl, Row.mono hr (by have := bwy.size; have := hh.size; omega), bl_then hh hh.size hb⟩
      have HBY := Lib.hid bwy
      clear fsy fpy gy ny bwy cX cG c6
      go_region_held3 (fun w' => w'.cell? ⟨F, 6, none⟩ = some (.map (some mb)) ∧ w'.cell? ⟨X, 0, none⟩ = some (.int .i64 xa) ∧ w'.cell? ⟨X, 1, none⟩ = some (.int .i64 x1) ∧ w'.cell? ⟨X, 2, none⟩ = some (.int .i64 x2) ∧ w'.cell? ⟨X, 3, none⟩ = some (.int .i64 x3) ∧ w'.cell? ⟨X, 4, none⟩ = some (.int .i64 x4) ∧ w'.cell? ⟨X, 5, none⟩ = some (.int .i64 xc) ∧ w'.cell? ⟨G, 0, none⟩ = some (.int .i64 E.b) ∧ w'.cell? ⟨G, 1, none⟩ = some (.int .i64 r.a) ∧ w'.cell? ⟨G, 2, none⟩ = some (.int .i64 r.b) ∧ w'.cell? ⟨G, 3, none⟩ = some (.int .i64 r.c) ∧ w'.cell? ⟨G, 4, none⟩ = some (.int .i64 r.d) ∧ Below wy.heap.size wy w')
        (first | exact HK.out _ (by with_reducible assumption) | exact HK.out _ (Below.refl _ _).drew)
        (first | (go_at_call 22; refine (hbk _ ?_).mono ?_; (first | with_reducible assumption | exact (Below.refl _ _).drew); rintro e w3 ⟨v3, rfl, hr3, hb3⟩))
      all_goals
        go_wp2
        go_ret3
        exact ⟨v3, by rw [HTG.out.2]; rfl, hr3, bl_then HBY.out HBY.out.size (by with_reducible assumption)⟩
    · have e1 : ((xa : Int) == (E.s.length : Int)) = false := by rw [beq_eq_false_iff_ne]; omega
      have e2 : decide ((xa : Int) = (E.s.length : Int)) = false := by rw [decide_eq_false_iff_not]; omega
      go_quiet (fail)
      obtain ⟨fsx, fpx, gx, bwx⟩ := HS.out
      have hdr : Below wx.heap.size wx (wx.drewN nq) := below_drewN (Below.refl _ _) _
      have fsy := fsx.below hdr
      have fpy := fpx.below hFx hdr
      have gy := gx.below hdr gx.lt
      have ny := HNX.out.below hdr sX
      have bwy := bl_then bwx bwx.size hdr
      clear fsx fpx gx bwx hdr cX c0
      go_upto_region 14 with (fail)
      generalize wx.drewN nq = wy at *
      have cX := Blk.cell ny
      have sX2 := ny.lt
      have c6 := fsy.c6
      have hFy : F < wy.heap.size := fsy.fin.lt
      have hlk := (fpy.map.same (w' := wy.drew) rfl).look ⟨xa, ⟨x1, x2, x3, x4⟩⟩ false
      simp only [Bool.false_eq_true, if_false] at hlk
      have HCO : Hid (costOf p.f ⟨xa, ⟨x1, x2, x3, x4⟩⟩ = ((p.f ⟨xa, ⟨x1, x2, x3, x4⟩⟩).getD sp0).cost) := Lib.hid rfl
      generalize (p.f ⟨xa, ⟨x1, x2, x3, x4⟩⟩).getD sp0 = y at *
      obtain ⟨yc, ⟨ya, ⟨y1, y2, y3, y4⟩⟩, ⟨t1, t2, t3, t4, t5⟩⟩ := y
      have hfd := run_fieldC wy.drew ⟨yc, ⟨ya, ⟨y1, y2, y3, y4⟩⟩, ⟨t1, t2, t3, t4, t5⟩⟩
      unfold spV at hfd
      unfold spV stV at hlk
      simp only at hlk hfd
      have HY := Lib.hid (And.intro fsy (And.intro fpy (And.intro gy (And.intro bwy ny))))
      have HMB : Hid (1 ≤ measP p) := Lib.hid (by
        have h1 := HR.out.1.bd
        have h2 := phiB_len E p.L
        unfold measP
        omega)
      clear fsy fpy gy bwy ny
      by_cases hco : xc = yc
      · have b1 : (xc == yc) = true := by rw [beq_iff_eq]; exact hco
        have b2 : decide (xc = yc) = true := by rw [decide_eq_true_eq]; exact hco
        have HB : Hid (_ ∧ _) := Lib.hid (by
          rcases HCS.out with ⟨q, _⟩ | ⟨_, _, q⟩ | ⟨_, q, _⟩
          · exact absurd q hat
          · exact q
          · exact absurd (by rw [HCO.out]; exact hco) q)
        clear hco
        go_region
        have hdr : Below wy.heap.size wy wy.drew := (Below.refl _ _).drew
        obtain ⟨fsy, fpy, gy, bwy, ny⟩ := HY.out
        have fsz := fsy.below hdr
        have fpz := fpy.below hFy hdr
        have gz := gy.below hdr gy.lt
        have nz := ny.below hdr sX2
        have bwz := bl_then bwy bwy.size hdr
        clear fsy fpy gy bwy ny hdr hlk hfd cX c6
        go_upto_region 15 with (fail)
        generalize wy.drew = wz at *
        have cX := Blk.cell nz
        have sXz := nz.lt
        obtain ⟨b1a, b1b, b1c, b1d, b1e, b1f, b1g, b1h⟩ := HB.out
        have hsp := p_spread fsz fpz ⟨hE, leftAt_bd hE h24, h24⟩ b1d b1e b1f b1g HR.out.1.came b1h
        unfold stV at hsp
        simp only at hsp
        have HZ := Lib.hid (And.intro fsz (And.intro fpz (And.intro gz bwz)))
        have HB2 := Lib.hid (And.intro b1a (And.intro b1b b1c))
        clear fsz fpz gz bwz nz b1a b1b b1c b1d b1e b1f b1g b1h
        go_wp2_with fail
        refine hsp.mono ?_
        rintro e w' ⟨rfl, ob', n', fp', tc'⟩
        obtain ⟨fsz, fpz, gz, bwz⟩ := HZ.out
        have lw' := LoopW.next fsz fpz gz bwz HW3.out.2 HW3.out.1 fp' tc'
        have hme := fp'.meas
        have HLW := Lib.hid (And.intro lw' hme)
        clear lw' hme fsz fpz gz bwz hsp cX
        go_wp2_with fail
        go_roundw
        case rel =>
          obtain ⟨k', hk'⟩ := HB2.out.1
          exact ⟨_, k', hk', HB2.out.2.1, HLW.out.1⟩
        case measure =>
          rw [HLW.out.2, HME.out, HB2.out.2.2]
          have := HMB.out
          omega
      · have b1 : (xc == yc) = false := by rw [beq_eq_false_iff_ne]; exact hco
        have b2 : decide (xc = yc) = false := by rw [decide_eq_false_iff_not]; exact hco
        have HB : Hid (_ ∧ _) := Lib.hid (by
          rcases HCS.out with ⟨q, _⟩ | ⟨_, q, _⟩ | ⟨_, _, q⟩
          · exact absurd q hat
          · exact absurd (by rw [HCO.out] at q; exact q) hco
          · exact q)
        clear hco
        go_region
        have hdr : Below wy.heap.size wy wy.drew := (Below.refl _ _).drew
        obtain ⟨fsy, fpy, gy, bwy, ny⟩ := HY.out
        have fsz := fsy.below hdr
        have fpz := fpy.below hFy hdr
        have gz := gy.below hdr gy.lt
        have bwz := bl_then bwy bwy.size hdr
        have hme := fpz.meas
        have HLW : Hid (LoopW w wy.drew F mb base G E r M D (some la) c1 c2 c3 ⟨p.f, popW p.L, p.came⟩ ∧ _ ) := Lib.hid (And.intro ⟨_, _, fsz, fpz, gz, bwz⟩ hme)
        clear fsy fpy gy bwy ny hdr hlk hfd cX c6 fsz fpz gz bwz hme
        go_wp2_with fail
        go_roundw
        case rel =>
          obtain ⟨⟨k', hk'⟩, h2, h3⟩ := HB.out
          exact ⟨_, k', hk', h2, HLW.out.1⟩
        case measure =>
          rw [HLW.out.2, HME.out, HB.out.2.2]
          have := HMB.out
          omega
end Go.Proofs.Ytndkgjoaljcijaa
