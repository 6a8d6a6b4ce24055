/- Chapter 43 (grams): Count: by a walk. -/
import Derived.Test.YtoefkkgnabjmdaaGrMem
import Derived.IntWalk
set_option linter.unusedSimpArgs false
set_option linter.unusedVariables false
set_option maxRecDepth 100000
namespace Go.Proofs.Ytoefkkgnabjmdaa
open Go.RowKit PGramsCount Go.Sort Go.Maps Go.Lib Go.Proofs.YtoefkkgnabjmdaaW.PrintWords

instance : Inhabited S64 := ⟨z64⟩
theorem flat_get (l : List S64) (j : Nat) (hj : j < l.length * 2) : (flatK encG 2 l.toArray)[j]! = ((gvals l)[j]?).getD default := by
  rw [get_flatK _ _ _ _ (by simpa using hj)]
  have hi : j / 2 < l.length := by omega
  have e : j = j / 2 * 2 + j % 2 := by omega
  have e1 : (gvals l)[j]? = (encG l[j / 2])[j % 2]? := by
    conv => lhs; rw [e]
    exact gvals_get l (j / 2) (j % 2) hi (by omega)
  rw [e1]
  have e2 : l.toArray[j / 2]! = l[j / 2] := by simp [hi]
  rw [e2, List.getElem!_eq_getElem?_getD]
theorem holds_gram {w : World} {base g o cap : Nat} {l : List S64} (h : RowG w base (.slice (some ⟨g, o, none⟩) l.length cap) l) : HoldsK encG 2 w g o l.toArray := by
  intro j hj
  have hj' : j < l.length * 2 := by simpa using hj
  refine ⟨?_, Row.frozen h rfl j hj'⟩
  obtain ⟨u, hu⟩ : ∃ u, (gvals l)[j]? = some u := ⟨_, List.getElem?_eq_getElem (by rw [gvals_length]; exact hj')⟩
  have hc := Row.cells h rfl j u hu
  have e1 : ((⟨g, o, none⟩ : Addr).add j) = ⟨g, o + j, none⟩ := by unfold Addr.add; split <;> simp_all
  rw [e1] at hc
  rw [hc, flat_get l j hj', hu]
  rfl
theorem reads_holds {w : World} {g o : Nat} {l : List S64} (hg : g < w.heap.size) (h : HoldsK encG 2 w g o l.toArray) : Reads w w.heap.size 2 (some ⟨g, o, none⟩) l.length (gvals l) := by
  refine ⟨gvals_length l, fun _ => ⟨_, rfl, hg, fun j u hu => ?_⟩⟩
  have hj : j < l.length * 2 := by have := (List.getElem?_eq_some_iff.1 hu).1; rwa [gvals_length] at this
  have e1 : ((⟨g, o, none⟩ : Addr).add j) = ⟨g, o + j, none⟩ := by unfold Addr.add; split <;> simp_all
  have := (h j (by simpa using hj)).1
  rw [e1, this, flat_get l j hj, hu]
  rfl
def sortG (l : List S64) : List S64 := l.mergeSort (fun x y => !(ltOf cfG) y x)
theorem sortG_perm (l : List S64) : (sortG l).Perm l := List.mergeSort_perm ..
theorem sortG_srt {l : List S64} (h : l.Pairwise (fun a b => T a.f0 ≠ T b.f0)) : (sortG l).Pairwise aheadP := by
  have h1 := List.pairwise_mergeSort (le := fun x y : S64 => !(ltOf cfG) y x) (fun a b c h1 h2 => by
    simp only [Bool.not_eq_true'] at *
    exact swoG.ntrans _ _ _ h2 h1) (fun a b => by
    rw [ltG, ltG]
    by_cases q : aheadP b a
    · have : ¬ aheadP a b := fun k => aheadP_irrefl a (aheadP_trans k q)
      simp [q, this]
    · simp [q]) l
  have h2 : (sortG l).Pairwise (fun a b => T a.f0 ≠ T b.f0) := (sortG_perm l).pairwise_iff (fun h => h.symm) |>.2 h
  refine (h1.and h2).imp (fun {a b} hab => ?_)
  have h3 := hab.1
  rw [ltG] at h3
  simp at h3
  exact Classical.byContradiction fun q => h3 (aheadP_total q hab.2)
theorem wf_small {z : Int} (h0 : 0 ≤ z) (h1 : z ≤ 1000000) : (Lit.int .i64 z).wf = true := by
  have e : IntKind.i64.min = -9223372036854775808 := by decide
  simp [Lit.wf, e]
  omega
theorem lit_inj {a b : Int} (h : (DataW.lit (.int .i64 a) : DU) = .lit (.int .i64 b)) : a = b := by
  injection h with h
  injection h
theorem cfG_tot (x y : S64) (h1 : ltOf cfG x y = false) (h2 : ltOf cfG y x = false) : x = y := by
  rw [ltG] at h1 h2
  simp at h1 h2
  by_cases e : T x.f0 = T y.f0 ∧ x.f1 = y.f1
  · exact s64_ext e.1 e.2
  · exact absurd (aheadP_tot h1 e) h2
theorem grownBy_sortK (w : World) (g o n : Nat) (d : Array S64) (os : Array Obj) : w.grownBy (sortWorldK encG 2 w g o n d os) (some g) := by
  refine ⟨rfl, rfl, rfl, by simp [sortWorldK, putRowK, putRow, mapBlock, Sort.ahead, grow], fun k hk hne => ?_⟩
  have : g ≠ k := fun e => hne (by rw [e])
  unfold sortWorldK
  rw [Go.Sort.heap_grow_old _ _ (by simp [putRowK, putRow, mapBlock, Sort.ahead]; exact hk)]
  simp [putRowK, putRow, mapBlock, Sort.ahead, Array.getElem?_modify, this]
def SortDone (w : World) (g o : Nat) (out : List S64) : Ending → World → Prop := fun e w' => e = .returned (.tuple #[]) ∧ ∃ n os, w' = sortWorldK encG 2 w g o n (sortG out).toArray os
def strLenV : Value → Nat
  | .string t => t.size
  | _ => 0
def CountDone (w : World) (l : List ByteArray) (n : Int) : Ending → World → Prop := fun e w' => ∃ A c out, e = .returned (.slice A (List.length out) c) ∧ out.length ≤ c ∧ Kd.C k64 w' A out.length out ∧ out.length ≤ 1000 ∧ (if n < 1 ∨ 16 < n then out = [] else GoodG l n.toNat out) ∧ Below w.heap.size w w'
set_option maxHeartbeats 4000000 in
theorem p_GCount (A : Option Addr) (c : Nat) (l : List ByteArray) (n : Int) (w : World) (h : Kd.C Kd.string w A l.length l) (hl : l.length ≤ 12) (hs : ∀ s ∈ l, s.size ≤ 60) :
    Calls Try.prog 36 #[.slice A l.length c, .int .i64 n] w (CountDone w l n) := by
  by_cases h1 : n < 1 ∨ 16 < n
  · have HE := Lib.hid (show CountDone w l n (.returned (.slice none 0 0)) w from ⟨none, 0, [], rfl, Nat.le_refl _, Kd.C_nil _ _, by simp, by rw [if_pos h1], Below.refl _ _⟩)
    clear h
    by_cases c1 : n < 1
    · clear h1
      go_enter Try.func36, Try.ntmps36
      go_wp2
      go_ret
      exact HE.out
    · have c2 : 16 < n := by omega
      clear h1
      go_enter Try.func36, Try.ntmps36
      go_wp2
      go_ret
      exact HE.out
  · have HN := Lib.hid h1
    obtain ⟨m, rfl⟩ : ∃ m : Nat, n = m := ⟨n.toNat, by omega⟩
    have m1 : 1 ≤ m := by omega
    have m2 : m ≤ 16 := by omega
    have i1 : ¬ (m : Int) < 1 := by omega
    have i2 : ¬ 16 < (m : Int) := by omega
    have hmm := @run_makeMap Try.prog
    clear h1
    go_enter Try.func36, Try.ntmps36
    go_wp2_with fail
    clear hmm
    go_loopw [7, 20] (fun _ v20 wr => ∃ (i nn : Nat) (D : DU), i ≤ l.length ∧ v20 = .int .i64 i ∧ wr.ownsMap Try.prog 9 (plainElem Try.prog 3) w.heap.size nn D ∧ nn = (rowsK (l.take i) m).length ∧ CntD D (rowsK (l.take i) m) ∧ Below w.heap.size w wr) (fun _ v20 _ => l.length - (intOf v20).toNat)
    case atStart => exact ⟨0, 0, .map [], Nat.zero_le _, rfl, World.ownsMap_made w _ _ _, rfl, CntD.start, (Below.refl _ w).alloc (Nat.le_refl _) _⟩
    case round =>
      obtain ⟨i, nn, D, hi, rfl, hown, hnn, hD, hbr⟩ := hrel
      by_cases hil : i < l.length
      · obtain ⟨ad, rfl, hcell⟩ := Kd.at_string (Kd.C_below h hbr) (i : Int) (by omega) (by omega)
        have e0 : rdOf ByteArray.empty l (i : Int) = l[i] := by unfold rdOf; rw [Int.toNat_natCast, List.getD_eq_getElem?_getD, List.getElem?_eq_getElem hil]; rfl
        rw [e0, Int.toNat_natCast] at hcell
        have hsz := hs l[i] (List.getElem_mem hil)
        have hrl := rows_len (l.take i) m m1 (fun s hs' => hs s (List.mem_of_mem_take hs'))
        rw [List.length_take] at hrl
        have HT := Lib.hid (show rowsK (l.take (i + 1)) m = rowsK (l.take i) m ++ gramsOf (T l[i]) m by
          unfold rowsK
          rw [List.take_succ_eq_append_getElem hil, List.flatMap_append]; simp)
        have hi1 : (i : Int) < (l.length : Int) := Int.ofNat_lt.2 hil
        have HB := Lib.hid hbr
        have HD := Lib.hid hD
        have HNN := Lib.hid hnn
        generalize rowsK (l.take i) m = seen at *
        generalize l[i] = s at *
        have hsl : seen.length ≤ 720 := by omega
        clear h e0 hbr hD hnn hrl hs
        go_wp2_with fail
        go_loopw [7] (fun v7 wr => ∃ (t : ByteArray) (x nn : Nat) (D : DU), v7 = .string t ∧ T t = (T s).drop x ∧ x ≤ (gramsOf (T s) m).length ∧ wr.ownsMap Try.prog 9 (plainElem Try.prog 3) w.heap.size nn D ∧ nn = (seen ++ (gramsOf (T s) m).take x).length ∧ CntD D (seen ++ (gramsOf (T s) m).take x) ∧ Below w.heap.size w wr) (fun v7 _ => strLenV v7)
        case atStart => exact ⟨s, 0, nn, D, rfl, rfl, Nat.zero_le _, hown, by simpa using HNN.out, by simpa using HD.out, HB.out⟩
        case round =>
          clear hcell hown
          obtain ⟨t, x, nn, D, rfl, ht, hx, hown, hnn, hD, hbr⟩ := hrel
          have hts : t.size = s.size - x := by rw [← T_size, ht, List.length_drop, T_size]
          have hgl := gramsOf_length (T s) m
          rw [T_size] at hgl
          by_cases hk : m ≤ t.size
          · have hxl : x < (gramsOf (T s) m).length := by omega
            have hkT : T (t.extract 0 m) = (gramsOf (T s) m)[x] := by
              rw [T_extract, ht, gramsOf_get _ _ _ (by rw [T_size]; omega)]; simp
            have HKT := Lib.hid (show (gramsOf (T s) m).take (x + 1) = (gramsOf (T s) m).take x ++ [T (t.extract 0 m)] by rw [hkT]; exact List.take_succ_eq_append_getElem hxl)
            have hkey : keyOf Try.prog 9 (.string (t.extract 0 m)) = some (.string (T (t.extract 0 m))) := Go.WideMaps.keyOf_string_mk Try.underlying9 (by rw [ByteArray.size_extract]; simp only [maxLen]; omega)
            have HT1 := Lib.hid (show T (t.extract 1 t.size) = (T s).drop (x + 1) by
              rw [T_extract, ht, List.drop_drop, List.take_of_length_le (by rw [List.length_drop, T_size]; omega)])
            have HSZ := Lib.hid (show (t.extract 1 t.size).size < t.size by rw [ByteArray.size_extract]; omega)
            have HD2 := Lib.hid hD
            have HB2 := Lib.hid hbr
            have hcb : (seen ++ (gramsOf (T s) m).take x).length ≤ 800 := by rw [List.length_append, List.length_take]; omega
            have hcc := List.count_le_length (a := T (t.extract 0 m)) (l := seen ++ (gramsOf (T s) m).take x)
            have k1 : (m : Int) ≤ (t.size : Int) := by omega
            have k2 : (1 : Int) ≤ (t.size : Int) := by omega
            have HS := Lib.hid hnn
            have HNL := Lib.hid (show nn < maxLen by simp only [maxLen]; omega)
            clear hkT hD hbr ht hnn
            obtain ⟨cn, hcn⟩ : ∃ cn : Nat, cn = (seen ++ (gramsOf (T s) m).take x).count (T (t.extract 0 m)) := ⟨_, rfl⟩
            have HAT := Lib.hid (show D.atKey (.string (T (t.extract 0 m))) (.lit (.int .i64 0)) = .lit (.int .i64 (cn : Int)) by rw [hcn]; exact (HD2.out _).2)
            have HCN := Lib.hid hcn
            have hcb2 : cn ≤ 800 := by omega
            have HWF := Lib.hid (wf_small (z := (cn : Int) + 1) (by omega) (by omega))
            have HXL := Lib.hid hxl
            clear hcc hcb hcn hts hgl hxl hx
            go_wp2_with (first | (at_lookup; refine wpList_lookup_own_int _ rfl _ _ 99 rfl 9 3 .i64 (string_keyed Try.underlying9) Try.underlying99 Try.underlying3 (Try.zeroValue3 _) w.heap.size nn D rfl hown _ _ rfl hkey ?_; intro c hat hwc; obtain rfl := lit_inj (HAT.out.symm.trans hat)) | (at_mapUpdate; refine wpList_mapUpdate_own _ rfl _ _ _ 99 rfl 9 3 (string_keyed Try.underlying9) Try.underlying99 _ w.heap.size nn D rfl hown HNL.out _ _ _ rfl rfl hkey _ [] (plainElem_int Try.underlying3 HWF.out) ?_; intro w1 hown1 hgrow1))
            go_wp2
            go_roundw
            case rel =>
              refine ⟨_, x + 1, nn + 1, _, rfl, HT1.out, HXL.out, hown1, ?_, ?_, HB2.out.grown hgrow1 HB2.out.size (fun k e => by cases e; exact Nat.le_refl _)⟩
              · rw [HKT.out, ← List.append_assoc, List.length_append, ← HS.out]; rfl
              · rw [HKT.out, ← List.append_assoc, HCN.out]; exact CntD.put hown.isMap HD2.out _
            case measure => exact HSZ.out
          · have hxe : (gramsOf (T s) m).take x = gramsOf (T s) m := List.take_of_length_le (by omega)
            rw [hxe] at hnn hD
            have HE := Lib.hid (And.intro hnn (And.intro hD hbr))
            have hlt : ¬ (m : Int) ≤ (t.size : Int) := by omega
            have hlt2 : (t.size : Int) < (m : Int) := by omega
            clear hxe hnn hD hbr ht hts hgl hx
            go_wp2
            go_roundw
            case rel => exact ⟨i + 1, nn, D, by omega, by go_num, hown, by rw [HT.out]; exact HE.out.1, by rw [HT.out]; exact HE.out.2.1, HE.out.2.2⟩
            case measure => simp [intOf]; omega
      · obtain rfl : i = l.length := by omega
        rw [List.take_length] at hnn hD
        obtain ⟨wz, rfl⟩ : ∃ wz : World, wz = wr := ⟨_, rfl⟩
        have hrl := rows_len l m m1 hs
        have hsz := hown.size_le
        have HR := Lib.hid (And.intro hD hbr)
        have hbs : w.heap.size < wz.heap.size := hown.lt
        have hnn2 : Maps.size D ≤ 720 := by omega
        clear hnn hD hbr h hs hrl hsz
        go_wp2_with (at_range; refine wpList_range_own _ rfl _ 99 rfl 9 3 (string_keyed Try.underlying9) Try.underlying99 _ w.heap.size nn D rfl hown ?_; intro w0 hrg0 hg0 hs0)
        go_frame
        have hB0 : Below w.heap.size w w0 := HR.out.2.grown hg0 HR.out.2.size (fun k e => by cases e)
        clear hg0 hown
        go_loopw [8, 9, 10] (fun v8 _ _ W => ∃ (left : Lit → Bool) (cnt : Nat) (out : List S64), W.ranges Try.prog 9 (plainElem Try.prog 3) w.heap.size wz.heap.size nn D left cnt ∧ RowG W (wz.heap.size + 1) v8 out ∧ ColG D left out ∧ out.length + cnt ≤ Maps.size D ∧ Below w.heap.size w W) (fun _ _ _ W => W.rangeLeft w.heap.size wz.heap.size)
        case atStart => exact ⟨_, _, [], hrg0, Row.nil _ _ _ _, ColG.start D, by simp, hB0⟩
        case round =>
          obtain ⟨left, cnt, out, hrg, hrow, hcol, hcnt, hbW⟩ := hrel
          have HRG := Lib.hid hrg
          have HCO := Lib.hid (And.intro hcol (And.intro hbW hrow))
          have hwr0 : wz.heap.size < wr.heap.size := hrg.lt
          clear hrg0 hB0 hs0 hcol hbW
          go_wp2_with (at_next; refine wpList_next_ranges _ rfl _ rfl 9 (string_keyed Try.underlying9) (plainElem Try.prog 3) Value.string (Value.int .i64) (fun key kl hk => by obtain ⟨s, e, _, _⟩ := Go.WideMaps.string_of_keyOf Try.underlying9 hk; exact ⟨s, e⟩) (fun v y hv => by obtain ⟨c, e, _, _⟩ := plainElem_int_inv Try.underlying3 hv; exact ⟨c, e⟩) w.heap.size wz.heap.size nn D left cnt rfl hrg ?_ ?_)
          · intro hc0 hl0
            have hfin := HCO.out.1.all hl0 HR.out.1
            have hgood : GoodG l m (sortG out) := ⟨sortG_srt HCO.out.1.1, fun g => ((sortG_perm out).mem_iff).trans (hfin g)⟩
            have HG := Lib.hid (And.intro hgood (And.intro HCO.out.2.1 (show out.length ≤ 1000 by omega)))
            have hsl : (sortG out).length = out.length := (sortG_perm out).length_eq
            have HSL := Lib.hid hsl
            have HRO := Lib.hid hrow
            clear hfin hrg hl0 hgood hsl
            rcases hrow.2 with ⟨rfl, hz⟩ | ⟨g, o, cap, cur, mk, rfl, hbase, hg, hnc, _⟩
            · obtain rfl : out = [] := List.eq_nil_of_length_eq_zero hz
              have hcon := AnyF.slices_SortFunc_none { Try.sf63 with } none 0 (.func (.func 64) #[] #[]) wr
              change Calls Try.prog 63 _ _ _ at hcon
              clear hrow hz
              go_wp2_with fail
              refine hcon.mono ?_
              rintro e w' ⟨rfl, rfl⟩
              go_wp2
              go_ret
              have hg := HG.out.1
              have e0 : sortG [] = [] := by simp [sortG]
              rw [e0] at hg
              refine ⟨none, 0, [], rfl, Nat.le_refl _, Kd.C_nil _ _, by simp, ?_, HG.out.2.1⟩
              rw [if_neg HN.out]
              exact hg
            · have hH := holds_gram hrow
              have hgl : g < wr.heap.size := heap_lt hg
              have HH := Lib.hid (And.intro hH (And.intro hbase (And.intro hgl hnc)))
              have hcon : Calls Try.prog 63 #[.slice (some ⟨g, o, none⟩) out.length cap, .func (.func 64) #[] #[]] wr (SortDone wr g o out) :=
                AnyQ.slices_SortFunc_total Try.sf63 2 Try.isAgg64 Try.sizeOf64 encG (fun _ => rfl) (fun x v hv => by simp [encG] at hv; rcases hv with rfl | rfl <;> rfl) cfG swoG 64 #[] g o cap out.toArray wr (enters_of Try.func64 (by kernel_rfl) rfl) (fun m os dk _ x y => p_order x y _) hH hgl (by have := HG.out.2.2; simp; omega) cfG_tot
              clear hrow hg hnc hbase hH hgl
              go_wp2_with fail
              refine hcon.mono ?_
              rintro e w' ⟨rfl, n, os, rfl⟩
              go_wp2
              go_ret
              obtain ⟨hH, hbase, hgl, hnc⟩ := HH.out
              have hH2 := holdsK_sortWorldK_c encG 2 wr g o out.toArray (sortG out).toArray n os hH hgl (by simp [HSL.out])
              have hgr := grownBy_sortK wr g o n (sortG out).toArray os
              have hl2 : g < (sortWorldK encG 2 wr g o n (sortG out).toArray os).heap.size := Nat.lt_of_lt_of_le hgl hgr.size
              refine ⟨some ⟨g, o, none⟩, cap, sortG out, by rw [HSL.out]; rfl, by rw [HSL.out]; exact hnc, C_grams (reads_holds hl2 hH2) (by have := HG.out.2.2; rw [HSL.out]; omega), by rw [HSL.out]; exact HG.out.2.2, ?_, HG.out.2.1.grown hgr HG.out.2.1.size (fun k e => by cases e; omega)⟩
              rw [if_neg HN.out]
              exact HG.out.1
          · intro x c kl yd yp w2 cnt2 hkey hlk hv hat hrg2 hlt hg2 hs2 hen
            obtain ⟨x', ex, rfl, hxs⟩ := Go.WideMaps.string_of_keyOf Try.underlying9 hkey
            obtain rfl : x = x' := by injection ex
            obtain ⟨c', ec, hz, hwc⟩ := plainElem_int_inv Try.underlying3 hv
            obtain rfl : c = c' := by injection ec
            obtain ⟨rfl, rfl⟩ := Prod.mk.inj hz
            have hcol2 := HCO.out.1.step (x := x) (c := c) hlk (has_true_of_atKey hat) hat
            have hne1 : u8.ownBlock = none ∨ u8.ownBlock ≠ some wz.heap.size := by
              cases hv8 : u8.ownBlock with
              | none => exact .inl rfl
              | some k => exact .inr (fun e => by have := (Row.lt hrow k hv8).1; injection e with e; omega)
            have hrow2 : RowG w2 (wz.heap.size + 1) u8 out := Row.kept hrow hg2 hne1
            have hB2 : Below w.heap.size w w2 := HCO.out.2.1.grown hg2 HCO.out.2.1.size (fun k e => by cases e; omega)
            have hrow3 : RowG (w2.alloc (.cells #[.string x, .int .i64 c] 64)) (wz.heap.size + 1) u8 out := Row.alloc hrow2 _
            have hblk := Blk.new w2 64 #[.string x, .int .i64 c]
            have hrg3 := hrg2.alloc (.cells #[.string x, .int .i64 c] 64)
            have HC2 := Lib.hid (And.intro hcol2 (And.intro hB2 hrg3))
            have HLT := Lib.hid hrow3.lt
            have HLC := Lib.hid (And.intro hlt hcnt)
            have HRG2 := Lib.hid hrg2
            have hsz2 : wz.heap.size + 1 ≤ (w2.alloc (.cells #[.string x, .int .i64 c] 64)).heap.size := by simp; omega
            have hol : out.length + 1 ≤ 1000000 := by omega
            clear hs2 hcol2 hB2 hrg3 hrg2 hrow2 hrow hg2 hlk hkey hv hat hne1 hlt hcnt hrg ex ec
            go_wp2_with (at_builtin; go_must (refine wpList_append_gram rfl (.tmp 44) (.tmp 48) rfl (wz.heap.size + 1) _ out rfl hrow3 w2.heap.size ⟨x, c⟩ rfl hblk hol hsz2 ?_); intro v3 w3 hr3 hg3 ho3)
            have hq : ∀ k, u8.ownBlock = some k → wz.heap.size + 1 ≤ k := fun k hk => (HLT.out k hk).1
            have hrg4 := HC2.out.2.2.kept hg3 (fun e => by have := hq _ e.symm; omega) (fun e => by have := hq _ e.symm; omega)
            go_roundw
            case rel =>
              refine ⟨_, cnt2, _, hrg4, hr3, HC2.out.1, ?_, ?_⟩
              · have := HLC.out; rw [List.length_append]; simp; omega
              · have hb := HC2.out.2.1
                exact (hb.alloc hb.size _).grown hg3 (by have := hb.size; simp; omega) (fun k hk => by have := hq k hk; omega)
            case measure => rw [hrg4.left_eq, HRG.out.left_eq]; exact HLC.out.1

end Go.Proofs.Ytoefkkgnabjmdaa
