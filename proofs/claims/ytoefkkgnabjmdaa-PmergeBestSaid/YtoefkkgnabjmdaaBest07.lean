/- Chapter 07 (pmerge): the best of all lengths by trying all: falling of the reference: by a walk. -/
import Derived.Test.YtoefkkgnabjmdaaPairs
import Derived.Test.YtoefkkgnabjmdaaCount
import Derived.Test.YtoefkkgnabjmdaaPlainBest
import Derived.Deep.CutBlock
import Derived.Deep.DeepMust
set_option linter.unusedSimpArgs false
set_option linter.unusedVariables false
set_option maxRecDepth 100000
namespace Go.Proofs.Ytoefkkgnabjmdaa
open Go.RowKit

set_option maxHeartbeats 8000000 in
theorem r_falling (A : Option Addr) (c : Nat) (f : List Int) (w : World) (h : ReadsI w A f) (hl : f.length ≤ 100000) :
    Calls Try.prog 47 #[.slice A f.length c] w fun e w' => ∃ v, e = .returned v ∧ RowI w' w.heap.size v (fallP f) ∧ Below w.heap.size w w' := by
  go_enter Try.func47, Try.ntmps47
  go_wp2_with fail
  go_loopw [3, 4] (fun v3 v4 wr => ∃ i : Nat, i ≤ f.length ∧ v4 = .int .i64 i ∧ RowI wr w.heap.size v3 (fallP (f.take i)) ∧ Below w.heap.size w wr) (fun _ v4 _ => f.length - (intOf v4).toNat)
  case atStart => exact ⟨0, Nat.zero_le _, rfl, Row.nil _ _ _ _, Below.refl _ _⟩
  case round =>
    obtain ⟨i, hi, rfl, hrow, hbr⟩ := hrel
    by_cases hif : i < f.length
    · obtain ⟨ad, rfl, had, a1⟩ := (h.below hbr).at_ i hif
      have HT := Lib.hid (show fallP (f.take (i + 1)) = fallStep (fallP (f.take i)) f[i] by rw [List.take_succ_eq_append_getElem hif, fallP_snoc])
      have hol : (fallP (f.take i)).length ≤ 100000 := Nat.le_trans (fallP_length _) (by rw [List.length_take]; omega)
      generalize fallP (f.take i) = out at *
      have hh := h.below hbr
      have HHR := Lib.hid (And.intro hrow (And.intro hbr (fun W (hW : Below wr.heap.size wr W) => (hh.below hW).at_ i hif)))
      obtain ⟨B, c2, hv, hc2, hro⟩ := RowI.slice hrow
      subst hv
      generalize f[i] = x at *
      by_cases hx : x = 0
      · subst hx
        have HT2 : Hid (fallP (f.take (i + 1)) = out) := Lib.hid (HT.out.trans (if_pos rfl))
        clear hrow hbr hro hh
        go_wp2
        go_roundw
        case rel => exact ⟨i + 1, by omega, by go_num, by rw [HT2.out]; exact HHR.out.1, HHR.out.2.1⟩
        case measure => simp [intOf]; omega
      · have HT2 : Hid (fallP (f.take (i + 1)) = out.take (fallAt x out out.length) ++ [x] ++ out.drop (fallAt x out out.length)) := Lib.hid (HT.out.trans (if_neg hx))
        have hxb : (x == 0) = false := by simpa using hx
        obtain ⟨n, hn⟩ : ∃ n, n = out.length := ⟨_, rfl⟩
        rw [← hn] at hol ⊢
        have HN := Lib.hid hn
        have HRO := Lib.hid hro
        have hcn : n ≤ c2 := by omega
        have hi1 : (i : Int) < (f.length : Int) := by omega
        obtain ⟨wo, rfl⟩ : ∃ wo : World, wo = wr := ⟨_, rfl⟩
        clear hrow hbr hro hh hn hx hc2
        go_upto_block 2 with (fail)
        go_cut [5] (fun v5 wc => v5 = .int .i64 (fallAt x out n : Nat) ∧ Below wo.heap.size wo wc)
        case first =>
          clear a1
          go_wp2_with fail
          go_loopw [5] (fun v5 wr => ∃ k : Nat, k ≤ n ∧ v5 = .int .i64 k ∧ fallAt x out n = fallAt x out k ∧ Below wo.heap.size wo wr) (fun v5 _ => (intOf v5).toNat)
          case atStart => exact ⟨n, Nat.le_refl _, rfl, rfl, Below.refl _ _⟩
          case round =>
            obtain ⟨k, hk, rfl, hfa, hbr⟩ := hrel
            have HFA := Lib.hid hfa
            clear hfa
            obtain ⟨ad', e1, _, b1⟩ := HHR.out.2.2 wr hbr
            obtain rfl : ad' = ad := by simpa using e1.symm
            rcases Nat.eq_zero_or_pos k with hk0 | hk0
            · subst hk0
              have HF2 : Hid (fallAt x out n = 0) := Lib.hid HFA.out
              have HBR := Lib.hid hbr
              have q4 : decide ((0 : Int) < ((0 : Nat) : Int)) = false := by simp
              clear hbr e1
              go_wp2_with fail
              go_quiet (fail)
              all_goals
                go_wp2
                go_meet
                case rel => exact ⟨by simp only [HF2.out], bl_drewN HBR.out _⟩
            · obtain ⟨j, rfl⟩ : ∃ j, k = j + 1 := ⟨k - 1, by omega⟩
              have hro := HRO.out.below hbr
              obtain ⟨bd, rfl, hbd, b2⟩ := hro.at_ j (by have := HN.out; omega)
              have e2 : out.getD j 0 = out[j]'(by have := HN.out; omega) := by rw [List.getD_eq_getElem?_getD, List.getElem?_eq_getElem (by have := HN.out; omega)]; rfl
              rw [← e2] at b2
              have HF : Hid (fallAt x out (j + 1) = if out.getD j 0 < x then fallAt x out j else j + 1) := Lib.hid rfl
              generalize out.getD j 0 = y at *
              have q0 : IntKind.i64.wrap (((j + 1 : Nat) : Int) - 1) = j := by rw [show ((j + 1 : Nat) : Int) - 1 = j by omega]; exact Go.IntWalk.i64_in _ (by omega)
              have q1 : ((j + 1 : Nat) : Int) - 1 = j := by omega
              have q2 : (0 : Int) ≤ (j : Int) := by omega
              have q3 : (j : Int) < (n : Int) := by omega
              have q4 : decide ((0 : Int) < ((j + 1 : Nat) : Int)) = true := by rw [decide_eq_true_eq]; omega
              have HBR := Lib.hid hbr
              clear hbr hro hbd e1 e2
              by_cases hy : y < x
              · have hd : decide (y < x) = true := by simpa using hy
                have HF2 : Hid (fallAt x out n = fallAt x out j) := Lib.hid (HFA.out.trans (HF.out.trans (if_pos hy)))
                clear hy
                go_wp2_with fail
                go_quiet (fail)
                all_goals
                  go_wp2
                  go_roundw
                  case rel => exact ⟨j, by omega, by first | rfl | go_num, HF2.out, bl_drewN HBR.out _⟩
                  case measure => simp [intOf]; try omega
              · have hd : decide (y < x) = false := by simp; omega
                have HF2 : Hid (fallAt x out n = j + 1) := Lib.hid (HFA.out.trans (HF.out.trans (if_neg hy)))
                clear hy
                go_wp2_with fail
                go_quiet (fail)
                all_goals
                  go_wp2
                  go_meet
                  case rel => exact ⟨by simp only [HF2.out], bl_drewN HBR.out _⟩
        obtain ⟨rfl, hbc⟩ := hcut
        have hle : fallAt x out n ≤ n := fallAt_le _ _ _
        generalize hk : fallAt x out n = k at *
        have HK := Lib.hid hk
        obtain ⟨ad', e1, _, b1⟩ := HHR.out.2.2 wc hbc
        obtain rfl : ad' = ad := by simpa using e1.symm
        have r0 := HRO.out
        have hz := hbc.size
        have r1 := r0.cut 0 k c2 (Nat.zero_le _) (by have := HN.out; omega) (by have := HN.out; omega)
        have r2 := r0.cut k n c2 (by omega) (by have := HN.out; omega) (by have := HN.out; omega)
        have e3 : (if c2 = 0 then B else B.map (·.add 0)) = B := by
          split
          · rfl
          · cases B with
            | none => rfl
            | some b => simp [Addr.add]
        rw [e3] at r1
        have L1 : ((out.drop 0).take (k - 0)).length = k := by simp; have := HN.out; omega
        have L2 : ((out.drop k).take (n - k)).length = n - k := by simp; have := HN.out; omega
        have HX := Lib.hid (And.intro L1 L2)
        have HR12 := Lib.hid (And.intro (r1.below hbc) r2)
        have HBC := Lib.hid hbc
        have i1 : (0 : Int) ≤ (k : Int) := by omega
        have i2 : (k : Int) ≤ (n : Int) := by omega
        have i3 : (k : Int) ≤ (c2 : Int) := by omega
        have hkc : k ≤ c2 := by omega
        clear hk hbc r0 r1 r2 L1 L2 e1 e3 a1
        have HLN : Hid ((([] : List Int).length + ((out.drop 0).take (k - 0)).length ≤ 10995116277) ∧ (([] ++ (out.drop 0).take (k - 0)).length + [x].length ≤ 10995116277) ∧ (([] ++ (out.drop 0).take (k - 0) ++ [x]).length + ((out.drop k).take (n - k)).length ≤ 10995116277)) := Lib.hid (by
          simp only [List.length_append, List.length_nil, List.length_singleton, HX.out.1, HX.out.2]; omega)
        by_cases hc0 : c2 = 0
        · obtain rfl : n = 0 := by omega
          obtain rfl : k = 0 := by omega
          subst hc0
          have hr2 := HR12.out.2
          rw [if_pos rfl] at hr2
          have HR2 := Lib.hid hr2
          clear hr2
          go_wp2_with (first
            | (at_builtin
               refine wpList_append_ints rfl (.tmp 36) (.tmp 39) rfl wo.heap.size (.slice none 0 0) [] rfl (Row.nil _ _ _ _) B 0 0 _ rfl HX.out.1.symm HR12.out.1 HLN.out.1 hz ?_
               intro v6 w6 hr6 hg6 ho6
               have HW6 := Lib.hid (HBC.out.grown hg6 hz (fun j hj => by cases hj))
               obtain ⟨_, e6, _, b6⟩ := HHR.out.2.2 w6 HW6.out
               simp only [Option.some.injEq] at e6
               subst e6
               have hz6 := HW6.out.size
               have hl6 := hr6.lt
               have hz67 : wo.heap.size ≤ (w6.alloc (.cells (ivals [x]).toArray 3)).heap.size := by rw [World.size_alloc]; omega
               have HL6 := Lib.hid hl6
               clear hg6 ho6 hl6)
            | (at_builtin
               refine wpList_append_ints rfl (.tmp 41) (.tmp 46) rfl wo.heap.size _ _ rfl (hr6.alloc (.cells (ivals [x]).toArray 3)) (some ⟨w6.heap.size, 0, none⟩) 1 1 [x] rfl rfl (reads_ints (Blk.new w6 _ _)) HLN.out.2.1 hz67 ?_
               intro v7 w7 hr7 hg7 ho7
               have HW7 := Lib.hid ((bl_alloc HW6.out (.cells (ivals [x]).toArray 3)).grown hg7 hz67 (fun j hj => (HL6.out j hj).1))
               have hr27 := HR2.out.below HW7.out
               have hz7 := HW7.out.size
               have HL7 := Lib.hid hr7.lt
               clear hg7 ho7 hr6 b6)
            | (at_builtin
               refine wpList_append_ints rfl (.tmp 48) (.tmp 51) rfl wo.heap.size _ _ rfl hr7 _ 0 0 _ rfl HX.out.2.symm hr27 HLN.out.2.2 hz7 ?_
               intro v8 w8 hr8 hg8 ho8
               have HW8 := Lib.hid (HW7.out.grown hg8 hz7 (fun j hj => (HL7.out j hj).1))
               clear hg8 ho8 hr7 hr27))
          all_goals
            go_roundw
            case rel =>
              refine ⟨i + 1, by omega, by go_num, ?_, bl_then HHR.out.2.1 HHR.out.2.1.size HW8.out⟩
              have ho : out = [] := List.length_eq_zero_iff.mp HN.out.symm
              have e9 : (([] ++ (out.drop 0).take (0 - 0)) ++ [x]) ++ (out.drop 0).take (0 - 0) = fallP (f.take (i + 1)) := by
                rw [HT2.out, ← HN.out, HK.out, ho]; rfl
              rw [e9] at hr8
              exact hr8.mono HHR.out.2.1.size
            case measure => simp [intOf]; omega
        · by_cases hck : c2 = k
          · subst hck
            obtain rfl : c2 = n := by omega
            have HX2 : Hid (0 = ((out.drop c2).take (c2 - c2)).length) := Lib.hid (by rw [Nat.sub_self]; rfl)
            have hr2 := HR12.out.2
            rw [if_pos rfl] at hr2
            have HR2 := Lib.hid hr2
            clear hr2
            go_wp2_with (first
              | (at_builtin
                 refine wpList_append_ints rfl (.tmp 36) (.tmp 39) rfl wo.heap.size (.slice none 0 0) [] rfl (Row.nil _ _ _ _) B c2 c2 _ rfl HX.out.1.symm HR12.out.1 HLN.out.1 hz ?_
                 intro v6 w6 hr6 hg6 ho6
                 have HW6 := Lib.hid (HBC.out.grown hg6 hz (fun j hj => by cases hj))
                 obtain ⟨_, e6, _, b6⟩ := HHR.out.2.2 w6 HW6.out
                 simp only [Option.some.injEq] at e6
                 subst e6
                 have hz6 := HW6.out.size
                 have hl6 := hr6.lt
                 have hz67 : wo.heap.size ≤ (w6.alloc (.cells (ivals [x]).toArray 3)).heap.size := by rw [World.size_alloc]; omega
                 have HL6 := Lib.hid hl6
                 clear hg6 ho6 hl6)
              | (at_builtin
                 refine wpList_append_ints rfl (.tmp 41) (.tmp 46) rfl wo.heap.size _ _ rfl (hr6.alloc (.cells (ivals [x]).toArray 3)) (some ⟨w6.heap.size, 0, none⟩) 1 1 [x] rfl rfl (reads_ints (Blk.new w6 _ _)) HLN.out.2.1 hz67 ?_
                 intro v7 w7 hr7 hg7 ho7
                 have HW7 := Lib.hid ((bl_alloc HW6.out (.cells (ivals [x]).toArray 3)).grown hg7 hz67 (fun j hj => (HL6.out j hj).1))
                 have hr27 := HR2.out.below HW7.out
                 have hz7 := HW7.out.size
                 have HL7 := Lib.hid hr7.lt
                 clear hg7 ho7 hr6 b6)
              | (at_builtin
                 refine wpList_append_ints rfl (.tmp 48) (.tmp 51) rfl wo.heap.size _ _ rfl hr7 _ 0 0 _ rfl HX2.out hr27 HLN.out.2.2 hz7 ?_
                 intro v8 w8 hr8 hg8 ho8
                 have HW8 := Lib.hid (HW7.out.grown hg8 hz7 (fun j hj => (HL7.out j hj).1))
                 clear hg8 ho8 hr7 hr27))
            all_goals
              go_roundw
              case rel =>
                refine ⟨i + 1, by omega, by go_num, ?_, bl_then HHR.out.2.1 HHR.out.2.1.size HW8.out⟩
                have e9 : (([] ++ (out.drop 0).take (c2 - 0)) ++ [x]) ++ (out.drop c2).take (c2 - c2) = fallP (f.take (i + 1)) := by
                  rw [HT2.out, ← HN.out, HK.out, List.drop_zero, Nat.sub_zero, List.nil_append, List.take_of_length_le (l := out.drop c2) (by simp; have := HN.out; omega)]
                rw [e9] at hr8
                exact hr8.mono HHR.out.2.1.size
              case measure => simp [intOf]; omega
          · have hr2 := HR12.out.2
            rw [if_neg hck] at hr2
            have HR2 := Lib.hid hr2
            clear hr2
            go_wp2_with (first
              | (at_builtin
                 refine wpList_append_ints rfl (.tmp 36) (.tmp 39) rfl wo.heap.size (.slice none 0 0) [] rfl (Row.nil _ _ _ _) B k c2 _ rfl HX.out.1.symm HR12.out.1 HLN.out.1 hz ?_
                 intro v6 w6 hr6 hg6 ho6
                 have HW6 := Lib.hid (HBC.out.grown hg6 hz (fun j hj => by cases hj))
                 obtain ⟨_, e6, _, b6⟩ := HHR.out.2.2 w6 HW6.out
                 simp only [Option.some.injEq] at e6
                 subst e6
                 have hz6 := HW6.out.size
                 have hl6 := hr6.lt
                 have hz67 : wo.heap.size ≤ (w6.alloc (.cells (ivals [x]).toArray 3)).heap.size := by rw [World.size_alloc]; omega
                 have HL6 := Lib.hid hl6
                 clear hg6 ho6 hl6)
              | (at_builtin
                 refine wpList_append_ints rfl (.tmp 41) (.tmp 46) rfl wo.heap.size _ _ rfl (hr6.alloc (.cells (ivals [x]).toArray 3)) (some ⟨w6.heap.size, 0, none⟩) 1 1 [x] rfl rfl (reads_ints (Blk.new w6 _ _)) HLN.out.2.1 hz67 ?_
                 intro v7 w7 hr7 hg7 ho7
                 have HW7 := Lib.hid ((bl_alloc HW6.out (.cells (ivals [x]).toArray 3)).grown hg7 hz67 (fun j hj => (HL6.out j hj).1))
                 have hr27 := HR2.out.below HW7.out
                 have hz7 := HW7.out.size
                 have HL7 := Lib.hid hr7.lt
                 clear hg7 ho7 hr6 b6)
              | (at_builtin
                 refine wpList_append_ints rfl (.tmp 48) (.tmp 51) rfl wo.heap.size _ _ rfl hr7 _ (n - k) (c2 - k) _ rfl HX.out.2.symm hr27 HLN.out.2.2 hz7 ?_
                 intro v8 w8 hr8 hg8 ho8
                 have HW8 := Lib.hid (HW7.out.grown hg8 hz7 (fun j hj => (HL7.out j hj).1))
                 clear hg8 ho8 hr7 hr27))
            all_goals
              go_roundw
              case rel =>
                refine ⟨i + 1, by omega, by go_num, ?_, bl_then HHR.out.2.1 HHR.out.2.1.size HW8.out⟩
                have e9 : (([] ++ (out.drop 0).take (k - 0)) ++ [x]) ++ (out.drop k).take (n - k) = fallP (f.take (i + 1)) := by
                  rw [HT2.out, ← HN.out, HK.out, List.drop_zero, Nat.sub_zero, List.nil_append, List.take_of_length_le (l := out.drop k) (by simp; have := HN.out; omega)]
                rw [e9] at hr8
                exact hr8.mono HHR.out.2.1.size
              case measure => simp [intOf]; omega
    · obtain rfl : i = f.length := by omega
      rw [List.take_length] at hrow
      go_wp2
      go_ret
      exact ⟨_, rfl, hrow, hbr⟩

end Go.Proofs.Ytoefkkgnabjmdaa
