/- Chapter 18's first law, by a walk. -/
import Derived.Test.YtiohdgckmolmnaaAwake18
set_option linter.unusedSimpArgs false
set_option linter.unusedVariables false
namespace Go.Proofs.Ytiohdgckmolmnaa
open Go.RowKit

set_option maxHeartbeats 4000000 in
set_option maxRecDepth 100000 in
theorem law_DenoteCopies (h : List UInt8) (n d : Int) (w : World) (hbig : h.length ≤ 140737488351232) : Calls Try.prog 10 #[.string (str h), .int .i64 n, .int .i64 d] w fun e w' => e = .returned (.bool true) ∧ Below w.heap.size w w' := by
  have hss := str_size h
  have HSS := Lib.hid hss
  clear hss
  by_cases hl : h.length ≤ 500
  · have hl' : (str h).size ≤ 500 := by rw [HSS.out]; exact hl
    have hconv := fun W => Lib.run_convert_string_bytes (P := Try.prog) W 9 68 5 (str h) Try.underlying9 Try.underlying68 Try.underlying5
    have hbox := bytesWorld_below w 5 (str h)
    have hrow := Row.of_string w 0 5 (str h) (Nat.zero_le _) (by simp only [maxLen, str_size]; omega)
    have hrd : ReadsB (Lib.bytesWorld w 5 (str h)) (some ⟨w.heap.size, 0, none⟩) h := Row.reads hrow rfl
    clear hrow
    go_enter Try.func10, Try.ntmps10
    go_wp2_with fail
    have hbs := hbox.size
    generalize Lib.bytesWorld w 5 (str h) = W1 at *
    rw [HSS.out]
    generalize grownCap w h.length 0 5 = cc at *
    have EC := copyE_range (h.length : Int) n d 100
    have hdec1 := str_eq (copyB h n d 100) (copyB h n d 100)
    refine (p_Copy (some ⟨w.heap.size, 0, none⟩) cc h n d 100 _ hrd (by omega)).mono ?_
    rintro e w2 ⟨v2, rfl, hr2, hb2, hs2⟩
    go_wp2_with fail
    refine (r_Copy (str h) n d 100 _ (by rw [str_size]; omega)).mono ?_
    rintro e w3 ⟨rfl, hb3⟩
    rw [str_size, str_data]
    have hs3 := hb3.size
    go_wp2_with fail
    (try rw [HSS.out])
    have hrd3 := (hrd.below hb2).below hb3
    have hr3 := hr2.below hb3
    refine (p_Copy (some ⟨w.heap.size, 0, none⟩) cc h n d n _ hrd3 (by omega)).mono ?_
    rintro e w4 ⟨v4, rfl, hr4, hb4, hs4⟩
    go_wp2_with fail
    refine (r_Copy (str h) n d n _ (by rw [str_size]; omega)).mono ?_
    rintro e w5 ⟨rfl, hb5⟩
    rw [str_size, str_data]
    have hrd5 := (hrd3.below hb4).below hb5
    have hr5 := (hr3.below hb4).below hb5
    have b1 := hbox.trans (hb2.mono hbs)
    have b2 := bl_then b1 (by omega) hb3
    have b3 := bl_then b2 (by omega) hb4
    have HB := Lib.hid (bl_then b3 (by omega) hb5)
    generalize hE1 : copyE (h.length : Int) n d 100 = E1 at *
    generalize copyE (h.length : Int) n d n = E2 at *
    generalize copyB h n d 100 = X at *
    obtain ⟨A, c, rfl, hc, hrdx⟩ := hr5.slice
    have hst1 := run_str w5 _ A X.length c X hrdx
    have hst2 := run_str w5 _ (some ⟨w.heap.size, 0, none⟩) h.length cc h hrd5
    have hst2' : (convert 68 9 (.slice (some ⟨w.heap.size, 0, none⟩) (str h).size cc)).run Try.prog w5 = .ok (.string (str h)) w5 := hst2
    clear hE1 EC hbox hrd hr2 hr3 hr4 hrd3 hrd5 hr5 hrdx hb2 hb3 hb4 hb5 b1 b2 b3 hconv hdec1
    go_wp2_with fail
    refine (awake18 _).mono ?_
    rintro e w6 ⟨rfl, hb6⟩
    go_wp2
    go_ret
    exact ⟨rfl, bl_then HB.out HB.out.size hb6⟩
  · have hl' : ¬ (str h).size ≤ 500 := by rw [HSS.out]; exact hl
    have hl'' : 500 < (str h).size := by omega
    clear hl hl'
    go_enter Try.func10, Try.ntmps10
    go_wp2_with fail
    refine (awake18 _).mono ?_
    rintro e w1 ⟨rfl, hb1⟩
    go_wp2
    go_ret
    exact ⟨rfl, hb1⟩

end Go.Proofs.Ytiohdgckmolmnaa
