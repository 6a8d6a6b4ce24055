/- Package near: New: by a walk. -/
import Derived.Test.YtbalodhgbpagfaaNearRows
import Derived.Test.YtbalodhgbpagfaaNearSeen
set_option linter.unusedSimpArgs false
set_option linter.unusedVariables false
set_option maxRecDepth 100000
namespace Go.Proofs.Ytbalodhgbpagfaa
open Go.RowKit

structure FndI (w : World) (fb g1 g2 g3 : Nat) (s : List UInt8) (a : List Nat) : Prop where
  sa : IsSA (codesB s) a
  blk : Blk w fb 37 #[.string (str s), .slice (some ⟨g1, 0, none⟩) a.length a.length, .slice (some ⟨g2, 0, none⟩) a.length a.length, .slice (some ⟨g3, 0, none⟩) a.length a.length]
  ord : BlkI w g1 (nz a)
  rks : BlkI w g2 (nz (tab a.length (rankOf a)))
  shd : BlkI w g3 (nz (tab a.length (nbT (codesB s) a)))
theorem FndI.below {w w' : World} {fb g1 g2 g3 : Nat} {s : List UInt8} {a : List Nat} (h : FndI w fb g1 g2 g3 s a) (hb : Below w.heap.size w w') : FndI w' fb g1 g2 g3 s a :=
  ⟨h.sa, Blk.below h.blk hb h.blk.lt, h.ord.below' hb h.ord.lt', h.rks.below' hb h.rks.lt', h.shd.below' hb h.shd.lt'⟩
def NewDone (w : World) (s : List UInt8) (e : Ending) (w' : World) : Prop := ∃ fb g1 g2 g3 a, e = .returned (.pointer (some ⟨fb, 0, none⟩)) ∧ FndI w' fb g1 g2 g3 s a ∧ Below w.heap.size w w'
set_option maxHeartbeats 4000000 in
theorem p_New (s : List UInt8) (hS : SortOk s) (hl : s.length ≤ 1000000) (w : World) :
    Calls Try.prog 7 #[.string (str s)] w (NewDone w s) := by
  have hs := hS w
  have HSZ := str_size s
  have hgt : ¬ (134217728 : Int) < ((str s).size : Int) := by omega
  have HL := Lib.hid hl
  have HSS := Lib.hid hS
  clear hS hl HSZ
  go_enter Try.func7, Try.ntmps7
  go_wp2_with fail
  refine hs.mono ?_
  rintro e w1 ⟨a, ha, g, h1, rfl, h2, h3⟩
  have hal : a.length ≤ 1000000 := by rw [ha.len, codesB_len]; exact HL.out
  have hrk := p_Ranks_sa (some ⟨g, 0, none⟩) a.length (codesB s) a ha hal w1 h2.readsN
  have HA := Lib.hid (And.intro ha (And.intro h2 h3))
  clear hs ha h2 h3
  go_wp2_with fail
  refine hrk.mono ?_
  rintro e w2 ⟨g2, q1, rfl, q2, q3⟩
  have hA2 : BlkI w2 g (nz a) := HA.out.2.1.below' q3 HA.out.2.1.lt'
  have hrow := p_LRow s HSS.out HL.out a HA.out.1 (some ⟨g, 0, none⟩) a.length w2 hA2.readsN
  have hB2 : Below w.heap.size w w2 := bl_then HA.out.2.2 HA.out.2.2.size q3
  have HZ := Lib.hid (And.intro hA2 (And.intro q2 hB2))
  clear hrk hA2 hB2 q2 q3
  go_wp2_with fail
  refine hrow.mono ?_
  rintro e w3 ⟨g3, r1, rfl, r2, r3⟩
  have HB := Lib.hid (And.intro r2 r3)
  clear r2 r3 hrow
  go_wp2
  go_ret
  have hB3 : Below w.heap.size w w3 := bl_then HZ.out.2.2 HZ.out.2.2.size HB.out.2
  refine ⟨w3.heap.size, g, g2, g3, a, rfl, ⟨HA.out.1, ?_, (HZ.out.1.below' HB.out.2 HZ.out.1.lt').alloc' _, (HZ.out.2.1.below' HB.out.2 HZ.out.2.1.lt').alloc' _, HB.out.1.alloc' _⟩, hB3.alloc hB3.size _⟩
  have := Blk.new w3 37 #[.string (str s), .slice (some ⟨g, 0, none⟩) a.length a.length, .slice (some ⟨g2, 0, none⟩) a.length a.length, .slice (some ⟨g3, 0, none⟩) a.length a.length]
  rw [tab_length, tab_length]
  exact this
end Go.Proofs.Ytbalodhgbpagfaa
