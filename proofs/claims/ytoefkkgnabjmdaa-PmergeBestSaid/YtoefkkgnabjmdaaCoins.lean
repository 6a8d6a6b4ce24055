/- Chapter 07 (pmerge): coins, but for the sort: by walks. -/
import Derived.Test.YtoefkkgnabjmdaaPacks
import Derived.Test.YtoefkkgnabjmdaaPm
set_option linter.unusedSimpArgs false
set_option linter.unusedVariables false
set_option maxRecDepth 100000
namespace Go.Proofs.Ytoefkkgnabjmdaa
open Go.RowKit

def Pe.key (p : Pe) : Int × List Int := (p.cost, p.syms)
/-- The symbols that occur, one by one, from a symbol on. -/
def coinKeys : Nat → List Int → List (Int × List Int)
  | _, [] => []
  | s, f :: l => if 0 < f then (f, [(s : Int)]) :: coinKeys (s + 1) l else coinKeys (s + 1) l
theorem coinKeys_append : ∀ (s : Nat) (a b : List Int), coinKeys s (a ++ b) = coinKeys s a ++ coinKeys (s + a.length) b
  | s, [], b => rfl
  | s, f :: a, b => by
    simp only [List.cons_append, coinKeys, List.length_cons]
    rw [coinKeys_append (s + 1) a b, show s + 1 + a.length = s + (a.length + 1) by omega]
    split <;> simp
theorem coinKeys_length : ∀ (s : Nat) (l : List Int), (coinKeys s l).length = usedN l
  | s, [] => rfl
  | s, f :: l => by
    unfold coinKeys
    have ih := coinKeys_length (s + 1) l
    unfold usedN at *
    rw [List.countP_cons]
    split <;> simp_all
theorem keys_length {l : List Pe} {f : List Int} {s : Nat} (h : l.map Pe.key = coinKeys s f) : l.length = usedN f := by
  rw [← coinKeys_length s f, ← h, List.length_map]

/-- What the library's sort does to a row of packs: `f` of it, and nothing else is changed. -/
def Sorts (f : List Pe → List Pe) (n : Nat) : Prop := ∀ (w : World) (base : Nat) (A : Option Addr) (c : Nat) (l : List Pe), l.length ≤ n → PRow w base (.slice A l.length c) l → base ≤ w.heap.size →
  Calls Try.prog 71 #[.slice A l.length c, .func (.func 72) #[] #[]] w fun e w' =>
    e = .returned (.tuple #[]) ∧ PRow w' base (.slice A l.length c) (f l) ∧ w.grownBy w' (Value.slice A l.length c).ownBlock

def CoinsDone (w : World) (f : List Int) (sort : List Pe → List Pe) (e : Ending) (w' : World) : Prop :=
  ∃ A c l, l.map Pe.key = coinKeys 0 f ∧ (sort l).length = l.length ∧ e = .returned (.slice A l.length c) ∧ PRow w' w.heap.size (.slice A l.length c) (sort l) ∧ Below w.heap.size w w'

set_option maxHeartbeats 2000000 in
theorem p_coins (sort : List Pe → List Pe) (n : Nat) (hsort : Sorts sort n) (hlen : ∀ l, (sort l).length = l.length) (A : Option Addr) (c : Nat) (f : List Int) (w : World) (h : ReadsI w A f) (hl : f.length ≤ 1024) (hu : usedN f ≤ n) :
    Calls Try.prog 40 #[.slice A f.length c] w (CoinsDone w f sort) := by
  have HU := Lib.hid hu
  clear hu
  go_enter Try.func40, Try.ntmps40
  go_wp2_with fail
  go_loopw [3, 8] (fun v3 v8 wr => ∃ (k : Nat) (l : List Pe), k ≤ f.length ∧ v8 = .int .i64 k ∧ l.map Pe.key = coinKeys 0 (f.take k) ∧ PRow wr w.heap.size v3 l ∧ Below w.heap.size w wr) (fun _ v8 _ => f.length - (intOf v8).toNat)
  case atStart => exact ⟨0, [], Nat.zero_le _, rfl, rfl, PRow.nil _ _, Below.refl _ _⟩
  case round =>
    obtain ⟨k, l, hk, rfl, hkey, hrow, hbr⟩ := hrel
    by_cases hkl : k < f.length
    · obtain ⟨ad, rfl, had, hc'⟩ := h.at_ k hkl
      have hadB : (ad.add k).block < w.heap.size := by rw [block_of_add]; exact had
      have hc := (hbr.cell (p := ad.add k) hadB).trans hc'
      have HT := Lib.hid (show coinKeys 0 (f.take (k + 1)) = coinKeys 0 (f.take k) ++ coinKeys k [f[k]] by
        rw [List.take_succ_eq_append_getElem hkl, coinKeys_append, List.length_take, Nat.min_eq_left (by omega), Nat.zero_add])
      have HL := Lib.hid (show l.length ≤ 1024 by rw [keys_length hkey]; exact Nat.le_trans (usedN_le _) (by rw [List.length_take]; omega))
      have HK := Lib.hid hkey
      have hsz := hbr.size
      clear hkey hc'
      generalize f[k] = z at *
      by_cases hz : 0 < z
      · have HZ := Lib.hid (show coinKeys k [z] = [(z, [(k : Int)])] by simp only [coinKeys]; rw [if_pos hz])
        have k0 := Blk.new wr 3 (ivals [(k : Int)]).toArray
        have k1 := k0.alloc (.cells (pcells ⟨z, [(k : Int)], .slice (some ⟨wr.heap.size, 0, none⟩) 1 1⟩).toArray 71)
        have k2 := Blk.new (wr.alloc (.cells (ivals [(k : Int)]).toArray 3)) 71 (pcells ⟨z, [(k : Int)], .slice (some ⟨wr.heap.size, 0, none⟩) 1 1⟩).toArray
        have hr2 := (hrow.alloc (.cells (ivals [(k : Int)]).toArray 3)).alloc (.cells (pcells ⟨z, [(k : Int)], .slice (some ⟨wr.heap.size, 0, none⟩) 1 1⟩).toArray 71)
        have HB2 := Lib.hid (bl_alloc (bl_alloc hbr (.cells (ivals [(k : Int)]).toArray 3)) (.cells (pcells ⟨z, [(k : Int)], .slice (some ⟨wr.heap.size, 0, none⟩) 1 1⟩).toArray 71))
        have hsy := rowI_of_blk k1 hsz (show ([(k : Int)] : List Int).length ≤ maxLen by simp [maxLen])
        rw [World.size_alloc] at k2
        have hlt := hrow.lt
        clear hrow k0 k1
        go_wp2_with (at_builtin; go_must (refine wpList_append_pack rfl (.tmp 15) (.tmp 20) rfl w.heap.size _ l rfl hr2 (wr.heap.size + 1) ⟨z, [(k : Int)], .slice (some ⟨wr.heap.size, 0, none⟩) 1 1⟩ rfl k2 rfl hsy (by have := HL.out; omega) (by simp; omega) ?_); intro v3 w3 hr3 hg3 ho3)
        go_roundw
        case rel =>
          refine ⟨k + 1, _, by omega, by go_num, ?_, hr3, ?_⟩
          · rw [List.map_append, HK.out, HT.out, HZ.out]; rfl
          · exact HB2.out.grown hg3 (by simp; omega) (fun j hj => (hlt j hj).1)
        case measure => simp [intOf]; omega
      · have HZ := Lib.hid (show coinKeys k [z] = [] by simp only [coinKeys]; rw [if_neg hz])
        go_wp2
        go_roundw
        case rel => exact ⟨k + 1, l, by omega, by go_num, by rw [HT.out, HZ.out, HK.out, List.append_nil], hrow, hbr⟩
        case measure => simp [intOf]; omega
    · obtain rfl : k = f.length := by omega
      rw [List.take_length] at hkey
      have HK := Lib.hid hkey
      have hll := keys_length hkey
      obtain ⟨B, c', hv, hcc⟩ := Row.slice hrow.row
      subst hv
      have hs := hsort wr w.heap.size B c' l (by have := HU.out; omega) hrow hbr.size
      have hent : Enters 72 := fun _ _ => by kernel_rfl
      have HLL := Lib.hid hll
      clear hkey hll hrow
      go_wp2_with fail
      refine hs.mono ?_
      rintro e w2 ⟨rfl, hr2, hg2⟩
      have hlt := hr2.lt
      go_wp2
      go_ret
      exact ⟨B, c', l, HK.out, hlen l, rfl, hr2, hbr.grown hg2 hbr.size (fun j hj => (hlt j hj).1)⟩

end Go.Proofs.Ytoefkkgnabjmdaa
