/- Chapter 07 (pmerge): Lengths where it refuses, and where one symbol occurs alone: by walks. -/
import Derived.Test.YtoefkkgnabjmdaaSort1
import Derived.Test.YtoefkkgnabjmdaaCount
set_option linter.unusedSimpArgs false
set_option linter.unusedVariables false
set_option maxRecDepth 100000
namespace Go.Proofs.Ytoefkkgnabjmdaa
open Go.RowKit

theorem PRow.zero {w : World} {base c : Nat} {A : Option Addr} {p : Pe} {l : List Pe} (h : PRow w base (.slice A (l.length + 1) c) (p :: l)) : ∃ g o, A = some ⟨g, o, none⟩ ∧ base ≤ g ∧ g < w.heap.size ∧
    w.cell? ⟨g, o, none⟩ = some (.int .i64 p.cost) ∧ w.cell? ⟨g, o + 1, none⟩ = some p.v := by
  obtain ⟨_, h1⟩ := h.row
  rcases h1 with ⟨_, h2⟩ | ⟨g, o, cap, cur, m, hv, hb, k1, k2, k3, k4, k5, _⟩
  · simp at h2
  · simp only [Value.slice.injEq] at hv
    obtain ⟨rfl, _, _⟩ := hv
    refine ⟨g, o, rfl, hb, heap_lt k1, ?_, ?_⟩
    · rw [heap_cell' k1, ← Array.getElem?_toList]
      have : ((cur.toList.drop o).take ((p :: l).length * 2))[0]? = some (.int .i64 p.cost) := by rw [k5]; rfl
      rw [List.getElem?_take, if_pos (by simp), List.getElem?_drop] at this
      exact this
    · rw [heap_cell' k1, ← Array.getElem?_toList]
      have : ((cur.toList.drop o).take ((p :: l).length * 2))[1]? = some p.v := by rw [k5]; rfl
      rw [List.getElem?_take, if_pos (by simp; omega), List.getElem?_drop] at this
      exact this
theorem RowI.zero {w : World} {base : Nat} {v : Value} {x : Int} {l : List Int} (h : RowI w base v (x :: l)) : ∃ g o c, v = .slice (some ⟨g, o, none⟩) (l.length + 1) c ∧ base ≤ g ∧ g < w.heap.size ∧
    w.cell? ⟨g, o, none⟩ = some (.int .i64 x) := by
  obtain ⟨_, h1⟩ := h
  rcases h1 with ⟨_, h2⟩ | ⟨g, o, cap, cur, m, hv, hb, k1, k2, k3, k4, k5, _⟩
  · simp at h2
  · refine ⟨g, o, cap, hv, hb, heap_lt k1, ?_⟩
    rw [heap_cell' k1, ← Array.getElem?_toList]
    have : ((cur.toList.drop o).take ((x :: l).length * 1))[0]? = some (.int .i64 x) := by rw [k5]; rfl
    rw [List.getElem?_take, if_pos (by simp), List.getElem?_drop] at this
    exact this
theorem coinKeys_mem : ∀ (s : Nat) (l : List Int) (x : Int × List Int), x ∈ coinKeys s l → ∃ i : Nat, i < l.length ∧ x = (l.getD i 0, [((s + i : Nat) : Int)])
  | s, [], x, h => by cases h
  | s, f :: l, x, h => by
    unfold coinKeys at h
    have ih := coinKeys_mem (s + 1) l x
    split at h
    · rcases List.mem_cons.1 h with rfl | h
      · exact ⟨0, by simp, rfl⟩
      · obtain ⟨i, h1, rfl⟩ := ih h
        exact ⟨i + 1, by simpa using h1, by rw [show s + 1 + i = s + (i + 1) by omega]; rfl⟩
    · obtain ⟨i, h1, rfl⟩ := ih h
      exact ⟨i + 1, by simpa using h1, by rw [show s + 1 + i = s + (i + 1) by omega]; rfl⟩

theorem p_Lengths_err (A : Option Addr) (c : Nat) (f : List Int) (limit : Int) (w : World) (h : ReadsI w A f) (hl : f.length ≤ 1000000000) (hc : chkPm f limit ≠ 0) :
    Calls Try.prog 13 #[.slice A f.length c, .int .i64 limit] w fun e w' => e = .returned (.tuple #[.slice none 0 0, .int .i64 (chkPm f limit)]) ∧ w = w' := by
  go_enter Try.func13, Try.ntmps13
  go_wp2_with fail
  refine (p_PmCheck A c f limit w h hl).mono ?_
  rintro e w' ⟨rfl, rfl⟩
  have hne : (chkPm f limit != 0) = true := by rw [bne_iff_ne]; exact hc
  have HE := Lib.hid (show chkPm f limit = chkPm f limit from rfl)
  clear hc
  revert HE
  generalize hE : chkPm f limit = E at *
  intro HE
  have HE2 := Lib.hid hE
  clear hE
  go_wp2
  go_ret2
  exact ⟨by rw [HE2.out]; rfl, rfl⟩

def oneLens (f : List Int) (x : Int × List Int) : List Int := (zeros f.length).set (x.2.getD 0 0).toNat 1
def OneDone (w : World) (f : List Int) (x : Int × List Int) (e : Ending) (w' : World) : Prop :=
  ∃ b, e = .returned (.tuple #[.slice (some ⟨b, 0, none⟩) f.length f.length, .int .i64 0]) ∧ Blk w' b 3 (ivals (oneLens f x)).toArray ∧ w.heap.size ≤ b ∧ Below w.heap.size w w'

set_option maxHeartbeats 1000000 in
theorem p_Lengths_one (A : Option Addr) (c : Nat) (f : List Int) (limit : Int) (w : World) (h : ReadsI w A f) (hl : f.length ≤ 1024) (hc : chkPm f limit = 0) (x : Int × List Int) (hx : coinKeys 0 f = [x]) :
    Calls Try.prog 13 #[.slice A f.length c, .int .i64 limit] w (OneDone w f x) := by
  have hu : usedN f = 1 := by rw [← coinKeys_length 0 f, hx]; rfl
  obtain ⟨i, hi, hxe⟩ := coinKeys_mem 0 f x (by rw [hx]; exact List.mem_singleton.2 rfl)
  have hmk := fun w => run_zeros w f.length (by omega)
  have HU := Lib.hid hu
  have hB1 := bl_alloc (Below.refl w.heap.size w) (.cells (ivals (zeros f.length)).toArray 3)
  have hk1 := Blk.new w 3 (ivals (zeros f.length)).toArray
  have h1 := h.below hB1
  clear hu
  go_enter Try.func13, Try.ntmps13
  go_wp2_with fail
  refine (p_PmCheck A c f limit w h (by omega)).mono ?_
  rintro e w' ⟨rfl, rfl⟩
  rw [hc]
  clear hc h
  go_wp2_with fail
  clear hmk
  refine (p_coins id 1 sorts1 (fun _ => rfl) A c f _ h1 hl (by rw [HU.out]; exact Nat.le_refl _)).mono ?_
  rintro e w1 ⟨B, c', l, hkey, _, rfl, hrow, hb1⟩
  rw [hx] at hkey
  obtain ⟨p, l', rfl⟩ : ∃ p l', l = p :: l' := by
    cases l with
    | nil => cases hkey
    | cons p l' => exact ⟨p, l', rfl⟩
  simp only [List.map_cons, List.cons.injEq, List.map_eq_nil_iff] at hkey
  obtain ⟨hp, rfl⟩ := hkey
  have hk2 := hk1.below hb1 hk1.lt
  have HB2 := Lib.hid (bl_then hB1 hB1.size hb1)
  obtain ⟨g, o, rfl, hg1, hg2, hc1, hc2⟩ := PRow.zero hrow
  have hps := hrow.syms p (List.mem_cons_self ..)
  have e2 : p.syms = [(i : Int)] := by
    have : p.syms = x.2 := by rw [← hp]; rfl
    rw [this, hxe, Nat.zero_add]
  rw [e2] at hps
  obtain ⟨g', o', c2, hv, hg3, hg4, hc3⟩ := RowI.zero hps
  rw [hv] at hc2
  have HX : Hid (oneLens f x = (zeros f.length).set i 1) := Lib.hid (by unfold oneLens; rw [hxe]; simp)
  have hc4 := Blk.cell hk2 i
  rw [ivals_cell _ _ (by rw [zeros_length]; exact hi)] at hc4
  have hf4 := Blk.frozen hk2 i
  clear hxe hp hx hrow hps e2 hv hk1 hB1 h1 hb1
  go_wp2
  go_ret2
  exact ⟨w.heap.size, rfl, by rw [HX.out]; exact hk2.setInt i 1, Nat.le_refl _, HB2.out.setCell (p := ⟨w.heap.size, i, none⟩) (Nat.le_refl _) _⟩

end Go.Proofs.Ytoefkkgnabjmdaa
