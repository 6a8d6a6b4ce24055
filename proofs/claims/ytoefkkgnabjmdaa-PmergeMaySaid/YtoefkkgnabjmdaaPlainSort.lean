/- The library's stable sort of things that have a cost, as plain functions of lists: insertion, rotation, symmetric merge. -/
import Derived.Test.YtoefkkgnabjmdaaSort2
set_option linter.unusedSimpArgs false
set_option linter.unusedVariables false
set_option maxRecDepth 100000
namespace Go.Proofs.Ytoefkkgnabjmdaa

/-- One sinks down to where it belongs. -/
def sink (a : Nat) : Nat → List Pe → List Pe
  | 0, l => l
  | j + 1, l => if a < j + 1 ∧ (gt l (j + 1)).cost < (gt l j).cost then sink a j (swp l (j + 1) j) else l
theorem sink_length (a : Nat) : ∀ (j : Nat) (l : List Pe), (sink a j l).length = l.length
  | 0, l => rfl
  | j + 1, l => by
    unfold sink
    split
    · rw [sink_length a j, swp_length]
    · rfl
def insr (a : Nat) : Nat → Nat → List Pe → List Pe
  | 0, _, l => l
  | f + 1, i, l => insr a f (i + 1) (sink a i l)
theorem insr_length (a : Nat) : ∀ (f i : Nat) (l : List Pe), (insr a f i l).length = l.length
  | 0, _, _ => rfl
  | f + 1, i, l => by unfold insr; rw [insr_length a f, sink_length]
def insertion (l : List Pe) (a b : Nat) : List Pe := insr a (b - (a + 1)) (a + 1) l
theorem insertion_length (l : List Pe) (a b : Nat) : (insertion l a b).length = l.length := insr_length _ _ _ _
/-- As many are exchanged, from a on and from b on. -/
def swr (a b : Nat) : Nat → List Pe → List Pe
  | 0, l => l
  | n + 1, l => swp (swr a b n l) (a + n) (b + n)
theorem swr_length (a b : Nat) : ∀ (n : Nat) (l : List Pe), (swr a b n l).length = l.length
  | 0, _ => rfl
  | n + 1, l => by unfold swr; rw [swp_length, swr_length a b n]
def rot (m i j : Nat) (l : List Pe) : List Pe :=
  if h : i = j ∨ i = 0 ∨ j = 0 then swr (m - i) m i l
  else if j < i then rot m (i - j) j (swr (m - i) m j l) else rot m i (j - i) (swr (m - i) (m + j - i) i l)
termination_by i + j
theorem rot_length (m : Nat) : ∀ (n i j : Nat) (l : List Pe), i + j ≤ n → (rot m i j l).length = l.length
  | n, i, j, l, hn => by
    unfold rot
    split
    · exact swr_length _ _ _ _
    · rename_i h
      split
      · match n, hn with
        | n + 1, hn => rw [rot_length m n _ _ _ (by omega), swr_length]
        | 0, hn => omega
      · match n, hn with
        | n + 1, hn => rw [rot_length m n _ _ _ (by omega), swr_length]
        | 0, hn => omega
/-- The least place from i on where something is no cheaper. -/
def bs1 (l : List Pe) (c : Int) (i j : Nat) : Nat :=
  if h : i < j then (if (gt l ((i + j) / 2)).cost < c then bs1 l c ((i + j) / 2 + 1) j else bs1 l c i ((i + j) / 2)) else i
termination_by j - i
/-- The least place from i on where something is dearer. -/
def bs2 (l : List Pe) (c : Int) (i j : Nat) : Nat :=
  if h : i < j then (if ¬ c < (gt l ((i + j) / 2)).cost then bs2 l c ((i + j) / 2 + 1) j else bs2 l c i ((i + j) / 2)) else i
termination_by j - i
def bs3 (l : List Pe) (p : Nat) (i j : Nat) : Nat :=
  if h : i < j then (if ¬ (gt l (p - (i + j) / 2)).cost < (gt l ((i + j) / 2)).cost then bs3 l p ((i + j) / 2 + 1) j else bs3 l p i ((i + j) / 2)) else i
termination_by j - i
theorem bs1_bd (l : List Pe) (c : Int) : ∀ (n i j : Nat), j - i ≤ n → i ≤ j → i ≤ bs1 l c i j ∧ bs1 l c i j ≤ j
  | n, i, j, hn, hij => by
    unfold bs1
    split
    · rename_i h
      match n, hn with
      | 0, hn => omega
      | n + 1, hn =>
        split
        · have := bs1_bd l c n ((i + j) / 2 + 1) j (by omega) (by omega); omega
        · have := bs1_bd l c n i ((i + j) / 2) (by omega) (by omega); omega
    · omega
theorem bs2_bd (l : List Pe) (c : Int) : ∀ (n i j : Nat), j - i ≤ n → i ≤ j → i ≤ bs2 l c i j ∧ bs2 l c i j ≤ j
  | n, i, j, hn, hij => by
    unfold bs2
    split
    · rename_i h
      match n, hn with
      | 0, hn => omega
      | n + 1, hn =>
        split
        · have := bs2_bd l c n ((i + j) / 2 + 1) j (by omega) (by omega); omega
        · have := bs2_bd l c n i ((i + j) / 2) (by omega) (by omega); omega
    · omega
theorem bs3_bd (l : List Pe) (p : Nat) : ∀ (n i j : Nat), j - i ≤ n → i ≤ j → i ≤ bs3 l p i j ∧ bs3 l p i j ≤ j
  | n, i, j, hn, hij => by
    unfold bs3
    split
    · rename_i h
      match n, hn with
      | 0, hn => omega
      | n + 1, hn =>
        split
        · have := bs3_bd l p n ((i + j) / 2 + 1) j (by omega) (by omega); omega
        · have := bs3_bd l p n i ((i + j) / 2) (by omega) (by omega); omega
    · omega
/-- One moves up by so many; one moves down. -/
def mvUp (a : Nat) : Nat → List Pe → List Pe
  | 0, l => l
  | n + 1, l => swp (mvUp a n l) (a + n) (a + n + 1)
theorem mvUp_length (a : Nat) : ∀ (n : Nat) (l : List Pe), (mvUp a n l).length = l.length
  | 0, _ => rfl
  | n + 1, l => by unfold mvUp; rw [swp_length, mvUp_length a n]
def mvDn (m : Nat) : Nat → List Pe → List Pe
  | 0, l => l
  | n + 1, l => swp (mvDn m n l) (m - n) (m - n - 1)
theorem mvDn_length (m : Nat) : ∀ (n : Nat) (l : List Pe), (mvDn m n l).length = l.length
  | 0, _ => rfl
  | n + 1, l => by unfold mvDn; rw [swp_length, mvDn_length m n]
/-- Where the search begins and ends, and what it gives. -/
def symFrom (a m b : Nat) : Nat := if (a + b) / 2 < m then (a + b) / 2 + m - b else a
def symTo (a m b : Nat) : Nat := if (a + b) / 2 < m then (a + b) / 2 else m
def symStart (l : List Pe) (a m b : Nat) : Nat := bs3 l ((a + b) / 2 + m - 1) (symFrom a m b) (symTo a m b)
def symEnd (l : List Pe) (a m b : Nat) : Nat := (a + b) / 2 + m - symStart l a m b
def symRot (l : List Pe) (a m b : Nat) : List Pe :=
  if symStart l a m b < m ∧ m < symEnd l a m b then rot m (m - symStart l a m b) (symEnd l a m b - m) l else l
theorem symRot_length (l : List Pe) (a m b : Nat) : (symRot l a m b).length = l.length := by
  unfold symRot
  split
  · exact rot_length _ _ _ _ _ (Nat.le_refl _)
  · rfl
def symM : Nat → List Pe → Nat → Nat → Nat → List Pe
  | 0, l, _, _, _ => l
  | f + 1, l, a, m, b =>
    if m - a = 1 then mvUp a (bs1 l (gt l a).cost m b - 1 - a) l
    else if b - m = 1 then mvDn m (m - bs2 l (gt l m).cost a m) l
    else
      let s := symStart l a m b
      let e := symEnd l a m b
      let mid := (a + b) / 2
      let l1 := symRot l a m b
      let l2 := if a < s ∧ s < mid then symM f l1 a s mid else l1
      if mid < e ∧ e < b then symM f l2 mid e b else l2
theorem symM_length : ∀ (f : Nat) (l : List Pe) (a m b : Nat), (symM f l a m b).length = l.length
  | 0, _, _, _, _ => rfl
  | f + 1, l, a, m, b => by
    unfold symM
    split
    · exact mvUp_length _ _ _
    · split
      · exact mvDn_length _ _ _
      · simp only
        have h1 := symRot_length l a m b
        have h2 : (if a < symStart l a m b ∧ symStart l a m b < (a + b) / 2 then symM f (symRot l a m b) a (symStart l a m b) ((a + b) / 2) else symRot l a m b).length = l.length := by
          split
          · rw [symM_length f, h1]
          · exact h1
        split
        · rw [symM_length f, h2]
        · exact h2
def symMerge (l : List Pe) (a m b : Nat) : List Pe := symM (b - a) l a m b
theorem symMerge_length (l : List Pe) (a m b : Nat) : (symMerge l a m b).length = l.length := symM_length _ _ _ _ _

/-- Rows of so many are put in order, from a on. -/
def rows20 (n : Nat) : Nat → Nat → List Pe → List Pe
  | 0, _, l => l
  | f + 1, a, l => if a + 20 ≤ n then rows20 n f (a + 20) (insertion l a (a + 20)) else insertion l a n
/-- Neighbours of so many are merged, from a on. -/
def mergeRow (n k : Nat) : Nat → Nat → List Pe → List Pe
  | 0, _, l => l
  | f + 1, a, l => if a + 2 * k ≤ n then mergeRow n k f (a + 2 * k) (symMerge l a (a + k) (a + 2 * k)) else if a + k < n then symMerge l a (a + k) n else l
def mergeAll (n : Nat) : Nat → Nat → List Pe → List Pe
  | 0, _, l => l
  | f + 1, k, l => if k < n then mergeAll n f (2 * k) (mergeRow n k (n + 1) 0 l) else l
/-- The library's stable sort. -/
def stableL (l : List Pe) : List Pe := mergeAll l.length (l.length + 1) 20 (rows20 l.length (l.length + 1) 0 l)

end Go.Proofs.Ytoefkkgnabjmdaa
