/- Plain mathematics of chapters 15 to 17 (slots, tokens, repeated distances): no program in sight. -/
namespace Go.Proofs.Ytndkgjoaljcijaa

/-- Extra bits of a length's slot. -/
def lenBits (s : Nat) : Nat := if s < 8 ∨ s = 28 then 0 else (s - 8) / 4 + 1
/-- Extra bits of a distance's slot. -/
def distBits (s : Nat) : Nat := if s < 4 then 0 else (s - 4) / 2 + 1
/-- The first number of a slot, the first slot's being b. -/
def slotBase (bits : Nat → Nat) (b : Nat) : Nat → Nat
  | 0 => b
  | s + 1 => slotBase bits b s + 2 ^ bits s
/-- The slot of a number: the first one whose end lies behind it; fuel. -/
def slotFind (bits : Nat → Nat) (b n : Nat) : Nat → Nat → Nat
  | 0, s => s
  | k + 1, s => if n < slotBase bits b (s + 1) then s else slotFind bits b n k (s + 1)

theorem slotBase_pos {bits : Nat → Nat} {b : Nat} (s : Nat) : slotBase bits b s < slotBase bits b (s + 1) := by
  have : 0 < 2 ^ bits s := Nat.pos_of_ne_zero (by simp)
  simp only [slotBase]; omega
theorem slotBase_mono {bits : Nat → Nat} {b : Nat} {s t : Nat} (h : s ≤ t) : slotBase bits b s ≤ slotBase bits b t := by
  induction h with
  | refl => exact Nat.le_refl _
  | step _ ih => exact Nat.le_trans ih (Nat.le_of_lt (slotBase_pos _))
theorem slotFind_spec {bits : Nat → Nat} {b n : Nat} : ∀ (k s : Nat), slotBase bits b s ≤ n → n < slotBase bits b (s + k) →
    slotBase bits b (slotFind bits b n k s) ≤ n ∧ n < slotBase bits b (slotFind bits b n k s + 1) ∧ s ≤ slotFind bits b n k s ∧ slotFind bits b n k s < s + k := by
  intro k
  induction k with
  | zero => intro s h1 h2; simp at h2; omega
  | succ k ih =>
    intro s h1 h2
    unfold slotFind
    split
    · rename_i h; exact ⟨h1, h, Nat.le_refl _, by omega⟩
    · rename_i h
      have h2' : n < slotBase bits b (s + 1 + k) := by
        have e : s + 1 + k = s + (k + 1) := by omega
        rw [e]; exact h2
      obtain ⟨a, c, d, e⟩ := ih (s + 1) (by omega) h2'
      exact ⟨a, c, by omega, by omega⟩
/-- A number's slot is known by its two bounds. -/
theorem slot_unique {bits : Nat → Nat} {b n s t : Nat} (h1 : slotBase bits b s ≤ n) (h2 : n < slotBase bits b (s + 1)) (h3 : slotBase bits b t ≤ n) (h4 : n < slotBase bits b (t + 1)) : s = t := by
  rcases Nat.lt_trichotomy s t with h | h | h
  · have := slotBase_mono (bits := bits) (b := b) (show s + 1 ≤ t from h); omega
  · exact h
  · have := slotBase_mono (bits := bits) (b := b) (show t + 1 ≤ s from h); omega

abbrev lenBase : Nat → Nat := slotBase lenBits 2
abbrev distBase : Nat → Nat := slotBase distBits 1
def lenOk (n : Int) : Prop := 2 ≤ n ∧ n ≤ 258
instance (n : Int) : Decidable (lenOk n) := inferInstanceAs (Decidable (_ ∧ _))
def distOk (n : Int) : Prop := 1 ≤ n ∧ n ≤ 67108864
instance (n : Int) : Decidable (distOk n) := inferInstanceAs (Decidable (_ ∧ _))
/-- The slot of a length. -/
def lenSlot (n : Int) : Nat := slotFind lenBits 2 n.toNat 29 0
def distSlot (n : Int) : Nat := slotFind distBits 1 n.toNat 52 0

theorem lenBase_29 : lenBase 29 = 259 := by decide
theorem lenBase_28 : lenBase 28 = 258 := by decide
theorem distBase_52 : distBase 52 = 67108865 := by decide +kernel
theorem lenBits_le (s : Nat) (h : s ≤ 28) : lenBits s ≤ 5 := by unfold lenBits; split <;> omega
theorem distBits_le (s : Nat) (h : s ≤ 51) : distBits s ≤ 24 := by unfold distBits; split <;> omega

theorem lenSlot_spec (n : Int) (h : lenOk n) : (lenBase (lenSlot n) : Int) ≤ n ∧ n < (lenBase (lenSlot n + 1) : Int) ∧ lenSlot n ≤ 28 := by
  obtain ⟨h1, h2⟩ := h
  have := slotFind_spec (bits := lenBits) (b := 2) (n := n.toNat) 29 0 (by simp [slotBase]; omega) (by rw [Nat.zero_add]; have := lenBase_29; unfold lenBase at this; omega)
  unfold lenSlot lenBase
  omega
theorem distSlot_spec (n : Int) (h : distOk n) : (distBase (distSlot n) : Int) ≤ n ∧ n < (distBase (distSlot n + 1) : Int) ∧ distSlot n ≤ 51 := by
  obtain ⟨h1, h2⟩ := h
  have := slotFind_spec (bits := distBits) (b := 1) (n := n.toNat) 52 0 (by simp [slotBase]; omega) (by rw [Nat.zero_add]; have := distBase_52; unfold distBase at this; omega)
  unfold distSlot distBase
  omega
theorem lenSlot_of {n : Int} {s : Nat} (h1 : (lenBase s : Int) ≤ n) (h2 : n < (lenBase (s + 1) : Int)) (hn : lenOk n) : lenSlot n = s := by
  have := lenSlot_spec n hn
  exact slot_unique (bits := lenBits) (b := 2) (n := n.toNat) (by unfold lenBase at this; omega) (by unfold lenBase at this; omega) (by unfold lenBase at h1; omega) (by unfold lenBase at h2; omega)
theorem distSlot_of {n : Int} {s : Nat} (h1 : (distBase s : Int) ≤ n) (h2 : n < (distBase (s + 1) : Int)) (hn : distOk n) : distSlot n = s := by
  have := distSlot_spec n hn
  exact slot_unique (bits := distBits) (b := 1) (n := n.toNat) (by unfold distBase at this; omega) (by unfold distBase at this; omega) (by unfold distBase at h1; omega) (by unfold distBase at h2; omega)
theorem lenBase_lo (s : Nat) : 2 ≤ lenBase s := slotBase_mono (bits := lenBits) (b := 2) (Nat.zero_le s)
theorem lenBase_hi (s : Nat) (h : s ≤ 29) : lenBase s ≤ 259 := by have := slotBase_mono (bits := lenBits) (b := 2) h; have := lenBase_29; unfold lenBase at *; omega
theorem distBase_lo (s : Nat) : 1 ≤ distBase s := slotBase_mono (bits := distBits) (b := 1) (Nat.zero_le s)
theorem distBase_hi (s : Nat) (h : s ≤ 52) : distBase s ≤ 67108865 := by have := slotBase_mono (bits := distBits) (b := 1) h; have := distBase_52; unfold distBase at *; omega

/-! What the calls on lengths and distances answer, errors and all. -/
def lenS (n : Int) : Int := if lenOk n then (lenSlot n : Int) else 0
def lenX (n : Int) : Int := if lenOk n then (lenBits (lenSlot n) : Int) else 0
def lenM (n : Int) : Int := if lenOk n then n - (lenBase (lenSlot n) : Int) else 0
def lenE (n : Int) : Int := if lenOk n then 0 else 2
def distS (n : Int) : Int := if distOk n then (distSlot n : Int) else 0
def distX (n : Int) : Int := if distOk n then (distBits (distSlot n) : Int) else 0
def distM (n : Int) : Int := if distOk n then n - (distBase (distSlot n) : Int) else 0
def distE (n : Int) : Int := if distOk n then 0 else 2

/-! Tokens. -/
structure Tok where
  kind : Int
  byte : Int
  len : Int
  dist : Int
  rep : Int
deriving DecidableEq

def tokOk (t : Tok) : Prop :=
  (t.kind = 0 ∧ 0 ≤ t.byte ∧ t.byte ≤ 255 ∧ t.len = 0 ∧ t.dist = 0 ∧ t.rep = 0) ∨
  (t.kind = 1 ∧ 1 ≤ t.dist ∧ t.dist ≤ 67108864 ∧ t.byte = 0 ∧ t.rep = 0 ∧ 2 ≤ t.len ∧ t.len ≤ 258) ∨
  (t.kind = 2 ∧ 0 ≤ t.rep ∧ t.rep ≤ 3 ∧ t.byte = 0 ∧ t.dist = 0 ∧ 2 ≤ t.len ∧ t.len ≤ 258)
instance (t : Tok) : Decidable (tokOk t) := inferInstanceAs (Decidable (_ ∨ _))
def tokCheck (t : Tok) : Int := if tokOk t then 0 else 10
def tokSize (t : Tok) : Int := if tokOk t then (if t.kind = 0 then 1 else t.len) else 0
def tokSym (t : Tok) : Int := if tokOk t then (if t.kind = 0 then t.byte else if t.kind = 1 then 256 + lenS t.len else 285 + 29 * t.rep + lenS t.len) else 0
def ofKind (s : Int) : Int := if s < 0 ∨ 400 < s then 0 else if s < 256 then 0 else if s < 285 then 1 else 2
def ofByte (s : Int) : Int := if s < 0 ∨ 400 < s then 0 else if s < 256 then s else 0
def ofRep (s : Int) : Int := if s < 0 ∨ 400 < s then 0 else if s < 285 then 0 else (s - 285) / 29
def ofSlot (s : Int) : Int := if s < 0 ∨ 400 < s then 0 else if s < 256 then 0 else if s < 285 then s - 256 else (s - 285) % 29
def ofErr (s : Int) : Int := if s < 0 ∨ 400 < s then 2 else 0

theorem lenS_bd (l : Int) : 0 ≤ lenS l ∧ lenS l ≤ 28 := by
  unfold lenS; split
  · rename_i hl; have := lenSlot_spec l hl; omega
  · omega
theorem distS_bd (l : Int) : 0 ≤ distS l ∧ distS l ≤ 51 := by
  unfold distS; split
  · rename_i hl; have := distSlot_spec l hl; omega
  · omega
/-- A token's symbol gives its parts back. -/
theorem tokBack (t : Tok) (h : tokOk t) : ofErr (tokSym t) = 0 ∧ ofKind (tokSym t) = t.kind ∧ ofByte (tokSym t) = t.byte ∧ ofRep (tokSym t) = t.rep ∧ ofSlot (tokSym t) = (if t.kind = 0 then 0 else lenS t.len) := by
  have hl := lenS_bd t.len
  have hs : tokSym t = (if t.kind = 0 then t.byte else if t.kind = 1 then 256 + lenS t.len else 285 + 29 * t.rep + lenS t.len) := if_pos h
  rw [hs]
  unfold ofErr ofKind ofByte ofRep ofSlot
  rcases h with ⟨h1, h2, h3, h4, h5, h6⟩ | ⟨h1, h2, h3, h4, h5, h6, h7⟩ | ⟨h1, h2, h3, h4, h5, h6, h7⟩
  · simp only [h1, if_true]
    refine ⟨?_, ?_, ?_, ?_, ?_⟩ <;> (repeat' split) <;> omega
  · simp only [h1, if_neg (show ¬ (1 : Int) = 0 by decide), if_true]
    refine ⟨?_, ?_, ?_, ?_, ?_⟩ <;> (repeat' split) <;> omega
  · simp only [h1, if_neg (show ¬ (2 : Int) = 0 by decide), if_neg (show ¬ (2 : Int) = 1 by decide)]
    refine ⟨?_, ?_, ?_, ?_, ?_⟩ <;> (repeat' split) <;> omega
theorem tokNone (t : Tok) (h : ¬ tokOk t) : tokSym t = 0 ∧ tokSize t = 0 ∧ tokCheck t = 10 := ⟨if_neg h, if_neg h, if_neg h⟩

end Go.Proofs.Ytndkgjoaljcijaa
