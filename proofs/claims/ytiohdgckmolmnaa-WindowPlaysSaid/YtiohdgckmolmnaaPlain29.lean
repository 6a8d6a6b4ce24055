/- Chapter 29 (window): the plain part: a ring of bytes holds the last ones. -/
import Derived.Test.YtiohdgckmolmnaaPlain18
set_option linter.unusedSimpArgs false
set_option linter.unusedVariables false
namespace Go.Proofs.Ytiohdgckmolmnaa

/-- The last ones, at most so many. -/
def lastN (n : Nat) (l : List UInt8) : List UInt8 := l.drop (l.length - n)
theorem lastN_length (n : Nat) (l : List UInt8) : (lastN n l).length = min n l.length := by simp [lastN]; omega
theorem lastN_all {n : Nat} {l : List UInt8} (h : l.length ≤ n) : lastN n l = l := by simp [lastN, show l.length - n = 0 by omega]
theorem lastN_append (n : Nat) (a b : List UInt8) : lastN n (lastN n a ++ b) = lastN n (a ++ b) := by
  unfold lastN
  rw [List.length_append, List.length_drop, List.length_append]
  by_cases h : a.length ≤ n
  · rw [show a.length - n = 0 by omega]; simp
  · rw [List.drop_append, List.drop_append, List.drop_drop]
    congr 1
    · congr 1; omega
    · congr 1; simp; omega
theorem lastN_append_last (n : Nat) (a b : List UInt8) : lastN n (a ++ lastN n b) = lastN n (a ++ b) := by
  unfold lastN
  rw [List.length_append, List.length_drop, List.length_append]
  by_cases h : b.length ≤ n
  · rw [show b.length - n = 0 by omega]; simp
  · rw [List.drop_append, List.drop_append, List.drop_drop]
    congr 1
    · rw [List.drop_eq_nil_of_le (by omega), List.drop_eq_nil_of_le (by omega)]
    · congr 1; omega
theorem lastN_lastN (n : Nat) (a : List UInt8) : lastN n (lastN n a) = lastN n a := lastN_all (by rw [lastN_length]; omega)
theorem lastN_get {n d : Nat} {l : List UInt8} (h1 : 1 ≤ d) (h2 : d ≤ (lastN n l).length) : (lastN n l)[(lastN n l).length - d]? = l[l.length - d]? := by
  rw [lastN_length] at *
  unfold lastN
  rw [List.getElem?_drop]
  congr 1
  omega
theorem lastN_zero (l : List UInt8) : lastN 0 l = [] := by simp [lastN]

/-- Where the byte stands that is so far back. -/
def wplace (n at_ d : Nat) : Nat := if d ≤ at_ then at_ - d else at_ + n - d

structure Ring (size : Nat) (ring : List UInt8) (at_ : Nat) (held : List UInt8) : Prop where
  hs : 1 ≤ size
  hmax : size ≤ 67108864
  hn0 : 0 < ring.length
  hn : ring.length ≤ size
  hat : at_ < ring.length
  hh : held.length ≤ ring.length
  hc : ∀ d, 1 ≤ d → d ≤ held.length → ring[wplace ring.length at_ d]? = held[held.length - d]?

theorem Ring.place_lt {size : Nat} {ring : List UInt8} {at_ : Nat} {held : List UInt8} (h : Ring size ring at_ held) {d : Nat} (h1 : 1 ≤ d) (h2 : d ≤ ring.length) : wplace ring.length at_ d < ring.length := by
  have := h.hat
  unfold wplace; split <;> omega

theorem Ring.half1 {size : Nat} {ring : List UInt8} {at_ : Nat} {held : List UInt8} (h : Ring size ring at_ held) {k : Nat} (hk : k ≤ at_) (h2 : k ≤ held.length) : (ring.drop (at_ - k)).take k = lastN k held := by
  have hat := h.hat
  have hh := h.hh
  apply List.ext_getElem?
  intro i
  rw [List.getElem?_take]
  split
  · rename_i hi
    have := h.hc (k - i) (by omega) (by omega)
    unfold lastN
    rw [List.getElem?_drop, List.getElem?_drop, show held.length - k + i = held.length - (k - i) by omega, ← this]
    unfold wplace
    rw [if_pos (by omega)]
    congr 1; omega
  · rename_i hi
    symm
    rw [List.getElem?_eq_none_iff, lastN_length]
    omega

theorem Ring.half2 {size : Nat} {ring : List UInt8} {at_ : Nat} {held : List UInt8} (h : Ring size ring at_ held) {k : Nat} (hk : at_ < k) (h2 : k ≤ held.length) : ring.drop (at_ + ring.length - k) ++ ring.take at_ = lastN k held := by
  have hat := h.hat
  have hh := h.hh
  apply List.ext_getElem?
  intro i
  unfold lastN
  rw [List.getElem?_append, List.length_drop, List.getElem?_drop, List.getElem?_drop]
  split
  · rename_i hi
    have := h.hc (k - i) (by omega) (by omega)
    rw [show held.length - k + i = held.length - (k - i) by omega, ← this]
    unfold wplace
    rw [if_neg (by omega)]
    congr 1; omega
  · rename_i hi
    rw [List.getElem?_take]
    split
    · rename_i hj
      have := h.hc (k - i) (by omega) (by omega)
      rw [show held.length - k + i = held.length - (k - i) by omega, ← this]
      unfold wplace
      rw [if_pos (by omega)]
      congr 1; omega
    · symm
      rw [List.getElem?_eq_none_iff]
      omega

theorem Ring.chunk {size : Nat} {ring : List UInt8} {at_ : Nat} {held : List UInt8} (h : Ring size ring at_ held) (c : List UInt8) (hm : at_ + c.length ≤ ring.length) (hr : held.length + c.length ≤ ring.length ∨ ring.length = size) :
    Ring size (ring.take at_ ++ (c ++ ring.drop (at_ + c.length))) (if at_ + c.length = ring.length then 0 else at_ + c.length) (lastN size (held ++ c)) := by
  obtain ⟨hs, hmax, hn0, hn, hat, hh, hc⟩ := h
  have hl : (ring.take at_ ++ (c ++ ring.drop (at_ + c.length))).length = ring.length := by simp; omega
  have hll : (lastN size (held ++ c)).length = min size (held.length + c.length) := by rw [lastN_length, List.length_append]
  refine ⟨hs, hmax, by omega, by omega, by rw [hl]; split <;> omega, by omega, ?_⟩
  intro d h1 h2
  rw [lastN_get h1 h2, hl, List.length_append]
  have hd : d ≤ ring.length := by omega
  have hd2 : d ≤ held.length + c.length := by omega
  have htl : (ring.take at_).length = at_ := by rw [List.length_take]; omega
  by_cases hdm : d ≤ c.length
  · have hp : wplace ring.length (if at_ + c.length = ring.length then 0 else at_ + c.length) d = at_ + (c.length - d) := by
      unfold wplace; split <;> split <;> omega
    have e1 : (held ++ c)[held.length + c.length - d]? = c[c.length - d]? := by
      rw [List.getElem?_append_right (by omega)]; congr 1; omega
    have e2 : (ring.take at_ ++ (c ++ ring.drop (at_ + c.length)))[at_ + (c.length - d)]? = c[c.length - d]? := by
      rw [List.getElem?_append_right (by omega), htl, List.getElem?_append_left (by omega)]; congr 1; omega
    rw [hp, e1, e2]
  · have hq := hc (d - c.length) (by omega) (by omega)
    have e1 : (held ++ c)[held.length + c.length - d]? = held[held.length - (d - c.length)]? := by
      rw [List.getElem?_append_left (by omega)]; congr 1; omega
    rw [e1, ← hq]
    have hp : wplace ring.length (if at_ + c.length = ring.length then 0 else at_ + c.length) d = wplace ring.length at_ (d - c.length) := by
      unfold wplace; repeat (first | omega | split)
    rw [hp]
    by_cases hx : d - c.length ≤ at_
    · have he : wplace ring.length at_ (d - c.length) = at_ - (d - c.length) := by unfold wplace; rw [if_pos hx]
      rw [he, List.getElem?_append_left (by omega), List.getElem?_take, if_pos (by omega)]
    · have he : wplace ring.length at_ (d - c.length) = at_ + ring.length - (d - c.length) := by unfold wplace; rw [if_neg hx]
      rw [he, List.getElem?_append_right (by omega), htl, List.getElem?_append_right (by omega), List.getElem?_drop]
      congr 1
      omega

theorem Ring.grown {size : Nat} {ring : List UInt8} {at_ : Nat} {held : List UInt8} (h : Ring size ring at_ held) {room : Nat} (h1 : held.length < room) (h2 : room ≤ size) :
    Ring size (held ++ List.replicate (room - held.length) 0) held.length held := by
  obtain ⟨hs, hmax, hn0, hn, hat, hh, hc⟩ := h
  have hl : (held ++ List.replicate (room - held.length) (0 : UInt8)).length = room := by simp; omega
  refine ⟨hs, hmax, by omega, by omega, by omega, by omega, ?_⟩
  intro d h3 h4
  rw [hl]
  unfold wplace
  rw [if_pos h4, List.getElem?_append_left (by omega)]

theorem Ring.new {size : Nat} (h1 : 1 ≤ size) (h2 : size ≤ 67108864) : Ring size (List.replicate (min size 256) 0) 0 [] :=
  ⟨h1, h2, by simp; omega, by simp; omega, by simp; omega, by simp, fun d h3 h4 => by simp at h4; omega⟩

/-- The byte that comes next when bytes are copied. -/
theorem cpy_next {size d i : Nat} {held : List UInt8} (h1 : 1 ≤ d) (h2 : d ≤ held.length) (h3 : held.length ≤ size) :
    (lastN size (cpy d i held)).length - d < (lastN size (cpy d i held)).length ∧ d ≤ (lastN size (cpy d i held)).length ∧
    cpy d (i + 1) held = cpy d i held ++ [(lastN size (cpy d i held)).getD ((lastN size (cpy d i held)).length - d) 0] := by
  have hl : (lastN size (cpy d i held)).length = min size (held.length + i) := by rw [lastN_length, cpy_length]
  have hd : d ≤ (lastN size (cpy d i held)).length := by omega
  refine ⟨by omega, hd, ?_⟩
  rw [cpy_snoc]
  congr 2
  rw [List.getD_eq_getElem?_getD, List.getD_eq_getElem?_getD, lastN_get h1 hd]

/-- What last(s, n) is. -/
def lastI (n : Int) (l : List UInt8) : List UInt8 := lastN n.toNat l
theorem lastI_neg {n : Int} (h : n < 1) (l : List UInt8) : lastI n l = [] := by unfold lastI; rw [show n.toNat = 0 by omega, lastN_zero]

end Go.Proofs.Ytiohdgckmolmnaa
