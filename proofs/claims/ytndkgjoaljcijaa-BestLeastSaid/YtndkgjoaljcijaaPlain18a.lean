/- Plain mathematics of chapter 18 (denote): what tokens mean. -/
import Derived.Test.YtndkgjoaljcijaaPlain18
import Derived.Test.YtndkgjoaljcijaaReps
namespace Go.Proofs.Ytndkgjoaljcijaa

/-- Three results of one kind of call: bytes, distances, the error's number. -/
structure Res where
  bytes : List UInt8
  reps : Rp
  err : Int

def badRes (e : Int) : Res := ⟨[], ⟨0, 0, 0, 0⟩, e⟩
/-- All tokens, one behind the other. -/
def applyT (window : Int) : List Tok → List UInt8 → Rp → Res
  | [], h, r => ⟨h, r, 0⟩
  | t :: l, h, r =>
    if useE r t ≠ 0 then badRes (useE r t)
    else if t.kind = 0 then applyT window l (h ++ [UInt8.ofNat t.byte.toNat]) (useR r t)
    else if copyE h.length t.len (useD r t) window ≠ 0 then badRes (copyE h.length t.len (useD r t) window)
    else applyT window l (cpy (useD r t).toNat t.len.toNat h) (useR r t)

theorem useE_cases (r : Rp) (t : Tok) : useE r t = 0 ∨ useE r t = 10 := by unfold useE; split <;> simp
theorem useE_zero {r : Rp} {t : Tok} (h : useE r t = 0) : useOk r t := by
  unfold useE at h; split at h
  · assumption
  · cases h
theorem useOk_tok {r : Rp} {t : Tok} (h : useOk r t) : tokOk t := h.1
end Go.Proofs.Ytndkgjoaljcijaa
