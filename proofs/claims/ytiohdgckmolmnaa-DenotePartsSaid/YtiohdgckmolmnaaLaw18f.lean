/- Chapter 18's third law over texts as they come in. -/
import Derived.Test.YtiohdgckmolmnaaLaw18e
import Derived.Test.YtiohdgckmolmnaaLaw18d
set_option linter.unusedSimpArgs false
set_option linter.unusedVariables false
namespace Go.Proofs.Ytiohdgckmolmnaa
open Go.RowKit

theorem u8_bd {z : Int} (h : (Lit.int .u8 z).wf = true) : 0 ≤ z ∧ z ≤ 255 := by
  have h1 : IntKind.u8.min = 0 := by decide
  have h2 : IntKind.u8.max = 255 := by decide
  have := h
  simp [Lit.wf] at this
  omega

theorem law_DenoteParts' (s : ByteArray) (r : Rp) (T : Option Addr) (c2 : Nat) (l : List Tok) (window : Int) (x : Int) (w : World) (hT : ReadsT w T l ∧ l.length ≤ c2) (hx : (Lit.int .u8 x).wf = true) :
    Calls Try.prog 12 #[playV s r T l.length c2 window, .int .u8 x] w fun e w' => e = .returned (.bool true) ∧ Below w.heap.size w w' := by
  have hb := u8_bd hx
  obtain ⟨n, rfl⟩ : ∃ n : Nat, x = n := ⟨x.toNat, by omega⟩
  have h := law_DenoteParts s.data.toList r T c2 l window n w hT.1 hT.2 (by omega)
  rwa [str_of] at h

end Go.Proofs.Ytiohdgckmolmnaa
