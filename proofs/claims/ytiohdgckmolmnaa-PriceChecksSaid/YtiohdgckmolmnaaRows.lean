/-
  No cell of these rows narrows 'for every input' (looked for: loops, veiled, ifaces, maps, wideKeys, modest, calm, conditions, laid).
  DERIVED. THE GIVEN ROWS OF THIS SEAT. 11 by the template 'for every input the law returns true; each argument reads behind the call as it read before'; 0 by the template 'total and deterministic' (their statements: YtiohdgckmolmnaaTotals.lean).
  GIVEN WITH THE SEED: the statements are not yours to turn. If you find one false, say at which input.
  Laid BY PROGRAM, IN A SANDBOX (cutbox-rows.mjs): the forced cells as the released guide's own fill.sh prints them over the translation ba6fdc1246315199… (all of the seat's roots in one cut). By AI agents, Wed Nov 11 2026. No macro, syntax, notation, axiom, sorry.
-/
import Derived.Test.YtiohdgckmolmnaaChecked
import GoSem.Claim
import GoSem.ClaimJoined
import GoSem.ClaimMapViews
import Derived.JoinedTies
import Derived.KernelRfl
namespace Go.Proofs.Ytiohdgckmolmnaa
/- THE CELL 'sum', in the pinned program and in every row, IS THE sha256 OF THE DUMP (.gsa) THAT YtiohdgckmolmnaaProg.lean LOADS. Nothing in Lean hashes anything: it is a label: what it is worth is what the hold of that sum in a sandbox is worth. -/
noncomputable def Try.pinned : Pinned := { name := "ytiohdgckmolmnaa", sum := "ba6fdc1246315199c16149c17c09a50695ea7e0db7f276597eee653f3208b4ac", checked := Try.checked }
namespace Rows
def none {H : Type} : Left H := { results := [], args := [] }

/-- 'gladstonelaw17.RepsUses': WHATEVER THE INPUT: true; the input reads as it did. -/
def repsUsesSpec : ChangeSpec := { name := "repsUses", fn := fun _ => fun
  | [d1, d2, d3] => { results := [.lit (.bool true)], args := [d1, d2, d3] }
  | _ => none }
def repsUsesRow : OpenClaim := { program := "ytiohdgckmolmnaa", sum := "ba6fdc1246315199c16149c17c09a50695ea7e0db7f276597eee653f3208b4ac", func := "gladstone/gladstonelaw17.RepsUses", spec := "repsUses", apart := false }
def RepsUsesSaid : Prop := repsUsesRow.holds Try.pinned (OpenSpec.ofChange repsUsesSpec)

/-- ITS FALSE NEIGHBOUR: 'it returns false'. Refute it at one input. -/
def repsUsesWrong : ChangeSpec := { name := "repsUses", fn := fun _ => fun
  | [d1, d2, d3] => { results := [.lit (.bool false)], args := [d1, d2, d3] }
  | _ => none }
def RepsUsesWrongFalsely : Prop := repsUsesRow.holds Try.pinned (OpenSpec.ofChange repsUsesWrong)

/-- 'gladstonelaw17.RepsMoves': WHATEVER THE INPUT: true; the input reads as it did. -/
def repsMovesSpec : ChangeSpec := { name := "repsMoves", fn := fun _ => fun
  | [d1, d2, d3] => { results := [.lit (.bool true)], args := [d1, d2, d3] }
  | _ => none }
def repsMovesRow : OpenClaim := { program := "ytiohdgckmolmnaa", sum := "ba6fdc1246315199c16149c17c09a50695ea7e0db7f276597eee653f3208b4ac", func := "gladstone/gladstonelaw17.RepsMoves", spec := "repsMoves", apart := false }
def RepsMovesSaid : Prop := repsMovesRow.holds Try.pinned (OpenSpec.ofChange repsMovesSpec)

/-- ITS FALSE NEIGHBOUR: 'it returns false'. Refute it at one input. -/
def repsMovesWrong : ChangeSpec := { name := "repsMoves", fn := fun _ => fun
  | [d1, d2, d3] => { results := [.lit (.bool false)], args := [d1, d2, d3] }
  | _ => none }
def RepsMovesWrongFalsely : Prop := repsMovesRow.holds Try.pinned (OpenSpec.ofChange repsMovesWrong)

/-- 'gladstonelaw16.TokenLooks': WHATEVER THE INPUT: true; the input reads as it did. -/
def tokenLooksSpec : ChangeSpec := { name := "tokenLooks", fn := fun _ => fun
  | [d1, d2] => { results := [.lit (.bool true)], args := [d1, d2] }
  | _ => none }
def tokenLooksRow : OpenClaim := { program := "ytiohdgckmolmnaa", sum := "ba6fdc1246315199c16149c17c09a50695ea7e0db7f276597eee653f3208b4ac", func := "gladstone/gladstonelaw16.TokenLooks", spec := "tokenLooks", unfollowed := true, recurses := true, apart := false }
def TokenLooksSaid : Prop := tokenLooksRow.holds Try.pinned (OpenSpec.ofChange tokenLooksSpec)

/-- ITS FALSE NEIGHBOUR: 'it returns false'. Refute it at one input. -/
def tokenLooksWrong : ChangeSpec := { name := "tokenLooks", fn := fun _ => fun
  | [d1, d2] => { results := [.lit (.bool false)], args := [d1, d2] }
  | _ => none }
def TokenLooksWrongFalsely : Prop := tokenLooksRow.holds Try.pinned (OpenSpec.ofChange tokenLooksWrong)

/-- 'gladstonelaw16.TokenBack': WHATEVER THE INPUT: true; the input reads as it did. -/
def tokenBackSpec : ChangeSpec := { name := "tokenBack", fn := fun _ => fun
  | [d] => { results := [.lit (.bool true)], args := [d] }
  | _ => none }
def tokenBackRow : OpenClaim := { program := "ytiohdgckmolmnaa", sum := "ba6fdc1246315199c16149c17c09a50695ea7e0db7f276597eee653f3208b4ac", func := "gladstone/gladstonelaw16.TokenBack", spec := "tokenBack", unfollowed := true, recurses := true, apart := false }
def TokenBackSaid : Prop := tokenBackRow.holds Try.pinned (OpenSpec.ofChange tokenBackSpec)

/-- ITS FALSE NEIGHBOUR: 'it returns false'. Refute it at one input. -/
def tokenBackWrong : ChangeSpec := { name := "tokenBack", fn := fun _ => fun
  | [d] => { results := [.lit (.bool false)], args := [d] }
  | _ => none }
def TokenBackWrongFalsely : Prop := tokenBackRow.holds Try.pinned (OpenSpec.ofChange tokenBackWrong)

/-- 'gladstonelaw29.WindowPlays': WHATEVER THE INPUT: true; the input reads as it did. -/
def windowPlaysSpec : ChangeSpec := { name := "windowPlays", fn := fun _ => fun
  | [d1, d2, d3] => { results := [.lit (.bool true)], args := [d1, d2, d3] }
  | _ => none }
def windowPlaysRow : OpenClaim := { program := "ytiohdgckmolmnaa", sum := "ba6fdc1246315199c16149c17c09a50695ea7e0db7f276597eee653f3208b4ac", func := "gladstone/gladstonelaw29.WindowPlays", spec := "windowPlays", apart := false }
def WindowPlaysSaid : Prop := windowPlaysRow.holds Try.pinned (OpenSpec.ofChange windowPlaysSpec)

/-- ITS FALSE NEIGHBOUR: 'it returns false'. Refute it at one input. -/
def windowPlaysWrong : ChangeSpec := { name := "windowPlays", fn := fun _ => fun
  | [d1, d2, d3] => { results := [.lit (.bool false)], args := [d1, d2, d3] }
  | _ => none }
def WindowPlaysWrongFalsely : Prop := windowPlaysRow.holds Try.pinned (OpenSpec.ofChange windowPlaysWrong)

/-- 'gladstonelaw29.WindowForgets': WHATEVER THE INPUT: true; the input reads as it did. -/
def windowForgetsSpec : ChangeSpec := { name := "windowForgets", fn := fun _ => fun
  | [d1, d2, d3] => { results := [.lit (.bool true)], args := [d1, d2, d3] }
  | _ => none }
def windowForgetsRow : OpenClaim := { program := "ytiohdgckmolmnaa", sum := "ba6fdc1246315199c16149c17c09a50695ea7e0db7f276597eee653f3208b4ac", func := "gladstone/gladstonelaw29.WindowForgets", spec := "windowForgets", apart := false }
def WindowForgetsSaid : Prop := windowForgetsRow.holds Try.pinned (OpenSpec.ofChange windowForgetsSpec)

/-- ITS FALSE NEIGHBOUR: 'it returns false'. Refute it at one input. -/
def windowForgetsWrong : ChangeSpec := { name := "windowForgets", fn := fun _ => fun
  | [d1, d2, d3] => { results := [.lit (.bool false)], args := [d1, d2, d3] }
  | _ => none }
def WindowForgetsWrongFalsely : Prop := windowForgetsRow.holds Try.pinned (OpenSpec.ofChange windowForgetsWrong)

/-- 'gladstonelaw29.WindowNone': WHATEVER THE INPUT: true; the input reads as it did. -/
def windowNoneSpec : ChangeSpec := { name := "windowNone", fn := fun _ => fun
  | [d] => { results := [.lit (.bool true)], args := [d] }
  | _ => none }
def windowNoneRow : OpenClaim := { program := "ytiohdgckmolmnaa", sum := "ba6fdc1246315199c16149c17c09a50695ea7e0db7f276597eee653f3208b4ac", func := "gladstone/gladstonelaw29.WindowNone", spec := "windowNone", apart := false }
def WindowNoneSaid : Prop := windowNoneRow.holds Try.pinned (OpenSpec.ofChange windowNoneSpec)

/-- ITS FALSE NEIGHBOUR: 'it returns false'. Refute it at one input. -/
def windowNoneWrong : ChangeSpec := { name := "windowNone", fn := fun _ => fun
  | [d] => { results := [.lit (.bool false)], args := [d] }
  | _ => none }
def WindowNoneWrongFalsely : Prop := windowNoneRow.holds Try.pinned (OpenSpec.ofChange windowNoneWrong)

/-- 'gladstonelaw18.DenoteCopies': WHATEVER THE INPUT: true; the input reads as it did. -/
def denoteCopiesSpec : ChangeSpec := { name := "denoteCopies", fn := fun _ => fun
  | [d1, d2, d3] => { results := [.lit (.bool true)], args := [d1, d2, d3] }
  | _ => none }
def denoteCopiesRow : OpenClaim := { program := "ytiohdgckmolmnaa", sum := "ba6fdc1246315199c16149c17c09a50695ea7e0db7f276597eee653f3208b4ac", func := "gladstone/gladstonelaw18.DenoteCopies", spec := "denoteCopies", apart := false }
def DenoteCopiesSaid : Prop := denoteCopiesRow.holds Try.pinned (OpenSpec.ofChange denoteCopiesSpec)

/-- ITS FALSE NEIGHBOUR: 'it returns false'. Refute it at one input. -/
def denoteCopiesWrong : ChangeSpec := { name := "denoteCopies", fn := fun _ => fun
  | [d1, d2, d3] => { results := [.lit (.bool false)], args := [d1, d2, d3] }
  | _ => none }
def DenoteCopiesWrongFalsely : Prop := denoteCopiesRow.holds Try.pinned (OpenSpec.ofChange denoteCopiesWrong)

/-- 'gladstonelaw18.DenoteApplies': WHATEVER THE INPUT: true; the input reads as it did. -/
def denoteAppliesSpec : ChangeSpec := { name := "denoteApplies", fn := fun _ => fun
  | [d1, d2] => { results := [.lit (.bool true)], args := [d1, d2] }
  | _ => none }
def denoteAppliesRow : OpenClaim := { program := "ytiohdgckmolmnaa", sum := "ba6fdc1246315199c16149c17c09a50695ea7e0db7f276597eee653f3208b4ac", func := "gladstone/gladstonelaw18.DenoteApplies", spec := "denoteApplies", apart := false }
def DenoteAppliesSaid : Prop := denoteAppliesRow.holds Try.pinned (OpenSpec.ofChange denoteAppliesSpec)

/-- ITS FALSE NEIGHBOUR: 'it returns false'. Refute it at one input. -/
def denoteAppliesWrong : ChangeSpec := { name := "denoteApplies", fn := fun _ => fun
  | [d1, d2] => { results := [.lit (.bool false)], args := [d1, d2] }
  | _ => none }
def DenoteAppliesWrongFalsely : Prop := denoteAppliesRow.holds Try.pinned (OpenSpec.ofChange denoteAppliesWrong)

/-- 'gladstonelaw18.DenoteParts': WHATEVER THE INPUT: true; the input reads as it did. -/
def denotePartsSpec : ChangeSpec := { name := "denoteParts", fn := fun _ => fun
  | [d1, d2] => { results := [.lit (.bool true)], args := [d1, d2] }
  | _ => none }
def denotePartsRow : OpenClaim := { program := "ytiohdgckmolmnaa", sum := "ba6fdc1246315199c16149c17c09a50695ea7e0db7f276597eee653f3208b4ac", func := "gladstone/gladstonelaw18.DenoteParts", spec := "denoteParts", apart := false }
def DenotePartsSaid : Prop := denotePartsRow.holds Try.pinned (OpenSpec.ofChange denotePartsSpec)

/-- ITS FALSE NEIGHBOUR: 'it returns false'. Refute it at one input. -/
def denotePartsWrong : ChangeSpec := { name := "denoteParts", fn := fun _ => fun
  | [d1, d2] => { results := [.lit (.bool false)], args := [d1, d2] }
  | _ => none }
def DenotePartsWrongFalsely : Prop := denotePartsRow.holds Try.pinned (OpenSpec.ofChange denotePartsWrong)

/-- 'gladstonelaw23.PriceChecks': WHATEVER THE INPUT: true; the input reads as it did. -/
def priceChecksSpec : ChangeSpec := { name := "priceChecks", fn := fun _ => fun
  | [d1, d2, d3] => { results := [.lit (.bool true)], args := [d1, d2, d3] }
  | _ => none }
def priceChecksRow : OpenClaim := { program := "ytiohdgckmolmnaa", sum := "ba6fdc1246315199c16149c17c09a50695ea7e0db7f276597eee653f3208b4ac", func := "gladstone/gladstonelaw23.PriceChecks", spec := "priceChecks", unfollowed := true, recurses := true, apart := false }
def PriceChecksSaid : Prop := priceChecksRow.holds Try.pinned (OpenSpec.ofChange priceChecksSpec)

/-- ITS FALSE NEIGHBOUR: 'it returns false'. Refute it at one input. -/
def priceChecksWrong : ChangeSpec := { name := "priceChecks", fn := fun _ => fun
  | [d1, d2, d3] => { results := [.lit (.bool false)], args := [d1, d2, d3] }
  | _ => none }
def PriceChecksWrongFalsely : Prop := priceChecksRow.holds Try.pinned (OpenSpec.ofChange priceChecksWrong)

/- THE SECOND FORM. 'bulk': how many values and letters a reading holds, each counted each time it is reached (what is shared counts as often as it is met; a slice's spare places count too). A statement '..UptoSaid' is the law's where the arguments, and the package variables that the reading takes, are together of bulk at most 1048576: NARROWER than '..Said'. Prove '..Said' where nothing that the law and all that it calls make is longer than what came in: it says more and counts as full. Else prove '..UptoSaid'. A law counts once. -/
mutual
def uptoBulk {H : Type} : DataW H → Nat
  | .lit (.string bytes) => bytes.length + 1
  | .lit _ => 1
  | .nil => 1
  | .ptr d => uptoBulk d + 1
  | .slice elems spare => uptoBulkAll elems + uptoBulkAll spare + 1
  | .agg parts => uptoBulkAll parts + 1
  | .iface _ d => uptoBulk d + 1
  | .map entries => uptoBulkEntries entries + 1
  | .held _ => 1
def uptoBulkAll {H : Type} : List (DataW H) → Nat
  | [] => 0
  | d :: r => uptoBulk d + uptoBulkAll r
def uptoBulkEntries {H : Type} : List (Lit × DataW H) → Nat
  | [] => 0
  | x :: r => uptoBulkEntry x + uptoBulkEntries r
def uptoBulkEntry {H : Type} : Lit × DataW H → Nat
  | (.string bytes, d) => bytes.length + uptoBulk d + 1
  | (_, d) => uptoBulk d + 1
 end
def uptoSmall : (H : Type) → List (DataW H) → Bool := fun _ ds => decide (uptoBulkAll ds ≤ 1048576)
def OpenSpec.upto (s : _root_.Go.ChangeSpec) : _root_.Go.OpenSpec := { _root_.Go.OpenSpec.ofChange s with cond := some uptoSmall }

/-- 'gladstonelaw17.RepsUses', WHERE WHAT IT READS IS OF BULK AT MOST 1048576: true; the input reads as it did. -/
def repsUsesUptoRow : OpenClaim := { program := "ytiohdgckmolmnaa", sum := "ba6fdc1246315199c16149c17c09a50695ea7e0db7f276597eee653f3208b4ac", func := "gladstone/gladstonelaw17.RepsUses", spec := "repsUses", apart := false, narrowed := true }
def RepsUsesUptoSaid : Prop := repsUsesUptoRow.holds Try.pinned (OpenSpec.upto repsUsesSpec)

/-- 'gladstonelaw17.RepsMoves', WHERE WHAT IT READS IS OF BULK AT MOST 1048576: true; the input reads as it did. -/
def repsMovesUptoRow : OpenClaim := { program := "ytiohdgckmolmnaa", sum := "ba6fdc1246315199c16149c17c09a50695ea7e0db7f276597eee653f3208b4ac", func := "gladstone/gladstonelaw17.RepsMoves", spec := "repsMoves", apart := false, narrowed := true }
def RepsMovesUptoSaid : Prop := repsMovesUptoRow.holds Try.pinned (OpenSpec.upto repsMovesSpec)

/-- 'gladstonelaw16.TokenLooks', WHERE WHAT IT READS IS OF BULK AT MOST 1048576: true; the input reads as it did. -/
def tokenLooksUptoRow : OpenClaim := { program := "ytiohdgckmolmnaa", sum := "ba6fdc1246315199c16149c17c09a50695ea7e0db7f276597eee653f3208b4ac", func := "gladstone/gladstonelaw16.TokenLooks", spec := "tokenLooks", unfollowed := true, recurses := true, apart := false, narrowed := true }
def TokenLooksUptoSaid : Prop := tokenLooksUptoRow.holds Try.pinned (OpenSpec.upto tokenLooksSpec)

/-- 'gladstonelaw16.TokenBack', WHERE WHAT IT READS IS OF BULK AT MOST 1048576: true; the input reads as it did. -/
def tokenBackUptoRow : OpenClaim := { program := "ytiohdgckmolmnaa", sum := "ba6fdc1246315199c16149c17c09a50695ea7e0db7f276597eee653f3208b4ac", func := "gladstone/gladstonelaw16.TokenBack", spec := "tokenBack", unfollowed := true, recurses := true, apart := false, narrowed := true }
def TokenBackUptoSaid : Prop := tokenBackUptoRow.holds Try.pinned (OpenSpec.upto tokenBackSpec)

/-- 'gladstonelaw29.WindowPlays', WHERE WHAT IT READS IS OF BULK AT MOST 1048576: true; the input reads as it did. -/
def windowPlaysUptoRow : OpenClaim := { program := "ytiohdgckmolmnaa", sum := "ba6fdc1246315199c16149c17c09a50695ea7e0db7f276597eee653f3208b4ac", func := "gladstone/gladstonelaw29.WindowPlays", spec := "windowPlays", apart := false, narrowed := true }
def WindowPlaysUptoSaid : Prop := windowPlaysUptoRow.holds Try.pinned (OpenSpec.upto windowPlaysSpec)

/-- 'gladstonelaw29.WindowForgets', WHERE WHAT IT READS IS OF BULK AT MOST 1048576: true; the input reads as it did. -/
def windowForgetsUptoRow : OpenClaim := { program := "ytiohdgckmolmnaa", sum := "ba6fdc1246315199c16149c17c09a50695ea7e0db7f276597eee653f3208b4ac", func := "gladstone/gladstonelaw29.WindowForgets", spec := "windowForgets", apart := false, narrowed := true }
def WindowForgetsUptoSaid : Prop := windowForgetsUptoRow.holds Try.pinned (OpenSpec.upto windowForgetsSpec)

/-- 'gladstonelaw29.WindowNone', WHERE WHAT IT READS IS OF BULK AT MOST 1048576: true; the input reads as it did. -/
def windowNoneUptoRow : OpenClaim := { program := "ytiohdgckmolmnaa", sum := "ba6fdc1246315199c16149c17c09a50695ea7e0db7f276597eee653f3208b4ac", func := "gladstone/gladstonelaw29.WindowNone", spec := "windowNone", apart := false, narrowed := true }
def WindowNoneUptoSaid : Prop := windowNoneUptoRow.holds Try.pinned (OpenSpec.upto windowNoneSpec)

/-- 'gladstonelaw18.DenoteCopies', WHERE WHAT IT READS IS OF BULK AT MOST 1048576: true; the input reads as it did. -/
def denoteCopiesUptoRow : OpenClaim := { program := "ytiohdgckmolmnaa", sum := "ba6fdc1246315199c16149c17c09a50695ea7e0db7f276597eee653f3208b4ac", func := "gladstone/gladstonelaw18.DenoteCopies", spec := "denoteCopies", apart := false, narrowed := true }
def DenoteCopiesUptoSaid : Prop := denoteCopiesUptoRow.holds Try.pinned (OpenSpec.upto denoteCopiesSpec)

/-- 'gladstonelaw18.DenoteApplies', WHERE WHAT IT READS IS OF BULK AT MOST 1048576: true; the input reads as it did. -/
def denoteAppliesUptoRow : OpenClaim := { program := "ytiohdgckmolmnaa", sum := "ba6fdc1246315199c16149c17c09a50695ea7e0db7f276597eee653f3208b4ac", func := "gladstone/gladstonelaw18.DenoteApplies", spec := "denoteApplies", apart := false, narrowed := true }
def DenoteAppliesUptoSaid : Prop := denoteAppliesUptoRow.holds Try.pinned (OpenSpec.upto denoteAppliesSpec)

/-- 'gladstonelaw18.DenoteParts', WHERE WHAT IT READS IS OF BULK AT MOST 1048576: true; the input reads as it did. -/
def denotePartsUptoRow : OpenClaim := { program := "ytiohdgckmolmnaa", sum := "ba6fdc1246315199c16149c17c09a50695ea7e0db7f276597eee653f3208b4ac", func := "gladstone/gladstonelaw18.DenoteParts", spec := "denoteParts", apart := false, narrowed := true }
def DenotePartsUptoSaid : Prop := denotePartsUptoRow.holds Try.pinned (OpenSpec.upto denotePartsSpec)

/-- 'gladstonelaw23.PriceChecks', WHERE WHAT IT READS IS OF BULK AT MOST 1048576: true; the input reads as it did. -/
def priceChecksUptoRow : OpenClaim := { program := "ytiohdgckmolmnaa", sum := "ba6fdc1246315199c16149c17c09a50695ea7e0db7f276597eee653f3208b4ac", func := "gladstone/gladstonelaw23.PriceChecks", spec := "priceChecks", unfollowed := true, recurses := true, apart := false, narrowed := true }
def PriceChecksUptoSaid : Prop := priceChecksUptoRow.holds Try.pinned (OpenSpec.upto priceChecksSpec)

end Rows
end Go.Proofs.Ytiohdgckmolmnaa
