/-
  No cell of these rows narrows 'for every input' (looked for: loops, veiled, ifaces, maps, wideKeys, modest, calm, conditions, laid).
  DERIVED. THE GIVEN ROWS OF THIS SEAT. 9 by the template 'for every input the law returns true; each argument reads behind the call as it read before'; 0 by the template 'total and deterministic' (their statements: YtoefkkgnabjmdaaTotals.lean).
  GIVEN WITH THE SEED: the statements are not yours to turn. If you find one false, say at which input.
  Laid BY PROGRAM, IN A SANDBOX (cutbox-rows.mjs): the forced cells as the released guide's own fill.sh prints them over the translation 470c985c0e8e9f29… (all of the seat's roots in one cut). By AI agents, Wed Nov 11 2026. No macro, syntax, notation, axiom, sorry.
-/
import Derived.Test.YtoefkkgnabjmdaaChecked
import GoSem.Claim
import GoSem.ClaimJoined
import GoSem.ClaimMapViews
import Derived.JoinedTies
import Derived.KernelRfl
namespace Go.Proofs.Ytoefkkgnabjmdaa
/- THE CELL 'sum', in the pinned program and in every row, IS THE sha256 OF THE DUMP (.gsa) THAT YtoefkkgnabjmdaaProg.lean LOADS. Nothing in Lean hashes anything: it is a label: what it is worth is what the hold of that sum in a sandbox is worth. -/
noncomputable def Try.pinned : Pinned := { name := "ytoefkkgnabjmdaa", sum := "470c985c0e8e9f2954f4c9188cedd279749a8bb2315aa9b24224d5cfe89b52de", checked := Try.checked }
namespace Rows
def none {H : Type} : Left H := { results := [], args := [] }

/-- 'gladstonelaw07.PmergeMay': WHATEVER THE INPUT: true; the input reads as it did. -/
def pmergeMaySpec : ChangeSpec := { name := "pmergeMay", fn := fun _ => fun
  | [d1, d2] => { results := [.lit (.bool true)], args := [d1, d2] }
  | _ => none }
def pmergeMayRow : OpenClaim := { program := "ytoefkkgnabjmdaa", sum := "470c985c0e8e9f2954f4c9188cedd279749a8bb2315aa9b24224d5cfe89b52de", func := "gladstone/gladstonelaw07.PmergeMay", spec := "pmergeMay", unfollowed := true, recurses := true, apart := false }
def PmergeMaySaid : Prop := pmergeMayRow.holds Try.pinned (OpenSpec.ofChange pmergeMaySpec)

/-- ITS FALSE NEIGHBOUR: 'it returns false'. Refute it at one input. -/
def pmergeMayWrong : ChangeSpec := { name := "pmergeMay", fn := fun _ => fun
  | [d1, d2] => { results := [.lit (.bool false)], args := [d1, d2] }
  | _ => none }
def PmergeMayWrongFalsely : Prop := pmergeMayRow.holds Try.pinned (OpenSpec.ofChange pmergeMayWrong)

/-- 'gladstonelaw07.PmergeCosts': WHATEVER THE INPUT: true; the input reads as it did. -/
def pmergeCostsSpec : ChangeSpec := { name := "pmergeCosts", fn := fun _ => fun
  | [d1, d2] => { results := [.lit (.bool true)], args := [d1, d2] }
  | _ => none }
def pmergeCostsRow : OpenClaim := { program := "ytoefkkgnabjmdaa", sum := "470c985c0e8e9f2954f4c9188cedd279749a8bb2315aa9b24224d5cfe89b52de", func := "gladstone/gladstonelaw07.PmergeCosts", spec := "pmergeCosts", unfollowed := true, recurses := true, apart := false }
def PmergeCostsSaid : Prop := pmergeCostsRow.holds Try.pinned (OpenSpec.ofChange pmergeCostsSpec)

/-- ITS FALSE NEIGHBOUR: 'it returns false'. Refute it at one input. -/
def pmergeCostsWrong : ChangeSpec := { name := "pmergeCosts", fn := fun _ => fun
  | [d1, d2] => { results := [.lit (.bool false)], args := [d1, d2] }
  | _ => none }
def PmergeCostsWrongFalsely : Prop := pmergeCostsRow.holds Try.pinned (OpenSpec.ofChange pmergeCostsWrong)

/-- 'gladstonelaw07.PmergeBest': WHATEVER THE INPUT: true; the input reads as it did. -/
def pmergeBestSpec : ChangeSpec := { name := "pmergeBest", fn := fun _ => fun
  | [d1, d2] => { results := [.lit (.bool true)], args := [d1, d2] }
  | _ => none }
def pmergeBestRow : OpenClaim := { program := "ytoefkkgnabjmdaa", sum := "470c985c0e8e9f2954f4c9188cedd279749a8bb2315aa9b24224d5cfe89b52de", func := "gladstone/gladstonelaw07.PmergeBest", spec := "pmergeBest", unfollowed := true, recurses := true, apart := false }
def PmergeBestSaid : Prop := pmergeBestRow.holds Try.pinned (OpenSpec.ofChange pmergeBestSpec)

/-- ITS FALSE NEIGHBOUR: 'it returns false'. Refute it at one input. -/
def pmergeBestWrong : ChangeSpec := { name := "pmergeBest", fn := fun _ => fun
  | [d1, d2] => { results := [.lit (.bool false)], args := [d1, d2] }
  | _ => none }
def PmergeBestWrongFalsely : Prop := pmergeBestRow.holds Try.pinned (OpenSpec.ofChange pmergeBestWrong)

/-- 'gladstonelaw07.PmergeFalls': WHATEVER THE INPUT: true; the input reads as it did. -/
def pmergeFallsSpec : ChangeSpec := { name := "pmergeFalls", fn := fun _ => fun
  | [d1, d2] => { results := [.lit (.bool true)], args := [d1, d2] }
  | _ => none }
def pmergeFallsRow : OpenClaim := { program := "ytoefkkgnabjmdaa", sum := "470c985c0e8e9f2954f4c9188cedd279749a8bb2315aa9b24224d5cfe89b52de", func := "gladstone/gladstonelaw07.PmergeFalls", spec := "pmergeFalls", unfollowed := true, recurses := true, apart := false }
def PmergeFallsSaid : Prop := pmergeFallsRow.holds Try.pinned (OpenSpec.ofChange pmergeFallsSpec)

/-- ITS FALSE NEIGHBOUR: 'it returns false'. Refute it at one input. -/
def pmergeFallsWrong : ChangeSpec := { name := "pmergeFalls", fn := fun _ => fun
  | [d1, d2] => { results := [.lit (.bool false)], args := [d1, d2] }
  | _ => none }
def PmergeFallsWrongFalsely : Prop := pmergeFallsRow.holds Try.pinned (OpenSpec.ofChange pmergeFallsWrong)

/-- 'gladstonelaw57.SpreadQuantiles': WHATEVER THE INPUT: true; the input reads as it did. -/
def spreadQuantilesSpec : ChangeSpec := { name := "spreadQuantiles", fn := fun _ => fun
  | [d1, d2, d3] => { results := [.lit (.bool true)], args := [d1, d2, d3] }
  | _ => none }
def spreadQuantilesRow : OpenClaim := { program := "ytoefkkgnabjmdaa", sum := "470c985c0e8e9f2954f4c9188cedd279749a8bb2315aa9b24224d5cfe89b52de", func := "gladstone/gladstonelaw57.SpreadQuantiles", spec := "spreadQuantiles", unfollowed := true, recurses := true, apart := false }
def SpreadQuantilesSaid : Prop := spreadQuantilesRow.holds Try.pinned (OpenSpec.ofChange spreadQuantilesSpec)

/-- ITS FALSE NEIGHBOUR: 'it returns false'. Refute it at one input. -/
def spreadQuantilesWrong : ChangeSpec := { name := "spreadQuantiles", fn := fun _ => fun
  | [d1, d2, d3] => { results := [.lit (.bool false)], args := [d1, d2, d3] }
  | _ => none }
def SpreadQuantilesWrongFalsely : Prop := spreadQuantilesRow.holds Try.pinned (OpenSpec.ofChange spreadQuantilesWrong)

/-- 'gladstonelaw24.CountFreqs': WHATEVER THE INPUT: true; the input reads as it did. -/
def countFreqsSpec : ChangeSpec := { name := "countFreqs", fn := fun _ => fun
  | [d1, d2, d3] => { results := [.lit (.bool true)], args := [d1, d2, d3] }
  | _ => none }
def countFreqsRow : OpenClaim := { program := "ytoefkkgnabjmdaa", sum := "470c985c0e8e9f2954f4c9188cedd279749a8bb2315aa9b24224d5cfe89b52de", func := "gladstone/gladstonelaw24.CountFreqs", spec := "countFreqs", unfollowed := true, recurses := true, apart := false }
def CountFreqsSaid : Prop := countFreqsRow.holds Try.pinned (OpenSpec.ofChange countFreqsSpec)

/-- ITS FALSE NEIGHBOUR: 'it returns false'. Refute it at one input. -/
def countFreqsWrong : ChangeSpec := { name := "countFreqs", fn := fun _ => fun
  | [d1, d2, d3] => { results := [.lit (.bool false)], args := [d1, d2, d3] }
  | _ => none }
def CountFreqsWrongFalsely : Prop := countFreqsRow.holds Try.pinned (OpenSpec.ofChange countFreqsWrong)

/-- 'gladstonelaw24.CountTables': WHATEVER THE INPUT: true; the input reads as it did. -/
def countTablesSpec : ChangeSpec := { name := "countTables", fn := fun _ => fun
  | [d] => { results := [.lit (.bool true)], args := [d] }
  | _ => none }
def countTablesRow : OpenClaim := { program := "ytoefkkgnabjmdaa", sum := "470c985c0e8e9f2954f4c9188cedd279749a8bb2315aa9b24224d5cfe89b52de", func := "gladstone/gladstonelaw24.CountTables", spec := "countTables", unfollowed := true, recurses := true, apart := false }
def CountTablesSaid : Prop := countTablesRow.holds Try.pinned (OpenSpec.ofChange countTablesSpec)

/-- ITS FALSE NEIGHBOUR: 'it returns false'. Refute it at one input. -/
def countTablesWrong : ChangeSpec := { name := "countTables", fn := fun _ => fun
  | [d] => { results := [.lit (.bool false)], args := [d] }
  | _ => none }
def CountTablesWrongFalsely : Prop := countTablesRow.holds Try.pinned (OpenSpec.ofChange countTablesWrong)

/-- 'gladstonelaw43.GramsCount': WHATEVER THE INPUT: true; the input reads as it did. -/
def gramsCountSpec : ChangeSpec := { name := "gramsCount", fn := fun _ => fun
  | [d1, d2, d3] => { results := [.lit (.bool true)], args := [d1, d2, d3] }
  | _ => none }
def gramsCountRow : OpenClaim := { program := "ytoefkkgnabjmdaa", sum := "470c985c0e8e9f2954f4c9188cedd279749a8bb2315aa9b24224d5cfe89b52de", func := "gladstone/gladstonelaw43.GramsCount", spec := "gramsCount", inPlace := ["internal/bytealg.IndexByteString", "internal/bytealg.IndexString"], unfollowed := true, recurses := true, named := ["internal/bytealg.MaxLen"], apart := false }
def GramsCountSaid : Prop := gramsCountRow.holds Try.pinned (OpenSpec.ofChange gramsCountSpec)

/-- ITS FALSE NEIGHBOUR: 'it returns false'. Refute it at one input. -/
def gramsCountWrong : ChangeSpec := { name := "gramsCount", fn := fun _ => fun
  | [d1, d2, d3] => { results := [.lit (.bool false)], args := [d1, d2, d3] }
  | _ => none }
def GramsCountWrongFalsely : Prop := gramsCountRow.holds Try.pinned (OpenSpec.ofChange gramsCountWrong)

/-- 'gladstonelaw43.GramsHold': WHATEVER THE INPUT: true; the input reads as it did. -/
def gramsHoldSpec : ChangeSpec := { name := "gramsHold", fn := fun _ => fun
  | [d1, d2, d3] => { results := [.lit (.bool true)], args := [d1, d2, d3] }
  | _ => none }
def gramsHoldRow : OpenClaim := { program := "ytoefkkgnabjmdaa", sum := "470c985c0e8e9f2954f4c9188cedd279749a8bb2315aa9b24224d5cfe89b52de", func := "gladstone/gladstonelaw43.GramsHold", spec := "gramsHold", inPlace := ["internal/bytealg.IndexByteString", "internal/bytealg.IndexString"], unfollowed := true, recurses := true, named := ["internal/bytealg.MaxLen"], apart := false }
def GramsHoldSaid : Prop := gramsHoldRow.holds Try.pinned (OpenSpec.ofChange gramsHoldSpec)

/-- ITS FALSE NEIGHBOUR: 'it returns false'. Refute it at one input. -/
def gramsHoldWrong : ChangeSpec := { name := "gramsHold", fn := fun _ => fun
  | [d1, d2, d3] => { results := [.lit (.bool false)], args := [d1, d2, d3] }
  | _ => none }
def GramsHoldWrongFalsely : Prop := gramsHoldRow.holds Try.pinned (OpenSpec.ofChange gramsHoldWrong)

/- THE SECOND FORM. 'bulk': how many values and letters a reading holds, each counted each time it is reached (what is shared counts as often as it is met; a slice's spare places count too). A statement '..UptoSaid' is the law's where the arguments, and the package variables that the reading takes, are together of bulk at most 1048576: NARROWER than '..Said'. Prove '..Said' where nothing that the law and all that it calls make is longer than what came in: it says more and counts as full. Else prove '..UptoSaid'. A law counts once. -/
mutual
def uptoBulk {H : Type} : DataW H → Nat
  | .lit (.string bytes) => bytes.length + 1
  | .lit _ => 1
  | .nil => 1
  | .ptr d => uptoBulk d + 1
  | .slice elems spare => uptoBulkAll elems + uptoBulkAll spare + 1
  | .agg parts => uptoBulkAll parts + 1
  | .iface _ d => uptoBulk d + 1
  | .map entries => uptoBulkEntries entries + 1
  | .held _ => 1
def uptoBulkAll {H : Type} : List (DataW H) → Nat
  | [] => 0
  | d :: r => uptoBulk d + uptoBulkAll r
def uptoBulkEntries {H : Type} : List (Lit × DataW H) → Nat
  | [] => 0
  | x :: r => uptoBulkEntry x + uptoBulkEntries r
def uptoBulkEntry {H : Type} : Lit × DataW H → Nat
  | (.string bytes, d) => bytes.length + uptoBulk d + 1
  | (_, d) => uptoBulk d + 1
 end
def uptoSmall : (H : Type) → List (DataW H) → Bool := fun _ ds => decide (uptoBulkAll ds ≤ 1048576)
def OpenSpec.upto (s : _root_.Go.ChangeSpec) : _root_.Go.OpenSpec := { _root_.Go.OpenSpec.ofChange s with cond := some uptoSmall }

/-- 'gladstonelaw07.PmergeMay', WHERE WHAT IT READS IS OF BULK AT MOST 1048576: true; the input reads as it did. -/
def pmergeMayUptoRow : OpenClaim := { program := "ytoefkkgnabjmdaa", sum := "470c985c0e8e9f2954f4c9188cedd279749a8bb2315aa9b24224d5cfe89b52de", func := "gladstone/gladstonelaw07.PmergeMay", spec := "pmergeMay", unfollowed := true, recurses := true, apart := false, narrowed := true }
def PmergeMayUptoSaid : Prop := pmergeMayUptoRow.holds Try.pinned (OpenSpec.upto pmergeMaySpec)

/-- 'gladstonelaw07.PmergeCosts', WHERE WHAT IT READS IS OF BULK AT MOST 1048576: true; the input reads as it did. -/
def pmergeCostsUptoRow : OpenClaim := { program := "ytoefkkgnabjmdaa", sum := "470c985c0e8e9f2954f4c9188cedd279749a8bb2315aa9b24224d5cfe89b52de", func := "gladstone/gladstonelaw07.PmergeCosts", spec := "pmergeCosts", unfollowed := true, recurses := true, apart := false, narrowed := true }
def PmergeCostsUptoSaid : Prop := pmergeCostsUptoRow.holds Try.pinned (OpenSpec.upto pmergeCostsSpec)

/-- 'gladstonelaw07.PmergeBest', WHERE WHAT IT READS IS OF BULK AT MOST 1048576: true; the input reads as it did. -/
def pmergeBestUptoRow : OpenClaim := { program := "ytoefkkgnabjmdaa", sum := "470c985c0e8e9f2954f4c9188cedd279749a8bb2315aa9b24224d5cfe89b52de", func := "gladstone/gladstonelaw07.PmergeBest", spec := "pmergeBest", unfollowed := true, recurses := true, apart := false, narrowed := true }
def PmergeBestUptoSaid : Prop := pmergeBestUptoRow.holds Try.pinned (OpenSpec.upto pmergeBestSpec)

/-- 'gladstonelaw07.PmergeFalls', WHERE WHAT IT READS IS OF BULK AT MOST 1048576: true; the input reads as it did. -/
def pmergeFallsUptoRow : OpenClaim := { program := "ytoefkkgnabjmdaa", sum := "470c985c0e8e9f2954f4c9188cedd279749a8bb2315aa9b24224d5cfe89b52de", func := "gladstone/gladstonelaw07.PmergeFalls", spec := "pmergeFalls", unfollowed := true, recurses := true, apart := false, narrowed := true }
def PmergeFallsUptoSaid : Prop := pmergeFallsUptoRow.holds Try.pinned (OpenSpec.upto pmergeFallsSpec)

/-- 'gladstonelaw57.SpreadQuantiles', WHERE WHAT IT READS IS OF BULK AT MOST 1048576: true; the input reads as it did. -/
def spreadQuantilesUptoRow : OpenClaim := { program := "ytoefkkgnabjmdaa", sum := "470c985c0e8e9f2954f4c9188cedd279749a8bb2315aa9b24224d5cfe89b52de", func := "gladstone/gladstonelaw57.SpreadQuantiles", spec := "spreadQuantiles", unfollowed := true, recurses := true, apart := false, narrowed := true }
def SpreadQuantilesUptoSaid : Prop := spreadQuantilesUptoRow.holds Try.pinned (OpenSpec.upto spreadQuantilesSpec)

/-- 'gladstonelaw24.CountFreqs', WHERE WHAT IT READS IS OF BULK AT MOST 1048576: true; the input reads as it did. -/
def countFreqsUptoRow : OpenClaim := { program := "ytoefkkgnabjmdaa", sum := "470c985c0e8e9f2954f4c9188cedd279749a8bb2315aa9b24224d5cfe89b52de", func := "gladstone/gladstonelaw24.CountFreqs", spec := "countFreqs", unfollowed := true, recurses := true, apart := false, narrowed := true }
def CountFreqsUptoSaid : Prop := countFreqsUptoRow.holds Try.pinned (OpenSpec.upto countFreqsSpec)

/-- 'gladstonelaw24.CountTables', WHERE WHAT IT READS IS OF BULK AT MOST 1048576: true; the input reads as it did. -/
def countTablesUptoRow : OpenClaim := { program := "ytoefkkgnabjmdaa", sum := "470c985c0e8e9f2954f4c9188cedd279749a8bb2315aa9b24224d5cfe89b52de", func := "gladstone/gladstonelaw24.CountTables", spec := "countTables", unfollowed := true, recurses := true, apart := false, narrowed := true }
def CountTablesUptoSaid : Prop := countTablesUptoRow.holds Try.pinned (OpenSpec.upto countTablesSpec)

/-- 'gladstonelaw43.GramsCount', WHERE WHAT IT READS IS OF BULK AT MOST 1048576: true; the input reads as it did. -/
def gramsCountUptoRow : OpenClaim := { program := "ytoefkkgnabjmdaa", sum := "470c985c0e8e9f2954f4c9188cedd279749a8bb2315aa9b24224d5cfe89b52de", func := "gladstone/gladstonelaw43.GramsCount", spec := "gramsCount", inPlace := ["internal/bytealg.IndexByteString", "internal/bytealg.IndexString"], unfollowed := true, recurses := true, named := ["internal/bytealg.MaxLen"], apart := false, narrowed := true }
def GramsCountUptoSaid : Prop := gramsCountUptoRow.holds Try.pinned (OpenSpec.upto gramsCountSpec)

/-- 'gladstonelaw43.GramsHold', WHERE WHAT IT READS IS OF BULK AT MOST 1048576: true; the input reads as it did. -/
def gramsHoldUptoRow : OpenClaim := { program := "ytoefkkgnabjmdaa", sum := "470c985c0e8e9f2954f4c9188cedd279749a8bb2315aa9b24224d5cfe89b52de", func := "gladstone/gladstonelaw43.GramsHold", spec := "gramsHold", inPlace := ["internal/bytealg.IndexByteString", "internal/bytealg.IndexString"], unfollowed := true, recurses := true, named := ["internal/bytealg.MaxLen"], apart := false, narrowed := true }
def GramsHoldUptoSaid : Prop := gramsHoldUptoRow.holds Try.pinned (OpenSpec.upto gramsHoldSpec)

end Rows
end Go.Proofs.Ytoefkkgnabjmdaa
