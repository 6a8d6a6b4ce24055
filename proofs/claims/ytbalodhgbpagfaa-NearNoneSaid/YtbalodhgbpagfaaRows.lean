/-
  No cell of these rows narrows 'for every input' (looked for: loops, veiled, ifaces, maps, wideKeys, modest, calm, conditions, laid).
  DERIVED. THE GIVEN ROWS OF THIS SEAT. 3 by the template 'for every input the law returns true; each argument reads behind the call as it read before'; 0 by the template 'total and deterministic' (their statements: YtbalodhgbpagfaaTotals.lean).
  GIVEN WITH THE SEED: the statements are not yours to turn. If you find one false, say at which input.
  Laid BY PROGRAM, IN A SANDBOX (cutbox-rows.mjs): the forced cells as the released guide's own fill.sh prints them over the translation d6619c686fc64a6c… (all of the seat's roots in one cut). By AI agents, Wed Nov 11 2026. No macro, syntax, notation, axiom, sorry.
-/
import Derived.Test.YtbalodhgbpagfaaChecked
import GoSem.Claim
import GoSem.ClaimJoined
import GoSem.ClaimMapViews
import Derived.JoinedTies
import Derived.KernelRfl
namespace Go.Proofs.Ytbalodhgbpagfaa
/- THE CELL 'sum', in the pinned program and in every row, IS THE sha256 OF THE DUMP (.gsa) THAT YtbalodhgbpagfaaProg.lean LOADS. Nothing in Lean hashes anything: it is a label: what it is worth is what the hold of that sum in a sandbox is worth. -/
noncomputable def Try.pinned : Pinned := { name := "ytbalodhgbpagfaa", sum := "d6619c686fc64a6cb533cf2c20370c14f3e807cd647dce2d0d3dee758ff63894", checked := Try.checked }
namespace Rows
def none {H : Type} : Left H := { results := [], args := [] }

/-- 'gladstonelaw21.NearAll': WHATEVER THE INPUT: true; the input reads as it did. -/
def nearAllSpec : ChangeSpec := { name := "nearAll", fn := fun _ => fun
  | [d1, d2, d3] => { results := [.lit (.bool true)], args := [d1, d2, d3] }
  | _ => none }
def nearAllRow : OpenClaim := { program := "ytbalodhgbpagfaa", sum := "d6619c686fc64a6cb533cf2c20370c14f3e807cd647dce2d0d3dee758ff63894", func := "gladstone/gladstonelaw21.NearAll", spec := "nearAll", unfollowed := true, recurses := true, apart := false }
def NearAllSaid : Prop := nearAllRow.holds Try.pinned (OpenSpec.ofChange nearAllSpec)

/-- ITS FALSE NEIGHBOUR: 'it returns false'. Refute it at one input. -/
def nearAllWrong : ChangeSpec := { name := "nearAll", fn := fun _ => fun
  | [d1, d2, d3] => { results := [.lit (.bool false)], args := [d1, d2, d3] }
  | _ => none }
def NearAllWrongFalsely : Prop := nearAllRow.holds Try.pinned (OpenSpec.ofChange nearAllWrong)

/-- 'gladstonelaw21.NearKnows': WHATEVER THE INPUT: true; the input reads as it did. -/
def nearKnowsSpec : ChangeSpec := { name := "nearKnows", fn := fun _ => fun
  | [d1, d2, d3] => { results := [.lit (.bool true)], args := [d1, d2, d3] }
  | _ => none }
def nearKnowsRow : OpenClaim := { program := "ytbalodhgbpagfaa", sum := "d6619c686fc64a6cb533cf2c20370c14f3e807cd647dce2d0d3dee758ff63894", func := "gladstone/gladstonelaw21.NearKnows", spec := "nearKnows", unfollowed := true, recurses := true, apart := false }
def NearKnowsSaid : Prop := nearKnowsRow.holds Try.pinned (OpenSpec.ofChange nearKnowsSpec)

/-- ITS FALSE NEIGHBOUR: 'it returns false'. Refute it at one input. -/
def nearKnowsWrong : ChangeSpec := { name := "nearKnows", fn := fun _ => fun
  | [d1, d2, d3] => { results := [.lit (.bool false)], args := [d1, d2, d3] }
  | _ => none }
def NearKnowsWrongFalsely : Prop := nearKnowsRow.holds Try.pinned (OpenSpec.ofChange nearKnowsWrong)

/-- 'gladstonelaw21.NearNone': WHATEVER THE INPUT: true; the input reads as it did. -/
def nearNoneSpec : ChangeSpec := { name := "nearNone", fn := fun _ => fun
  | [d1, d2, d3] => { results := [.lit (.bool true)], args := [d1, d2, d3] }
  | _ => none }
def nearNoneRow : OpenClaim := { program := "ytbalodhgbpagfaa", sum := "d6619c686fc64a6cb533cf2c20370c14f3e807cd647dce2d0d3dee758ff63894", func := "gladstone/gladstonelaw21.NearNone", spec := "nearNone", unfollowed := true, recurses := true, apart := false }
def NearNoneSaid : Prop := nearNoneRow.holds Try.pinned (OpenSpec.ofChange nearNoneSpec)

/-- ITS FALSE NEIGHBOUR: 'it returns false'. Refute it at one input. -/
def nearNoneWrong : ChangeSpec := { name := "nearNone", fn := fun _ => fun
  | [d1, d2, d3] => { results := [.lit (.bool false)], args := [d1, d2, d3] }
  | _ => none }
def NearNoneWrongFalsely : Prop := nearNoneRow.holds Try.pinned (OpenSpec.ofChange nearNoneWrong)

/- THE SECOND FORM. 'bulk': how many values and letters a reading holds, each counted each time it is reached (what is shared counts as often as it is met; a slice's spare places count too). A statement '..UptoSaid' is the law's where the arguments, and the package variables that the reading takes, are together of bulk at most 1048576: NARROWER than '..Said'. Prove '..Said' where nothing that the law and all that it calls make is longer than what came in: it says more and counts as full. Else prove '..UptoSaid'. A law counts once. -/
mutual
def uptoBulk {H : Type} : DataW H → Nat
  | .lit (.string bytes) => bytes.length + 1
  | .lit _ => 1
  | .nil => 1
  | .ptr d => uptoBulk d + 1
  | .slice elems spare => uptoBulkAll elems + uptoBulkAll spare + 1
  | .agg parts => uptoBulkAll parts + 1
  | .iface _ d => uptoBulk d + 1
  | .map entries => uptoBulkEntries entries + 1
  | .held _ => 1
def uptoBulkAll {H : Type} : List (DataW H) → Nat
  | [] => 0
  | d :: r => uptoBulk d + uptoBulkAll r
def uptoBulkEntries {H : Type} : List (Lit × DataW H) → Nat
  | [] => 0
  | x :: r => uptoBulkEntry x + uptoBulkEntries r
def uptoBulkEntry {H : Type} : Lit × DataW H → Nat
  | (.string bytes, d) => bytes.length + uptoBulk d + 1
  | (_, d) => uptoBulk d + 1
 end
def uptoSmall : (H : Type) → List (DataW H) → Bool := fun _ ds => decide (uptoBulkAll ds ≤ 1048576)
def OpenSpec.upto (s : _root_.Go.ChangeSpec) : _root_.Go.OpenSpec := { _root_.Go.OpenSpec.ofChange s with cond := some uptoSmall }

/-- 'gladstonelaw21.NearAll', WHERE WHAT IT READS IS OF BULK AT MOST 1048576: true; the input reads as it did. -/
def nearAllUptoRow : OpenClaim := { program := "ytbalodhgbpagfaa", sum := "d6619c686fc64a6cb533cf2c20370c14f3e807cd647dce2d0d3dee758ff63894", func := "gladstone/gladstonelaw21.NearAll", spec := "nearAll", unfollowed := true, recurses := true, apart := false, narrowed := true }
def NearAllUptoSaid : Prop := nearAllUptoRow.holds Try.pinned (OpenSpec.upto nearAllSpec)

/-- 'gladstonelaw21.NearKnows', WHERE WHAT IT READS IS OF BULK AT MOST 1048576: true; the input reads as it did. -/
def nearKnowsUptoRow : OpenClaim := { program := "ytbalodhgbpagfaa", sum := "d6619c686fc64a6cb533cf2c20370c14f3e807cd647dce2d0d3dee758ff63894", func := "gladstone/gladstonelaw21.NearKnows", spec := "nearKnows", unfollowed := true, recurses := true, apart := false, narrowed := true }
def NearKnowsUptoSaid : Prop := nearKnowsUptoRow.holds Try.pinned (OpenSpec.upto nearKnowsSpec)

/-- 'gladstonelaw21.NearNone', WHERE WHAT IT READS IS OF BULK AT MOST 1048576: true; the input reads as it did. -/
def nearNoneUptoRow : OpenClaim := { program := "ytbalodhgbpagfaa", sum := "d6619c686fc64a6cb533cf2c20370c14f3e807cd647dce2d0d3dee758ff63894", func := "gladstone/gladstonelaw21.NearNone", spec := "nearNone", unfollowed := true, recurses := true, apart := false, narrowed := true }
def NearNoneUptoSaid : Prop := nearNoneUptoRow.holds Try.pinned (OpenSpec.upto nearNoneSpec)

end Rows
end Go.Proofs.Ytbalodhgbpagfaa
