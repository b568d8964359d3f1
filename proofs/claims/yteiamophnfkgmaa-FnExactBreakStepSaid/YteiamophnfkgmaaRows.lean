/-
  No cell of these rows narrows 'for every input' (looked for: loops, veiled, ifaces, maps, wideKeys, modest, calm, conditions, laid).
  DERIVED. THE GIVEN ROWS OF THIS SEAT. 3 by the template 'for every input the law returns true; each argument reads behind the call as it read before'; 0 by the template 'total and deterministic' (their statements: YteiamophnfkgmaaTotals.lean).
  GIVEN WITH THE SEED: the statements are not yours to turn. If you find one false, say at which input.
  Laid BY PROGRAM, IN A SANDBOX (cutbox-rows.mjs): the forced cells as the released guide's own fill.sh prints them over the translation 42ee591e4abb4e20… (all of the seat's roots in one cut). By AI agents, Wed Nov 11 2026. No macro, syntax, notation, axiom, sorry.
-/
import Derived.Test.YteiamophnfkgmaaChecked
import GoSem.Claim
import GoSem.ClaimJoined
import GoSem.ClaimMapViews
import Derived.JoinedTies
import Derived.KernelRfl
namespace Go.Proofs.Yteiamophnfkgmaa
/- THE CELL 'sum', in the pinned program and in every row, IS THE sha256 OF THE DUMP (.gsa) THAT YteiamophnfkgmaaProg.lean LOADS. Nothing in Lean hashes anything: it is a label: what it is worth is what the hold of that sum in a sandbox is worth. -/
noncomputable def Try.pinned : Pinned := { name := "yteiamophnfkgmaa", sum := "42ee591e4abb4e203ffe813753620394442f63063b05291288ae8583bcdaeaeb", checked := Try.checked }
namespace Rows
def none {H : Type} : Left H := { results := [], args := [] }

/-- 'laws.FnExactBreakStep': WHATEVER THE INPUT: true; the input reads as it did. -/
def fnExactBreakStepSpec : ChangeSpec := { name := "fnExactBreakStep", fn := fun _ => fun
  | [d1, d2] => { results := [.lit (.bool true)], args := [d1, d2] }
  | _ => none }
def fnExactBreakStepRow : OpenClaim := { program := "yteiamophnfkgmaa", sum := "42ee591e4abb4e203ffe813753620394442f63063b05291288ae8583bcdaeaeb", func := "loop.example/g01374/laws.FnExactBreakStep", spec := "fnExactBreakStep", recurses := true, apart := false }
def FnExactBreakStepSaid : Prop := fnExactBreakStepRow.holds Try.pinned (OpenSpec.ofChange fnExactBreakStepSpec)

/-- ITS FALSE NEIGHBOUR: 'it returns false'. Refute it at one input. -/
def fnExactBreakStepWrong : ChangeSpec := { name := "fnExactBreakStep", fn := fun _ => fun
  | [d1, d2] => { results := [.lit (.bool false)], args := [d1, d2] }
  | _ => none }
def FnExactBreakStepWrongFalsely : Prop := fnExactBreakStepRow.holds Try.pinned (OpenSpec.ofChange fnExactBreakStepWrong)

/-- 'laws.FnClimbsRankedOfAll': WHATEVER THE INPUT: true; the input reads as it did. -/
def fnClimbsRankedOfAllSpec : ChangeSpec := { name := "fnClimbsRankedOfAll", fn := fun _ => fun
  | [d1, d2, d3, d4, d5, d6] => { results := [.lit (.bool true)], args := [d1, d2, d3, d4, d5, d6] }
  | _ => none }
def fnClimbsRankedOfAllRow : OpenClaim := { program := "yteiamophnfkgmaa", sum := "42ee591e4abb4e203ffe813753620394442f63063b05291288ae8583bcdaeaeb", func := "loop.example/g01374/laws.FnClimbsRankedOfAll", spec := "fnClimbsRankedOfAll", unfollowed := true, recurses := true, apart := false }
def FnClimbsRankedOfAllSaid : Prop := fnClimbsRankedOfAllRow.holds Try.pinned (OpenSpec.ofChange fnClimbsRankedOfAllSpec)

/-- ITS FALSE NEIGHBOUR: 'it returns false'. Refute it at one input. -/
def fnClimbsRankedOfAllWrong : ChangeSpec := { name := "fnClimbsRankedOfAll", fn := fun _ => fun
  | [d1, d2, d3, d4, d5, d6] => { results := [.lit (.bool false)], args := [d1, d2, d3, d4, d5, d6] }
  | _ => none }
def FnClimbsRankedOfAllWrongFalsely : Prop := fnClimbsRankedOfAllRow.holds Try.pinned (OpenSpec.ofChange fnClimbsRankedOfAllWrong)

/-- 'laws.FnClimbsRanked': WHATEVER THE INPUT: true; the input reads as it did. -/
def fnClimbsRankedSpec : ChangeSpec := { name := "fnClimbsRanked", fn := fun _ => fun
  | [d1, d2] => { results := [.lit (.bool true)], args := [d1, d2] }
  | _ => none }
def fnClimbsRankedRow : OpenClaim := { program := "yteiamophnfkgmaa", sum := "42ee591e4abb4e203ffe813753620394442f63063b05291288ae8583bcdaeaeb", func := "loop.example/g01374/laws.FnClimbsRanked", spec := "fnClimbsRanked", unfollowed := true, recurses := true, apart := false }
def FnClimbsRankedSaid : Prop := fnClimbsRankedRow.holds Try.pinned (OpenSpec.ofChange fnClimbsRankedSpec)

/-- ITS FALSE NEIGHBOUR: 'it returns false'. Refute it at one input. -/
def fnClimbsRankedWrong : ChangeSpec := { name := "fnClimbsRanked", fn := fun _ => fun
  | [d1, d2] => { results := [.lit (.bool false)], args := [d1, d2] }
  | _ => none }
def FnClimbsRankedWrongFalsely : Prop := fnClimbsRankedRow.holds Try.pinned (OpenSpec.ofChange fnClimbsRankedWrong)

/- THE SECOND FORM. 'bulk': how many values and letters a reading holds, each counted each time it is reached (what is shared counts as often as it is met; a slice's spare places count too). A statement '..UptoSaid' is the law's where the arguments, and the package variables that the reading takes, are together of bulk at most 1048576: NARROWER than '..Said'. Prove '..Said' where nothing that the law and all that it calls make is longer than what came in: it says more and counts as full. Else prove '..UptoSaid'. A law counts once. -/
mutual
def uptoBulk {H : Type} : DataW H → Nat
  | .lit (.string bytes) => bytes.length + 1
  | .lit _ => 1
  | .nil => 1
  | .ptr d => uptoBulk d + 1
  | .slice elems spare => uptoBulkAll elems + uptoBulkAll spare + 1
  | .agg parts => uptoBulkAll parts + 1
  | .iface _ d => uptoBulk d + 1
  | .map entries => uptoBulkEntries entries + 1
  | .held _ => 1
def uptoBulkAll {H : Type} : List (DataW H) → Nat
  | [] => 0
  | d :: r => uptoBulk d + uptoBulkAll r
def uptoBulkEntries {H : Type} : List (Lit × DataW H) → Nat
  | [] => 0
  | x :: r => uptoBulkEntry x + uptoBulkEntries r
def uptoBulkEntry {H : Type} : Lit × DataW H → Nat
  | (.string bytes, d) => bytes.length + uptoBulk d + 1
  | (_, d) => uptoBulk d + 1
 end
def uptoSmall : (H : Type) → List (DataW H) → Bool := fun _ ds => decide (uptoBulkAll ds ≤ 1048576)
def OpenSpec.upto (s : _root_.Go.ChangeSpec) : _root_.Go.OpenSpec := { _root_.Go.OpenSpec.ofChange s with cond := some uptoSmall }

/-- 'laws.FnExactBreakStep', WHERE WHAT IT READS IS OF BULK AT MOST 1048576: true; the input reads as it did. -/
def fnExactBreakStepUptoRow : OpenClaim := { program := "yteiamophnfkgmaa", sum := "42ee591e4abb4e203ffe813753620394442f63063b05291288ae8583bcdaeaeb", func := "loop.example/g01374/laws.FnExactBreakStep", spec := "fnExactBreakStep", recurses := true, apart := false, narrowed := true }
def FnExactBreakStepUptoSaid : Prop := fnExactBreakStepUptoRow.holds Try.pinned (OpenSpec.upto fnExactBreakStepSpec)

/-- 'laws.FnClimbsRankedOfAll', WHERE WHAT IT READS IS OF BULK AT MOST 1048576: true; the input reads as it did. -/
def fnClimbsRankedOfAllUptoRow : OpenClaim := { program := "yteiamophnfkgmaa", sum := "42ee591e4abb4e203ffe813753620394442f63063b05291288ae8583bcdaeaeb", func := "loop.example/g01374/laws.FnClimbsRankedOfAll", spec := "fnClimbsRankedOfAll", unfollowed := true, recurses := true, apart := false, narrowed := true }
def FnClimbsRankedOfAllUptoSaid : Prop := fnClimbsRankedOfAllUptoRow.holds Try.pinned (OpenSpec.upto fnClimbsRankedOfAllSpec)

/-- 'laws.FnClimbsRanked', WHERE WHAT IT READS IS OF BULK AT MOST 1048576: true; the input reads as it did. -/
def fnClimbsRankedUptoRow : OpenClaim := { program := "yteiamophnfkgmaa", sum := "42ee591e4abb4e203ffe813753620394442f63063b05291288ae8583bcdaeaeb", func := "loop.example/g01374/laws.FnClimbsRanked", spec := "fnClimbsRanked", unfollowed := true, recurses := true, apart := false, narrowed := true }
def FnClimbsRankedUptoSaid : Prop := fnClimbsRankedUptoRow.holds Try.pinned (OpenSpec.upto fnClimbsRankedSpec)

end Rows
end Go.Proofs.Yteiamophnfkgmaa
