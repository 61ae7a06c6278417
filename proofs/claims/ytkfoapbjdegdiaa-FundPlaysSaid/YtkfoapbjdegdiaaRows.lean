/-
  No cell of these rows narrows 'for every input' (looked for: loops, veiled, ifaces, maps, wideKeys, modest, calm, conditions, laid).
  DERIVED. THE GIVEN ROWS OF THIS SEAT. 8 by the template 'for every input the law returns true; each argument reads behind the call as it read before'; 0 by the template 'total and deterministic' (their statements: YtkfoapbjdegdiaaTotals.lean).
  GIVEN WITH THE SEED: the statements are not yours to turn. If you find one false, say at which input.
  Laid BY PROGRAM, IN A SANDBOX (cutbox-rows.mjs): the forced cells as the released guide's own fill.sh prints them over the translation 356ad97768a4f09e… (all of the seat's roots in one cut). By AI agents, Wed Nov 11 2026. No macro, syntax, notation, axiom, sorry.
-/
import Derived.Test.YtkfoapbjdegdiaaChecked
import GoSem.Claim
import GoSem.ClaimJoined
import GoSem.ClaimMapViews
import Derived.JoinedTies
import Derived.KernelRfl
namespace Go.Proofs.Ytkfoapbjdegdiaa
/- THE CELL 'sum', in the pinned program and in every row, IS THE sha256 OF THE DUMP (.gsa) THAT YtkfoapbjdegdiaaProg.lean LOADS. Nothing in Lean hashes anything: it is a label: what it is worth is what the hold of that sum in a sandbox is worth. -/
noncomputable def Try.pinned : Pinned := { name := "ytkfoapbjdegdiaa", sum := "356ad97768a4f09ea10a5f2df0adfe6983441aafac1436395f9ea6326088610e", checked := Try.checked }
namespace Rows
def none {H : Type} : Left H := { results := [], args := [] }

/-- 'pledgelaw12.StepPairs': WHATEVER THE INPUT: true; the input reads as it did. -/
def stepPairsSpec : ChangeSpec := { name := "stepPairs", fn := fun _ => fun
  | [d1, d2] => { results := [.lit (.bool true)], args := [d1, d2] }
  | _ => none }
def stepPairsRow : OpenClaim := { program := "ytkfoapbjdegdiaa", sum := "356ad97768a4f09ea10a5f2df0adfe6983441aafac1436395f9ea6326088610e", func := "pledge/pledgelaw12.StepPairs", spec := "stepPairs", inPlace := ["math/bits.Add64"], unfollowed := true, recurses := true, plainKeys := false, apart := false }
def StepPairsSaid : Prop := stepPairsRow.holds Try.pinned (OpenSpec.ofChange stepPairsSpec)

/-- ITS FALSE NEIGHBOUR: 'it returns false'. Refute it at one input. -/
def stepPairsWrong : ChangeSpec := { name := "stepPairs", fn := fun _ => fun
  | [d1, d2] => { results := [.lit (.bool false)], args := [d1, d2] }
  | _ => none }
def StepPairsWrongFalsely : Prop := stepPairsRow.holds Try.pinned (OpenSpec.ofChange stepPairsWrong)

/-- 'pledgelaw18.FundTries': WHATEVER THE INPUT: true; the input reads as it did. -/
def fundTriesSpec : ChangeSpec := { name := "fundTries", fn := fun _ => fun
  | [d1, d2] => { results := [.lit (.bool true)], args := [d1, d2] }
  | _ => none }
def fundTriesRow : OpenClaim := { program := "ytkfoapbjdegdiaa", sum := "356ad97768a4f09ea10a5f2df0adfe6983441aafac1436395f9ea6326088610e", func := "pledge/pledgelaw18.FundTries", spec := "fundTries", unfollowed := true, recurses := true, plainKeys := false, apart := false }
def FundTriesSaid : Prop := fundTriesRow.holds Try.pinned (OpenSpec.ofChange fundTriesSpec)

/-- ITS FALSE NEIGHBOUR: 'it returns false'. Refute it at one input. -/
def fundTriesWrong : ChangeSpec := { name := "fundTries", fn := fun _ => fun
  | [d1, d2] => { results := [.lit (.bool false)], args := [d1, d2] }
  | _ => none }
def FundTriesWrongFalsely : Prop := fundTriesRow.holds Try.pinned (OpenSpec.ofChange fundTriesWrong)

/-- 'pledgelaw18.FundSets': WHATEVER THE INPUT: true; the input reads as it did. -/
def fundSetsSpec : ChangeSpec := { name := "fundSets", fn := fun _ => fun
  | [d1, d2, d3] => { results := [.lit (.bool true)], args := [d1, d2, d3] }
  | _ => none }
def fundSetsRow : OpenClaim := { program := "ytkfoapbjdegdiaa", sum := "356ad97768a4f09ea10a5f2df0adfe6983441aafac1436395f9ea6326088610e", func := "pledge/pledgelaw18.FundSets", spec := "fundSets", unfollowed := true, recurses := true, plainKeys := false, apart := false }
def FundSetsSaid : Prop := fundSetsRow.holds Try.pinned (OpenSpec.ofChange fundSetsSpec)

/-- ITS FALSE NEIGHBOUR: 'it returns false'. Refute it at one input. -/
def fundSetsWrong : ChangeSpec := { name := "fundSets", fn := fun _ => fun
  | [d1, d2, d3] => { results := [.lit (.bool false)], args := [d1, d2, d3] }
  | _ => none }
def FundSetsWrongFalsely : Prop := fundSetsRow.holds Try.pinned (OpenSpec.ofChange fundSetsWrong)

/-- 'pledgelaw12.StepUndoes': WHATEVER THE INPUT: true; the input reads as it did. -/
def stepUndoesSpec : ChangeSpec := { name := "stepUndoes", fn := fun _ => fun
  | [d1, d2, d3] => { results := [.lit (.bool true)], args := [d1, d2, d3] }
  | _ => none }
def stepUndoesRow : OpenClaim := { program := "ytkfoapbjdegdiaa", sum := "356ad97768a4f09ea10a5f2df0adfe6983441aafac1436395f9ea6326088610e", func := "pledge/pledgelaw12.StepUndoes", spec := "stepUndoes", inPlace := ["math/bits.Add64"], unfollowed := true, recurses := true, plainKeys := false, apart := false }
def StepUndoesSaid : Prop := stepUndoesRow.holds Try.pinned (OpenSpec.ofChange stepUndoesSpec)

/-- ITS FALSE NEIGHBOUR: 'it returns false'. Refute it at one input. -/
def stepUndoesWrong : ChangeSpec := { name := "stepUndoes", fn := fun _ => fun
  | [d1, d2, d3] => { results := [.lit (.bool false)], args := [d1, d2, d3] }
  | _ => none }
def StepUndoesWrongFalsely : Prop := stepUndoesRow.holds Try.pinned (OpenSpec.ofChange stepUndoesWrong)

/-- 'pledgelaw18.FundUndoes': WHATEVER THE INPUT: true; the input reads as it did. -/
def fundUndoesSpec : ChangeSpec := { name := "fundUndoes", fn := fun _ => fun
  | [d1, d2, d3] => { results := [.lit (.bool true)], args := [d1, d2, d3] }
  | _ => none }
def fundUndoesRow : OpenClaim := { program := "ytkfoapbjdegdiaa", sum := "356ad97768a4f09ea10a5f2df0adfe6983441aafac1436395f9ea6326088610e", func := "pledge/pledgelaw18.FundUndoes", spec := "fundUndoes", unfollowed := true, recurses := true, plainKeys := false, apart := false }
def FundUndoesSaid : Prop := fundUndoesRow.holds Try.pinned (OpenSpec.ofChange fundUndoesSpec)

/-- ITS FALSE NEIGHBOUR: 'it returns false'. Refute it at one input. -/
def fundUndoesWrong : ChangeSpec := { name := "fundUndoes", fn := fun _ => fun
  | [d1, d2, d3] => { results := [.lit (.bool false)], args := [d1, d2, d3] }
  | _ => none }
def FundUndoesWrongFalsely : Prop := fundUndoesRow.holds Try.pinned (OpenSpec.ofChange fundUndoesWrong)

/-- 'pledgelaw18.FundPlays': WHATEVER THE INPUT: true; the input reads as it did. -/
def fundPlaysSpec : ChangeSpec := { name := "fundPlays", fn := fun _ => fun
  | [d1, d2] => { results := [.lit (.bool true)], args := [d1, d2] }
  | _ => none }
def fundPlaysRow : OpenClaim := { program := "ytkfoapbjdegdiaa", sum := "356ad97768a4f09ea10a5f2df0adfe6983441aafac1436395f9ea6326088610e", func := "pledge/pledgelaw18.FundPlays", spec := "fundPlays", unfollowed := true, recurses := true, plainKeys := false, apart := false }
def FundPlaysSaid : Prop := fundPlaysRow.holds Try.pinned (OpenSpec.ofChange fundPlaysSpec)

/-- ITS FALSE NEIGHBOUR: 'it returns false'. Refute it at one input. -/
def fundPlaysWrong : ChangeSpec := { name := "fundPlays", fn := fun _ => fun
  | [d1, d2] => { results := [.lit (.bool false)], args := [d1, d2] }
  | _ => none }
def FundPlaysWrongFalsely : Prop := fundPlaysRow.holds Try.pinned (OpenSpec.ofChange fundPlaysWrong)

/-- 'pledgelaw18.FundNil': WHATEVER THE INPUT: true; the input reads as it did. -/
def fundNilSpec : ChangeSpec := { name := "fundNil", fn := fun _ => fun
  | [d1, d2] => { results := [.lit (.bool true)], args := [d1, d2] }
  | _ => none }
def fundNilRow : OpenClaim := { program := "ytkfoapbjdegdiaa", sum := "356ad97768a4f09ea10a5f2df0adfe6983441aafac1436395f9ea6326088610e", func := "pledge/pledgelaw18.FundNil", spec := "fundNil", unfollowed := true, recurses := true, plainKeys := false, apart := false }
def FundNilSaid : Prop := fundNilRow.holds Try.pinned (OpenSpec.ofChange fundNilSpec)

/-- ITS FALSE NEIGHBOUR: 'it returns false'. Refute it at one input. -/
def fundNilWrong : ChangeSpec := { name := "fundNil", fn := fun _ => fun
  | [d1, d2] => { results := [.lit (.bool false)], args := [d1, d2] }
  | _ => none }
def FundNilWrongFalsely : Prop := fundNilRow.holds Try.pinned (OpenSpec.ofChange fundNilWrong)

/-- 'pledgelaw13.ProgMoves': WHATEVER THE INPUT: true; the input reads as it did. -/
def progMovesSpec : ChangeSpec := { name := "progMoves", fn := fun _ => fun
  | [d] => { results := [.lit (.bool true)], args := [d] }
  | _ => none }
def progMovesRow : OpenClaim := { program := "ytkfoapbjdegdiaa", sum := "356ad97768a4f09ea10a5f2df0adfe6983441aafac1436395f9ea6326088610e", func := "pledge/pledgelaw13.ProgMoves", spec := "progMoves", inPlace := ["math/bits.Add64"], unfollowed := true, recurses := true, plainKeys := false, apart := false }
def ProgMovesSaid : Prop := progMovesRow.holds Try.pinned (OpenSpec.ofChange progMovesSpec)

/-- ITS FALSE NEIGHBOUR: 'it returns false'. Refute it at one input. -/
def progMovesWrong : ChangeSpec := { name := "progMoves", fn := fun _ => fun
  | [d] => { results := [.lit (.bool false)], args := [d] }
  | _ => none }
def ProgMovesWrongFalsely : Prop := progMovesRow.holds Try.pinned (OpenSpec.ofChange progMovesWrong)

/- THE SECOND FORM. 'bulk': how many values and letters a reading holds, each counted each time it is reached (what is shared counts as often as it is met; a slice's spare places count too). A statement '..UptoSaid' is the law's where the arguments, and the package variables that the reading takes, are together of bulk at most 1048576: NARROWER than '..Said'. Prove '..Said' where nothing that the law and all that it calls make is longer than what came in: it says more and counts as full. Else prove '..UptoSaid'. A law counts once. -/
mutual
def uptoBulk {H : Type} : DataW H → Nat
  | .lit (.string bytes) => bytes.length + 1
  | .lit _ => 1
  | .nil => 1
  | .ptr d => uptoBulk d + 1
  | .slice elems spare => uptoBulkAll elems + uptoBulkAll spare + 1
  | .agg parts => uptoBulkAll parts + 1
  | .iface _ d => uptoBulk d + 1
  | .map entries => uptoBulkEntries entries + 1
  | .held _ => 1
def uptoBulkAll {H : Type} : List (DataW H) → Nat
  | [] => 0
  | d :: r => uptoBulk d + uptoBulkAll r
def uptoBulkEntries {H : Type} : List (Lit × DataW H) → Nat
  | [] => 0
  | x :: r => uptoBulkEntry x + uptoBulkEntries r
def uptoBulkEntry {H : Type} : Lit × DataW H → Nat
  | (.string bytes, d) => bytes.length + uptoBulk d + 1
  | (_, d) => uptoBulk d + 1
 end
def uptoSmall : (H : Type) → List (DataW H) → Bool := fun _ ds => decide (uptoBulkAll ds ≤ 1048576)
def OpenSpec.upto (s : _root_.Go.ChangeSpec) : _root_.Go.OpenSpec := { _root_.Go.OpenSpec.ofChange s with cond := some uptoSmall }

/-- 'pledgelaw12.StepPairs', WHERE WHAT IT READS IS OF BULK AT MOST 1048576: true; the input reads as it did. -/
def stepPairsUptoRow : OpenClaim := { program := "ytkfoapbjdegdiaa", sum := "356ad97768a4f09ea10a5f2df0adfe6983441aafac1436395f9ea6326088610e", func := "pledge/pledgelaw12.StepPairs", spec := "stepPairs", inPlace := ["math/bits.Add64"], unfollowed := true, recurses := true, plainKeys := false, apart := false, narrowed := true }
def StepPairsUptoSaid : Prop := stepPairsUptoRow.holds Try.pinned (OpenSpec.upto stepPairsSpec)

/-- 'pledgelaw18.FundTries', WHERE WHAT IT READS IS OF BULK AT MOST 1048576: true; the input reads as it did. -/
def fundTriesUptoRow : OpenClaim := { program := "ytkfoapbjdegdiaa", sum := "356ad97768a4f09ea10a5f2df0adfe6983441aafac1436395f9ea6326088610e", func := "pledge/pledgelaw18.FundTries", spec := "fundTries", unfollowed := true, recurses := true, plainKeys := false, apart := false, narrowed := true }
def FundTriesUptoSaid : Prop := fundTriesUptoRow.holds Try.pinned (OpenSpec.upto fundTriesSpec)

/-- 'pledgelaw18.FundSets', WHERE WHAT IT READS IS OF BULK AT MOST 1048576: true; the input reads as it did. -/
def fundSetsUptoRow : OpenClaim := { program := "ytkfoapbjdegdiaa", sum := "356ad97768a4f09ea10a5f2df0adfe6983441aafac1436395f9ea6326088610e", func := "pledge/pledgelaw18.FundSets", spec := "fundSets", unfollowed := true, recurses := true, plainKeys := false, apart := false, narrowed := true }
def FundSetsUptoSaid : Prop := fundSetsUptoRow.holds Try.pinned (OpenSpec.upto fundSetsSpec)

/-- 'pledgelaw12.StepUndoes', WHERE WHAT IT READS IS OF BULK AT MOST 1048576: true; the input reads as it did. -/
def stepUndoesUptoRow : OpenClaim := { program := "ytkfoapbjdegdiaa", sum := "356ad97768a4f09ea10a5f2df0adfe6983441aafac1436395f9ea6326088610e", func := "pledge/pledgelaw12.StepUndoes", spec := "stepUndoes", inPlace := ["math/bits.Add64"], unfollowed := true, recurses := true, plainKeys := false, apart := false, narrowed := true }
def StepUndoesUptoSaid : Prop := stepUndoesUptoRow.holds Try.pinned (OpenSpec.upto stepUndoesSpec)

/-- 'pledgelaw18.FundUndoes', WHERE WHAT IT READS IS OF BULK AT MOST 1048576: true; the input reads as it did. -/
def fundUndoesUptoRow : OpenClaim := { program := "ytkfoapbjdegdiaa", sum := "356ad97768a4f09ea10a5f2df0adfe6983441aafac1436395f9ea6326088610e", func := "pledge/pledgelaw18.FundUndoes", spec := "fundUndoes", unfollowed := true, recurses := true, plainKeys := false, apart := false, narrowed := true }
def FundUndoesUptoSaid : Prop := fundUndoesUptoRow.holds Try.pinned (OpenSpec.upto fundUndoesSpec)

/-- 'pledgelaw18.FundPlays', WHERE WHAT IT READS IS OF BULK AT MOST 1048576: true; the input reads as it did. -/
def fundPlaysUptoRow : OpenClaim := { program := "ytkfoapbjdegdiaa", sum := "356ad97768a4f09ea10a5f2df0adfe6983441aafac1436395f9ea6326088610e", func := "pledge/pledgelaw18.FundPlays", spec := "fundPlays", unfollowed := true, recurses := true, plainKeys := false, apart := false, narrowed := true }
def FundPlaysUptoSaid : Prop := fundPlaysUptoRow.holds Try.pinned (OpenSpec.upto fundPlaysSpec)

/-- 'pledgelaw18.FundNil', WHERE WHAT IT READS IS OF BULK AT MOST 1048576: true; the input reads as it did. -/
def fundNilUptoRow : OpenClaim := { program := "ytkfoapbjdegdiaa", sum := "356ad97768a4f09ea10a5f2df0adfe6983441aafac1436395f9ea6326088610e", func := "pledge/pledgelaw18.FundNil", spec := "fundNil", unfollowed := true, recurses := true, plainKeys := false, apart := false, narrowed := true }
def FundNilUptoSaid : Prop := fundNilUptoRow.holds Try.pinned (OpenSpec.upto fundNilSpec)

/-- 'pledgelaw13.ProgMoves', WHERE WHAT IT READS IS OF BULK AT MOST 1048576: true; the input reads as it did. -/
def progMovesUptoRow : OpenClaim := { program := "ytkfoapbjdegdiaa", sum := "356ad97768a4f09ea10a5f2df0adfe6983441aafac1436395f9ea6326088610e", func := "pledge/pledgelaw13.ProgMoves", spec := "progMoves", inPlace := ["math/bits.Add64"], unfollowed := true, recurses := true, plainKeys := false, apart := false, narrowed := true }
def ProgMovesUptoSaid : Prop := progMovesUptoRow.holds Try.pinned (OpenSpec.upto progMovesSpec)

end Rows
end Go.Proofs.Ytkfoapbjdegdiaa
