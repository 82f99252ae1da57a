/-
  No cell of these rows narrows 'for every input' (looked for: loops, veiled, ifaces, maps, wideKeys, modest, calm, conditions, laid).
  DERIVED. THE GIVEN ROWS OF THIS SEAT. 16 by the template 'for every input the law returns true; each argument reads behind the call as it read before'; 0 by the template 'total and deterministic' (their statements: YtpliondhiahhnaaTotals.lean).
  GIVEN WITH THE SEED: the statements are not yours to turn. If you find one false, say at which input.
  Laid BY PROGRAM, IN A SANDBOX (cutbox-rows.mjs): the forced cells as the released guide's own fill.sh prints them over the translation 2e7f780f59c95b09… (all of the seat's roots in one cut). By AI agents, Wed Nov 11 2026. No macro, syntax, notation, axiom, sorry.
-/
import Derived.Test.YtpliondhiahhnaaChecked
import GoSem.Claim
import GoSem.ClaimJoined
import GoSem.ClaimMapViews
import Derived.JoinedTies
import Derived.KernelRfl
namespace Go.Proofs.Ytpliondhiahhnaa
/- THE CELL 'sum', in the pinned program and in every row, IS THE sha256 OF THE DUMP (.gsa) THAT YtpliondhiahhnaaProg.lean LOADS. Nothing in Lean hashes anything: it is a label: what it is worth is what the hold of that sum in a sandbox is worth. -/
noncomputable def Try.pinned : Pinned := { name := "ytpliondhiahhnaa", sum := "2e7f780f59c95b09173d7bb47df753158512073af73ad032d9b1ae16d9aef4f6", checked := Try.checked }
namespace Rows
def none {H : Type} : Left H := { results := [], args := [] }

/-- 'grottolaw03.SoftMuls': WHATEVER THE INPUT: true; the input reads as it did. -/
def softMulsSpec : ChangeSpec := { name := "softMuls", fn := fun _ => fun
  | [d1, d2, d3] => { results := [.lit (.bool true)], args := [d1, d2, d3] }
  | _ => none }
def softMulsRow : OpenClaim := { program := "ytpliondhiahhnaa", sum := "2e7f780f59c95b09173d7bb47df753158512073af73ad032d9b1ae16d9aef4f6", func := "grotto/grottolaw03.SoftMuls", spec := "softMuls", inPlace := ["math/bits.Add64", "math/bits.Sub64"], named := ["math/bits.divideError", "math/bits.overflowError"], apart := false }
def SoftMulsSaid : Prop := softMulsRow.holds Try.pinned (OpenSpec.ofChange softMulsSpec)

/-- ITS FALSE NEIGHBOUR: 'it returns false'. Refute it at one input. -/
def softMulsWrong : ChangeSpec := { name := "softMuls", fn := fun _ => fun
  | [d1, d2, d3] => { results := [.lit (.bool false)], args := [d1, d2, d3] }
  | _ => none }
def SoftMulsWrongFalsely : Prop := softMulsRow.holds Try.pinned (OpenSpec.ofChange softMulsWrong)

/-- 'grottolaw03.SoftCompares': WHATEVER THE INPUT: true; the input reads as it did. -/
def softComparesSpec : ChangeSpec := { name := "softCompares", fn := fun _ => fun
  | [d1, d2, d3] => { results := [.lit (.bool true)], args := [d1, d2, d3] }
  | _ => none }
def softComparesRow : OpenClaim := { program := "ytpliondhiahhnaa", sum := "2e7f780f59c95b09173d7bb47df753158512073af73ad032d9b1ae16d9aef4f6", func := "grotto/grottolaw03.SoftCompares", spec := "softCompares", inPlace := ["math/bits.Add64", "math/bits.Sub64"], named := ["math/bits.divideError", "math/bits.overflowError"], apart := false }
def SoftComparesSaid : Prop := softComparesRow.holds Try.pinned (OpenSpec.ofChange softComparesSpec)

/-- ITS FALSE NEIGHBOUR: 'it returns false'. Refute it at one input. -/
def softComparesWrong : ChangeSpec := { name := "softCompares", fn := fun _ => fun
  | [d1, d2, d3] => { results := [.lit (.bool false)], args := [d1, d2, d3] }
  | _ => none }
def SoftComparesWrongFalsely : Prop := softComparesRow.holds Try.pinned (OpenSpec.ofChange softComparesWrong)

/-- 'grottolaw03.SoftRises': WHATEVER THE INPUT: true; the input reads as it did. -/
def softRisesSpec : ChangeSpec := { name := "softRises", fn := fun _ => fun
  | [d1, d2, d3, d4] => { results := [.lit (.bool true)], args := [d1, d2, d3, d4] }
  | _ => none }
def softRisesRow : OpenClaim := { program := "ytpliondhiahhnaa", sum := "2e7f780f59c95b09173d7bb47df753158512073af73ad032d9b1ae16d9aef4f6", func := "grotto/grottolaw03.SoftRises", spec := "softRises", inPlace := ["math/bits.Add64", "math/bits.Sub64"], named := ["math/bits.divideError", "math/bits.overflowError"], apart := false }
def SoftRisesSaid : Prop := softRisesRow.holds Try.pinned (OpenSpec.ofChange softRisesSpec)

/-- ITS FALSE NEIGHBOUR: 'it returns false'. Refute it at one input. -/
def softRisesWrong : ChangeSpec := { name := "softRises", fn := fun _ => fun
  | [d1, d2, d3, d4] => { results := [.lit (.bool false)], args := [d1, d2, d3, d4] }
  | _ => none }
def SoftRisesWrongFalsely : Prop := softRisesRow.holds Try.pinned (OpenSpec.ofChange softRisesWrong)

/-- 'grottolaw03.SoftBetween': WHATEVER THE INPUT: true; the input reads as it did. -/
def softBetweenSpec : ChangeSpec := { name := "softBetween", fn := fun _ => fun
  | [d1, d2] => { results := [.lit (.bool true)], args := [d1, d2] }
  | _ => none }
def softBetweenRow : OpenClaim := { program := "ytpliondhiahhnaa", sum := "2e7f780f59c95b09173d7bb47df753158512073af73ad032d9b1ae16d9aef4f6", func := "grotto/grottolaw03.SoftBetween", spec := "softBetween", inPlace := ["math/bits.Add64", "math/bits.Sub64"], named := ["math/bits.divideError", "math/bits.overflowError"], apart := false }
def SoftBetweenSaid : Prop := softBetweenRow.holds Try.pinned (OpenSpec.ofChange softBetweenSpec)

/-- ITS FALSE NEIGHBOUR: 'it returns false'. Refute it at one input. -/
def softBetweenWrong : ChangeSpec := { name := "softBetween", fn := fun _ => fun
  | [d1, d2] => { results := [.lit (.bool false)], args := [d1, d2] }
  | _ => none }
def SoftBetweenWrongFalsely : Prop := softBetweenRow.holds Try.pinned (OpenSpec.ofChange softBetweenWrong)

/-- 'grottolaw03.SoftWholes': WHATEVER THE INPUT: true; the input reads as it did. -/
def softWholesSpec : ChangeSpec := { name := "softWholes", fn := fun _ => fun
  | [d1, d2, d3] => { results := [.lit (.bool true)], args := [d1, d2, d3] }
  | _ => none }
def softWholesRow : OpenClaim := { program := "ytpliondhiahhnaa", sum := "2e7f780f59c95b09173d7bb47df753158512073af73ad032d9b1ae16d9aef4f6", func := "grotto/grottolaw03.SoftWholes", spec := "softWholes", inPlace := ["math/bits.Add64", "math/bits.Sub64"], named := ["math/bits.divideError", "math/bits.overflowError"], apart := false }
def SoftWholesSaid : Prop := softWholesRow.holds Try.pinned (OpenSpec.ofChange softWholesSpec)

/-- ITS FALSE NEIGHBOUR: 'it returns false'. Refute it at one input. -/
def softWholesWrong : ChangeSpec := { name := "softWholes", fn := fun _ => fun
  | [d1, d2, d3] => { results := [.lit (.bool false)], args := [d1, d2, d3] }
  | _ => none }
def SoftWholesWrongFalsely : Prop := softWholesRow.holds Try.pinned (OpenSpec.ofChange softWholesWrong)

/-- 'grottolaw03.SoftWider': WHATEVER THE INPUT: true; the input reads as it did. -/
def softWiderSpec : ChangeSpec := { name := "softWider", fn := fun _ => fun
  | [d1, d2, d3] => { results := [.lit (.bool true)], args := [d1, d2, d3] }
  | _ => none }
def softWiderRow : OpenClaim := { program := "ytpliondhiahhnaa", sum := "2e7f780f59c95b09173d7bb47df753158512073af73ad032d9b1ae16d9aef4f6", func := "grotto/grottolaw03.SoftWider", spec := "softWider", inPlace := ["math/bits.Add64", "math/bits.Sub64"], named := ["math/bits.divideError", "math/bits.overflowError"], apart := false }
def SoftWiderSaid : Prop := softWiderRow.holds Try.pinned (OpenSpec.ofChange softWiderSpec)

/-- ITS FALSE NEIGHBOUR: 'it returns false'. Refute it at one input. -/
def softWiderWrong : ChangeSpec := { name := "softWider", fn := fun _ => fun
  | [d1, d2, d3] => { results := [.lit (.bool false)], args := [d1, d2, d3] }
  | _ => none }
def SoftWiderWrongFalsely : Prop := softWiderRow.holds Try.pinned (OpenSpec.ofChange softWiderWrong)

/-- 'grottolaw03.SoftTurns': WHATEVER THE INPUT: true; the input reads as it did. -/
def softTurnsSpec : ChangeSpec := { name := "softTurns", fn := fun _ => fun
  | [d1, d2, d3] => { results := [.lit (.bool true)], args := [d1, d2, d3] }
  | _ => none }
def softTurnsRow : OpenClaim := { program := "ytpliondhiahhnaa", sum := "2e7f780f59c95b09173d7bb47df753158512073af73ad032d9b1ae16d9aef4f6", func := "grotto/grottolaw03.SoftTurns", spec := "softTurns", inPlace := ["math/bits.Add64", "math/bits.Sub64"], named := ["math/bits.divideError", "math/bits.overflowError"], apart := false }
def SoftTurnsSaid : Prop := softTurnsRow.holds Try.pinned (OpenSpec.ofChange softTurnsSpec)

/-- ITS FALSE NEIGHBOUR: 'it returns false'. Refute it at one input. -/
def softTurnsWrong : ChangeSpec := { name := "softTurns", fn := fun _ => fun
  | [d1, d2, d3] => { results := [.lit (.bool false)], args := [d1, d2, d3] }
  | _ => none }
def SoftTurnsWrongFalsely : Prop := softTurnsRow.holds Try.pinned (OpenSpec.ofChange softTurnsWrong)

/-- 'grottolaw04.RealsSingles': WHATEVER THE INPUT: true; the input reads as it did. -/
def realsSinglesSpec : ChangeSpec := { name := "realsSingles", fn := fun _ => fun
  | [d1, d2, d3] => { results := [.lit (.bool true)], args := [d1, d2, d3] }
  | _ => none }
def realsSinglesRow : OpenClaim := { program := "ytpliondhiahhnaa", sum := "2e7f780f59c95b09173d7bb47df753158512073af73ad032d9b1ae16d9aef4f6", func := "grotto/grottolaw04.RealsSingles", spec := "realsSingles", inPlace := ["math/bits.Add64", "math/bits.Sub64"], named := ["math/bits.divideError", "math/bits.overflowError"], apart := false }
def RealsSinglesSaid : Prop := realsSinglesRow.holds Try.pinned (OpenSpec.ofChange realsSinglesSpec)

/-- ITS FALSE NEIGHBOUR: 'it returns false'. Refute it at one input. -/
def realsSinglesWrong : ChangeSpec := { name := "realsSingles", fn := fun _ => fun
  | [d1, d2, d3] => { results := [.lit (.bool false)], args := [d1, d2, d3] }
  | _ => none }
def RealsSinglesWrongFalsely : Prop := realsSinglesRow.holds Try.pinned (OpenSpec.ofChange realsSinglesWrong)

/-- 'grottolaw04.RealsDoubles': WHATEVER THE INPUT: true; the input reads as it did. -/
def realsDoublesSpec : ChangeSpec := { name := "realsDoubles", fn := fun _ => fun
  | [d1, d2, d3] => { results := [.lit (.bool true)], args := [d1, d2, d3] }
  | _ => none }
def realsDoublesRow : OpenClaim := { program := "ytpliondhiahhnaa", sum := "2e7f780f59c95b09173d7bb47df753158512073af73ad032d9b1ae16d9aef4f6", func := "grotto/grottolaw04.RealsDoubles", spec := "realsDoubles", inPlace := ["math/bits.Add64", "math/bits.Sub64"], named := ["math/bits.divideError", "math/bits.overflowError"], apart := false }
def RealsDoublesSaid : Prop := realsDoublesRow.holds Try.pinned (OpenSpec.ofChange realsDoublesSpec)

/-- ITS FALSE NEIGHBOUR: 'it returns false'. Refute it at one input. -/
def realsDoublesWrong : ChangeSpec := { name := "realsDoubles", fn := fun _ => fun
  | [d1, d2, d3] => { results := [.lit (.bool false)], args := [d1, d2, d3] }
  | _ => none }
def RealsDoublesWrongFalsely : Prop := realsDoublesRow.holds Try.pinned (OpenSpec.ofChange realsDoublesWrong)

/-- 'grottolaw04.RealsHolds': WHATEVER THE INPUT: true; the input reads as it did. -/
def realsHoldsSpec : ChangeSpec := { name := "realsHolds", fn := fun _ => fun
  | [d1, d2, d3, d4, d5, d6, d7] => { results := [.lit (.bool true)], args := [d1, d2, d3, d4, d5, d6, d7] }
  | _ => none }
def realsHoldsRow : OpenClaim := { program := "ytpliondhiahhnaa", sum := "2e7f780f59c95b09173d7bb47df753158512073af73ad032d9b1ae16d9aef4f6", func := "grotto/grottolaw04.RealsHolds", spec := "realsHolds", inPlace := ["math/bits.Add64", "math/bits.Sub64"], recurses := true, named := ["math/bits.divideError", "math/bits.overflowError"], apart := false }
def RealsHoldsSaid : Prop := realsHoldsRow.holds Try.pinned (OpenSpec.ofChange realsHoldsSpec)

/-- ITS FALSE NEIGHBOUR: 'it returns false'. Refute it at one input. -/
def realsHoldsWrong : ChangeSpec := { name := "realsHolds", fn := fun _ => fun
  | [d1, d2, d3, d4, d5, d6, d7] => { results := [.lit (.bool false)], args := [d1, d2, d3, d4, d5, d6, d7] }
  | _ => none }
def RealsHoldsWrongFalsely : Prop := realsHoldsRow.holds Try.pinned (OpenSpec.ofChange realsHoldsWrong)

/-- 'grottolaw04.RealsOrder': WHATEVER THE INPUT: true; the input reads as it did. -/
def realsOrderSpec : ChangeSpec := { name := "realsOrder", fn := fun _ => fun
  | [d1, d2, d3, d4] => { results := [.lit (.bool true)], args := [d1, d2, d3, d4] }
  | _ => none }
def realsOrderRow : OpenClaim := { program := "ytpliondhiahhnaa", sum := "2e7f780f59c95b09173d7bb47df753158512073af73ad032d9b1ae16d9aef4f6", func := "grotto/grottolaw04.RealsOrder", spec := "realsOrder", inPlace := ["math/bits.Add64", "math/bits.Sub64"], named := ["math/bits.divideError", "math/bits.overflowError"], apart := false }
def RealsOrderSaid : Prop := realsOrderRow.holds Try.pinned (OpenSpec.ofChange realsOrderSpec)

/-- ITS FALSE NEIGHBOUR: 'it returns false'. Refute it at one input. -/
def realsOrderWrong : ChangeSpec := { name := "realsOrder", fn := fun _ => fun
  | [d1, d2, d3, d4] => { results := [.lit (.bool false)], args := [d1, d2, d3, d4] }
  | _ => none }
def RealsOrderWrongFalsely : Prop := realsOrderRow.holds Try.pinned (OpenSpec.ofChange realsOrderWrong)

/-- 'grottolaw04.RealsInts': WHATEVER THE INPUT: true; the input reads as it did. -/
def realsIntsSpec : ChangeSpec := { name := "realsInts", fn := fun _ => fun
  | [d1, d2, d3, d4] => { results := [.lit (.bool true)], args := [d1, d2, d3, d4] }
  | _ => none }
def realsIntsRow : OpenClaim := { program := "ytpliondhiahhnaa", sum := "2e7f780f59c95b09173d7bb47df753158512073af73ad032d9b1ae16d9aef4f6", func := "grotto/grottolaw04.RealsInts", spec := "realsInts", inPlace := ["math/bits.Add64", "math/bits.Sub64"], named := ["math/bits.divideError", "math/bits.overflowError"], apart := false }
def RealsIntsSaid : Prop := realsIntsRow.holds Try.pinned (OpenSpec.ofChange realsIntsSpec)

/-- ITS FALSE NEIGHBOUR: 'it returns false'. Refute it at one input. -/
def realsIntsWrong : ChangeSpec := { name := "realsInts", fn := fun _ => fun
  | [d1, d2, d3, d4] => { results := [.lit (.bool false)], args := [d1, d2, d3, d4] }
  | _ => none }
def RealsIntsWrongFalsely : Prop := realsIntsRow.holds Try.pinned (OpenSpec.ofChange realsIntsWrong)

/-- 'grottolaw04.RealsBack': WHATEVER THE INPUT: true; the input reads as it did. -/
def realsBackSpec : ChangeSpec := { name := "realsBack", fn := fun _ => fun
  | [d] => { results := [.lit (.bool true)], args := [d] }
  | _ => none }
def realsBackRow : OpenClaim := { program := "ytpliondhiahhnaa", sum := "2e7f780f59c95b09173d7bb47df753158512073af73ad032d9b1ae16d9aef4f6", func := "grotto/grottolaw04.RealsBack", spec := "realsBack", inPlace := ["math/bits.Add64", "math/bits.Sub64"], named := ["math/bits.divideError", "math/bits.overflowError"], apart := false }
def RealsBackSaid : Prop := realsBackRow.holds Try.pinned (OpenSpec.ofChange realsBackSpec)

/-- ITS FALSE NEIGHBOUR: 'it returns false'. Refute it at one input. -/
def realsBackWrong : ChangeSpec := { name := "realsBack", fn := fun _ => fun
  | [d] => { results := [.lit (.bool false)], args := [d] }
  | _ => none }
def RealsBackWrongFalsely : Prop := realsBackRow.holds Try.pinned (OpenSpec.ofChange realsBackWrong)

/-- 'grottolaw04.RealsAgree': WHATEVER THE INPUT: true; the input reads as it did. -/
def realsAgreeSpec : ChangeSpec := { name := "realsAgree", fn := fun _ => fun
  | [d1, d2, d3] => { results := [.lit (.bool true)], args := [d1, d2, d3] }
  | _ => none }
def realsAgreeRow : OpenClaim := { program := "ytpliondhiahhnaa", sum := "2e7f780f59c95b09173d7bb47df753158512073af73ad032d9b1ae16d9aef4f6", func := "grotto/grottolaw04.RealsAgree", spec := "realsAgree", inPlace := ["math/bits.Add64", "math/bits.Sub64"], named := ["math/bits.divideError", "math/bits.overflowError"], apart := false }
def RealsAgreeSaid : Prop := realsAgreeRow.holds Try.pinned (OpenSpec.ofChange realsAgreeSpec)

/-- ITS FALSE NEIGHBOUR: 'it returns false'. Refute it at one input. -/
def realsAgreeWrong : ChangeSpec := { name := "realsAgree", fn := fun _ => fun
  | [d1, d2, d3] => { results := [.lit (.bool false)], args := [d1, d2, d3] }
  | _ => none }
def RealsAgreeWrongFalsely : Prop := realsAgreeRow.holds Try.pinned (OpenSpec.ofChange realsAgreeWrong)

/-- 'grottolaw04.RealsChanges': WHATEVER THE INPUT: true; the input reads as it did. -/
def realsChangesSpec : ChangeSpec := { name := "realsChanges", fn := fun _ => fun
  | [d1, d2] => { results := [.lit (.bool true)], args := [d1, d2] }
  | _ => none }
def realsChangesRow : OpenClaim := { program := "ytpliondhiahhnaa", sum := "2e7f780f59c95b09173d7bb47df753158512073af73ad032d9b1ae16d9aef4f6", func := "grotto/grottolaw04.RealsChanges", spec := "realsChanges", inPlace := ["math/bits.Add64", "math/bits.Sub64"], named := ["math/bits.divideError", "math/bits.overflowError"], apart := false }
def RealsChangesSaid : Prop := realsChangesRow.holds Try.pinned (OpenSpec.ofChange realsChangesSpec)

/-- ITS FALSE NEIGHBOUR: 'it returns false'. Refute it at one input. -/
def realsChangesWrong : ChangeSpec := { name := "realsChanges", fn := fun _ => fun
  | [d1, d2] => { results := [.lit (.bool false)], args := [d1, d2] }
  | _ => none }
def RealsChangesWrongFalsely : Prop := realsChangesRow.holds Try.pinned (OpenSpec.ofChange realsChangesWrong)

/-- 'grottolaw04.RealsCounts': WHATEVER THE INPUT: true; the input reads as it did. -/
def realsCountsSpec : ChangeSpec := { name := "realsCounts", fn := fun _ => fun
  | [d1, d2, d3] => { results := [.lit (.bool true)], args := [d1, d2, d3] }
  | _ => none }
def realsCountsRow : OpenClaim := { program := "ytpliondhiahhnaa", sum := "2e7f780f59c95b09173d7bb47df753158512073af73ad032d9b1ae16d9aef4f6", func := "grotto/grottolaw04.RealsCounts", spec := "realsCounts", inPlace := ["math/bits.Add64", "math/bits.Sub64"], named := ["math/bits.divideError", "math/bits.overflowError"], apart := false }
def RealsCountsSaid : Prop := realsCountsRow.holds Try.pinned (OpenSpec.ofChange realsCountsSpec)

/-- ITS FALSE NEIGHBOUR: 'it returns false'. Refute it at one input. -/
def realsCountsWrong : ChangeSpec := { name := "realsCounts", fn := fun _ => fun
  | [d1, d2, d3] => { results := [.lit (.bool false)], args := [d1, d2, d3] }
  | _ => none }
def RealsCountsWrongFalsely : Prop := realsCountsRow.holds Try.pinned (OpenSpec.ofChange realsCountsWrong)

/- THE SECOND FORM. 'bulk': how many values and letters a reading holds, each counted each time it is reached (what is shared counts as often as it is met; a slice's spare places count too). A statement '..UptoSaid' is the law's where the arguments, and the package variables that the reading takes, are together of bulk at most 1048576: NARROWER than '..Said'. Prove '..Said' where nothing that the law and all that it calls make is longer than what came in: it says more and counts as full. Else prove '..UptoSaid'. A law counts once. -/
mutual
def uptoBulk {H : Type} : DataW H → Nat
  | .lit (.string bytes) => bytes.length + 1
  | .lit _ => 1
  | .nil => 1
  | .ptr d => uptoBulk d + 1
  | .slice elems spare => uptoBulkAll elems + uptoBulkAll spare + 1
  | .agg parts => uptoBulkAll parts + 1
  | .iface _ d => uptoBulk d + 1
  | .map entries => uptoBulkEntries entries + 1
  | .held _ => 1
def uptoBulkAll {H : Type} : List (DataW H) → Nat
  | [] => 0
  | d :: r => uptoBulk d + uptoBulkAll r
def uptoBulkEntries {H : Type} : List (Lit × DataW H) → Nat
  | [] => 0
  | x :: r => uptoBulkEntry x + uptoBulkEntries r
def uptoBulkEntry {H : Type} : Lit × DataW H → Nat
  | (.string bytes, d) => bytes.length + uptoBulk d + 1
  | (_, d) => uptoBulk d + 1
 end
def uptoSmall : (H : Type) → List (DataW H) → Bool := fun _ ds => decide (uptoBulkAll ds ≤ 1048576)
def OpenSpec.upto (s : _root_.Go.ChangeSpec) : _root_.Go.OpenSpec := { _root_.Go.OpenSpec.ofChange s with cond := some uptoSmall }

/-- 'grottolaw03.SoftMuls', WHERE WHAT IT READS IS OF BULK AT MOST 1048576: true; the input reads as it did. -/
def softMulsUptoRow : OpenClaim := { program := "ytpliondhiahhnaa", sum := "2e7f780f59c95b09173d7bb47df753158512073af73ad032d9b1ae16d9aef4f6", func := "grotto/grottolaw03.SoftMuls", spec := "softMuls", inPlace := ["math/bits.Add64", "math/bits.Sub64"], named := ["math/bits.divideError", "math/bits.overflowError"], apart := false, narrowed := true }
def SoftMulsUptoSaid : Prop := softMulsUptoRow.holds Try.pinned (OpenSpec.upto softMulsSpec)

/-- 'grottolaw03.SoftCompares', WHERE WHAT IT READS IS OF BULK AT MOST 1048576: true; the input reads as it did. -/
def softComparesUptoRow : OpenClaim := { program := "ytpliondhiahhnaa", sum := "2e7f780f59c95b09173d7bb47df753158512073af73ad032d9b1ae16d9aef4f6", func := "grotto/grottolaw03.SoftCompares", spec := "softCompares", inPlace := ["math/bits.Add64", "math/bits.Sub64"], named := ["math/bits.divideError", "math/bits.overflowError"], apart := false, narrowed := true }
def SoftComparesUptoSaid : Prop := softComparesUptoRow.holds Try.pinned (OpenSpec.upto softComparesSpec)

/-- 'grottolaw03.SoftRises', WHERE WHAT IT READS IS OF BULK AT MOST 1048576: true; the input reads as it did. -/
def softRisesUptoRow : OpenClaim := { program := "ytpliondhiahhnaa", sum := "2e7f780f59c95b09173d7bb47df753158512073af73ad032d9b1ae16d9aef4f6", func := "grotto/grottolaw03.SoftRises", spec := "softRises", inPlace := ["math/bits.Add64", "math/bits.Sub64"], named := ["math/bits.divideError", "math/bits.overflowError"], apart := false, narrowed := true }
def SoftRisesUptoSaid : Prop := softRisesUptoRow.holds Try.pinned (OpenSpec.upto softRisesSpec)

/-- 'grottolaw03.SoftBetween', WHERE WHAT IT READS IS OF BULK AT MOST 1048576: true; the input reads as it did. -/
def softBetweenUptoRow : OpenClaim := { program := "ytpliondhiahhnaa", sum := "2e7f780f59c95b09173d7bb47df753158512073af73ad032d9b1ae16d9aef4f6", func := "grotto/grottolaw03.SoftBetween", spec := "softBetween", inPlace := ["math/bits.Add64", "math/bits.Sub64"], named := ["math/bits.divideError", "math/bits.overflowError"], apart := false, narrowed := true }
def SoftBetweenUptoSaid : Prop := softBetweenUptoRow.holds Try.pinned (OpenSpec.upto softBetweenSpec)

/-- 'grottolaw03.SoftWholes', WHERE WHAT IT READS IS OF BULK AT MOST 1048576: true; the input reads as it did. -/
def softWholesUptoRow : OpenClaim := { program := "ytpliondhiahhnaa", sum := "2e7f780f59c95b09173d7bb47df753158512073af73ad032d9b1ae16d9aef4f6", func := "grotto/grottolaw03.SoftWholes", spec := "softWholes", inPlace := ["math/bits.Add64", "math/bits.Sub64"], named := ["math/bits.divideError", "math/bits.overflowError"], apart := false, narrowed := true }
def SoftWholesUptoSaid : Prop := softWholesUptoRow.holds Try.pinned (OpenSpec.upto softWholesSpec)

/-- 'grottolaw03.SoftWider', WHERE WHAT IT READS IS OF BULK AT MOST 1048576: true; the input reads as it did. -/
def softWiderUptoRow : OpenClaim := { program := "ytpliondhiahhnaa", sum := "2e7f780f59c95b09173d7bb47df753158512073af73ad032d9b1ae16d9aef4f6", func := "grotto/grottolaw03.SoftWider", spec := "softWider", inPlace := ["math/bits.Add64", "math/bits.Sub64"], named := ["math/bits.divideError", "math/bits.overflowError"], apart := false, narrowed := true }
def SoftWiderUptoSaid : Prop := softWiderUptoRow.holds Try.pinned (OpenSpec.upto softWiderSpec)

/-- 'grottolaw03.SoftTurns', WHERE WHAT IT READS IS OF BULK AT MOST 1048576: true; the input reads as it did. -/
def softTurnsUptoRow : OpenClaim := { program := "ytpliondhiahhnaa", sum := "2e7f780f59c95b09173d7bb47df753158512073af73ad032d9b1ae16d9aef4f6", func := "grotto/grottolaw03.SoftTurns", spec := "softTurns", inPlace := ["math/bits.Add64", "math/bits.Sub64"], named := ["math/bits.divideError", "math/bits.overflowError"], apart := false, narrowed := true }
def SoftTurnsUptoSaid : Prop := softTurnsUptoRow.holds Try.pinned (OpenSpec.upto softTurnsSpec)

/-- 'grottolaw04.RealsSingles', WHERE WHAT IT READS IS OF BULK AT MOST 1048576: true; the input reads as it did. -/
def realsSinglesUptoRow : OpenClaim := { program := "ytpliondhiahhnaa", sum := "2e7f780f59c95b09173d7bb47df753158512073af73ad032d9b1ae16d9aef4f6", func := "grotto/grottolaw04.RealsSingles", spec := "realsSingles", inPlace := ["math/bits.Add64", "math/bits.Sub64"], named := ["math/bits.divideError", "math/bits.overflowError"], apart := false, narrowed := true }
def RealsSinglesUptoSaid : Prop := realsSinglesUptoRow.holds Try.pinned (OpenSpec.upto realsSinglesSpec)

/-- 'grottolaw04.RealsDoubles', WHERE WHAT IT READS IS OF BULK AT MOST 1048576: true; the input reads as it did. -/
def realsDoublesUptoRow : OpenClaim := { program := "ytpliondhiahhnaa", sum := "2e7f780f59c95b09173d7bb47df753158512073af73ad032d9b1ae16d9aef4f6", func := "grotto/grottolaw04.RealsDoubles", spec := "realsDoubles", inPlace := ["math/bits.Add64", "math/bits.Sub64"], named := ["math/bits.divideError", "math/bits.overflowError"], apart := false, narrowed := true }
def RealsDoublesUptoSaid : Prop := realsDoublesUptoRow.holds Try.pinned (OpenSpec.upto realsDoublesSpec)

/-- 'grottolaw04.RealsHolds', WHERE WHAT IT READS IS OF BULK AT MOST 1048576: true; the input reads as it did. -/
def realsHoldsUptoRow : OpenClaim := { program := "ytpliondhiahhnaa", sum := "2e7f780f59c95b09173d7bb47df753158512073af73ad032d9b1ae16d9aef4f6", func := "grotto/grottolaw04.RealsHolds", spec := "realsHolds", inPlace := ["math/bits.Add64", "math/bits.Sub64"], recurses := true, named := ["math/bits.divideError", "math/bits.overflowError"], apart := false, narrowed := true }
def RealsHoldsUptoSaid : Prop := realsHoldsUptoRow.holds Try.pinned (OpenSpec.upto realsHoldsSpec)

/-- 'grottolaw04.RealsOrder', WHERE WHAT IT READS IS OF BULK AT MOST 1048576: true; the input reads as it did. -/
def realsOrderUptoRow : OpenClaim := { program := "ytpliondhiahhnaa", sum := "2e7f780f59c95b09173d7bb47df753158512073af73ad032d9b1ae16d9aef4f6", func := "grotto/grottolaw04.RealsOrder", spec := "realsOrder", inPlace := ["math/bits.Add64", "math/bits.Sub64"], named := ["math/bits.divideError", "math/bits.overflowError"], apart := false, narrowed := true }
def RealsOrderUptoSaid : Prop := realsOrderUptoRow.holds Try.pinned (OpenSpec.upto realsOrderSpec)

/-- 'grottolaw04.RealsInts', WHERE WHAT IT READS IS OF BULK AT MOST 1048576: true; the input reads as it did. -/
def realsIntsUptoRow : OpenClaim := { program := "ytpliondhiahhnaa", sum := "2e7f780f59c95b09173d7bb47df753158512073af73ad032d9b1ae16d9aef4f6", func := "grotto/grottolaw04.RealsInts", spec := "realsInts", inPlace := ["math/bits.Add64", "math/bits.Sub64"], named := ["math/bits.divideError", "math/bits.overflowError"], apart := false, narrowed := true }
def RealsIntsUptoSaid : Prop := realsIntsUptoRow.holds Try.pinned (OpenSpec.upto realsIntsSpec)

/-- 'grottolaw04.RealsBack', WHERE WHAT IT READS IS OF BULK AT MOST 1048576: true; the input reads as it did. -/
def realsBackUptoRow : OpenClaim := { program := "ytpliondhiahhnaa", sum := "2e7f780f59c95b09173d7bb47df753158512073af73ad032d9b1ae16d9aef4f6", func := "grotto/grottolaw04.RealsBack", spec := "realsBack", inPlace := ["math/bits.Add64", "math/bits.Sub64"], named := ["math/bits.divideError", "math/bits.overflowError"], apart := false, narrowed := true }
def RealsBackUptoSaid : Prop := realsBackUptoRow.holds Try.pinned (OpenSpec.upto realsBackSpec)

/-- 'grottolaw04.RealsAgree', WHERE WHAT IT READS IS OF BULK AT MOST 1048576: true; the input reads as it did. -/
def realsAgreeUptoRow : OpenClaim := { program := "ytpliondhiahhnaa", sum := "2e7f780f59c95b09173d7bb47df753158512073af73ad032d9b1ae16d9aef4f6", func := "grotto/grottolaw04.RealsAgree", spec := "realsAgree", inPlace := ["math/bits.Add64", "math/bits.Sub64"], named := ["math/bits.divideError", "math/bits.overflowError"], apart := false, narrowed := true }
def RealsAgreeUptoSaid : Prop := realsAgreeUptoRow.holds Try.pinned (OpenSpec.upto realsAgreeSpec)

/-- 'grottolaw04.RealsChanges', WHERE WHAT IT READS IS OF BULK AT MOST 1048576: true; the input reads as it did. -/
def realsChangesUptoRow : OpenClaim := { program := "ytpliondhiahhnaa", sum := "2e7f780f59c95b09173d7bb47df753158512073af73ad032d9b1ae16d9aef4f6", func := "grotto/grottolaw04.RealsChanges", spec := "realsChanges", inPlace := ["math/bits.Add64", "math/bits.Sub64"], named := ["math/bits.divideError", "math/bits.overflowError"], apart := false, narrowed := true }
def RealsChangesUptoSaid : Prop := realsChangesUptoRow.holds Try.pinned (OpenSpec.upto realsChangesSpec)

/-- 'grottolaw04.RealsCounts', WHERE WHAT IT READS IS OF BULK AT MOST 1048576: true; the input reads as it did. -/
def realsCountsUptoRow : OpenClaim := { program := "ytpliondhiahhnaa", sum := "2e7f780f59c95b09173d7bb47df753158512073af73ad032d9b1ae16d9aef4f6", func := "grotto/grottolaw04.RealsCounts", spec := "realsCounts", inPlace := ["math/bits.Add64", "math/bits.Sub64"], named := ["math/bits.divideError", "math/bits.overflowError"], apart := false, narrowed := true }
def RealsCountsUptoSaid : Prop := realsCountsUptoRow.holds Try.pinned (OpenSpec.upto realsCountsSpec)

end Rows
end Go.Proofs.Ytpliondhiahhnaa
