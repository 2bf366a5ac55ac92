/-
  No cell of these rows narrows 'for every input' (looked for: loops, veiled, ifaces, maps, wideKeys, modest, calm, conditions, laid).
  DERIVED. THE GIVEN ROWS OF THIS SEAT. 11 by the template 'for every input the law returns true; each argument reads behind the call as it read before'; 0 by the template 'total and deterministic' (their statements: YtbkjffpembflcaaTotals.lean).
  GIVEN WITH THE SEED: the statements are not yours to turn. If you find one false, say at which input.
  Laid BY PROGRAM, IN A SANDBOX (cutbox-rows.mjs): the forced cells as the released guide's own fill.sh prints them over the translation 7034da9d2d9869e9… (all of the seat's roots in one cut). By AI agents, Wed Nov 11 2026. No macro, syntax, notation, axiom, sorry.
-/
import Derived.Test.YtbkjffpembflcaaChecked
import GoSem.Claim
import GoSem.ClaimJoined
import GoSem.ClaimMapViews
import Derived.JoinedTies
import Derived.KernelRfl
namespace Go.Proofs.Ytbkjffpembflcaa
/- THE CELL 'sum', in the pinned program and in every row, IS THE sha256 OF THE DUMP (.gsa) THAT YtbkjffpembflcaaProg.lean LOADS. Nothing in Lean hashes anything: it is a label: what it is worth is what the hold of that sum in a sandbox is worth. -/
noncomputable def Try.pinned : Pinned := { name := "ytbkjffpembflcaa", sum := "7034da9d2d9869e9c935da198f3838e85d1a606f16565063920fc150c635018d", checked := Try.checked }
namespace Rows
def none {H : Type} : Left H := { results := [], args := [] }

/-- 'musettelaw02.MeterNeeds': WHATEVER THE INPUT: true; the input reads as it did. -/
def meterNeedsSpec : ChangeSpec := { name := "meterNeeds", fn := fun _ => fun
  | [d1, d2, d3, d4, d5, d6] => { results := [.lit (.bool true)], args := [d1, d2, d3, d4, d5, d6] }
  | _ => none }
def meterNeedsRow : OpenClaim := { program := "ytbkjffpembflcaa", sum := "7034da9d2d9869e9c935da198f3838e85d1a606f16565063920fc150c635018d", func := "musette/musettelaw02.MeterNeeds", spec := "meterNeeds", unfollowed := true, recurses := true, apart := false }
def MeterNeedsSaid : Prop := meterNeedsRow.holds Try.pinned (OpenSpec.ofChange meterNeedsSpec)

/-- ITS FALSE NEIGHBOUR: 'it returns false'. Refute it at one input. -/
def meterNeedsWrong : ChangeSpec := { name := "meterNeeds", fn := fun _ => fun
  | [d1, d2, d3, d4, d5, d6] => { results := [.lit (.bool false)], args := [d1, d2, d3, d4, d5, d6] }
  | _ => none }
def MeterNeedsWrongFalsely : Prop := meterNeedsRow.holds Try.pinned (OpenSpec.ofChange meterNeedsWrong)

/-- 'musettelaw02.MeterGate': WHATEVER THE INPUT: true; the input reads as it did. -/
def meterGateSpec : ChangeSpec := { name := "meterGate", fn := fun _ => fun
  | [d] => { results := [.lit (.bool true)], args := [d] }
  | _ => none }
def meterGateRow : OpenClaim := { program := "ytbkjffpembflcaa", sum := "7034da9d2d9869e9c935da198f3838e85d1a606f16565063920fc150c635018d", func := "musette/musettelaw02.MeterGate", spec := "meterGate", unfollowed := true, recurses := true, apart := false }
def MeterGateSaid : Prop := meterGateRow.holds Try.pinned (OpenSpec.ofChange meterGateSpec)

/-- ITS FALSE NEIGHBOUR: 'it returns false'. Refute it at one input. -/
def meterGateWrong : ChangeSpec := { name := "meterGate", fn := fun _ => fun
  | [d] => { results := [.lit (.bool false)], args := [d] }
  | _ => none }
def MeterGateWrongFalsely : Prop := meterGateRow.holds Try.pinned (OpenSpec.ofChange meterGateWrong)

/-- 'musettelaw02.MeterNeeded': WHATEVER THE INPUT: true; the input reads as it did. -/
def meterNeededSpec : ChangeSpec := { name := "meterNeeded", fn := fun _ => fun
  | [d] => { results := [.lit (.bool true)], args := [d] }
  | _ => none }
def meterNeededRow : OpenClaim := { program := "ytbkjffpembflcaa", sum := "7034da9d2d9869e9c935da198f3838e85d1a606f16565063920fc150c635018d", func := "musette/musettelaw02.MeterNeeded", spec := "meterNeeded", unfollowed := true, recurses := true, apart := false }
def MeterNeededSaid : Prop := meterNeededRow.holds Try.pinned (OpenSpec.ofChange meterNeededSpec)

/-- ITS FALSE NEIGHBOUR: 'it returns false'. Refute it at one input. -/
def meterNeededWrong : ChangeSpec := { name := "meterNeeded", fn := fun _ => fun
  | [d] => { results := [.lit (.bool false)], args := [d] }
  | _ => none }
def MeterNeededWrongFalsely : Prop := meterNeededRow.holds Try.pinned (OpenSpec.ofChange meterNeededWrong)

/-- 'musettelaw02.MeterBest': WHATEVER THE INPUT: true; the input reads as it did. -/
def meterBestSpec : ChangeSpec := { name := "meterBest", fn := fun _ => fun
  | [d] => { results := [.lit (.bool true)], args := [d] }
  | _ => none }
def meterBestRow : OpenClaim := { program := "ytbkjffpembflcaa", sum := "7034da9d2d9869e9c935da198f3838e85d1a606f16565063920fc150c635018d", func := "musette/musettelaw02.MeterBest", spec := "meterBest", unfollowed := true, recurses := true, apart := false }
def MeterBestSaid : Prop := meterBestRow.holds Try.pinned (OpenSpec.ofChange meterBestSpec)

/-- ITS FALSE NEIGHBOUR: 'it returns false'. Refute it at one input. -/
def meterBestWrong : ChangeSpec := { name := "meterBest", fn := fun _ => fun
  | [d] => { results := [.lit (.bool false)], args := [d] }
  | _ => none }
def MeterBestWrongFalsely : Prop := meterBestRow.holds Try.pinned (OpenSpec.ofChange meterBestWrong)

/-- 'musettelaw02.MeterShifted': WHATEVER THE INPUT: true; the input reads as it did. -/
def meterShiftedSpec : ChangeSpec := { name := "meterShifted", fn := fun _ => fun
  | [d] => { results := [.lit (.bool true)], args := [d] }
  | _ => none }
def meterShiftedRow : OpenClaim := { program := "ytbkjffpembflcaa", sum := "7034da9d2d9869e9c935da198f3838e85d1a606f16565063920fc150c635018d", func := "musette/musettelaw02.MeterShifted", spec := "meterShifted", unfollowed := true, recurses := true, apart := false }
def MeterShiftedSaid : Prop := meterShiftedRow.holds Try.pinned (OpenSpec.ofChange meterShiftedSpec)

/-- ITS FALSE NEIGHBOUR: 'it returns false'. Refute it at one input. -/
def meterShiftedWrong : ChangeSpec := { name := "meterShifted", fn := fun _ => fun
  | [d] => { results := [.lit (.bool false)], args := [d] }
  | _ => none }
def MeterShiftedWrongFalsely : Prop := meterShiftedRow.holds Try.pinned (OpenSpec.ofChange meterShiftedWrong)

/-- 'musettelaw02.MeterSides': WHATEVER THE INPUT: true; the input reads as it did. -/
def meterSidesSpec : ChangeSpec := { name := "meterSides", fn := fun _ => fun
  | [d1, d2, d3, d4, d5, d6] => { results := [.lit (.bool true)], args := [d1, d2, d3, d4, d5, d6] }
  | _ => none }
def meterSidesRow : OpenClaim := { program := "ytbkjffpembflcaa", sum := "7034da9d2d9869e9c935da198f3838e85d1a606f16565063920fc150c635018d", func := "musette/musettelaw02.MeterSides", spec := "meterSides", unfollowed := true, recurses := true, apart := false }
def MeterSidesSaid : Prop := meterSidesRow.holds Try.pinned (OpenSpec.ofChange meterSidesSpec)

/-- ITS FALSE NEIGHBOUR: 'it returns false'. Refute it at one input. -/
def meterSidesWrong : ChangeSpec := { name := "meterSides", fn := fun _ => fun
  | [d1, d2, d3, d4, d5, d6] => { results := [.lit (.bool false)], args := [d1, d2, d3, d4, d5, d6] }
  | _ => none }
def MeterSidesWrongFalsely : Prop := meterSidesRow.holds Try.pinned (OpenSpec.ofChange meterSidesWrong)

/-- 'musettelaw02.MeterNext': WHATEVER THE INPUT: true; the input reads as it did. -/
def meterNextSpec : ChangeSpec := { name := "meterNext", fn := fun _ => fun
  | [d1, d2, d3, d4] => { results := [.lit (.bool true)], args := [d1, d2, d3, d4] }
  | _ => none }
def meterNextRow : OpenClaim := { program := "ytbkjffpembflcaa", sum := "7034da9d2d9869e9c935da198f3838e85d1a606f16565063920fc150c635018d", func := "musette/musettelaw02.MeterNext", spec := "meterNext", unfollowed := true, recurses := true, apart := false }
def MeterNextSaid : Prop := meterNextRow.holds Try.pinned (OpenSpec.ofChange meterNextSpec)

/-- ITS FALSE NEIGHBOUR: 'it returns false'. Refute it at one input. -/
def meterNextWrong : ChangeSpec := { name := "meterNext", fn := fun _ => fun
  | [d1, d2, d3, d4] => { results := [.lit (.bool false)], args := [d1, d2, d3, d4] }
  | _ => none }
def MeterNextWrongFalsely : Prop := meterNextRow.holds Try.pinned (OpenSpec.ofChange meterNextWrong)

/-- 'musettelaw02.MeterMore': WHATEVER THE INPUT: true; the input reads as it did. -/
def meterMoreSpec : ChangeSpec := { name := "meterMore", fn := fun _ => fun
  | [d] => { results := [.lit (.bool true)], args := [d] }
  | _ => none }
def meterMoreRow : OpenClaim := { program := "ytbkjffpembflcaa", sum := "7034da9d2d9869e9c935da198f3838e85d1a606f16565063920fc150c635018d", func := "musette/musettelaw02.MeterMore", spec := "meterMore", unfollowed := true, recurses := true, apart := false }
def MeterMoreSaid : Prop := meterMoreRow.holds Try.pinned (OpenSpec.ofChange meterMoreSpec)

/-- ITS FALSE NEIGHBOUR: 'it returns false'. Refute it at one input. -/
def meterMoreWrong : ChangeSpec := { name := "meterMore", fn := fun _ => fun
  | [d] => { results := [.lit (.bool false)], args := [d] }
  | _ => none }
def MeterMoreWrongFalsely : Prop := meterMoreRow.holds Try.pinned (OpenSpec.ofChange meterMoreWrong)

/-- 'musettelaw02.MeterFalse': WHATEVER THE INPUT: true; the input reads as it did. -/
def meterFalseSpec : ChangeSpec := { name := "meterFalse", fn := fun _ => fun
  | [d1, d2, d3, d4] => { results := [.lit (.bool true)], args := [d1, d2, d3, d4] }
  | _ => none }
def meterFalseRow : OpenClaim := { program := "ytbkjffpembflcaa", sum := "7034da9d2d9869e9c935da198f3838e85d1a606f16565063920fc150c635018d", func := "musette/musettelaw02.MeterFalse", spec := "meterFalse", unfollowed := true, recurses := true, apart := false }
def MeterFalseSaid : Prop := meterFalseRow.holds Try.pinned (OpenSpec.ofChange meterFalseSpec)

/-- ITS FALSE NEIGHBOUR: 'it returns false'. Refute it at one input. -/
def meterFalseWrong : ChangeSpec := { name := "meterFalse", fn := fun _ => fun
  | [d1, d2, d3, d4] => { results := [.lit (.bool false)], args := [d1, d2, d3, d4] }
  | _ => none }
def MeterFalseWrongFalsely : Prop := meterFalseRow.holds Try.pinned (OpenSpec.ofChange meterFalseWrong)

/-- 'musettelaw02.MeterFewest': WHATEVER THE INPUT: true; the input reads as it did. -/
def meterFewestSpec : ChangeSpec := { name := "meterFewest", fn := fun _ => fun
  | [d] => { results := [.lit (.bool true)], args := [d] }
  | _ => none }
def meterFewestRow : OpenClaim := { program := "ytbkjffpembflcaa", sum := "7034da9d2d9869e9c935da198f3838e85d1a606f16565063920fc150c635018d", func := "musette/musettelaw02.MeterFewest", spec := "meterFewest", unfollowed := true, recurses := true, apart := false }
def MeterFewestSaid : Prop := meterFewestRow.holds Try.pinned (OpenSpec.ofChange meterFewestSpec)

/-- ITS FALSE NEIGHBOUR: 'it returns false'. Refute it at one input. -/
def meterFewestWrong : ChangeSpec := { name := "meterFewest", fn := fun _ => fun
  | [d] => { results := [.lit (.bool false)], args := [d] }
  | _ => none }
def MeterFewestWrongFalsely : Prop := meterFewestRow.holds Try.pinned (OpenSpec.ofChange meterFewestWrong)

/-- 'musettelaw02.MeterEnds': WHATEVER THE INPUT: true; the input reads as it did. -/
def meterEndsSpec : ChangeSpec := { name := "meterEnds", fn := fun _ => fun
  | [d] => { results := [.lit (.bool true)], args := [d] }
  | _ => none }
def meterEndsRow : OpenClaim := { program := "ytbkjffpembflcaa", sum := "7034da9d2d9869e9c935da198f3838e85d1a606f16565063920fc150c635018d", func := "musette/musettelaw02.MeterEnds", spec := "meterEnds", unfollowed := true, recurses := true, apart := false }
def MeterEndsSaid : Prop := meterEndsRow.holds Try.pinned (OpenSpec.ofChange meterEndsSpec)

/-- ITS FALSE NEIGHBOUR: 'it returns false'. Refute it at one input. -/
def meterEndsWrong : ChangeSpec := { name := "meterEnds", fn := fun _ => fun
  | [d] => { results := [.lit (.bool false)], args := [d] }
  | _ => none }
def MeterEndsWrongFalsely : Prop := meterEndsRow.holds Try.pinned (OpenSpec.ofChange meterEndsWrong)

/- THE SECOND FORM. 'bulk': how many values and letters a reading holds, each counted each time it is reached (what is shared counts as often as it is met; a slice's spare places count too). A statement '..UptoSaid' is the law's where the arguments, and the package variables that the reading takes, are together of bulk at most 1048576: NARROWER than '..Said'. Prove '..Said' where nothing that the law and all that it calls make is longer than what came in: it says more and counts as full. Else prove '..UptoSaid'. A law counts once. -/
mutual
def uptoBulk {H : Type} : DataW H → Nat
  | .lit (.string bytes) => bytes.length + 1
  | .lit _ => 1
  | .nil => 1
  | .ptr d => uptoBulk d + 1
  | .slice elems spare => uptoBulkAll elems + uptoBulkAll spare + 1
  | .agg parts => uptoBulkAll parts + 1
  | .iface _ d => uptoBulk d + 1
  | .map entries => uptoBulkEntries entries + 1
  | .held _ => 1
def uptoBulkAll {H : Type} : List (DataW H) → Nat
  | [] => 0
  | d :: r => uptoBulk d + uptoBulkAll r
def uptoBulkEntries {H : Type} : List (Lit × DataW H) → Nat
  | [] => 0
  | x :: r => uptoBulkEntry x + uptoBulkEntries r
def uptoBulkEntry {H : Type} : Lit × DataW H → Nat
  | (.string bytes, d) => bytes.length + uptoBulk d + 1
  | (_, d) => uptoBulk d + 1
 end
def uptoSmall : (H : Type) → List (DataW H) → Bool := fun _ ds => decide (uptoBulkAll ds ≤ 1048576)
def OpenSpec.upto (s : _root_.Go.ChangeSpec) : _root_.Go.OpenSpec := { _root_.Go.OpenSpec.ofChange s with cond := some uptoSmall }

/-- 'musettelaw02.MeterNeeds', WHERE WHAT IT READS IS OF BULK AT MOST 1048576: true; the input reads as it did. -/
def meterNeedsUptoRow : OpenClaim := { program := "ytbkjffpembflcaa", sum := "7034da9d2d9869e9c935da198f3838e85d1a606f16565063920fc150c635018d", func := "musette/musettelaw02.MeterNeeds", spec := "meterNeeds", unfollowed := true, recurses := true, apart := false, narrowed := true }
def MeterNeedsUptoSaid : Prop := meterNeedsUptoRow.holds Try.pinned (OpenSpec.upto meterNeedsSpec)

/-- 'musettelaw02.MeterGate', WHERE WHAT IT READS IS OF BULK AT MOST 1048576: true; the input reads as it did. -/
def meterGateUptoRow : OpenClaim := { program := "ytbkjffpembflcaa", sum := "7034da9d2d9869e9c935da198f3838e85d1a606f16565063920fc150c635018d", func := "musette/musettelaw02.MeterGate", spec := "meterGate", unfollowed := true, recurses := true, apart := false, narrowed := true }
def MeterGateUptoSaid : Prop := meterGateUptoRow.holds Try.pinned (OpenSpec.upto meterGateSpec)

/-- 'musettelaw02.MeterNeeded', WHERE WHAT IT READS IS OF BULK AT MOST 1048576: true; the input reads as it did. -/
def meterNeededUptoRow : OpenClaim := { program := "ytbkjffpembflcaa", sum := "7034da9d2d9869e9c935da198f3838e85d1a606f16565063920fc150c635018d", func := "musette/musettelaw02.MeterNeeded", spec := "meterNeeded", unfollowed := true, recurses := true, apart := false, narrowed := true }
def MeterNeededUptoSaid : Prop := meterNeededUptoRow.holds Try.pinned (OpenSpec.upto meterNeededSpec)

/-- 'musettelaw02.MeterBest', WHERE WHAT IT READS IS OF BULK AT MOST 1048576: true; the input reads as it did. -/
def meterBestUptoRow : OpenClaim := { program := "ytbkjffpembflcaa", sum := "7034da9d2d9869e9c935da198f3838e85d1a606f16565063920fc150c635018d", func := "musette/musettelaw02.MeterBest", spec := "meterBest", unfollowed := true, recurses := true, apart := false, narrowed := true }
def MeterBestUptoSaid : Prop := meterBestUptoRow.holds Try.pinned (OpenSpec.upto meterBestSpec)

/-- 'musettelaw02.MeterShifted', WHERE WHAT IT READS IS OF BULK AT MOST 1048576: true; the input reads as it did. -/
def meterShiftedUptoRow : OpenClaim := { program := "ytbkjffpembflcaa", sum := "7034da9d2d9869e9c935da198f3838e85d1a606f16565063920fc150c635018d", func := "musette/musettelaw02.MeterShifted", spec := "meterShifted", unfollowed := true, recurses := true, apart := false, narrowed := true }
def MeterShiftedUptoSaid : Prop := meterShiftedUptoRow.holds Try.pinned (OpenSpec.upto meterShiftedSpec)

/-- 'musettelaw02.MeterSides', WHERE WHAT IT READS IS OF BULK AT MOST 1048576: true; the input reads as it did. -/
def meterSidesUptoRow : OpenClaim := { program := "ytbkjffpembflcaa", sum := "7034da9d2d9869e9c935da198f3838e85d1a606f16565063920fc150c635018d", func := "musette/musettelaw02.MeterSides", spec := "meterSides", unfollowed := true, recurses := true, apart := false, narrowed := true }
def MeterSidesUptoSaid : Prop := meterSidesUptoRow.holds Try.pinned (OpenSpec.upto meterSidesSpec)

/-- 'musettelaw02.MeterNext', WHERE WHAT IT READS IS OF BULK AT MOST 1048576: true; the input reads as it did. -/
def meterNextUptoRow : OpenClaim := { program := "ytbkjffpembflcaa", sum := "7034da9d2d9869e9c935da198f3838e85d1a606f16565063920fc150c635018d", func := "musette/musettelaw02.MeterNext", spec := "meterNext", unfollowed := true, recurses := true, apart := false, narrowed := true }
def MeterNextUptoSaid : Prop := meterNextUptoRow.holds Try.pinned (OpenSpec.upto meterNextSpec)

/-- 'musettelaw02.MeterMore', WHERE WHAT IT READS IS OF BULK AT MOST 1048576: true; the input reads as it did. -/
def meterMoreUptoRow : OpenClaim := { program := "ytbkjffpembflcaa", sum := "7034da9d2d9869e9c935da198f3838e85d1a606f16565063920fc150c635018d", func := "musette/musettelaw02.MeterMore", spec := "meterMore", unfollowed := true, recurses := true, apart := false, narrowed := true }
def MeterMoreUptoSaid : Prop := meterMoreUptoRow.holds Try.pinned (OpenSpec.upto meterMoreSpec)

/-- 'musettelaw02.MeterFalse', WHERE WHAT IT READS IS OF BULK AT MOST 1048576: true; the input reads as it did. -/
def meterFalseUptoRow : OpenClaim := { program := "ytbkjffpembflcaa", sum := "7034da9d2d9869e9c935da198f3838e85d1a606f16565063920fc150c635018d", func := "musette/musettelaw02.MeterFalse", spec := "meterFalse", unfollowed := true, recurses := true, apart := false, narrowed := true }
def MeterFalseUptoSaid : Prop := meterFalseUptoRow.holds Try.pinned (OpenSpec.upto meterFalseSpec)

/-- 'musettelaw02.MeterFewest', WHERE WHAT IT READS IS OF BULK AT MOST 1048576: true; the input reads as it did. -/
def meterFewestUptoRow : OpenClaim := { program := "ytbkjffpembflcaa", sum := "7034da9d2d9869e9c935da198f3838e85d1a606f16565063920fc150c635018d", func := "musette/musettelaw02.MeterFewest", spec := "meterFewest", unfollowed := true, recurses := true, apart := false, narrowed := true }
def MeterFewestUptoSaid : Prop := meterFewestUptoRow.holds Try.pinned (OpenSpec.upto meterFewestSpec)

/-- 'musettelaw02.MeterEnds', WHERE WHAT IT READS IS OF BULK AT MOST 1048576: true; the input reads as it did. -/
def meterEndsUptoRow : OpenClaim := { program := "ytbkjffpembflcaa", sum := "7034da9d2d9869e9c935da198f3838e85d1a606f16565063920fc150c635018d", func := "musette/musettelaw02.MeterEnds", spec := "meterEnds", unfollowed := true, recurses := true, apart := false, narrowed := true }
def MeterEndsUptoSaid : Prop := meterEndsUptoRow.holds Try.pinned (OpenSpec.upto meterEndsSpec)

end Rows
end Go.Proofs.Ytbkjffpembflcaa
