/-
  No cell of these rows narrows 'for every input' (looked for: loops, veiled, ifaces, maps, wideKeys, modest, calm, conditions, laid).
  DERIVED. THE GIVEN ROWS OF THIS SEAT. 3 by the template 'for every input the law returns true; each argument reads behind the call as it read before'; 0 by the template 'total and deterministic' (their statements: YtbkjffpembflcaaGreatTotals.lean).
  GIVEN WITH THE SEED: the statements are not yours to turn. If you find one false, say at which input.
  Laid BY PROGRAM, IN A SANDBOX (cutbox-rows.mjs): the forced cells as the released guide's own fill.sh prints them over the translation a12d7ad81d11f5b9… (all of the seat's roots in one cut). By AI agents, Wed Nov 11 2026. No macro, syntax, notation, axiom, sorry.
-/
import Derived.Test.YtbkjffpembflcaaGreatChecked
import GoSem.Claim
import GoSem.ClaimJoined
import GoSem.ClaimMapViews
import Derived.JoinedTies
import Derived.KernelRfl
namespace Go.Proofs.YtbkjffpembflcaaGreat
/- THE CELL 'sum', in the pinned program and in every row, IS THE sha256 OF THE DUMP (.gsa) THAT YtbkjffpembflcaaGreatProg.lean LOADS. Nothing in Lean hashes anything: it is a label: what it is worth is what the hold of that sum in a sandbox is worth. -/
noncomputable def Tryz.pinned : Pinned := { name := "ytbkjffpembflcaagreat", sum := "a12d7ad81d11f5b983e25fbbf9953a0f20cc6251494fe75f7946177dc3d17815", checked := Tryz.checked }
namespace Rows
def none {H : Type} : Left H := { results := [], args := [] }

/-- 'musettelaw02.MeterTones': WHATEVER THE INPUT: true; the input reads as it did. -/
def meterTonesSpec : ChangeSpec := { name := "meterTones", fn := fun _ => fun
  | [d1, d2, d3, d4] => { results := [.lit (.bool true)], args := [d1, d2, d3, d4] }
  | _ => none }
def meterTonesRow : OpenClaim := { program := "ytbkjffpembflcaagreat", sum := "a12d7ad81d11f5b983e25fbbf9953a0f20cc6251494fe75f7946177dc3d17815", func := "musette/musettelaw02.MeterTones", spec := "meterTones", unfollowed := true, recurses := true, apart := false }
def MeterTonesSaid : Prop := meterTonesRow.holds Tryz.pinned (OpenSpec.ofChange meterTonesSpec)

/-- ITS FALSE NEIGHBOUR: 'it returns false'. Refute it at one input. -/
def meterTonesWrong : ChangeSpec := { name := "meterTones", fn := fun _ => fun
  | [d1, d2, d3, d4] => { results := [.lit (.bool false)], args := [d1, d2, d3, d4] }
  | _ => none }
def MeterTonesWrongFalsely : Prop := meterTonesRow.holds Tryz.pinned (OpenSpec.ofChange meterTonesWrong)

/-- 'musettelaw02.MeterAll': WHATEVER THE INPUT: true; the input reads as it did. -/
def meterAllSpec : ChangeSpec := { name := "meterAll", fn := fun _ => fun
  | [d] => { results := [.lit (.bool true)], args := [d] }
  | _ => none }
def meterAllRow : OpenClaim := { program := "ytbkjffpembflcaagreat", sum := "a12d7ad81d11f5b983e25fbbf9953a0f20cc6251494fe75f7946177dc3d17815", func := "musette/musettelaw02.MeterAll", spec := "meterAll", unfollowed := true, recurses := true, apart := false }
def MeterAllSaid : Prop := meterAllRow.holds Tryz.pinned (OpenSpec.ofChange meterAllSpec)

/-- ITS FALSE NEIGHBOUR: 'it returns false'. Refute it at one input. -/
def meterAllWrong : ChangeSpec := { name := "meterAll", fn := fun _ => fun
  | [d] => { results := [.lit (.bool false)], args := [d] }
  | _ => none }
def MeterAllWrongFalsely : Prop := meterAllRow.holds Tryz.pinned (OpenSpec.ofChange meterAllWrong)

/-- 'musettelaw02.MeterTrue': WHATEVER THE INPUT: true; the input reads as it did. -/
def meterTrueSpec : ChangeSpec := { name := "meterTrue", fn := fun _ => fun
  | [d] => { results := [.lit (.bool true)], args := [d] }
  | _ => none }
def meterTrueRow : OpenClaim := { program := "ytbkjffpembflcaagreat", sum := "a12d7ad81d11f5b983e25fbbf9953a0f20cc6251494fe75f7946177dc3d17815", func := "musette/musettelaw02.MeterTrue", spec := "meterTrue", unfollowed := true, recurses := true, apart := false }
def MeterTrueSaid : Prop := meterTrueRow.holds Tryz.pinned (OpenSpec.ofChange meterTrueSpec)

/-- ITS FALSE NEIGHBOUR: 'it returns false'. Refute it at one input. -/
def meterTrueWrong : ChangeSpec := { name := "meterTrue", fn := fun _ => fun
  | [d] => { results := [.lit (.bool false)], args := [d] }
  | _ => none }
def MeterTrueWrongFalsely : Prop := meterTrueRow.holds Tryz.pinned (OpenSpec.ofChange meterTrueWrong)

/- THE SECOND FORM. 'bulk': how many values and letters a reading holds, each counted each time it is reached (what is shared counts as often as it is met; a slice's spare places count too). A statement '..UptoSaid' is the law's where the arguments, and the package variables that the reading takes, are together of bulk at most 1048576: NARROWER than '..Said'. Prove '..Said' where nothing that the law and all that it calls make is longer than what came in: it says more and counts as full. Else prove '..UptoSaid'. A law counts once. -/
mutual
def uptoBulk {H : Type} : DataW H → Nat
  | .lit (.string bytes) => bytes.length + 1
  | .lit _ => 1
  | .nil => 1
  | .ptr d => uptoBulk d + 1
  | .slice elems spare => uptoBulkAll elems + uptoBulkAll spare + 1
  | .agg parts => uptoBulkAll parts + 1
  | .iface _ d => uptoBulk d + 1
  | .map entries => uptoBulkEntries entries + 1
  | .held _ => 1
def uptoBulkAll {H : Type} : List (DataW H) → Nat
  | [] => 0
  | d :: r => uptoBulk d + uptoBulkAll r
def uptoBulkEntries {H : Type} : List (Lit × DataW H) → Nat
  | [] => 0
  | x :: r => uptoBulkEntry x + uptoBulkEntries r
def uptoBulkEntry {H : Type} : Lit × DataW H → Nat
  | (.string bytes, d) => bytes.length + uptoBulk d + 1
  | (_, d) => uptoBulk d + 1
 end
def uptoSmall : (H : Type) → List (DataW H) → Bool := fun _ ds => decide (uptoBulkAll ds ≤ 1048576)
def OpenSpec.upto (s : _root_.Go.ChangeSpec) : _root_.Go.OpenSpec := { _root_.Go.OpenSpec.ofChange s with cond := some uptoSmall }

/-- 'musettelaw02.MeterTones', WHERE WHAT IT READS IS OF BULK AT MOST 1048576: true; the input reads as it did. -/
def meterTonesUptoRow : OpenClaim := { program := "ytbkjffpembflcaagreat", sum := "a12d7ad81d11f5b983e25fbbf9953a0f20cc6251494fe75f7946177dc3d17815", func := "musette/musettelaw02.MeterTones", spec := "meterTones", unfollowed := true, recurses := true, apart := false, narrowed := true }
def MeterTonesUptoSaid : Prop := meterTonesUptoRow.holds Tryz.pinned (OpenSpec.upto meterTonesSpec)

/-- 'musettelaw02.MeterAll', WHERE WHAT IT READS IS OF BULK AT MOST 1048576: true; the input reads as it did. -/
def meterAllUptoRow : OpenClaim := { program := "ytbkjffpembflcaagreat", sum := "a12d7ad81d11f5b983e25fbbf9953a0f20cc6251494fe75f7946177dc3d17815", func := "musette/musettelaw02.MeterAll", spec := "meterAll", unfollowed := true, recurses := true, apart := false, narrowed := true }
def MeterAllUptoSaid : Prop := meterAllUptoRow.holds Tryz.pinned (OpenSpec.upto meterAllSpec)

/-- 'musettelaw02.MeterTrue', WHERE WHAT IT READS IS OF BULK AT MOST 1048576: true; the input reads as it did. -/
def meterTrueUptoRow : OpenClaim := { program := "ytbkjffpembflcaagreat", sum := "a12d7ad81d11f5b983e25fbbf9953a0f20cc6251494fe75f7946177dc3d17815", func := "musette/musettelaw02.MeterTrue", spec := "meterTrue", unfollowed := true, recurses := true, apart := false, narrowed := true }
def MeterTrueUptoSaid : Prop := meterTrueUptoRow.holds Tryz.pinned (OpenSpec.upto meterTrueSpec)

end Rows
end Go.Proofs.YtbkjffpembflcaaGreat
