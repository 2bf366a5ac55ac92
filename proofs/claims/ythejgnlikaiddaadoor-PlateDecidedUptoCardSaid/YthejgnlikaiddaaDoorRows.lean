/-
  NARROWER THAN 'FOR EVERY INPUT', by the rows' own cells (each row's printed sentence says how): PlateLeast: laid · PlateForged: laid · PlateNarrowed: laid · PlateAsked: laid · PlateAll: laid · PlateTrue: laid · PlateDecided: laid · PlateOrdered: laid.
  DERIVED. THE GIVEN ROWS OF THIS SEAT. 8 by the template 'for every input the law returns true; each argument reads behind the call as it read before'; 0 by the template 'total and deterministic' (their statements: YthejgnlikaiddaaDoorTotals.lean).
  GIVEN WITH THE SEED: the statements are not yours to turn. If you find one false, say at which input.
  Laid BY PROGRAM, IN A SANDBOX (cutbox-rows.mjs): the forced cells as the released guide's own fill.sh prints them over the translation f46d9e1d721b9ce5… (all of the seat's roots in one cut). By AI agents, Wed Nov 11 2026. No macro, syntax, notation, axiom, sorry.
-/
import Derived.Test.YthejgnlikaiddaaDoorChecked
import GoSem.Claim
import GoSem.ClaimJoined
import GoSem.ClaimMapViews
import Derived.JoinedTies
import Derived.KernelRfl
namespace Go.Proofs.YthejgnlikaiddaaDoor
/- THE CELL 'sum', in the pinned program and in every row, IS THE sha256 OF THE DUMP (.gsa) THAT YthejgnlikaiddaaDoorProg.lean LOADS. Nothing in Lean hashes anything: it is a label: what it is worth is what the hold of that sum in a sandbox is worth. -/
noncomputable def Tryd.pinned : Pinned := { name := "ythejgnlikaiddaadoor", sum := "f46d9e1d721b9ce540ed002e7f1442713bd319708566672dba5c97b248e529d3", checked := Tryd.checked }
namespace Rows
def none {H : Type} : Left H := { results := [], args := [] }

/- WHAT THE LISTED PACKAGE-LEVEL VARIABLES READ AS WHEN THE CALL BEGINS. Each datum BY PROGRAM (the guide's laid-datum.mjs) off the statement by which the dump's own 'gosem.cut.vars' lays the variable. In a bare row this is a premise. The card (YthejgnlikaiddaaDoorCards.lean) ties it to the program's text. -/
def laid_math_bits_deBruijn32tab {H : Type} : DataW H := .agg [.lit (.int .u8 0), .lit (.int .u8 1), .lit (.int .u8 28), .lit (.int .u8 2), .lit (.int .u8 29), .lit (.int .u8 14), .lit (.int .u8 24), .lit (.int .u8 3), .lit (.int .u8 30), .lit (.int .u8 22), .lit (.int .u8 20), .lit (.int .u8 15), .lit (.int .u8 25), .lit (.int .u8 17), .lit (.int .u8 4), .lit (.int .u8 8), .lit (.int .u8 31), .lit (.int .u8 27), .lit (.int .u8 13), .lit (.int .u8 23), .lit (.int .u8 21), .lit (.int .u8 19), .lit (.int .u8 16), .lit (.int .u8 7), .lit (.int .u8 26), .lit (.int .u8 12), .lit (.int .u8 18), .lit (.int .u8 6), .lit (.int .u8 11), .lit (.int .u8 5), .lit (.int .u8 10), .lit (.int .u8 9)]
def laid_math_bits_deBruijn64tab {H : Type} : DataW H := .agg [.lit (.int .u8 0), .lit (.int .u8 1), .lit (.int .u8 56), .lit (.int .u8 2), .lit (.int .u8 57), .lit (.int .u8 49), .lit (.int .u8 28), .lit (.int .u8 3), .lit (.int .u8 61), .lit (.int .u8 58), .lit (.int .u8 42), .lit (.int .u8 50), .lit (.int .u8 38), .lit (.int .u8 29), .lit (.int .u8 17), .lit (.int .u8 4), .lit (.int .u8 62), .lit (.int .u8 47), .lit (.int .u8 59), .lit (.int .u8 36), .lit (.int .u8 45), .lit (.int .u8 43), .lit (.int .u8 51), .lit (.int .u8 22), .lit (.int .u8 53), .lit (.int .u8 39), .lit (.int .u8 33), .lit (.int .u8 30), .lit (.int .u8 24), .lit (.int .u8 18), .lit (.int .u8 12), .lit (.int .u8 5), .lit (.int .u8 63), .lit (.int .u8 55), .lit (.int .u8 48), .lit (.int .u8 27), .lit (.int .u8 60), .lit (.int .u8 41), .lit (.int .u8 37), .lit (.int .u8 16), .lit (.int .u8 46), .lit (.int .u8 35), .lit (.int .u8 44), .lit (.int .u8 21), .lit (.int .u8 52), .lit (.int .u8 32), .lit (.int .u8 23), .lit (.int .u8 11), .lit (.int .u8 54), .lit (.int .u8 26), .lit (.int .u8 40), .lit (.int .u8 15), .lit (.int .u8 34), .lit (.int .u8 20), .lit (.int .u8 31), .lit (.int .u8 10), .lit (.int .u8 25), .lit (.int .u8 14), .lit (.int .u8 19), .lit (.int .u8 9), .lit (.int .u8 13), .lit (.int .u8 8), .lit (.int .u8 7), .lit (.int .u8 6)]
def laid_internal_strconv_uint64pow10 {H : Type} : DataW H := .agg [.lit (.int .u64 1), .lit (.int .u64 10), .lit (.int .u64 100), .lit (.int .u64 1000), .lit (.int .u64 10000), .lit (.int .u64 100000), .lit (.int .u64 1000000), .lit (.int .u64 10000000), .lit (.int .u64 100000000), .lit (.int .u64 1000000000), .lit (.int .u64 10000000000), .lit (.int .u64 100000000000), .lit (.int .u64 1000000000000), .lit (.int .u64 10000000000000), .lit (.int .u64 100000000000000), .lit (.int .u64 1000000000000000), .lit (.int .u64 10000000000000000), .lit (.int .u64 100000000000000000), .lit (.int .u64 1000000000000000000), .lit (.int .u64 10000000000000000000)]

/-- 'musettelaw10.PlateLeast': WHATEVER THE INPUT: true; the input reads as it did. -/
def plateLeastSpec : ChangeSpec := { name := "plateLeast", fn := fun _ => fun
  | [d] => { results := [.lit (.bool true)], args := [d] }
  | _ => none }
def plateLeastRow : OpenClaim := { program := "ythejgnlikaiddaadoor", sum := "f46d9e1d721b9ce540ed002e7f1442713bd319708566672dba5c97b248e529d3", func := "musette/musettelaw10.PlateLeast", spec := "plateLeast", unfollowed := true, recurses := true, named := ["internal/strconv.uint64pow10", "math/bits.deBruijn32tab", "math/bits.deBruijn64tab"], apart := false, laid := [("math/bits.deBruijn32tab", laid_math_bits_deBruijn32tab), ("math/bits.deBruijn64tab", laid_math_bits_deBruijn64tab), ("internal/strconv.uint64pow10", laid_internal_strconv_uint64pow10)] }
def PlateLeastSaid : Prop := plateLeastRow.holds Tryd.pinned (OpenSpec.ofChange plateLeastSpec)

/-- ITS FALSE NEIGHBOUR: 'it returns false'. Refute it at one input. -/
def plateLeastWrong : ChangeSpec := { name := "plateLeast", fn := fun _ => fun
  | [d] => { results := [.lit (.bool false)], args := [d] }
  | _ => none }
def PlateLeastWrongFalsely : Prop := plateLeastRow.holds Tryd.pinned (OpenSpec.ofChange plateLeastWrong)

/-- 'musettelaw10.PlateForged': WHATEVER THE INPUT: true; the input reads as it did. -/
def plateForgedSpec : ChangeSpec := { name := "plateForged", fn := fun _ => fun
  | [d] => { results := [.lit (.bool true)], args := [d] }
  | _ => none }
def plateForgedRow : OpenClaim := { program := "ythejgnlikaiddaadoor", sum := "f46d9e1d721b9ce540ed002e7f1442713bd319708566672dba5c97b248e529d3", func := "musette/musettelaw10.PlateForged", spec := "plateForged", unfollowed := true, recurses := true, named := ["internal/strconv.uint64pow10", "math/bits.deBruijn32tab", "math/bits.deBruijn64tab"], apart := false, laid := [("math/bits.deBruijn32tab", laid_math_bits_deBruijn32tab), ("math/bits.deBruijn64tab", laid_math_bits_deBruijn64tab), ("internal/strconv.uint64pow10", laid_internal_strconv_uint64pow10)] }
def PlateForgedSaid : Prop := plateForgedRow.holds Tryd.pinned (OpenSpec.ofChange plateForgedSpec)

/-- ITS FALSE NEIGHBOUR: 'it returns false'. Refute it at one input. -/
def plateForgedWrong : ChangeSpec := { name := "plateForged", fn := fun _ => fun
  | [d] => { results := [.lit (.bool false)], args := [d] }
  | _ => none }
def PlateForgedWrongFalsely : Prop := plateForgedRow.holds Tryd.pinned (OpenSpec.ofChange plateForgedWrong)

/-- 'musettelaw10.PlateNarrowed': WHATEVER THE INPUT: true; the input reads as it did. -/
def plateNarrowedSpec : ChangeSpec := { name := "plateNarrowed", fn := fun _ => fun
  | [d] => { results := [.lit (.bool true)], args := [d] }
  | _ => none }
def plateNarrowedRow : OpenClaim := { program := "ythejgnlikaiddaadoor", sum := "f46d9e1d721b9ce540ed002e7f1442713bd319708566672dba5c97b248e529d3", func := "musette/musettelaw10.PlateNarrowed", spec := "plateNarrowed", unfollowed := true, recurses := true, named := ["internal/strconv.uint64pow10", "math/bits.deBruijn32tab", "math/bits.deBruijn64tab"], apart := false, laid := [("math/bits.deBruijn32tab", laid_math_bits_deBruijn32tab), ("math/bits.deBruijn64tab", laid_math_bits_deBruijn64tab), ("internal/strconv.uint64pow10", laid_internal_strconv_uint64pow10)] }
def PlateNarrowedSaid : Prop := plateNarrowedRow.holds Tryd.pinned (OpenSpec.ofChange plateNarrowedSpec)

/-- ITS FALSE NEIGHBOUR: 'it returns false'. Refute it at one input. -/
def plateNarrowedWrong : ChangeSpec := { name := "plateNarrowed", fn := fun _ => fun
  | [d] => { results := [.lit (.bool false)], args := [d] }
  | _ => none }
def PlateNarrowedWrongFalsely : Prop := plateNarrowedRow.holds Tryd.pinned (OpenSpec.ofChange plateNarrowedWrong)

/-- 'musettelaw10.PlateAsked': WHATEVER THE INPUT: true; the input reads as it did. -/
def plateAskedSpec : ChangeSpec := { name := "plateAsked", fn := fun _ => fun
  | [d] => { results := [.lit (.bool true)], args := [d] }
  | _ => none }
def plateAskedRow : OpenClaim := { program := "ythejgnlikaiddaadoor", sum := "f46d9e1d721b9ce540ed002e7f1442713bd319708566672dba5c97b248e529d3", func := "musette/musettelaw10.PlateAsked", spec := "plateAsked", unfollowed := true, recurses := true, named := ["internal/strconv.uint64pow10", "math/bits.deBruijn32tab", "math/bits.deBruijn64tab"], apart := false, laid := [("math/bits.deBruijn32tab", laid_math_bits_deBruijn32tab), ("math/bits.deBruijn64tab", laid_math_bits_deBruijn64tab), ("internal/strconv.uint64pow10", laid_internal_strconv_uint64pow10)] }
def PlateAskedSaid : Prop := plateAskedRow.holds Tryd.pinned (OpenSpec.ofChange plateAskedSpec)

/-- ITS FALSE NEIGHBOUR: 'it returns false'. Refute it at one input. -/
def plateAskedWrong : ChangeSpec := { name := "plateAsked", fn := fun _ => fun
  | [d] => { results := [.lit (.bool false)], args := [d] }
  | _ => none }
def PlateAskedWrongFalsely : Prop := plateAskedRow.holds Tryd.pinned (OpenSpec.ofChange plateAskedWrong)

/-- 'musettelaw10.PlateAll': WHATEVER THE INPUT: true; the input reads as it did. -/
def plateAllSpec : ChangeSpec := { name := "plateAll", fn := fun _ => fun
  | [d] => { results := [.lit (.bool true)], args := [d] }
  | _ => none }
def plateAllRow : OpenClaim := { program := "ythejgnlikaiddaadoor", sum := "f46d9e1d721b9ce540ed002e7f1442713bd319708566672dba5c97b248e529d3", func := "musette/musettelaw10.PlateAll", spec := "plateAll", unfollowed := true, recurses := true, named := ["internal/strconv.uint64pow10", "math/bits.deBruijn32tab", "math/bits.deBruijn64tab"], apart := false, laid := [("math/bits.deBruijn32tab", laid_math_bits_deBruijn32tab), ("math/bits.deBruijn64tab", laid_math_bits_deBruijn64tab), ("internal/strconv.uint64pow10", laid_internal_strconv_uint64pow10)] }
def PlateAllSaid : Prop := plateAllRow.holds Tryd.pinned (OpenSpec.ofChange plateAllSpec)

/-- ITS FALSE NEIGHBOUR: 'it returns false'. Refute it at one input. -/
def plateAllWrong : ChangeSpec := { name := "plateAll", fn := fun _ => fun
  | [d] => { results := [.lit (.bool false)], args := [d] }
  | _ => none }
def PlateAllWrongFalsely : Prop := plateAllRow.holds Tryd.pinned (OpenSpec.ofChange plateAllWrong)

/-- 'musettelaw10.PlateTrue': WHATEVER THE INPUT: true; the input reads as it did. -/
def plateTrueSpec : ChangeSpec := { name := "plateTrue", fn := fun _ => fun
  | [d] => { results := [.lit (.bool true)], args := [d] }
  | _ => none }
def plateTrueRow : OpenClaim := { program := "ythejgnlikaiddaadoor", sum := "f46d9e1d721b9ce540ed002e7f1442713bd319708566672dba5c97b248e529d3", func := "musette/musettelaw10.PlateTrue", spec := "plateTrue", unfollowed := true, recurses := true, named := ["internal/strconv.uint64pow10", "math/bits.deBruijn32tab", "math/bits.deBruijn64tab"], apart := false, laid := [("math/bits.deBruijn32tab", laid_math_bits_deBruijn32tab), ("math/bits.deBruijn64tab", laid_math_bits_deBruijn64tab), ("internal/strconv.uint64pow10", laid_internal_strconv_uint64pow10)] }
def PlateTrueSaid : Prop := plateTrueRow.holds Tryd.pinned (OpenSpec.ofChange plateTrueSpec)

/-- ITS FALSE NEIGHBOUR: 'it returns false'. Refute it at one input. -/
def plateTrueWrong : ChangeSpec := { name := "plateTrue", fn := fun _ => fun
  | [d] => { results := [.lit (.bool false)], args := [d] }
  | _ => none }
def PlateTrueWrongFalsely : Prop := plateTrueRow.holds Tryd.pinned (OpenSpec.ofChange plateTrueWrong)

/-- 'musettelaw10.PlateDecided': WHATEVER THE INPUT: true; the input reads as it did. -/
def plateDecidedSpec : ChangeSpec := { name := "plateDecided", fn := fun _ => fun
  | [d] => { results := [.lit (.bool true)], args := [d] }
  | _ => none }
def plateDecidedRow : OpenClaim := { program := "ythejgnlikaiddaadoor", sum := "f46d9e1d721b9ce540ed002e7f1442713bd319708566672dba5c97b248e529d3", func := "musette/musettelaw10.PlateDecided", spec := "plateDecided", unfollowed := true, recurses := true, named := ["internal/strconv.uint64pow10", "math/bits.deBruijn32tab", "math/bits.deBruijn64tab"], apart := false, laid := [("math/bits.deBruijn32tab", laid_math_bits_deBruijn32tab), ("math/bits.deBruijn64tab", laid_math_bits_deBruijn64tab), ("internal/strconv.uint64pow10", laid_internal_strconv_uint64pow10)] }
def PlateDecidedSaid : Prop := plateDecidedRow.holds Tryd.pinned (OpenSpec.ofChange plateDecidedSpec)

/-- ITS FALSE NEIGHBOUR: 'it returns false'. Refute it at one input. -/
def plateDecidedWrong : ChangeSpec := { name := "plateDecided", fn := fun _ => fun
  | [d] => { results := [.lit (.bool false)], args := [d] }
  | _ => none }
def PlateDecidedWrongFalsely : Prop := plateDecidedRow.holds Tryd.pinned (OpenSpec.ofChange plateDecidedWrong)

/-- 'musettelaw10.PlateOrdered': WHATEVER THE INPUT: true; the input reads as it did. -/
def plateOrderedSpec : ChangeSpec := { name := "plateOrdered", fn := fun _ => fun
  | [d] => { results := [.lit (.bool true)], args := [d] }
  | _ => none }
def plateOrderedRow : OpenClaim := { program := "ythejgnlikaiddaadoor", sum := "f46d9e1d721b9ce540ed002e7f1442713bd319708566672dba5c97b248e529d3", func := "musette/musettelaw10.PlateOrdered", spec := "plateOrdered", unfollowed := true, recurses := true, named := ["internal/strconv.uint64pow10", "math/bits.deBruijn32tab", "math/bits.deBruijn64tab"], apart := false, laid := [("math/bits.deBruijn32tab", laid_math_bits_deBruijn32tab), ("math/bits.deBruijn64tab", laid_math_bits_deBruijn64tab), ("internal/strconv.uint64pow10", laid_internal_strconv_uint64pow10)] }
def PlateOrderedSaid : Prop := plateOrderedRow.holds Tryd.pinned (OpenSpec.ofChange plateOrderedSpec)

/-- ITS FALSE NEIGHBOUR: 'it returns false'. Refute it at one input. -/
def plateOrderedWrong : ChangeSpec := { name := "plateOrdered", fn := fun _ => fun
  | [d] => { results := [.lit (.bool false)], args := [d] }
  | _ => none }
def PlateOrderedWrongFalsely : Prop := plateOrderedRow.holds Tryd.pinned (OpenSpec.ofChange plateOrderedWrong)

/- THE SECOND FORM. 'bulk': how many values and letters a reading holds, each counted each time it is reached (what is shared counts as often as it is met; a slice's spare places count too). A statement '..UptoSaid' is the law's where the arguments, and the package variables that the reading takes, are together of bulk at most 1048576: NARROWER than '..Said'. Prove '..Said' where nothing that the law and all that it calls make is longer than what came in: it says more and counts as full. Else prove '..UptoSaid'. A law counts once. -/
mutual
def uptoBulk {H : Type} : DataW H → Nat
  | .lit (.string bytes) => bytes.length + 1
  | .lit _ => 1
  | .nil => 1
  | .ptr d => uptoBulk d + 1
  | .slice elems spare => uptoBulkAll elems + uptoBulkAll spare + 1
  | .agg parts => uptoBulkAll parts + 1
  | .iface _ d => uptoBulk d + 1
  | .map entries => uptoBulkEntries entries + 1
  | .held _ => 1
def uptoBulkAll {H : Type} : List (DataW H) → Nat
  | [] => 0
  | d :: r => uptoBulk d + uptoBulkAll r
def uptoBulkEntries {H : Type} : List (Lit × DataW H) → Nat
  | [] => 0
  | x :: r => uptoBulkEntry x + uptoBulkEntries r
def uptoBulkEntry {H : Type} : Lit × DataW H → Nat
  | (.string bytes, d) => bytes.length + uptoBulk d + 1
  | (_, d) => uptoBulk d + 1
 end
def uptoSmall : (H : Type) → List (DataW H) → Bool := fun _ ds => decide (uptoBulkAll ds ≤ 1048576)
def OpenSpec.upto (s : _root_.Go.ChangeSpec) : _root_.Go.OpenSpec := { _root_.Go.OpenSpec.ofChange s with cond := some uptoSmall }

/-- 'musettelaw10.PlateLeast', WHERE WHAT IT READS IS OF BULK AT MOST 1048576: true; the input reads as it did. -/
def plateLeastUptoRow : OpenClaim := { program := "ythejgnlikaiddaadoor", sum := "f46d9e1d721b9ce540ed002e7f1442713bd319708566672dba5c97b248e529d3", func := "musette/musettelaw10.PlateLeast", spec := "plateLeast", unfollowed := true, recurses := true, named := ["internal/strconv.uint64pow10", "math/bits.deBruijn32tab", "math/bits.deBruijn64tab"], apart := false, laid := [("math/bits.deBruijn32tab", laid_math_bits_deBruijn32tab), ("math/bits.deBruijn64tab", laid_math_bits_deBruijn64tab), ("internal/strconv.uint64pow10", laid_internal_strconv_uint64pow10)], narrowed := true }
def PlateLeastUptoSaid : Prop := plateLeastUptoRow.holds Tryd.pinned (OpenSpec.upto plateLeastSpec)

/-- 'musettelaw10.PlateForged', WHERE WHAT IT READS IS OF BULK AT MOST 1048576: true; the input reads as it did. -/
def plateForgedUptoRow : OpenClaim := { program := "ythejgnlikaiddaadoor", sum := "f46d9e1d721b9ce540ed002e7f1442713bd319708566672dba5c97b248e529d3", func := "musette/musettelaw10.PlateForged", spec := "plateForged", unfollowed := true, recurses := true, named := ["internal/strconv.uint64pow10", "math/bits.deBruijn32tab", "math/bits.deBruijn64tab"], apart := false, laid := [("math/bits.deBruijn32tab", laid_math_bits_deBruijn32tab), ("math/bits.deBruijn64tab", laid_math_bits_deBruijn64tab), ("internal/strconv.uint64pow10", laid_internal_strconv_uint64pow10)], narrowed := true }
def PlateForgedUptoSaid : Prop := plateForgedUptoRow.holds Tryd.pinned (OpenSpec.upto plateForgedSpec)

/-- 'musettelaw10.PlateNarrowed', WHERE WHAT IT READS IS OF BULK AT MOST 1048576: true; the input reads as it did. -/
def plateNarrowedUptoRow : OpenClaim := { program := "ythejgnlikaiddaadoor", sum := "f46d9e1d721b9ce540ed002e7f1442713bd319708566672dba5c97b248e529d3", func := "musette/musettelaw10.PlateNarrowed", spec := "plateNarrowed", unfollowed := true, recurses := true, named := ["internal/strconv.uint64pow10", "math/bits.deBruijn32tab", "math/bits.deBruijn64tab"], apart := false, laid := [("math/bits.deBruijn32tab", laid_math_bits_deBruijn32tab), ("math/bits.deBruijn64tab", laid_math_bits_deBruijn64tab), ("internal/strconv.uint64pow10", laid_internal_strconv_uint64pow10)], narrowed := true }
def PlateNarrowedUptoSaid : Prop := plateNarrowedUptoRow.holds Tryd.pinned (OpenSpec.upto plateNarrowedSpec)

/-- 'musettelaw10.PlateAsked', WHERE WHAT IT READS IS OF BULK AT MOST 1048576: true; the input reads as it did. -/
def plateAskedUptoRow : OpenClaim := { program := "ythejgnlikaiddaadoor", sum := "f46d9e1d721b9ce540ed002e7f1442713bd319708566672dba5c97b248e529d3", func := "musette/musettelaw10.PlateAsked", spec := "plateAsked", unfollowed := true, recurses := true, named := ["internal/strconv.uint64pow10", "math/bits.deBruijn32tab", "math/bits.deBruijn64tab"], apart := false, laid := [("math/bits.deBruijn32tab", laid_math_bits_deBruijn32tab), ("math/bits.deBruijn64tab", laid_math_bits_deBruijn64tab), ("internal/strconv.uint64pow10", laid_internal_strconv_uint64pow10)], narrowed := true }
def PlateAskedUptoSaid : Prop := plateAskedUptoRow.holds Tryd.pinned (OpenSpec.upto plateAskedSpec)

/-- 'musettelaw10.PlateAll', WHERE WHAT IT READS IS OF BULK AT MOST 1048576: true; the input reads as it did. -/
def plateAllUptoRow : OpenClaim := { program := "ythejgnlikaiddaadoor", sum := "f46d9e1d721b9ce540ed002e7f1442713bd319708566672dba5c97b248e529d3", func := "musette/musettelaw10.PlateAll", spec := "plateAll", unfollowed := true, recurses := true, named := ["internal/strconv.uint64pow10", "math/bits.deBruijn32tab", "math/bits.deBruijn64tab"], apart := false, laid := [("math/bits.deBruijn32tab", laid_math_bits_deBruijn32tab), ("math/bits.deBruijn64tab", laid_math_bits_deBruijn64tab), ("internal/strconv.uint64pow10", laid_internal_strconv_uint64pow10)], narrowed := true }
def PlateAllUptoSaid : Prop := plateAllUptoRow.holds Tryd.pinned (OpenSpec.upto plateAllSpec)

/-- 'musettelaw10.PlateTrue', WHERE WHAT IT READS IS OF BULK AT MOST 1048576: true; the input reads as it did. -/
def plateTrueUptoRow : OpenClaim := { program := "ythejgnlikaiddaadoor", sum := "f46d9e1d721b9ce540ed002e7f1442713bd319708566672dba5c97b248e529d3", func := "musette/musettelaw10.PlateTrue", spec := "plateTrue", unfollowed := true, recurses := true, named := ["internal/strconv.uint64pow10", "math/bits.deBruijn32tab", "math/bits.deBruijn64tab"], apart := false, laid := [("math/bits.deBruijn32tab", laid_math_bits_deBruijn32tab), ("math/bits.deBruijn64tab", laid_math_bits_deBruijn64tab), ("internal/strconv.uint64pow10", laid_internal_strconv_uint64pow10)], narrowed := true }
def PlateTrueUptoSaid : Prop := plateTrueUptoRow.holds Tryd.pinned (OpenSpec.upto plateTrueSpec)

/-- 'musettelaw10.PlateDecided', WHERE WHAT IT READS IS OF BULK AT MOST 1048576: true; the input reads as it did. -/
def plateDecidedUptoRow : OpenClaim := { program := "ythejgnlikaiddaadoor", sum := "f46d9e1d721b9ce540ed002e7f1442713bd319708566672dba5c97b248e529d3", func := "musette/musettelaw10.PlateDecided", spec := "plateDecided", unfollowed := true, recurses := true, named := ["internal/strconv.uint64pow10", "math/bits.deBruijn32tab", "math/bits.deBruijn64tab"], apart := false, laid := [("math/bits.deBruijn32tab", laid_math_bits_deBruijn32tab), ("math/bits.deBruijn64tab", laid_math_bits_deBruijn64tab), ("internal/strconv.uint64pow10", laid_internal_strconv_uint64pow10)], narrowed := true }
def PlateDecidedUptoSaid : Prop := plateDecidedUptoRow.holds Tryd.pinned (OpenSpec.upto plateDecidedSpec)

/-- 'musettelaw10.PlateOrdered', WHERE WHAT IT READS IS OF BULK AT MOST 1048576: true; the input reads as it did. -/
def plateOrderedUptoRow : OpenClaim := { program := "ythejgnlikaiddaadoor", sum := "f46d9e1d721b9ce540ed002e7f1442713bd319708566672dba5c97b248e529d3", func := "musette/musettelaw10.PlateOrdered", spec := "plateOrdered", unfollowed := true, recurses := true, named := ["internal/strconv.uint64pow10", "math/bits.deBruijn32tab", "math/bits.deBruijn64tab"], apart := false, laid := [("math/bits.deBruijn32tab", laid_math_bits_deBruijn32tab), ("math/bits.deBruijn64tab", laid_math_bits_deBruijn64tab), ("internal/strconv.uint64pow10", laid_internal_strconv_uint64pow10)], narrowed := true }
def PlateOrderedUptoSaid : Prop := plateOrderedUptoRow.holds Tryd.pinned (OpenSpec.upto plateOrderedSpec)

end Rows
end Go.Proofs.YthejgnlikaiddaaDoor
