/-
  No cell of these rows narrows 'for every input' (looked for: loops, veiled, ifaces, maps, wideKeys, modest, calm, conditions, laid).
  DERIVED. THE GIVEN ROWS OF THIS SEAT. 16 by the template 'for every input the law returns true; each argument reads behind the call as it read before'; 0 by the template 'total and deterministic' (their statements: YtgbdndlmdklefaaGreatTotals.lean).
  GIVEN WITH THE SEED: the statements are not yours to turn. If you find one false, say at which input.
  Laid BY PROGRAM, IN A SANDBOX (cutbox-rows.mjs): the forced cells as the released guide's own fill.sh prints them over the translation 30a37bfd675c65b4… (all of the seat's roots in one cut). By AI agents, Wed Nov 11 2026. No macro, syntax, notation, axiom, sorry.
-/
import Derived.Test.YtgbdndlmdklefaaGreatChecked
import GoSem.Claim
import GoSem.ClaimJoined
import GoSem.ClaimMapViews
import Derived.JoinedTies
import Derived.KernelRfl
namespace Go.Proofs.YtgbdndlmdklefaaGreat
/- THE CELL 'sum', in the pinned program and in every row, IS THE sha256 OF THE DUMP (.gsa) THAT YtgbdndlmdklefaaGreatProg.lean LOADS. Nothing in Lean hashes anything: it is a label: what it is worth is what the hold of that sum in a sandbox is worth. -/
noncomputable def Tryz.pinned : Pinned := { name := "ytgbdndlmdklefaagreat", sum := "30a37bfd675c65b49fe19a1e42d93432701d708797684b92493ed3b41b34c8b1", checked := Tryz.checked }
namespace Rows
def none {H : Type} : Left H := { results := [], args := [] }

/-- 'musettelaw11.HandConvicted': WHATEVER THE INPUT: true; the input reads as it did. -/
def handConvictedSpec : ChangeSpec := { name := "handConvicted", fn := fun _ => fun
  | [d] => { results := [.lit (.bool true)], args := [d] }
  | _ => none }
def handConvictedRow : OpenClaim := { program := "ytgbdndlmdklefaagreat", sum := "30a37bfd675c65b49fe19a1e42d93432701d708797684b92493ed3b41b34c8b1", func := "musette/musettelaw11.HandConvicted", spec := "handConvicted", unfollowed := true, recurses := true, plainKeys := false, leaving := true, apart := false }
def HandConvictedSaid : Prop := handConvictedRow.holds Tryz.pinned (OpenSpec.ofChange handConvictedSpec)

/-- ITS FALSE NEIGHBOUR: 'it returns false'. Refute it at one input. -/
def handConvictedWrong : ChangeSpec := { name := "handConvicted", fn := fun _ => fun
  | [d] => { results := [.lit (.bool false)], args := [d] }
  | _ => none }
def HandConvictedWrongFalsely : Prop := handConvictedRow.holds Tryz.pinned (OpenSpec.ofChange handConvictedWrong)

/-- 'musettelaw11.HandErrors': WHATEVER THE INPUT: true; the input reads as it did. -/
def handErrorsSpec : ChangeSpec := { name := "handErrors", fn := fun _ => fun
  | [d1, d2, d3, d4, d5, d6, d7] => { results := [.lit (.bool true)], args := [d1, d2, d3, d4, d5, d6, d7] }
  | _ => none }
def handErrorsRow : OpenClaim := { program := "ytgbdndlmdklefaagreat", sum := "30a37bfd675c65b49fe19a1e42d93432701d708797684b92493ed3b41b34c8b1", func := "musette/musettelaw11.HandErrors", spec := "handErrors", unfollowed := true, recurses := true, plainKeys := false, leaving := true, apart := false }
def HandErrorsSaid : Prop := handErrorsRow.holds Tryz.pinned (OpenSpec.ofChange handErrorsSpec)

/-- ITS FALSE NEIGHBOUR: 'it returns false'. Refute it at one input. -/
def handErrorsWrong : ChangeSpec := { name := "handErrors", fn := fun _ => fun
  | [d1, d2, d3, d4, d5, d6, d7] => { results := [.lit (.bool false)], args := [d1, d2, d3, d4, d5, d6, d7] }
  | _ => none }
def HandErrorsWrongFalsely : Prop := handErrorsRow.holds Tryz.pinned (OpenSpec.ofChange handErrorsWrong)

/-- 'musettelaw11.HandTrusted': WHATEVER THE INPUT: true; the input reads as it did. -/
def handTrustedSpec : ChangeSpec := { name := "handTrusted", fn := fun _ => fun
  | [d] => { results := [.lit (.bool true)], args := [d] }
  | _ => none }
def handTrustedRow : OpenClaim := { program := "ytgbdndlmdklefaagreat", sum := "30a37bfd675c65b49fe19a1e42d93432701d708797684b92493ed3b41b34c8b1", func := "musette/musettelaw11.HandTrusted", spec := "handTrusted", unfollowed := true, recurses := true, plainKeys := false, leaving := true, apart := false }
def HandTrustedSaid : Prop := handTrustedRow.holds Tryz.pinned (OpenSpec.ofChange handTrustedSpec)

/-- ITS FALSE NEIGHBOUR: 'it returns false'. Refute it at one input. -/
def handTrustedWrong : ChangeSpec := { name := "handTrusted", fn := fun _ => fun
  | [d] => { results := [.lit (.bool false)], args := [d] }
  | _ => none }
def HandTrustedWrongFalsely : Prop := handTrustedRow.holds Tryz.pinned (OpenSpec.ofChange handTrustedWrong)

/-- 'musettelaw11.HandChecks': WHATEVER THE INPUT: true; the input reads as it did. -/
def handChecksSpec : ChangeSpec := { name := "handChecks", fn := fun _ => fun
  | [d1, d2, d3] => { results := [.lit (.bool true)], args := [d1, d2, d3] }
  | _ => none }
def handChecksRow : OpenClaim := { program := "ytgbdndlmdklefaagreat", sum := "30a37bfd675c65b49fe19a1e42d93432701d708797684b92493ed3b41b34c8b1", func := "musette/musettelaw11.HandChecks", spec := "handChecks", unfollowed := true, recurses := true, plainKeys := false, leaving := true, apart := false }
def HandChecksSaid : Prop := handChecksRow.holds Tryz.pinned (OpenSpec.ofChange handChecksSpec)

/-- ITS FALSE NEIGHBOUR: 'it returns false'. Refute it at one input. -/
def handChecksWrong : ChangeSpec := { name := "handChecks", fn := fun _ => fun
  | [d1, d2, d3] => { results := [.lit (.bool false)], args := [d1, d2, d3] }
  | _ => none }
def HandChecksWrongFalsely : Prop := handChecksRow.holds Tryz.pinned (OpenSpec.ofChange handChecksWrong)

/-- 'musettelaw11.HandLists': WHATEVER THE INPUT: true; the input reads as it did. -/
def handListsSpec : ChangeSpec := { name := "handLists", fn := fun _ => fun
  | [d1, d2, d3, d4] => { results := [.lit (.bool true)], args := [d1, d2, d3, d4] }
  | _ => none }
def handListsRow : OpenClaim := { program := "ytgbdndlmdklefaagreat", sum := "30a37bfd675c65b49fe19a1e42d93432701d708797684b92493ed3b41b34c8b1", func := "musette/musettelaw11.HandLists", spec := "handLists", unfollowed := true, recurses := true, plainKeys := false, leaving := true, apart := false }
def HandListsSaid : Prop := handListsRow.holds Tryz.pinned (OpenSpec.ofChange handListsSpec)

/-- ITS FALSE NEIGHBOUR: 'it returns false'. Refute it at one input. -/
def handListsWrong : ChangeSpec := { name := "handLists", fn := fun _ => fun
  | [d1, d2, d3, d4] => { results := [.lit (.bool false)], args := [d1, d2, d3, d4] }
  | _ => none }
def HandListsWrongFalsely : Prop := handListsRow.holds Tryz.pinned (OpenSpec.ofChange handListsWrong)

/-- 'musettelaw11.HandFewest': WHATEVER THE INPUT: true; the input reads as it did. -/
def handFewestSpec : ChangeSpec := { name := "handFewest", fn := fun _ => fun
  | [d] => { results := [.lit (.bool true)], args := [d] }
  | _ => none }
def handFewestRow : OpenClaim := { program := "ytgbdndlmdklefaagreat", sum := "30a37bfd675c65b49fe19a1e42d93432701d708797684b92493ed3b41b34c8b1", func := "musette/musettelaw11.HandFewest", spec := "handFewest", unfollowed := true, recurses := true, plainKeys := false, leaving := true, apart := false }
def HandFewestSaid : Prop := handFewestRow.holds Tryz.pinned (OpenSpec.ofChange handFewestSpec)

/-- ITS FALSE NEIGHBOUR: 'it returns false'. Refute it at one input. -/
def handFewestWrong : ChangeSpec := { name := "handFewest", fn := fun _ => fun
  | [d] => { results := [.lit (.bool false)], args := [d] }
  | _ => none }
def HandFewestWrongFalsely : Prop := handFewestRow.holds Tryz.pinned (OpenSpec.ofChange handFewestWrong)

/-- 'musettelaw11.HandConvicts': WHATEVER THE INPUT: true; the input reads as it did. -/
def handConvictsSpec : ChangeSpec := { name := "handConvicts", fn := fun _ => fun
  | [d1, d2, d3, d4, d5] => { results := [.lit (.bool true)], args := [d1, d2, d3, d4, d5] }
  | _ => none }
def handConvictsRow : OpenClaim := { program := "ytgbdndlmdklefaagreat", sum := "30a37bfd675c65b49fe19a1e42d93432701d708797684b92493ed3b41b34c8b1", func := "musette/musettelaw11.HandConvicts", spec := "handConvicts", unfollowed := true, recurses := true, plainKeys := false, leaving := true, apart := false }
def HandConvictsSaid : Prop := handConvictsRow.holds Tryz.pinned (OpenSpec.ofChange handConvictsSpec)

/-- ITS FALSE NEIGHBOUR: 'it returns false'. Refute it at one input. -/
def handConvictsWrong : ChangeSpec := { name := "handConvicts", fn := fun _ => fun
  | [d1, d2, d3, d4, d5] => { results := [.lit (.bool false)], args := [d1, d2, d3, d4, d5] }
  | _ => none }
def HandConvictsWrongFalsely : Prop := handConvictsRow.holds Tryz.pinned (OpenSpec.ofChange handConvictsWrong)

/-- 'musettelaw11.HandLooked': WHATEVER THE INPUT: true; the input reads as it did. -/
def handLookedSpec : ChangeSpec := { name := "handLooked", fn := fun _ => fun
  | [d] => { results := [.lit (.bool true)], args := [d] }
  | _ => none }
def handLookedRow : OpenClaim := { program := "ytgbdndlmdklefaagreat", sum := "30a37bfd675c65b49fe19a1e42d93432701d708797684b92493ed3b41b34c8b1", func := "musette/musettelaw11.HandLooked", spec := "handLooked", unfollowed := true, recurses := true, plainKeys := false, leaving := true, apart := false }
def HandLookedSaid : Prop := handLookedRow.holds Tryz.pinned (OpenSpec.ofChange handLookedSpec)

/-- ITS FALSE NEIGHBOUR: 'it returns false'. Refute it at one input. -/
def handLookedWrong : ChangeSpec := { name := "handLooked", fn := fun _ => fun
  | [d] => { results := [.lit (.bool false)], args := [d] }
  | _ => none }
def HandLookedWrongFalsely : Prop := handLookedRow.holds Tryz.pinned (OpenSpec.ofChange handLookedWrong)

/-- 'musettelaw11.HandRenamed': WHATEVER THE INPUT: true; the input reads as it did. -/
def handRenamedSpec : ChangeSpec := { name := "handRenamed", fn := fun _ => fun
  | [d] => { results := [.lit (.bool true)], args := [d] }
  | _ => none }
def handRenamedRow : OpenClaim := { program := "ytgbdndlmdklefaagreat", sum := "30a37bfd675c65b49fe19a1e42d93432701d708797684b92493ed3b41b34c8b1", func := "musette/musettelaw11.HandRenamed", spec := "handRenamed", unfollowed := true, recurses := true, plainKeys := false, leaving := true, apart := false }
def HandRenamedSaid : Prop := handRenamedRow.holds Tryz.pinned (OpenSpec.ofChange handRenamedSpec)

/-- ITS FALSE NEIGHBOUR: 'it returns false'. Refute it at one input. -/
def handRenamedWrong : ChangeSpec := { name := "handRenamed", fn := fun _ => fun
  | [d] => { results := [.lit (.bool false)], args := [d] }
  | _ => none }
def HandRenamedWrongFalsely : Prop := handRenamedRow.holds Tryz.pinned (OpenSpec.ofChange handRenamedWrong)

/-- 'musettelaw11.HandTested': WHATEVER THE INPUT: true; the input reads as it did. -/
def handTestedSpec : ChangeSpec := { name := "handTested", fn := fun _ => fun
  | [d] => { results := [.lit (.bool true)], args := [d] }
  | _ => none }
def handTestedRow : OpenClaim := { program := "ytgbdndlmdklefaagreat", sum := "30a37bfd675c65b49fe19a1e42d93432701d708797684b92493ed3b41b34c8b1", func := "musette/musettelaw11.HandTested", spec := "handTested", unfollowed := true, recurses := true, plainKeys := false, leaving := true, apart := false }
def HandTestedSaid : Prop := handTestedRow.holds Tryz.pinned (OpenSpec.ofChange handTestedSpec)

/-- ITS FALSE NEIGHBOUR: 'it returns false'. Refute it at one input. -/
def handTestedWrong : ChangeSpec := { name := "handTested", fn := fun _ => fun
  | [d] => { results := [.lit (.bool false)], args := [d] }
  | _ => none }
def HandTestedWrongFalsely : Prop := handTestedRow.holds Tryz.pinned (OpenSpec.ofChange handTestedWrong)

/-- 'musettelaw11.HandAdded': WHATEVER THE INPUT: true; the input reads as it did. -/
def handAddedSpec : ChangeSpec := { name := "handAdded", fn := fun _ => fun
  | [d] => { results := [.lit (.bool true)], args := [d] }
  | _ => none }
def handAddedRow : OpenClaim := { program := "ytgbdndlmdklefaagreat", sum := "30a37bfd675c65b49fe19a1e42d93432701d708797684b92493ed3b41b34c8b1", func := "musette/musettelaw11.HandAdded", spec := "handAdded", unfollowed := true, recurses := true, plainKeys := false, leaving := true, apart := false }
def HandAddedSaid : Prop := handAddedRow.holds Tryz.pinned (OpenSpec.ofChange handAddedSpec)

/-- ITS FALSE NEIGHBOUR: 'it returns false'. Refute it at one input. -/
def handAddedWrong : ChangeSpec := { name := "handAdded", fn := fun _ => fun
  | [d] => { results := [.lit (.bool false)], args := [d] }
  | _ => none }
def HandAddedWrongFalsely : Prop := handAddedRow.holds Tryz.pinned (OpenSpec.ofChange handAddedWrong)

/-- 'musettelaw11.HandAll': WHATEVER THE INPUT: true; the input reads as it did. -/
def handAllSpec : ChangeSpec := { name := "handAll", fn := fun _ => fun
  | [d] => { results := [.lit (.bool true)], args := [d] }
  | _ => none }
def handAllRow : OpenClaim := { program := "ytgbdndlmdklefaagreat", sum := "30a37bfd675c65b49fe19a1e42d93432701d708797684b92493ed3b41b34c8b1", func := "musette/musettelaw11.HandAll", spec := "handAll", unfollowed := true, recurses := true, plainKeys := false, leaving := true, apart := false }
def HandAllSaid : Prop := handAllRow.holds Tryz.pinned (OpenSpec.ofChange handAllSpec)

/-- ITS FALSE NEIGHBOUR: 'it returns false'. Refute it at one input. -/
def handAllWrong : ChangeSpec := { name := "handAll", fn := fun _ => fun
  | [d] => { results := [.lit (.bool false)], args := [d] }
  | _ => none }
def HandAllWrongFalsely : Prop := handAllRow.holds Tryz.pinned (OpenSpec.ofChange handAllWrong)

/-- 'musettelaw11.HandTrue': WHATEVER THE INPUT: true; the input reads as it did. -/
def handTrueSpec : ChangeSpec := { name := "handTrue", fn := fun _ => fun
  | [d] => { results := [.lit (.bool true)], args := [d] }
  | _ => none }
def handTrueRow : OpenClaim := { program := "ytgbdndlmdklefaagreat", sum := "30a37bfd675c65b49fe19a1e42d93432701d708797684b92493ed3b41b34c8b1", func := "musette/musettelaw11.HandTrue", spec := "handTrue", unfollowed := true, recurses := true, plainKeys := false, leaving := true, apart := false }
def HandTrueSaid : Prop := handTrueRow.holds Tryz.pinned (OpenSpec.ofChange handTrueSpec)

/-- ITS FALSE NEIGHBOUR: 'it returns false'. Refute it at one input. -/
def handTrueWrong : ChangeSpec := { name := "handTrue", fn := fun _ => fun
  | [d] => { results := [.lit (.bool false)], args := [d] }
  | _ => none }
def HandTrueWrongFalsely : Prop := handTrueRow.holds Tryz.pinned (OpenSpec.ofChange handTrueWrong)

/-- 'musettelaw11.HandNext': WHATEVER THE INPUT: true; the input reads as it did. -/
def handNextSpec : ChangeSpec := { name := "handNext", fn := fun _ => fun
  | [d1, d2, d3] => { results := [.lit (.bool true)], args := [d1, d2, d3] }
  | _ => none }
def handNextRow : OpenClaim := { program := "ytgbdndlmdklefaagreat", sum := "30a37bfd675c65b49fe19a1e42d93432701d708797684b92493ed3b41b34c8b1", func := "musette/musettelaw11.HandNext", spec := "handNext", unfollowed := true, recurses := true, plainKeys := false, leaving := true, apart := false }
def HandNextSaid : Prop := handNextRow.holds Tryz.pinned (OpenSpec.ofChange handNextSpec)

/-- ITS FALSE NEIGHBOUR: 'it returns false'. Refute it at one input. -/
def handNextWrong : ChangeSpec := { name := "handNext", fn := fun _ => fun
  | [d1, d2, d3] => { results := [.lit (.bool false)], args := [d1, d2, d3] }
  | _ => none }
def HandNextWrongFalsely : Prop := handNextRow.holds Tryz.pinned (OpenSpec.ofChange handNextWrong)

/-- 'musettetop.TopTuned': WHATEVER THE INPUT: true; the input reads as it did. -/
def topTunedSpec : ChangeSpec := { name := "topTuned", fn := fun _ => fun
  | [d] => { results := [.lit (.bool true)], args := [d] }
  | _ => none }
def topTunedRow : OpenClaim := { program := "ytgbdndlmdklefaagreat", sum := "30a37bfd675c65b49fe19a1e42d93432701d708797684b92493ed3b41b34c8b1", func := "musette/musettetop.TopTuned", spec := "topTuned", unfollowed := true, recurses := true, plainKeys := false, leaving := true, apart := false }
def TopTunedSaid : Prop := topTunedRow.holds Tryz.pinned (OpenSpec.ofChange topTunedSpec)

/-- ITS FALSE NEIGHBOUR: 'it returns false'. Refute it at one input. -/
def topTunedWrong : ChangeSpec := { name := "topTuned", fn := fun _ => fun
  | [d] => { results := [.lit (.bool false)], args := [d] }
  | _ => none }
def TopTunedWrongFalsely : Prop := topTunedRow.holds Tryz.pinned (OpenSpec.ofChange topTunedWrong)

/-- 'musettetop.TopSteady': WHATEVER THE INPUT: true; the input reads as it did. -/
def topSteadySpec : ChangeSpec := { name := "topSteady", fn := fun _ => fun
  | [d] => { results := [.lit (.bool true)], args := [d] }
  | _ => none }
def topSteadyRow : OpenClaim := { program := "ytgbdndlmdklefaagreat", sum := "30a37bfd675c65b49fe19a1e42d93432701d708797684b92493ed3b41b34c8b1", func := "musette/musettetop.TopSteady", spec := "topSteady", unfollowed := true, recurses := true, plainKeys := false, leaving := true, apart := false }
def TopSteadySaid : Prop := topSteadyRow.holds Tryz.pinned (OpenSpec.ofChange topSteadySpec)

/-- ITS FALSE NEIGHBOUR: 'it returns false'. Refute it at one input. -/
def topSteadyWrong : ChangeSpec := { name := "topSteady", fn := fun _ => fun
  | [d] => { results := [.lit (.bool false)], args := [d] }
  | _ => none }
def TopSteadyWrongFalsely : Prop := topSteadyRow.holds Tryz.pinned (OpenSpec.ofChange topSteadyWrong)

/- THE SECOND FORM. 'bulk': how many values and letters a reading holds, each counted each time it is reached (what is shared counts as often as it is met; a slice's spare places count too). A statement '..UptoSaid' is the law's where the arguments, and the package variables that the reading takes, are together of bulk at most 1048576: NARROWER than '..Said'. Prove '..Said' where nothing that the law and all that it calls make is longer than what came in: it says more and counts as full. Else prove '..UptoSaid'. A law counts once. -/
mutual
def uptoBulk {H : Type} : DataW H → Nat
  | .lit (.string bytes) => bytes.length + 1
  | .lit _ => 1
  | .nil => 1
  | .ptr d => uptoBulk d + 1
  | .slice elems spare => uptoBulkAll elems + uptoBulkAll spare + 1
  | .agg parts => uptoBulkAll parts + 1
  | .iface _ d => uptoBulk d + 1
  | .map entries => uptoBulkEntries entries + 1
  | .held _ => 1
def uptoBulkAll {H : Type} : List (DataW H) → Nat
  | [] => 0
  | d :: r => uptoBulk d + uptoBulkAll r
def uptoBulkEntries {H : Type} : List (Lit × DataW H) → Nat
  | [] => 0
  | x :: r => uptoBulkEntry x + uptoBulkEntries r
def uptoBulkEntry {H : Type} : Lit × DataW H → Nat
  | (.string bytes, d) => bytes.length + uptoBulk d + 1
  | (_, d) => uptoBulk d + 1
 end
def uptoSmall : (H : Type) → List (DataW H) → Bool := fun _ ds => decide (uptoBulkAll ds ≤ 1048576)
def OpenSpec.upto (s : _root_.Go.ChangeSpec) : _root_.Go.OpenSpec := { _root_.Go.OpenSpec.ofChange s with cond := some uptoSmall }

/-- 'musettelaw11.HandConvicted', WHERE WHAT IT READS IS OF BULK AT MOST 1048576: true; the input reads as it did. -/
def handConvictedUptoRow : OpenClaim := { program := "ytgbdndlmdklefaagreat", sum := "30a37bfd675c65b49fe19a1e42d93432701d708797684b92493ed3b41b34c8b1", func := "musette/musettelaw11.HandConvicted", spec := "handConvicted", unfollowed := true, recurses := true, plainKeys := false, leaving := true, apart := false, narrowed := true }
def HandConvictedUptoSaid : Prop := handConvictedUptoRow.holds Tryz.pinned (OpenSpec.upto handConvictedSpec)

/-- 'musettelaw11.HandErrors', WHERE WHAT IT READS IS OF BULK AT MOST 1048576: true; the input reads as it did. -/
def handErrorsUptoRow : OpenClaim := { program := "ytgbdndlmdklefaagreat", sum := "30a37bfd675c65b49fe19a1e42d93432701d708797684b92493ed3b41b34c8b1", func := "musette/musettelaw11.HandErrors", spec := "handErrors", unfollowed := true, recurses := true, plainKeys := false, leaving := true, apart := false, narrowed := true }
def HandErrorsUptoSaid : Prop := handErrorsUptoRow.holds Tryz.pinned (OpenSpec.upto handErrorsSpec)

/-- 'musettelaw11.HandTrusted', WHERE WHAT IT READS IS OF BULK AT MOST 1048576: true; the input reads as it did. -/
def handTrustedUptoRow : OpenClaim := { program := "ytgbdndlmdklefaagreat", sum := "30a37bfd675c65b49fe19a1e42d93432701d708797684b92493ed3b41b34c8b1", func := "musette/musettelaw11.HandTrusted", spec := "handTrusted", unfollowed := true, recurses := true, plainKeys := false, leaving := true, apart := false, narrowed := true }
def HandTrustedUptoSaid : Prop := handTrustedUptoRow.holds Tryz.pinned (OpenSpec.upto handTrustedSpec)

/-- 'musettelaw11.HandChecks', WHERE WHAT IT READS IS OF BULK AT MOST 1048576: true; the input reads as it did. -/
def handChecksUptoRow : OpenClaim := { program := "ytgbdndlmdklefaagreat", sum := "30a37bfd675c65b49fe19a1e42d93432701d708797684b92493ed3b41b34c8b1", func := "musette/musettelaw11.HandChecks", spec := "handChecks", unfollowed := true, recurses := true, plainKeys := false, leaving := true, apart := false, narrowed := true }
def HandChecksUptoSaid : Prop := handChecksUptoRow.holds Tryz.pinned (OpenSpec.upto handChecksSpec)

/-- 'musettelaw11.HandLists', WHERE WHAT IT READS IS OF BULK AT MOST 1048576: true; the input reads as it did. -/
def handListsUptoRow : OpenClaim := { program := "ytgbdndlmdklefaagreat", sum := "30a37bfd675c65b49fe19a1e42d93432701d708797684b92493ed3b41b34c8b1", func := "musette/musettelaw11.HandLists", spec := "handLists", unfollowed := true, recurses := true, plainKeys := false, leaving := true, apart := false, narrowed := true }
def HandListsUptoSaid : Prop := handListsUptoRow.holds Tryz.pinned (OpenSpec.upto handListsSpec)

/-- 'musettelaw11.HandFewest', WHERE WHAT IT READS IS OF BULK AT MOST 1048576: true; the input reads as it did. -/
def handFewestUptoRow : OpenClaim := { program := "ytgbdndlmdklefaagreat", sum := "30a37bfd675c65b49fe19a1e42d93432701d708797684b92493ed3b41b34c8b1", func := "musette/musettelaw11.HandFewest", spec := "handFewest", unfollowed := true, recurses := true, plainKeys := false, leaving := true, apart := false, narrowed := true }
def HandFewestUptoSaid : Prop := handFewestUptoRow.holds Tryz.pinned (OpenSpec.upto handFewestSpec)

/-- 'musettelaw11.HandConvicts', WHERE WHAT IT READS IS OF BULK AT MOST 1048576: true; the input reads as it did. -/
def handConvictsUptoRow : OpenClaim := { program := "ytgbdndlmdklefaagreat", sum := "30a37bfd675c65b49fe19a1e42d93432701d708797684b92493ed3b41b34c8b1", func := "musette/musettelaw11.HandConvicts", spec := "handConvicts", unfollowed := true, recurses := true, plainKeys := false, leaving := true, apart := false, narrowed := true }
def HandConvictsUptoSaid : Prop := handConvictsUptoRow.holds Tryz.pinned (OpenSpec.upto handConvictsSpec)

/-- 'musettelaw11.HandLooked', WHERE WHAT IT READS IS OF BULK AT MOST 1048576: true; the input reads as it did. -/
def handLookedUptoRow : OpenClaim := { program := "ytgbdndlmdklefaagreat", sum := "30a37bfd675c65b49fe19a1e42d93432701d708797684b92493ed3b41b34c8b1", func := "musette/musettelaw11.HandLooked", spec := "handLooked", unfollowed := true, recurses := true, plainKeys := false, leaving := true, apart := false, narrowed := true }
def HandLookedUptoSaid : Prop := handLookedUptoRow.holds Tryz.pinned (OpenSpec.upto handLookedSpec)

/-- 'musettelaw11.HandRenamed', WHERE WHAT IT READS IS OF BULK AT MOST 1048576: true; the input reads as it did. -/
def handRenamedUptoRow : OpenClaim := { program := "ytgbdndlmdklefaagreat", sum := "30a37bfd675c65b49fe19a1e42d93432701d708797684b92493ed3b41b34c8b1", func := "musette/musettelaw11.HandRenamed", spec := "handRenamed", unfollowed := true, recurses := true, plainKeys := false, leaving := true, apart := false, narrowed := true }
def HandRenamedUptoSaid : Prop := handRenamedUptoRow.holds Tryz.pinned (OpenSpec.upto handRenamedSpec)

/-- 'musettelaw11.HandTested', WHERE WHAT IT READS IS OF BULK AT MOST 1048576: true; the input reads as it did. -/
def handTestedUptoRow : OpenClaim := { program := "ytgbdndlmdklefaagreat", sum := "30a37bfd675c65b49fe19a1e42d93432701d708797684b92493ed3b41b34c8b1", func := "musette/musettelaw11.HandTested", spec := "handTested", unfollowed := true, recurses := true, plainKeys := false, leaving := true, apart := false, narrowed := true }
def HandTestedUptoSaid : Prop := handTestedUptoRow.holds Tryz.pinned (OpenSpec.upto handTestedSpec)

/-- 'musettelaw11.HandAdded', WHERE WHAT IT READS IS OF BULK AT MOST 1048576: true; the input reads as it did. -/
def handAddedUptoRow : OpenClaim := { program := "ytgbdndlmdklefaagreat", sum := "30a37bfd675c65b49fe19a1e42d93432701d708797684b92493ed3b41b34c8b1", func := "musette/musettelaw11.HandAdded", spec := "handAdded", unfollowed := true, recurses := true, plainKeys := false, leaving := true, apart := false, narrowed := true }
def HandAddedUptoSaid : Prop := handAddedUptoRow.holds Tryz.pinned (OpenSpec.upto handAddedSpec)

/-- 'musettelaw11.HandAll', WHERE WHAT IT READS IS OF BULK AT MOST 1048576: true; the input reads as it did. -/
def handAllUptoRow : OpenClaim := { program := "ytgbdndlmdklefaagreat", sum := "30a37bfd675c65b49fe19a1e42d93432701d708797684b92493ed3b41b34c8b1", func := "musette/musettelaw11.HandAll", spec := "handAll", unfollowed := true, recurses := true, plainKeys := false, leaving := true, apart := false, narrowed := true }
def HandAllUptoSaid : Prop := handAllUptoRow.holds Tryz.pinned (OpenSpec.upto handAllSpec)

/-- 'musettelaw11.HandTrue', WHERE WHAT IT READS IS OF BULK AT MOST 1048576: true; the input reads as it did. -/
def handTrueUptoRow : OpenClaim := { program := "ytgbdndlmdklefaagreat", sum := "30a37bfd675c65b49fe19a1e42d93432701d708797684b92493ed3b41b34c8b1", func := "musette/musettelaw11.HandTrue", spec := "handTrue", unfollowed := true, recurses := true, plainKeys := false, leaving := true, apart := false, narrowed := true }
def HandTrueUptoSaid : Prop := handTrueUptoRow.holds Tryz.pinned (OpenSpec.upto handTrueSpec)

/-- 'musettelaw11.HandNext', WHERE WHAT IT READS IS OF BULK AT MOST 1048576: true; the input reads as it did. -/
def handNextUptoRow : OpenClaim := { program := "ytgbdndlmdklefaagreat", sum := "30a37bfd675c65b49fe19a1e42d93432701d708797684b92493ed3b41b34c8b1", func := "musette/musettelaw11.HandNext", spec := "handNext", unfollowed := true, recurses := true, plainKeys := false, leaving := true, apart := false, narrowed := true }
def HandNextUptoSaid : Prop := handNextUptoRow.holds Tryz.pinned (OpenSpec.upto handNextSpec)

/-- 'musettetop.TopTuned', WHERE WHAT IT READS IS OF BULK AT MOST 1048576: true; the input reads as it did. -/
def topTunedUptoRow : OpenClaim := { program := "ytgbdndlmdklefaagreat", sum := "30a37bfd675c65b49fe19a1e42d93432701d708797684b92493ed3b41b34c8b1", func := "musette/musettetop.TopTuned", spec := "topTuned", unfollowed := true, recurses := true, plainKeys := false, leaving := true, apart := false, narrowed := true }
def TopTunedUptoSaid : Prop := topTunedUptoRow.holds Tryz.pinned (OpenSpec.upto topTunedSpec)

/-- 'musettetop.TopSteady', WHERE WHAT IT READS IS OF BULK AT MOST 1048576: true; the input reads as it did. -/
def topSteadyUptoRow : OpenClaim := { program := "ytgbdndlmdklefaagreat", sum := "30a37bfd675c65b49fe19a1e42d93432701d708797684b92493ed3b41b34c8b1", func := "musette/musettetop.TopSteady", spec := "topSteady", unfollowed := true, recurses := true, plainKeys := false, leaving := true, apart := false, narrowed := true }
def TopSteadyUptoSaid : Prop := topSteadyUptoRow.holds Tryz.pinned (OpenSpec.upto topSteadySpec)

end Rows
end Go.Proofs.YtgbdndlmdklefaaGreat
