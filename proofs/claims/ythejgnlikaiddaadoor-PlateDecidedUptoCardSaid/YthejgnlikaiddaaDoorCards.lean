/-
  DERIVED. GIVEN WITH THE SEED: THE CARDS: each row of YthejgnlikaiddaaDoorRows.lean that lists a variable, with what it lists TIED to the program's text (the seventh form; the later family's looks); each row that meets fmt, with fmt's text TOLD by the authors' own Lean function (tested against real Go, not proved from fmt's source: count such statements apart). THE CARD IS WHAT COUNTS. Prove the row's statement (the work); the ties are given (YthejgnlikaiddaaDoorTie.lean); close each card by the builder's one call (the guide's Derived/Test/ToyasCard.lean, 'card_holds'). Laid BY PROGRAM, IN A SANDBOX (cutbox-door.mjs). By AI agents, Wed Nov 11 2026. No macro, syntax, notation, axiom, sorry.
-/
import Derived.Test.YthejgnlikaiddaaDoorRows
import GoSem.ClaimSeven
namespace Go.Proofs.YthejgnlikaiddaaDoor
namespace Rows

/-- THE TIED CARD OF 'musettelaw10.PlateLeast'. -/
def plateLeastCard : Claim7 := { stood := { row := plateLeastRow, standIns := [], harness := (true, "e2d6e43fa8f75e67a7deaa27b1f4db7c2347b26fe935f86aa27863372eb563f5"), looks := false }, kinds := [], alts := [], laidByText := true, laidKinds := [.data, .data, .data], laidTests := true, laidLooks := .later }
def PlateLeastCardSaid : Prop := Claim7.holds Tryd.pinned (.plain (OpenSpec.ofChange plateLeastSpec)) plateLeastCard

/-- THE TIED CARD OF 'musettelaw10.PlateForged'. -/
def plateForgedCard : Claim7 := { stood := { row := plateForgedRow, standIns := [], harness := (true, "e2d6e43fa8f75e67a7deaa27b1f4db7c2347b26fe935f86aa27863372eb563f5"), looks := false }, kinds := [], alts := [], laidByText := true, laidKinds := [.data, .data, .data], laidTests := true, laidLooks := .later }
def PlateForgedCardSaid : Prop := Claim7.holds Tryd.pinned (.plain (OpenSpec.ofChange plateForgedSpec)) plateForgedCard

/-- THE TIED CARD OF 'musettelaw10.PlateNarrowed'. -/
def plateNarrowedCard : Claim7 := { stood := { row := plateNarrowedRow, standIns := [], harness := (true, "e2d6e43fa8f75e67a7deaa27b1f4db7c2347b26fe935f86aa27863372eb563f5"), looks := false }, kinds := [], alts := [], laidByText := true, laidKinds := [.data, .data, .data], laidTests := true, laidLooks := .later }
def PlateNarrowedCardSaid : Prop := Claim7.holds Tryd.pinned (.plain (OpenSpec.ofChange plateNarrowedSpec)) plateNarrowedCard

/-- THE TIED CARD OF 'musettelaw10.PlateAsked'. -/
def plateAskedCard : Claim7 := { stood := { row := plateAskedRow, standIns := [], harness := (true, "e2d6e43fa8f75e67a7deaa27b1f4db7c2347b26fe935f86aa27863372eb563f5"), looks := false }, kinds := [], alts := [], laidByText := true, laidKinds := [.data, .data, .data], laidTests := true, laidLooks := .later }
def PlateAskedCardSaid : Prop := Claim7.holds Tryd.pinned (.plain (OpenSpec.ofChange plateAskedSpec)) plateAskedCard

/-- THE TIED CARD OF 'musettelaw10.PlateAll'. -/
def plateAllCard : Claim7 := { stood := { row := plateAllRow, standIns := [], harness := (true, "e2d6e43fa8f75e67a7deaa27b1f4db7c2347b26fe935f86aa27863372eb563f5"), looks := false }, kinds := [], alts := [], laidByText := true, laidKinds := [.data, .data, .data], laidTests := true, laidLooks := .later }
def PlateAllCardSaid : Prop := Claim7.holds Tryd.pinned (.plain (OpenSpec.ofChange plateAllSpec)) plateAllCard

/-- THE TIED CARD OF 'musettelaw10.PlateTrue'. -/
def plateTrueCard : Claim7 := { stood := { row := plateTrueRow, standIns := [], harness := (true, "e2d6e43fa8f75e67a7deaa27b1f4db7c2347b26fe935f86aa27863372eb563f5"), looks := false }, kinds := [], alts := [], laidByText := true, laidKinds := [.data, .data, .data], laidTests := true, laidLooks := .later }
def PlateTrueCardSaid : Prop := Claim7.holds Tryd.pinned (.plain (OpenSpec.ofChange plateTrueSpec)) plateTrueCard

/-- THE TIED CARD OF 'musettelaw10.PlateDecided'. -/
def plateDecidedCard : Claim7 := { stood := { row := plateDecidedRow, standIns := [], harness := (true, "e2d6e43fa8f75e67a7deaa27b1f4db7c2347b26fe935f86aa27863372eb563f5"), looks := false }, kinds := [], alts := [], laidByText := true, laidKinds := [.data, .data, .data], laidTests := true, laidLooks := .later }
def PlateDecidedCardSaid : Prop := Claim7.holds Tryd.pinned (.plain (OpenSpec.ofChange plateDecidedSpec)) plateDecidedCard

/-- THE TIED CARD OF 'musettelaw10.PlateOrdered'. -/
def plateOrderedCard : Claim7 := { stood := { row := plateOrderedRow, standIns := [], harness := (true, "e2d6e43fa8f75e67a7deaa27b1f4db7c2347b26fe935f86aa27863372eb563f5"), looks := false }, kinds := [], alts := [], laidByText := true, laidKinds := [.data, .data, .data], laidTests := true, laidLooks := .later }
def PlateOrderedCardSaid : Prop := Claim7.holds Tryd.pinned (.plain (OpenSpec.ofChange plateOrderedSpec)) plateOrderedCard

/-- THE SECOND FORM's CARD OF 'musettelaw10.PlateLeast'. -/
def plateLeastUptoCard : Claim7 := { stood := { row := plateLeastUptoRow, standIns := [], harness := (true, "e2d6e43fa8f75e67a7deaa27b1f4db7c2347b26fe935f86aa27863372eb563f5"), looks := false }, kinds := [], alts := [], laidByText := true, laidKinds := [.data, .data, .data], laidTests := true, laidLooks := .later }
def PlateLeastUptoCardSaid : Prop := Claim7.holds Tryd.pinned (.plain (OpenSpec.upto plateLeastSpec)) plateLeastUptoCard

/-- THE SECOND FORM's CARD OF 'musettelaw10.PlateForged'. -/
def plateForgedUptoCard : Claim7 := { stood := { row := plateForgedUptoRow, standIns := [], harness := (true, "e2d6e43fa8f75e67a7deaa27b1f4db7c2347b26fe935f86aa27863372eb563f5"), looks := false }, kinds := [], alts := [], laidByText := true, laidKinds := [.data, .data, .data], laidTests := true, laidLooks := .later }
def PlateForgedUptoCardSaid : Prop := Claim7.holds Tryd.pinned (.plain (OpenSpec.upto plateForgedSpec)) plateForgedUptoCard

/-- THE SECOND FORM's CARD OF 'musettelaw10.PlateNarrowed'. -/
def plateNarrowedUptoCard : Claim7 := { stood := { row := plateNarrowedUptoRow, standIns := [], harness := (true, "e2d6e43fa8f75e67a7deaa27b1f4db7c2347b26fe935f86aa27863372eb563f5"), looks := false }, kinds := [], alts := [], laidByText := true, laidKinds := [.data, .data, .data], laidTests := true, laidLooks := .later }
def PlateNarrowedUptoCardSaid : Prop := Claim7.holds Tryd.pinned (.plain (OpenSpec.upto plateNarrowedSpec)) plateNarrowedUptoCard

/-- THE SECOND FORM's CARD OF 'musettelaw10.PlateAsked'. -/
def plateAskedUptoCard : Claim7 := { stood := { row := plateAskedUptoRow, standIns := [], harness := (true, "e2d6e43fa8f75e67a7deaa27b1f4db7c2347b26fe935f86aa27863372eb563f5"), looks := false }, kinds := [], alts := [], laidByText := true, laidKinds := [.data, .data, .data], laidTests := true, laidLooks := .later }
def PlateAskedUptoCardSaid : Prop := Claim7.holds Tryd.pinned (.plain (OpenSpec.upto plateAskedSpec)) plateAskedUptoCard

/-- THE SECOND FORM's CARD OF 'musettelaw10.PlateAll'. -/
def plateAllUptoCard : Claim7 := { stood := { row := plateAllUptoRow, standIns := [], harness := (true, "e2d6e43fa8f75e67a7deaa27b1f4db7c2347b26fe935f86aa27863372eb563f5"), looks := false }, kinds := [], alts := [], laidByText := true, laidKinds := [.data, .data, .data], laidTests := true, laidLooks := .later }
def PlateAllUptoCardSaid : Prop := Claim7.holds Tryd.pinned (.plain (OpenSpec.upto plateAllSpec)) plateAllUptoCard

/-- THE SECOND FORM's CARD OF 'musettelaw10.PlateTrue'. -/
def plateTrueUptoCard : Claim7 := { stood := { row := plateTrueUptoRow, standIns := [], harness := (true, "e2d6e43fa8f75e67a7deaa27b1f4db7c2347b26fe935f86aa27863372eb563f5"), looks := false }, kinds := [], alts := [], laidByText := true, laidKinds := [.data, .data, .data], laidTests := true, laidLooks := .later }
def PlateTrueUptoCardSaid : Prop := Claim7.holds Tryd.pinned (.plain (OpenSpec.upto plateTrueSpec)) plateTrueUptoCard

/-- THE SECOND FORM's CARD OF 'musettelaw10.PlateDecided'. -/
def plateDecidedUptoCard : Claim7 := { stood := { row := plateDecidedUptoRow, standIns := [], harness := (true, "e2d6e43fa8f75e67a7deaa27b1f4db7c2347b26fe935f86aa27863372eb563f5"), looks := false }, kinds := [], alts := [], laidByText := true, laidKinds := [.data, .data, .data], laidTests := true, laidLooks := .later }
def PlateDecidedUptoCardSaid : Prop := Claim7.holds Tryd.pinned (.plain (OpenSpec.upto plateDecidedSpec)) plateDecidedUptoCard

/-- THE SECOND FORM's CARD OF 'musettelaw10.PlateOrdered'. -/
def plateOrderedUptoCard : Claim7 := { stood := { row := plateOrderedUptoRow, standIns := [], harness := (true, "e2d6e43fa8f75e67a7deaa27b1f4db7c2347b26fe935f86aa27863372eb563f5"), looks := false }, kinds := [], alts := [], laidByText := true, laidKinds := [.data, .data, .data], laidTests := true, laidLooks := .later }
def PlateOrderedUptoCardSaid : Prop := Claim7.holds Tryd.pinned (.plain (OpenSpec.upto plateOrderedSpec)) plateOrderedUptoCard
end Rows
end Go.Proofs.YthejgnlikaiddaaDoor
