/-
  DERIVED. GIVEN WITH THE SEED: THE CARDS: each row of YthejgnlikaiddaaGreatDoorRows.lean that lists a variable, with what it lists TIED to the program's text (the seventh form; the later family's looks); each row that meets fmt, with fmt's text TOLD by the authors' own Lean function (tested against real Go, not proved from fmt's source: count such statements apart). THE CARD IS WHAT COUNTS. Prove the row's statement (the work); the ties are given (YthejgnlikaiddaaGreatDoorTie.lean); close each card by the builder's one call (the guide's Derived/Test/ToyasCard.lean, 'card_holds'). Laid BY PROGRAM, IN A SANDBOX (cutbox-door.mjs). By AI agents, Wed Nov 11 2026. No macro, syntax, notation, axiom, sorry.
-/
import Derived.Test.YthejgnlikaiddaaGreatDoorRows
import GoSem.ClaimSeven
namespace Go.Proofs.YthejgnlikaiddaaGreatDoor
namespace Rows

/-- THE TIED CARD OF 'musettelaw10.PlateFits'. -/
def plateFitsCard : Claim7 := { stood := { row := plateFitsRow, standIns := [], harness := (true, "e76bbdd2f074d87ef98f5b7d6ed501ede68d9b9977ca12f5a03194ee41c7e115"), looks := false }, kinds := [], alts := [], laidByText := true, laidKinds := [.data, .data, .data], laidTests := true, laidLooks := .later }
def PlateFitsCardSaid : Prop := Claim7.holds Tryz.pinned (.plain (OpenSpec.ofChange plateFitsSpec)) plateFitsCard

/-- THE TIED CARD OF 'musettelaw10.PlateYears'. -/
def plateYearsCard : Claim7 := { stood := { row := plateYearsRow, standIns := [], harness := (true, "e76bbdd2f074d87ef98f5b7d6ed501ede68d9b9977ca12f5a03194ee41c7e115"), looks := false }, kinds := [], alts := [], laidByText := true, laidKinds := [.data, .data, .data], laidTests := true, laidLooks := .later }
def PlateYearsCardSaid : Prop := Claim7.holds Tryz.pinned (.plain (OpenSpec.ofChange plateYearsSpec)) plateYearsCard

/-- THE TIED CARD OF 'musettelaw10.PlateAltered'. -/
def plateAlteredCard : Claim7 := { stood := { row := plateAlteredRow, standIns := [], harness := (true, "e76bbdd2f074d87ef98f5b7d6ed501ede68d9b9977ca12f5a03194ee41c7e115"), looks := false }, kinds := [], alts := [], laidByText := true, laidKinds := [.data, .data, .data], laidTests := true, laidLooks := .later }
def PlateAlteredCardSaid : Prop := Claim7.holds Tryz.pinned (.plain (OpenSpec.ofChange plateAlteredSpec)) plateAlteredCard

/-- THE TIED CARD OF 'musettelaw10.PlateNext'. -/
def plateNextCard : Claim7 := { stood := { row := plateNextRow, standIns := [], harness := (true, "e76bbdd2f074d87ef98f5b7d6ed501ede68d9b9977ca12f5a03194ee41c7e115"), looks := false }, kinds := [], alts := [], laidByText := true, laidKinds := [.data, .data, .data], laidTests := true, laidLooks := .later }
def PlateNextCardSaid : Prop := Claim7.holds Tryz.pinned (.plain (OpenSpec.ofChange plateNextSpec)) plateNextCard

/-- THE SECOND FORM's CARD OF 'musettelaw10.PlateFits'. -/
def plateFitsUptoCard : Claim7 := { stood := { row := plateFitsUptoRow, standIns := [], harness := (true, "e76bbdd2f074d87ef98f5b7d6ed501ede68d9b9977ca12f5a03194ee41c7e115"), looks := false }, kinds := [], alts := [], laidByText := true, laidKinds := [.data, .data, .data], laidTests := true, laidLooks := .later }
def PlateFitsUptoCardSaid : Prop := Claim7.holds Tryz.pinned (.plain (OpenSpec.upto plateFitsSpec)) plateFitsUptoCard

/-- THE SECOND FORM's CARD OF 'musettelaw10.PlateYears'. -/
def plateYearsUptoCard : Claim7 := { stood := { row := plateYearsUptoRow, standIns := [], harness := (true, "e76bbdd2f074d87ef98f5b7d6ed501ede68d9b9977ca12f5a03194ee41c7e115"), looks := false }, kinds := [], alts := [], laidByText := true, laidKinds := [.data, .data, .data], laidTests := true, laidLooks := .later }
def PlateYearsUptoCardSaid : Prop := Claim7.holds Tryz.pinned (.plain (OpenSpec.upto plateYearsSpec)) plateYearsUptoCard

/-- THE SECOND FORM's CARD OF 'musettelaw10.PlateAltered'. -/
def plateAlteredUptoCard : Claim7 := { stood := { row := plateAlteredUptoRow, standIns := [], harness := (true, "e76bbdd2f074d87ef98f5b7d6ed501ede68d9b9977ca12f5a03194ee41c7e115"), looks := false }, kinds := [], alts := [], laidByText := true, laidKinds := [.data, .data, .data], laidTests := true, laidLooks := .later }
def PlateAlteredUptoCardSaid : Prop := Claim7.holds Tryz.pinned (.plain (OpenSpec.upto plateAlteredSpec)) plateAlteredUptoCard

/-- THE SECOND FORM's CARD OF 'musettelaw10.PlateNext'. -/
def plateNextUptoCard : Claim7 := { stood := { row := plateNextUptoRow, standIns := [], harness := (true, "e76bbdd2f074d87ef98f5b7d6ed501ede68d9b9977ca12f5a03194ee41c7e115"), looks := false }, kinds := [], alts := [], laidByText := true, laidKinds := [.data, .data, .data], laidTests := true, laidLooks := .later }
def PlateNextUptoCardSaid : Prop := Claim7.holds Tryz.pinned (.plain (OpenSpec.upto plateNextSpec)) plateNextUptoCard
end Rows
end Go.Proofs.YthejgnlikaiddaaGreatDoor
