/-
  DERIVED. GIVEN WITH THE SEED: THE CARDS: each row of YtneaijbbcbicnaaGreatDoorRows.lean that lists a variable, with what it lists TIED to the program's text (the seventh form; the later family's looks); each row that meets fmt, with fmt's text TOLD by the authors' own Lean function (tested against real Go, not proved from fmt's source: count such statements apart). THE CARD IS WHAT COUNTS. Prove the row's statement (the work); the ties are given (YtneaijbbcbicnaaGreatDoorTie.lean); close each card by the builder's one call (the guide's Derived/Test/ToyasCard.lean, 'card_holds'). Laid BY PROGRAM, IN A SANDBOX (cutbox-door.mjs). By AI agents, Wed Nov 11 2026. No macro, syntax, notation, axiom, sorry.
-/
import Derived.Test.YtneaijbbcbicnaaGreatDoorRows
import GoSem.ClaimSeven
namespace Go.Proofs.YtneaijbbcbicnaaGreatDoor
namespace Rows

/-- THE TIED CARD OF 'tetherpostlaw.HubNews'. -/
def hubNewsCard : Claim7 := { stood := { row := hubNewsRow, standIns := [], harness := (true, "ee6794a9964a17eebac83ecc5cbdc9df5c85ff3f94dc3615c4fab562ccd3cd97"), looks := false }, kinds := [], alts := [], laidByText := true, laidKinds := [.data, .pinned], laidTests := true, laidLooks := .later }
def HubNewsCardSaid : Prop := Claim7.holds Tryz.pinned (.plain (OpenSpec.ofChange hubNewsSpec)) hubNewsCard

/-- THE SECOND FORM's CARD OF 'tetherpostlaw.HubNews'. -/
def hubNewsUptoCard : Claim7 := { stood := { row := hubNewsUptoRow, standIns := [], harness := (true, "ee6794a9964a17eebac83ecc5cbdc9df5c85ff3f94dc3615c4fab562ccd3cd97"), looks := false }, kinds := [], alts := [], laidByText := true, laidKinds := [.data, .pinned], laidTests := true, laidLooks := .later }
def HubNewsUptoCardSaid : Prop := Claim7.holds Tryz.pinned (.plain (OpenSpec.upto hubNewsSpec)) hubNewsUptoCard
end Rows
end Go.Proofs.YtneaijbbcbicnaaGreatDoor
