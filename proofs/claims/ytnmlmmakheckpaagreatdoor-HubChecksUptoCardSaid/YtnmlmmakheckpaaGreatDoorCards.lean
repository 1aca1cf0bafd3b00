/-
  DERIVED. GIVEN WITH THE SEED: THE CARDS: each row of YtnmlmmakheckpaaGreatDoorRows.lean that lists a variable, with what it lists TIED to the program's text (the seventh form; the later family's looks); each row that meets fmt, with fmt's text TOLD by the authors' own Lean function (tested against real Go, not proved from fmt's source: count such statements apart). THE CARD IS WHAT COUNTS. Prove the row's statement (the work); the ties are given (YtnmlmmakheckpaaGreatDoorTie.lean); close each card by the builder's one call (the guide's Derived/Test/ToyasCard.lean, 'card_holds'). Laid BY PROGRAM, IN A SANDBOX (cutbox-door.mjs). By AI agents, Wed Nov 11 2026. No macro, syntax, notation, axiom, sorry.
-/
import Derived.Test.YtnmlmmakheckpaaGreatDoorRows
import GoSem.ClaimSeven
namespace Go.Proofs.YtnmlmmakheckpaaGreatDoor
namespace Rows

/-- THE TIED CARD OF 'tetherpostlaw.HubChecks'. -/
def hubChecksCard : Claim7 := { stood := { row := hubChecksRow, standIns := [], harness := (true, "f8b290005b6d5094989ae94299ee23be8ed31545b3969f183b426b902682b1e3"), looks := false }, kinds := [], alts := [], laidByText := true, laidKinds := [.data, .pinned], laidTests := true, laidLooks := .later }
def HubChecksCardSaid : Prop := Claim7.holds Tryz.pinned (.plain (OpenSpec.ofChange hubChecksSpec)) hubChecksCard

/-- THE SECOND FORM's CARD OF 'tetherpostlaw.HubChecks'. -/
def hubChecksUptoCard : Claim7 := { stood := { row := hubChecksUptoRow, standIns := [], harness := (true, "f8b290005b6d5094989ae94299ee23be8ed31545b3969f183b426b902682b1e3"), looks := false }, kinds := [], alts := [], laidByText := true, laidKinds := [.data, .pinned], laidTests := true, laidLooks := .later }
def HubChecksUptoCardSaid : Prop := Claim7.holds Tryz.pinned (.plain (OpenSpec.upto hubChecksSpec)) hubChecksUptoCard
end Rows
end Go.Proofs.YtnmlmmakheckpaaGreatDoor
