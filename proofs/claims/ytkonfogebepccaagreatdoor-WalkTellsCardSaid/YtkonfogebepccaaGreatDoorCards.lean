/-
  DERIVED. GIVEN WITH THE SEED: THE CARDS: each row of YtkonfogebepccaaGreatDoorRows.lean that lists a variable, with what it lists TIED to the program's text (the seventh form; the later family's looks); each row that meets fmt, with fmt's text TOLD by the authors' own Lean function (tested against real Go, not proved from fmt's source: count such statements apart). THE CARD IS WHAT COUNTS. Prove the row's statement (the work); the ties are given (YtkonfogebepccaaGreatDoorTie.lean); close each card by the builder's one call (the guide's Derived/Test/ToyasCard.lean, 'card_holds'). Laid BY PROGRAM, IN A SANDBOX (cutbox-door.mjs). By AI agents, Wed Nov 11 2026. No macro, syntax, notation, axiom, sorry.
-/
import Derived.Test.YtkonfogebepccaaGreatDoorRows
import GoSem.ClaimSeven
namespace Go.Proofs.YtkonfogebepccaaGreatDoor
namespace Rows

/-- THE TIED CARD OF 'skeinlaw11.WalkTells'. -/
def walkTellsCard : Claim7 := { stood := { row := walkTellsRow, standIns := [], harness := (true, "65b9d12f2100a56af6fb54dcc792e0c7592259fe21ca21abe65f4b4481c1dd89"), looks := false }, kinds := [], alts := [], laidByText := true, laidKinds := [.data, .data, .data], laidTests := true, laidLooks := .later }
def WalkTellsCardSaid : Prop := Claim7.holds Tryz.pinned (.plain (OpenSpec.ofChange walkTellsSpec)) walkTellsCard

/-- THE SECOND FORM's CARD OF 'skeinlaw11.WalkTells'. -/
def walkTellsUptoCard : Claim7 := { stood := { row := walkTellsUptoRow, standIns := [], harness := (true, "65b9d12f2100a56af6fb54dcc792e0c7592259fe21ca21abe65f4b4481c1dd89"), looks := false }, kinds := [], alts := [], laidByText := true, laidKinds := [.data, .data, .data], laidTests := true, laidLooks := .later }
def WalkTellsUptoCardSaid : Prop := Claim7.holds Tryz.pinned (.plain (OpenSpec.upto walkTellsSpec)) walkTellsUptoCard
end Rows
end Go.Proofs.YtkonfogebepccaaGreatDoor
