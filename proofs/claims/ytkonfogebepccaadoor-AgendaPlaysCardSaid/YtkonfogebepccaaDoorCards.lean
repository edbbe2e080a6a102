/-
  DERIVED. GIVEN WITH THE SEED: THE CARDS: each row of YtkonfogebepccaaDoorRows.lean that lists a variable, with what it lists TIED to the program's text (the seventh form; the later family's looks); each row that meets fmt, with fmt's text TOLD by the authors' own Lean function (tested against real Go, not proved from fmt's source: count such statements apart). THE CARD IS WHAT COUNTS. Prove the row's statement (the work); the ties are given (YtkonfogebepccaaDoorTie.lean); close each card by the builder's one call (the guide's Derived/Test/ToyasCard.lean, 'card_holds'). Laid BY PROGRAM, IN A SANDBOX (cutbox-door.mjs). By AI agents, Wed Nov 11 2026. No macro, syntax, notation, axiom, sorry.
-/
import Derived.Test.YtkonfogebepccaaDoorRows
import GoSem.ClaimSeven
namespace Go.Proofs.YtkonfogebepccaaDoor
namespace Rows

/-- THE TIED CARD OF 'skeinlaw21.AgendaPlays'. -/
def agendaPlaysCard : Claim7 := { stood := { row := agendaPlaysRow, standIns := [], harness := (true, "dfc74efc134e98053f23ce85f985fe7ee7f7cc328e91c1c565a41bd993aa4c41"), looks := false }, kinds := [], alts := [], laidByText := true, laidKinds := [.data, .data, .data], laidTests := true, laidLooks := .later }
def AgendaPlaysCardSaid : Prop := Claim7.holds Tryd.pinned (.plain (OpenSpec.ofChange agendaPlaysSpec)) agendaPlaysCard

/-- THE TIED CARD OF 'skeinlaw03.NetChecks'. -/
def netChecksCard : Claim7 := { stood := { row := netChecksRow, standIns := [], harness := (true, "dfc74efc134e98053f23ce85f985fe7ee7f7cc328e91c1c565a41bd993aa4c41"), looks := false }, kinds := [], alts := [], laidByText := true, laidKinds := [.data, .data, .data], laidTests := true, laidLooks := .later }
def NetChecksCardSaid : Prop := Claim7.holds Tryd.pinned (.plain (OpenSpec.ofChange netChecksSpec)) netChecksCard

/-- THE TIED CARD OF 'skeinlaw12.CodeTells'. -/
def codeTellsCard : Claim7 := { stood := { row := codeTellsRow, standIns := [], harness := (true, "dfc74efc134e98053f23ce85f985fe7ee7f7cc328e91c1c565a41bd993aa4c41"), looks := false }, kinds := [], alts := [], laidByText := true, laidKinds := [.data, .data, .data], laidTests := true, laidLooks := .later }
def CodeTellsCardSaid : Prop := Claim7.holds Tryd.pinned (.plain (OpenSpec.ofChange codeTellsSpec)) codeTellsCard

/-- THE SECOND FORM's CARD OF 'skeinlaw21.AgendaPlays'. -/
def agendaPlaysUptoCard : Claim7 := { stood := { row := agendaPlaysUptoRow, standIns := [], harness := (true, "dfc74efc134e98053f23ce85f985fe7ee7f7cc328e91c1c565a41bd993aa4c41"), looks := false }, kinds := [], alts := [], laidByText := true, laidKinds := [.data, .data, .data], laidTests := true, laidLooks := .later }
def AgendaPlaysUptoCardSaid : Prop := Claim7.holds Tryd.pinned (.plain (OpenSpec.upto agendaPlaysSpec)) agendaPlaysUptoCard

/-- THE SECOND FORM's CARD OF 'skeinlaw03.NetChecks'. -/
def netChecksUptoCard : Claim7 := { stood := { row := netChecksUptoRow, standIns := [], harness := (true, "dfc74efc134e98053f23ce85f985fe7ee7f7cc328e91c1c565a41bd993aa4c41"), looks := false }, kinds := [], alts := [], laidByText := true, laidKinds := [.data, .data, .data], laidTests := true, laidLooks := .later }
def NetChecksUptoCardSaid : Prop := Claim7.holds Tryd.pinned (.plain (OpenSpec.upto netChecksSpec)) netChecksUptoCard

/-- THE SECOND FORM's CARD OF 'skeinlaw12.CodeTells'. -/
def codeTellsUptoCard : Claim7 := { stood := { row := codeTellsUptoRow, standIns := [], harness := (true, "dfc74efc134e98053f23ce85f985fe7ee7f7cc328e91c1c565a41bd993aa4c41"), looks := false }, kinds := [], alts := [], laidByText := true, laidKinds := [.data, .data, .data], laidTests := true, laidLooks := .later }
def CodeTellsUptoCardSaid : Prop := Claim7.holds Tryd.pinned (.plain (OpenSpec.upto codeTellsSpec)) codeTellsUptoCard
end Rows
end Go.Proofs.YtkonfogebepccaaDoor
