/-
  DERIVED. GIVEN WITH THE SEED: THE CARDS: each row of YtecdkofeohbneaaGreatDoorRows.lean that lists a variable, with what it lists TIED to the program's text (the seventh form; the later family's looks); each row that meets fmt, with fmt's text TOLD by the authors' own Lean function (tested against real Go, not proved from fmt's source: count such statements apart). THE CARD IS WHAT COUNTS. Prove the row's statement (the work); the ties are given (YtecdkofeohbneaaGreatDoorTie.lean); close each card by the builder's one call (the guide's Derived/Test/ToyasCard.lean, 'card_holds'). Laid BY PROGRAM, IN A SANDBOX (cutbox-door.mjs). By AI agents, Wed Nov 11 2026. No macro, syntax, notation, axiom, sorry.
-/
import Derived.Test.YtecdkofeohbneaaGreatDoorRows
import GoSem.ClaimSeven
namespace Go.Proofs.YtecdkofeohbneaaGreatDoor
namespace Rows

/-- THE TIED CARD OF 'fanlightlaw17.AuditTexts'. -/
def auditTextsCard : Claim7 := { stood := { row := auditTextsRow, standIns := [], harness := (true, "7d66d13197b2872ca2f8398aed65e4d3392af002b8dbe6566f3dfb43f06b4295"), looks := false }, kinds := [], alts := [], laidByText := true, laidKinds := [.data, .data, .data], laidTests := true, laidLooks := .later }
def AuditTextsCardSaid : Prop := Claim7.holds Tryz.pinned (.plain (OpenSpec.ofChange auditTextsSpec)) auditTextsCard

/-- THE TIED CARD OF 'fanlightlaw17.AuditRows'. -/
def auditRowsCard : Claim7 := { stood := { row := auditRowsRow, standIns := [], harness := (true, "7d66d13197b2872ca2f8398aed65e4d3392af002b8dbe6566f3dfb43f06b4295"), looks := false }, kinds := [], alts := [], laidByText := true, laidKinds := [.data, .data, .data], laidTests := true, laidLooks := .later }
def AuditRowsCardSaid : Prop := Claim7.holds Tryz.pinned (.plain (OpenSpec.ofChange auditRowsSpec)) auditRowsCard

/-- THE SECOND FORM's CARD OF 'fanlightlaw17.AuditTexts'. -/
def auditTextsUptoCard : Claim7 := { stood := { row := auditTextsUptoRow, standIns := [], harness := (true, "7d66d13197b2872ca2f8398aed65e4d3392af002b8dbe6566f3dfb43f06b4295"), looks := false }, kinds := [], alts := [], laidByText := true, laidKinds := [.data, .data, .data], laidTests := true, laidLooks := .later }
def AuditTextsUptoCardSaid : Prop := Claim7.holds Tryz.pinned (.plain (OpenSpec.upto auditTextsSpec)) auditTextsUptoCard

/-- THE SECOND FORM's CARD OF 'fanlightlaw17.AuditRows'. -/
def auditRowsUptoCard : Claim7 := { stood := { row := auditRowsUptoRow, standIns := [], harness := (true, "7d66d13197b2872ca2f8398aed65e4d3392af002b8dbe6566f3dfb43f06b4295"), looks := false }, kinds := [], alts := [], laidByText := true, laidKinds := [.data, .data, .data], laidTests := true, laidLooks := .later }
def AuditRowsUptoCardSaid : Prop := Claim7.holds Tryz.pinned (.plain (OpenSpec.upto auditRowsSpec)) auditRowsUptoCard
end Rows
end Go.Proofs.YtecdkofeohbneaaGreatDoor
