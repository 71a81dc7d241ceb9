/-
  DERIVED. GIVEN WITH THE SEED: THE CARDS: each row of YtianbkbehjppoaaGreatDoorRows.lean that lists a variable, with what it lists TIED to the program's text (the seventh form; the later family's looks); each row that meets fmt, with fmt's text TOLD by the authors' own Lean function (tested against real Go, not proved from fmt's source: count such statements apart). THE CARD IS WHAT COUNTS. Prove the row's statement (the work); the ties are given (YtianbkbehjppoaaGreatDoorTie.lean); close each card by the builder's one call (the guide's Derived/Test/ToyasCard.lean, 'card_holds'). Laid BY PROGRAM, IN A SANDBOX (cutbox-door.mjs). By AI agents, Wed Nov 11 2026. No macro, syntax, notation, axiom, sorry.
-/
import Derived.Test.YtianbkbehjppoaaGreatDoorRows
import GoSem.ClaimSeven
namespace Go.Proofs.YtianbkbehjppoaaGreatDoor
namespace Rows

/-- THE TIED CARD OF 'fanlightlaw19.LinearFinds'. -/
def linearFindsCard : Claim7 := { stood := { row := linearFindsRow, standIns := [], harness := (true, "214cd9481ab710726f52753835702ef48fe4547a5de2bb2db6a75f60699db691"), looks := true }, kinds := [], alts := [], laidByText := true, laidKinds := [.data, .data, .data], laidTests := true, laidLooks := .later }
def LinearFindsCardSaid : Prop := Claim7.holds Tryz.pinned (.plain (OpenSpec.ofChange linearFindsSpec)) linearFindsCard

/-- THE TIED CARD OF 'fanlightlaw19.LinearChecks'. -/
def linearChecksCard : Claim7 := { stood := { row := linearChecksRow, standIns := [], harness := (true, "214cd9481ab710726f52753835702ef48fe4547a5de2bb2db6a75f60699db691"), looks := true }, kinds := [], alts := [], laidByText := true, laidKinds := [.data, .data, .data], laidTests := true, laidLooks := .later }
def LinearChecksCardSaid : Prop := Claim7.holds Tryz.pinned (.plain (OpenSpec.ofChange linearChecksSpec)) linearChecksCard

/-- THE SECOND FORM's CARD OF 'fanlightlaw19.LinearFinds'. -/
def linearFindsUptoCard : Claim7 := { stood := { row := linearFindsUptoRow, standIns := [], harness := (true, "214cd9481ab710726f52753835702ef48fe4547a5de2bb2db6a75f60699db691"), looks := true }, kinds := [], alts := [], laidByText := true, laidKinds := [.data, .data, .data], laidTests := true, laidLooks := .later }
def LinearFindsUptoCardSaid : Prop := Claim7.holds Tryz.pinned (.plain (OpenSpec.upto linearFindsSpec)) linearFindsUptoCard

/-- THE SECOND FORM's CARD OF 'fanlightlaw19.LinearChecks'. -/
def linearChecksUptoCard : Claim7 := { stood := { row := linearChecksUptoRow, standIns := [], harness := (true, "214cd9481ab710726f52753835702ef48fe4547a5de2bb2db6a75f60699db691"), looks := true }, kinds := [], alts := [], laidByText := true, laidKinds := [.data, .data, .data], laidTests := true, laidLooks := .later }
def LinearChecksUptoCardSaid : Prop := Claim7.holds Tryz.pinned (.plain (OpenSpec.upto linearChecksSpec)) linearChecksUptoCard
end Rows
end Go.Proofs.YtianbkbehjppoaaGreatDoor
