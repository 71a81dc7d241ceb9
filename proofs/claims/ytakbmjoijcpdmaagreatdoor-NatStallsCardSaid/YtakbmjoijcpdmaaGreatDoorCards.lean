/-
  DERIVED. GIVEN WITH THE SEED: THE CARDS: each row of YtakbmjoijcpdmaaGreatDoorRows.lean that lists a variable, with what it lists TIED to the program's text (the seventh form; the later family's looks); each row that meets fmt, with fmt's text TOLD by the authors' own Lean function (tested against real Go, not proved from fmt's source: count such statements apart). THE CARD IS WHAT COUNTS. Prove the row's statement (the work); the ties are given (YtakbmjoijcpdmaaGreatDoorTie.lean); close each card by the builder's one call (the guide's Derived/Test/ToyasCard.lean, 'card_holds'). Laid BY PROGRAM, IN A SANDBOX (cutbox-door.mjs). By AI agents, Wed Nov 11 2026. No macro, syntax, notation, axiom, sorry.
-/
import Derived.Test.YtakbmjoijcpdmaaGreatDoorRows
import GoSem.ClaimSeven
namespace Go.Proofs.YtakbmjoijcpdmaaGreatDoor
namespace Rows

/-- THE TIED CARD OF 'fanlightlaw16.NatRaces'. -/
def natRacesCard : Claim7 := { stood := { row := natRacesRow, standIns := [], harness := (true, "7ae5238d2df1c83f8cc0c9681ff8e252942fb0bdbbf342e2c829246fb85ef9ed"), looks := false }, kinds := [], alts := [], laidByText := true, laidKinds := [.data], laidTests := true, laidLooks := .later }
def NatRacesCardSaid : Prop := Claim7.holds Tryz.pinned (.plain (OpenSpec.ofChange natRacesSpec)) natRacesCard

/-- THE TIED CARD OF 'fanlightlaw16.NatStalls'. -/
def natStallsCard : Claim7 := { stood := { row := natStallsRow, standIns := [], harness := (true, "7ae5238d2df1c83f8cc0c9681ff8e252942fb0bdbbf342e2c829246fb85ef9ed"), looks := false }, kinds := [], alts := [], laidByText := true, laidKinds := [.data], laidTests := true, laidLooks := .later }
def NatStallsCardSaid : Prop := Claim7.holds Tryz.pinned (.plain (OpenSpec.ofChange natStallsSpec)) natStallsCard

/-- THE SECOND FORM's CARD OF 'fanlightlaw16.NatRaces'. -/
def natRacesUptoCard : Claim7 := { stood := { row := natRacesUptoRow, standIns := [], harness := (true, "7ae5238d2df1c83f8cc0c9681ff8e252942fb0bdbbf342e2c829246fb85ef9ed"), looks := false }, kinds := [], alts := [], laidByText := true, laidKinds := [.data], laidTests := true, laidLooks := .later }
def NatRacesUptoCardSaid : Prop := Claim7.holds Tryz.pinned (.plain (OpenSpec.upto natRacesSpec)) natRacesUptoCard

/-- THE SECOND FORM's CARD OF 'fanlightlaw16.NatStalls'. -/
def natStallsUptoCard : Claim7 := { stood := { row := natStallsUptoRow, standIns := [], harness := (true, "7ae5238d2df1c83f8cc0c9681ff8e252942fb0bdbbf342e2c829246fb85ef9ed"), looks := false }, kinds := [], alts := [], laidByText := true, laidKinds := [.data], laidTests := true, laidLooks := .later }
def NatStallsUptoCardSaid : Prop := Claim7.holds Tryz.pinned (.plain (OpenSpec.upto natStallsSpec)) natStallsUptoCard
end Rows
end Go.Proofs.YtakbmjoijcpdmaaGreatDoor
