/-
  DERIVED. GIVEN WITH THE SEED: THE CARDS: each row of YtfkngchldmfpfaaGreatDoorRows.lean that lists a variable, with what it lists TIED to the program's text (the seventh form; the later family's looks); each row that meets fmt, with fmt's text TOLD by the authors' own Lean function (tested against real Go, not proved from fmt's source: count such statements apart). THE CARD IS WHAT COUNTS. Prove the row's statement (the work); the ties are given (YtfkngchldmfpfaaGreatDoorTie.lean); close each card by the builder's one call (the guide's Derived/Test/ToyasCard.lean, 'card_holds'). Laid BY PROGRAM, IN A SANDBOX (cutbox-door.mjs). By AI agents, Wed Nov 11 2026. No macro, syntax, notation, axiom, sorry.
-/
import Derived.Test.YtfkngchldmfpfaaGreatDoorRows
import GoSem.ClaimSeven
namespace Go.Proofs.YtfkngchldmfpfaaGreatDoor
namespace Rows

/-- THE TIED CARD OF 'fanlightlaw16.NatDrops'. -/
def natDropsCard : Claim7 := { stood := { row := natDropsRow, standIns := [], harness := (true, "3b51f2fd7758f01be9ec23bf5910d3821ab33a9fe5ea7e29b8b13a22fc17b942"), looks := false }, kinds := [], alts := [], laidByText := true, laidKinds := [.data], laidTests := true, laidLooks := .later }
def NatDropsCardSaid : Prop := Claim7.holds Tryz.pinned (.plain (OpenSpec.ofChange natDropsSpec)) natDropsCard

/-- THE TIED CARD OF 'fanlightlaw16.NatBounds'. -/
def natBoundsCard : Claim7 := { stood := { row := natBoundsRow, standIns := [], harness := (true, "3b51f2fd7758f01be9ec23bf5910d3821ab33a9fe5ea7e29b8b13a22fc17b942"), looks := false }, kinds := [], alts := [], laidByText := true, laidKinds := [.data], laidTests := true, laidLooks := .later }
def NatBoundsCardSaid : Prop := Claim7.holds Tryz.pinned (.plain (OpenSpec.ofChange natBoundsSpec)) natBoundsCard

/-- THE SECOND FORM's CARD OF 'fanlightlaw16.NatDrops'. -/
def natDropsUptoCard : Claim7 := { stood := { row := natDropsUptoRow, standIns := [], harness := (true, "3b51f2fd7758f01be9ec23bf5910d3821ab33a9fe5ea7e29b8b13a22fc17b942"), looks := false }, kinds := [], alts := [], laidByText := true, laidKinds := [.data], laidTests := true, laidLooks := .later }
def NatDropsUptoCardSaid : Prop := Claim7.holds Tryz.pinned (.plain (OpenSpec.upto natDropsSpec)) natDropsUptoCard

/-- THE SECOND FORM's CARD OF 'fanlightlaw16.NatBounds'. -/
def natBoundsUptoCard : Claim7 := { stood := { row := natBoundsUptoRow, standIns := [], harness := (true, "3b51f2fd7758f01be9ec23bf5910d3821ab33a9fe5ea7e29b8b13a22fc17b942"), looks := false }, kinds := [], alts := [], laidByText := true, laidKinds := [.data], laidTests := true, laidLooks := .later }
def NatBoundsUptoCardSaid : Prop := Claim7.holds Tryz.pinned (.plain (OpenSpec.upto natBoundsSpec)) natBoundsUptoCard
end Rows
end Go.Proofs.YtfkngchldmfpfaaGreatDoor
