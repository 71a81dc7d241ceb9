/-
  DERIVED. GIVEN WITH THE SEED: THE CARDS: each row of YtafbipoagehdeaaDoorRows.lean that lists a variable, with what it lists TIED to the program's text (the seventh form; the later family's looks); each row that meets fmt, with fmt's text TOLD by the authors' own Lean function (tested against real Go, not proved from fmt's source: count such statements apart). THE CARD IS WHAT COUNTS. Prove the row's statement (the work); the ties are given (YtafbipoagehdeaaDoorTie.lean); close each card by the builder's one call (the guide's Derived/Test/ToyasCard.lean, 'card_holds'). Laid BY PROGRAM, IN A SANDBOX (cutbox-door.mjs). By AI agents, Wed Nov 11 2026. No macro, syntax, notation, axiom, sorry.
-/
import Derived.Test.YtafbipoagehdeaaDoorRows
import GoSem.ClaimSeven
namespace Go.Proofs.YtafbipoagehdeaaDoor
namespace Rows

/-- THE TIED CARD OF 'fanlightlaw14.PlanChecks'. -/
def planChecksCard : Claim7 := { stood := { row := planChecksRow, standIns := [], harness := (true, "8657733d9836645dfbda64b9e4517f634b3a53e86fe8cac141f37ccf21a93bd4"), looks := false }, kinds := [], alts := [], laidByText := true, laidKinds := [.data, .pinned], laidTests := true, laidLooks := .later }
def PlanChecksCardSaid : Prop := Claim7.holds Tryd.pinned (.plain (OpenSpec.ofChange planChecksSpec)) planChecksCard

/-- THE TIED CARD OF 'fanlightlaw14.PlanPlaces'. -/
def planPlacesCard : Claim7 := { stood := { row := planPlacesRow, standIns := [], harness := (true, "8657733d9836645dfbda64b9e4517f634b3a53e86fe8cac141f37ccf21a93bd4"), looks := false }, kinds := [], alts := [], laidByText := true, laidKinds := [.data, .pinned], laidTests := true, laidLooks := .later }
def PlanPlacesCardSaid : Prop := Claim7.holds Tryd.pinned (.plain (OpenSpec.ofChange planPlacesSpec)) planPlacesCard

/-- THE TIED CARD OF 'fanlightlaw14.PlanAddresses'. -/
def planAddressesCard : Claim7 := { stood := { row := planAddressesRow, standIns := [], harness := (true, "8657733d9836645dfbda64b9e4517f634b3a53e86fe8cac141f37ccf21a93bd4"), looks := false }, kinds := [], alts := [], laidByText := true, laidKinds := [.data, .data, .data, .data, .pinned], laidTests := true, laidLooks := .later }
def PlanAddressesCardSaid : Prop := Claim7.holds Tryd.pinned (.plain (OpenSpec.ofChange planAddressesSpec)) planAddressesCard

/-- THE TIED CARD OF 'fanlightlaw14.PlanTexts'. -/
def planTextsCard : Claim7 := { stood := { row := planTextsRow, standIns := [], harness := (true, "8657733d9836645dfbda64b9e4517f634b3a53e86fe8cac141f37ccf21a93bd4"), looks := false }, kinds := [], alts := [], laidByText := true, laidKinds := [.data, .data, .data, .data, .pinned], laidTests := true, laidLooks := .later }
def PlanTextsCardSaid : Prop := Claim7.holds Tryd.pinned (.plain (OpenSpec.ofChange planTextsSpec)) planTextsCard

/-- THE TIED CARD OF 'fanlightlaw14.PlanParses'. -/
def planParsesCard : Claim7 := { stood := { row := planParsesRow, standIns := [], harness := (true, "8657733d9836645dfbda64b9e4517f634b3a53e86fe8cac141f37ccf21a93bd4"), looks := false }, kinds := [], alts := [], laidByText := true, laidKinds := [.data, .data, .data, .data, .pinned], laidTests := true, laidLooks := .later }
def PlanParsesCardSaid : Prop := Claim7.holds Tryd.pinned (.plain (OpenSpec.ofChange planParsesSpec)) planParsesCard

/-- THE SECOND FORM's CARD OF 'fanlightlaw14.PlanChecks'. -/
def planChecksUptoCard : Claim7 := { stood := { row := planChecksUptoRow, standIns := [], harness := (true, "8657733d9836645dfbda64b9e4517f634b3a53e86fe8cac141f37ccf21a93bd4"), looks := false }, kinds := [], alts := [], laidByText := true, laidKinds := [.data, .pinned], laidTests := true, laidLooks := .later }
def PlanChecksUptoCardSaid : Prop := Claim7.holds Tryd.pinned (.plain (OpenSpec.upto planChecksSpec)) planChecksUptoCard

/-- THE SECOND FORM's CARD OF 'fanlightlaw14.PlanPlaces'. -/
def planPlacesUptoCard : Claim7 := { stood := { row := planPlacesUptoRow, standIns := [], harness := (true, "8657733d9836645dfbda64b9e4517f634b3a53e86fe8cac141f37ccf21a93bd4"), looks := false }, kinds := [], alts := [], laidByText := true, laidKinds := [.data, .pinned], laidTests := true, laidLooks := .later }
def PlanPlacesUptoCardSaid : Prop := Claim7.holds Tryd.pinned (.plain (OpenSpec.upto planPlacesSpec)) planPlacesUptoCard

/-- THE SECOND FORM's CARD OF 'fanlightlaw14.PlanAddresses'. -/
def planAddressesUptoCard : Claim7 := { stood := { row := planAddressesUptoRow, standIns := [], harness := (true, "8657733d9836645dfbda64b9e4517f634b3a53e86fe8cac141f37ccf21a93bd4"), looks := false }, kinds := [], alts := [], laidByText := true, laidKinds := [.data, .data, .data, .data, .pinned], laidTests := true, laidLooks := .later }
def PlanAddressesUptoCardSaid : Prop := Claim7.holds Tryd.pinned (.plain (OpenSpec.upto planAddressesSpec)) planAddressesUptoCard

/-- THE SECOND FORM's CARD OF 'fanlightlaw14.PlanTexts'. -/
def planTextsUptoCard : Claim7 := { stood := { row := planTextsUptoRow, standIns := [], harness := (true, "8657733d9836645dfbda64b9e4517f634b3a53e86fe8cac141f37ccf21a93bd4"), looks := false }, kinds := [], alts := [], laidByText := true, laidKinds := [.data, .data, .data, .data, .pinned], laidTests := true, laidLooks := .later }
def PlanTextsUptoCardSaid : Prop := Claim7.holds Tryd.pinned (.plain (OpenSpec.upto planTextsSpec)) planTextsUptoCard

/-- THE SECOND FORM's CARD OF 'fanlightlaw14.PlanParses'. -/
def planParsesUptoCard : Claim7 := { stood := { row := planParsesUptoRow, standIns := [], harness := (true, "8657733d9836645dfbda64b9e4517f634b3a53e86fe8cac141f37ccf21a93bd4"), looks := false }, kinds := [], alts := [], laidByText := true, laidKinds := [.data, .data, .data, .data, .pinned], laidTests := true, laidLooks := .later }
def PlanParsesUptoCardSaid : Prop := Claim7.holds Tryd.pinned (.plain (OpenSpec.upto planParsesSpec)) planParsesUptoCard
end Rows
end Go.Proofs.YtafbipoagehdeaaDoor
