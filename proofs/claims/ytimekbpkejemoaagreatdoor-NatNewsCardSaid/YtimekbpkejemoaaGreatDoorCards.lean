/-
  DERIVED. GIVEN WITH THE SEED: THE CARDS: each row of YtimekbpkejemoaaGreatDoorRows.lean that lists a variable, with what it lists TIED to the program's text (the seventh form; the later family's looks); each row that meets fmt, with fmt's text TOLD by the authors' own Lean function (tested against real Go, not proved from fmt's source: count such statements apart). THE CARD IS WHAT COUNTS. Prove the row's statement (the work); the ties are given (YtimekbpkejemoaaGreatDoorTie.lean); close each card by the builder's one call (the guide's Derived/Test/ToyasCard.lean, 'card_holds'). Laid BY PROGRAM, IN A SANDBOX (cutbox-door.mjs). By AI agents, Wed Nov 11 2026. No macro, syntax, notation, axiom, sorry.
-/
import Derived.Test.YtimekbpkejemoaaGreatDoorRows
import GoSem.ClaimSeven
namespace Go.Proofs.YtimekbpkejemoaaGreatDoor
namespace Rows

/-- THE TIED CARD OF 'fanlightlaw16.NatDrops'. -/
def natDropsCard : Claim7 := { stood := { row := natDropsRow, standIns := [], harness := (true, "5ae8074b9cfc52a4059cdd3a052abf14b1eb6e44c0b341fd1d69566f7949ea82"), looks := false }, kinds := [], alts := [], laidByText := true, laidKinds := [.data], laidTests := true, laidLooks := .later }
def NatDropsCardSaid : Prop := Claim7.holds Tryz.pinned (.plain (OpenSpec.ofChange natDropsSpec)) natDropsCard

/-- THE TIED CARD OF 'fanlightlaw16.NatNews'. -/
def natNewsCard : Claim7 := { stood := { row := natNewsRow, standIns := [], harness := (true, "5ae8074b9cfc52a4059cdd3a052abf14b1eb6e44c0b341fd1d69566f7949ea82"), looks := false }, kinds := [], alts := [], laidByText := true, laidKinds := [.data], laidTests := true, laidLooks := .later }
def NatNewsCardSaid : Prop := Claim7.holds Tryz.pinned (.plain (OpenSpec.ofChange natNewsSpec)) natNewsCard

/-- THE TIED CARD OF 'fanlightlaw16.NatFull'. -/
def natFullCard : Claim7 := { stood := { row := natFullRow, standIns := [], harness := (true, "5ae8074b9cfc52a4059cdd3a052abf14b1eb6e44c0b341fd1d69566f7949ea82"), looks := false }, kinds := [], alts := [], laidByText := true, laidKinds := [.data], laidTests := true, laidLooks := .later }
def NatFullCardSaid : Prop := Claim7.holds Tryz.pinned (.plain (OpenSpec.ofChange natFullSpec)) natFullCard

/-- THE TIED CARD OF 'fanlightlaw16.NatAlone'. -/
def natAloneCard : Claim7 := { stood := { row := natAloneRow, standIns := [], harness := (true, "5ae8074b9cfc52a4059cdd3a052abf14b1eb6e44c0b341fd1d69566f7949ea82"), looks := false }, kinds := [], alts := [], laidByText := true, laidKinds := [.data], laidTests := true, laidLooks := .later }
def NatAloneCardSaid : Prop := Claim7.holds Tryz.pinned (.plain (OpenSpec.ofChange natAloneSpec)) natAloneCard

/-- THE SECOND FORM's CARD OF 'fanlightlaw16.NatDrops'. -/
def natDropsUptoCard : Claim7 := { stood := { row := natDropsUptoRow, standIns := [], harness := (true, "5ae8074b9cfc52a4059cdd3a052abf14b1eb6e44c0b341fd1d69566f7949ea82"), looks := false }, kinds := [], alts := [], laidByText := true, laidKinds := [.data], laidTests := true, laidLooks := .later }
def NatDropsUptoCardSaid : Prop := Claim7.holds Tryz.pinned (.plain (OpenSpec.upto natDropsSpec)) natDropsUptoCard

/-- THE SECOND FORM's CARD OF 'fanlightlaw16.NatNews'. -/
def natNewsUptoCard : Claim7 := { stood := { row := natNewsUptoRow, standIns := [], harness := (true, "5ae8074b9cfc52a4059cdd3a052abf14b1eb6e44c0b341fd1d69566f7949ea82"), looks := false }, kinds := [], alts := [], laidByText := true, laidKinds := [.data], laidTests := true, laidLooks := .later }
def NatNewsUptoCardSaid : Prop := Claim7.holds Tryz.pinned (.plain (OpenSpec.upto natNewsSpec)) natNewsUptoCard

/-- THE SECOND FORM's CARD OF 'fanlightlaw16.NatFull'. -/
def natFullUptoCard : Claim7 := { stood := { row := natFullUptoRow, standIns := [], harness := (true, "5ae8074b9cfc52a4059cdd3a052abf14b1eb6e44c0b341fd1d69566f7949ea82"), looks := false }, kinds := [], alts := [], laidByText := true, laidKinds := [.data], laidTests := true, laidLooks := .later }
def NatFullUptoCardSaid : Prop := Claim7.holds Tryz.pinned (.plain (OpenSpec.upto natFullSpec)) natFullUptoCard

/-- THE SECOND FORM's CARD OF 'fanlightlaw16.NatAlone'. -/
def natAloneUptoCard : Claim7 := { stood := { row := natAloneUptoRow, standIns := [], harness := (true, "5ae8074b9cfc52a4059cdd3a052abf14b1eb6e44c0b341fd1d69566f7949ea82"), looks := false }, kinds := [], alts := [], laidByText := true, laidKinds := [.data], laidTests := true, laidLooks := .later }
def NatAloneUptoCardSaid : Prop := Claim7.holds Tryz.pinned (.plain (OpenSpec.upto natAloneSpec)) natAloneUptoCard
end Rows
end Go.Proofs.YtimekbpkejemoaaGreatDoor
