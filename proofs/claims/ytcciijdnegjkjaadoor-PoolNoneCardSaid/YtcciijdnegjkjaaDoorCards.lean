/-
  DERIVED. GIVEN WITH THE SEED: THE CARDS: each row of YtcciijdnegjkjaaDoorRows.lean that lists a variable, with what it lists TIED to the program's text (the seventh form; the later family's looks); each row that meets fmt, with fmt's text TOLD by the authors' own Lean function (tested against real Go, not proved from fmt's source: count such statements apart). THE CARD IS WHAT COUNTS. Prove the row's statement (the work); the ties are given (YtcciijdnegjkjaaDoorTie.lean); close each card by the builder's one call (the guide's Derived/Test/ToyasCard.lean, 'card_holds'). Laid BY PROGRAM, IN A SANDBOX (cutbox-door.mjs). By AI agents, Wed Nov 11 2026. No macro, syntax, notation, axiom, sorry.
-/
import Derived.Test.YtcciijdnegjkjaaDoorRows
import GoSem.ClaimSeven
namespace Go.Proofs.YtcciijdnegjkjaaDoor
namespace Rows

/-- THE TIED CARD OF 'fanlightlaw08.PoolBounds'. -/
def poolBoundsCard : Claim7 := { stood := { row := poolBoundsRow, standIns := [], harness := (true, "8298f477e3a688bb0c5c6e6a81334a69671c69a253ccaaaa6a8b0a9b9b7e205b"), looks := false }, kinds := [], alts := [], laidByText := true, laidKinds := [.data], laidTests := true, laidLooks := .later }
def PoolBoundsCardSaid : Prop := Claim7.holds Tryd.pinned (.plain (OpenSpec.ofChange poolBoundsSpec)) poolBoundsCard

/-- THE TIED CARD OF 'fanlightlaw08.PoolNone'. -/
def poolNoneCard : Claim7 := { stood := { row := poolNoneRow, standIns := [], harness := (true, "8298f477e3a688bb0c5c6e6a81334a69671c69a253ccaaaa6a8b0a9b9b7e205b"), looks := false }, kinds := [], alts := [], laidByText := true, laidKinds := [.data], laidTests := true, laidLooks := .later }
def PoolNoneCardSaid : Prop := Claim7.holds Tryd.pinned (.plain (OpenSpec.ofChange poolNoneSpec)) poolNoneCard

/-- THE TIED CARD OF 'fanlightlaw08.PoolOwns'. -/
def poolOwnsCard : Claim7 := { stood := { row := poolOwnsRow, standIns := [], harness := (true, "8298f477e3a688bb0c5c6e6a81334a69671c69a253ccaaaa6a8b0a9b9b7e205b"), looks := false }, kinds := [], alts := [], laidByText := true, laidKinds := [.data], laidTests := true, laidLooks := .later }
def PoolOwnsCardSaid : Prop := Claim7.holds Tryd.pinned (.plain (OpenSpec.ofChange poolOwnsSpec)) poolOwnsCard

/-- THE SECOND FORM's CARD OF 'fanlightlaw08.PoolBounds'. -/
def poolBoundsUptoCard : Claim7 := { stood := { row := poolBoundsUptoRow, standIns := [], harness := (true, "8298f477e3a688bb0c5c6e6a81334a69671c69a253ccaaaa6a8b0a9b9b7e205b"), looks := false }, kinds := [], alts := [], laidByText := true, laidKinds := [.data], laidTests := true, laidLooks := .later }
def PoolBoundsUptoCardSaid : Prop := Claim7.holds Tryd.pinned (.plain (OpenSpec.upto poolBoundsSpec)) poolBoundsUptoCard

/-- THE SECOND FORM's CARD OF 'fanlightlaw08.PoolNone'. -/
def poolNoneUptoCard : Claim7 := { stood := { row := poolNoneUptoRow, standIns := [], harness := (true, "8298f477e3a688bb0c5c6e6a81334a69671c69a253ccaaaa6a8b0a9b9b7e205b"), looks := false }, kinds := [], alts := [], laidByText := true, laidKinds := [.data], laidTests := true, laidLooks := .later }
def PoolNoneUptoCardSaid : Prop := Claim7.holds Tryd.pinned (.plain (OpenSpec.upto poolNoneSpec)) poolNoneUptoCard

/-- THE SECOND FORM's CARD OF 'fanlightlaw08.PoolOwns'. -/
def poolOwnsUptoCard : Claim7 := { stood := { row := poolOwnsUptoRow, standIns := [], harness := (true, "8298f477e3a688bb0c5c6e6a81334a69671c69a253ccaaaa6a8b0a9b9b7e205b"), looks := false }, kinds := [], alts := [], laidByText := true, laidKinds := [.data], laidTests := true, laidLooks := .later }
def PoolOwnsUptoCardSaid : Prop := Claim7.holds Tryd.pinned (.plain (OpenSpec.upto poolOwnsSpec)) poolOwnsUptoCard
end Rows
end Go.Proofs.YtcciijdnegjkjaaDoor
