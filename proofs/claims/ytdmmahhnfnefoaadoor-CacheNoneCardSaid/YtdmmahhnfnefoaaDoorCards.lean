/-
  DERIVED. GIVEN WITH THE SEED: THE CARDS: each row of YtdmmahhnfnefoaaDoorRows.lean that lists a variable, with what it lists TIED to the program's text (the seventh form; the later family's looks); each row that meets fmt, with fmt's text TOLD by the authors' own Lean function (tested against real Go, not proved from fmt's source: count such statements apart). THE CARD IS WHAT COUNTS. Prove the row's statement (the work); the ties are given (YtdmmahhnfnefoaaDoorTie.lean); close each card by the builder's one call (the guide's Derived/Test/ToyasCard.lean, 'card_holds'). Laid BY PROGRAM, IN A SANDBOX (cutbox-door.mjs). By AI agents, Wed Nov 11 2026. No macro, syntax, notation, axiom, sorry.
-/
import Derived.Test.YtdmmahhnfnefoaaDoorRows
import GoSem.ClaimSeven
namespace Go.Proofs.YtdmmahhnfnefoaaDoor
namespace Rows

/-- THE TIED CARD OF 'fanlightlaw09.CacheNone'. -/
def cacheNoneCard : Claim7 := { stood := { row := cacheNoneRow, standIns := [], harness := (true, "50d14f9f90d394fee3675053ac19dbaf151356edbccb7f68cebb2f6e05575e17"), looks := false }, kinds := [], alts := [], laidByText := true, laidKinds := [.data], laidTests := true, laidLooks := .later }
def CacheNoneCardSaid : Prop := Claim7.holds Tryd.pinned (.plain (OpenSpec.ofChange cacheNoneSpec)) cacheNoneCard

/-- THE TIED CARD OF 'fanlightlaw08.PoolOwns'. -/
def poolOwnsCard : Claim7 := { stood := { row := poolOwnsRow, standIns := [], harness := (true, "50d14f9f90d394fee3675053ac19dbaf151356edbccb7f68cebb2f6e05575e17"), looks := false }, kinds := [], alts := [], laidByText := true, laidKinds := [.data], laidTests := true, laidLooks := .later }
def PoolOwnsCardSaid : Prop := Claim7.holds Tryd.pinned (.plain (OpenSpec.ofChange poolOwnsSpec)) poolOwnsCard

/-- THE TIED CARD OF 'fanlightlaw09.CacheOwns'. -/
def cacheOwnsCard : Claim7 := { stood := { row := cacheOwnsRow, standIns := [], harness := (true, "50d14f9f90d394fee3675053ac19dbaf151356edbccb7f68cebb2f6e05575e17"), looks := false }, kinds := [], alts := [], laidByText := true, laidKinds := [.data], laidTests := true, laidLooks := .later }
def CacheOwnsCardSaid : Prop := Claim7.holds Tryd.pinned (.plain (OpenSpec.ofChange cacheOwnsSpec)) cacheOwnsCard

/-- THE TIED CARD OF 'fanlightlaw09.CacheStacks'. -/
def cacheStacksCard : Claim7 := { stood := { row := cacheStacksRow, standIns := [], harness := (true, "50d14f9f90d394fee3675053ac19dbaf151356edbccb7f68cebb2f6e05575e17"), looks := false }, kinds := [], alts := [], laidByText := true, laidKinds := [.data], laidTests := true, laidLooks := .later }
def CacheStacksCardSaid : Prop := Claim7.holds Tryd.pinned (.plain (OpenSpec.ofChange cacheStacksSpec)) cacheStacksCard

/-- THE SECOND FORM's CARD OF 'fanlightlaw09.CacheNone'. -/
def cacheNoneUptoCard : Claim7 := { stood := { row := cacheNoneUptoRow, standIns := [], harness := (true, "50d14f9f90d394fee3675053ac19dbaf151356edbccb7f68cebb2f6e05575e17"), looks := false }, kinds := [], alts := [], laidByText := true, laidKinds := [.data], laidTests := true, laidLooks := .later }
def CacheNoneUptoCardSaid : Prop := Claim7.holds Tryd.pinned (.plain (OpenSpec.upto cacheNoneSpec)) cacheNoneUptoCard

/-- THE SECOND FORM's CARD OF 'fanlightlaw08.PoolOwns'. -/
def poolOwnsUptoCard : Claim7 := { stood := { row := poolOwnsUptoRow, standIns := [], harness := (true, "50d14f9f90d394fee3675053ac19dbaf151356edbccb7f68cebb2f6e05575e17"), looks := false }, kinds := [], alts := [], laidByText := true, laidKinds := [.data], laidTests := true, laidLooks := .later }
def PoolOwnsUptoCardSaid : Prop := Claim7.holds Tryd.pinned (.plain (OpenSpec.upto poolOwnsSpec)) poolOwnsUptoCard

/-- THE SECOND FORM's CARD OF 'fanlightlaw09.CacheOwns'. -/
def cacheOwnsUptoCard : Claim7 := { stood := { row := cacheOwnsUptoRow, standIns := [], harness := (true, "50d14f9f90d394fee3675053ac19dbaf151356edbccb7f68cebb2f6e05575e17"), looks := false }, kinds := [], alts := [], laidByText := true, laidKinds := [.data], laidTests := true, laidLooks := .later }
def CacheOwnsUptoCardSaid : Prop := Claim7.holds Tryd.pinned (.plain (OpenSpec.upto cacheOwnsSpec)) cacheOwnsUptoCard

/-- THE SECOND FORM's CARD OF 'fanlightlaw09.CacheStacks'. -/
def cacheStacksUptoCard : Claim7 := { stood := { row := cacheStacksUptoRow, standIns := [], harness := (true, "50d14f9f90d394fee3675053ac19dbaf151356edbccb7f68cebb2f6e05575e17"), looks := false }, kinds := [], alts := [], laidByText := true, laidKinds := [.data], laidTests := true, laidLooks := .later }
def CacheStacksUptoCardSaid : Prop := Claim7.holds Tryd.pinned (.plain (OpenSpec.upto cacheStacksSpec)) cacheStacksUptoCard
end Rows
end Go.Proofs.YtdmmahhnfnefoaaDoor
