/-
  No cell of these rows narrows 'for every input' (looked for: loops, veiled, ifaces, maps, wideKeys, modest, calm, conditions, laid).
  DERIVED. THE GIVEN ROWS OF THIS SEAT. 6 by the template 'for every input the law returns true; each argument reads behind the call as it read before'; 0 by the template 'total and deterministic' (their statements: YtdmmahhnfnefoaaTotals.lean).
  GIVEN WITH THE SEED: the statements are not yours to turn. If you find one false, say at which input.
  Laid BY PROGRAM, IN A SANDBOX (cutbox-rows.mjs): the forced cells as the released guide's own fill.sh prints them over the translation d97a4d6f4b65d734… (all of the seat's roots in one cut). By AI agents, Wed Nov 11 2026. No macro, syntax, notation, axiom, sorry.
-/
import Derived.Test.YtdmmahhnfnefoaaChecked
import GoSem.Claim
import GoSem.ClaimJoined
import GoSem.ClaimMapViews
import Derived.JoinedTies
import Derived.KernelRfl
namespace Go.Proofs.Ytdmmahhnfnefoaa
/- THE CELL 'sum', in the pinned program and in every row, IS THE sha256 OF THE DUMP (.gsa) THAT YtdmmahhnfnefoaaProg.lean LOADS. Nothing in Lean hashes anything: it is a label: what it is worth is what the hold of that sum in a sandbox is worth. -/
noncomputable def Try.pinned : Pinned := { name := "ytdmmahhnfnefoaa", sum := "d97a4d6f4b65d73427cb833d820a203a847a636390fcfe1da7cc4c2cb92bfd88", checked := Try.checked }
namespace Rows
def none {H : Type} : Left H := { results := [], args := [] }

/-- 'fanlightlaw12.WheelSplits': WHATEVER THE INPUT: true; the input reads as it did. -/
def wheelSplitsSpec : ChangeSpec := { name := "wheelSplits", fn := fun _ => fun
  | [d1, d2, d3] => { results := [.lit (.bool true)], args := [d1, d2, d3] }
  | _ => none }
def wheelSplitsRow : OpenClaim := { program := "ytdmmahhnfnefoaa", sum := "d97a4d6f4b65d73427cb833d820a203a847a636390fcfe1da7cc4c2cb92bfd88", func := "fanlight/fanlightlaw12.WheelSplits", spec := "wheelSplits", unfollowed := true, recurses := true, apart := false }
def WheelSplitsSaid : Prop := wheelSplitsRow.holds Try.pinned (OpenSpec.ofChange wheelSplitsSpec)

/-- ITS FALSE NEIGHBOUR: 'it returns false'. Refute it at one input. -/
def wheelSplitsWrong : ChangeSpec := { name := "wheelSplits", fn := fun _ => fun
  | [d1, d2, d3] => { results := [.lit (.bool false)], args := [d1, d2, d3] }
  | _ => none }
def WheelSplitsWrongFalsely : Prop := wheelSplitsRow.holds Try.pinned (OpenSpec.ofChange wheelSplitsWrong)

/-- 'fanlightlaw12.WheelEach': WHATEVER THE INPUT: true; the input reads as it did. -/
def wheelEachSpec : ChangeSpec := { name := "wheelEach", fn := fun _ => fun
  | [d1, d2] => { results := [.lit (.bool true)], args := [d1, d2] }
  | _ => none }
def wheelEachRow : OpenClaim := { program := "ytdmmahhnfnefoaa", sum := "d97a4d6f4b65d73427cb833d820a203a847a636390fcfe1da7cc4c2cb92bfd88", func := "fanlight/fanlightlaw12.WheelEach", spec := "wheelEach", unfollowed := true, recurses := true, apart := false }
def WheelEachSaid : Prop := wheelEachRow.holds Try.pinned (OpenSpec.ofChange wheelEachSpec)

/-- ITS FALSE NEIGHBOUR: 'it returns false'. Refute it at one input. -/
def wheelEachWrong : ChangeSpec := { name := "wheelEach", fn := fun _ => fun
  | [d1, d2] => { results := [.lit (.bool false)], args := [d1, d2] }
  | _ => none }
def WheelEachWrongFalsely : Prop := wheelEachRow.holds Try.pinned (OpenSpec.ofChange wheelEachWrong)

/-- 'fanlightlaw12.WheelLong': WHATEVER THE INPUT: true; the input reads as it did. -/
def wheelLongSpec : ChangeSpec := { name := "wheelLong", fn := fun _ => fun
  | [d1, d2] => { results := [.lit (.bool true)], args := [d1, d2] }
  | _ => none }
def wheelLongRow : OpenClaim := { program := "ytdmmahhnfnefoaa", sum := "d97a4d6f4b65d73427cb833d820a203a847a636390fcfe1da7cc4c2cb92bfd88", func := "fanlight/fanlightlaw12.WheelLong", spec := "wheelLong", unfollowed := true, recurses := true, apart := false }
def WheelLongSaid : Prop := wheelLongRow.holds Try.pinned (OpenSpec.ofChange wheelLongSpec)

/-- ITS FALSE NEIGHBOUR: 'it returns false'. Refute it at one input. -/
def wheelLongWrong : ChangeSpec := { name := "wheelLong", fn := fun _ => fun
  | [d1, d2] => { results := [.lit (.bool false)], args := [d1, d2] }
  | _ => none }
def WheelLongWrongFalsely : Prop := wheelLongRow.holds Try.pinned (OpenSpec.ofChange wheelLongWrong)

/-- 'fanlightlaw12.WheelActs': WHATEVER THE INPUT: true; the input reads as it did. -/
def wheelActsSpec : ChangeSpec := { name := "wheelActs", fn := fun _ => fun
  | [d] => { results := [.lit (.bool true)], args := [d] }
  | _ => none }
def wheelActsRow : OpenClaim := { program := "ytdmmahhnfnefoaa", sum := "d97a4d6f4b65d73427cb833d820a203a847a636390fcfe1da7cc4c2cb92bfd88", func := "fanlight/fanlightlaw12.WheelActs", spec := "wheelActs", unfollowed := true, recurses := true, apart := false }
def WheelActsSaid : Prop := wheelActsRow.holds Try.pinned (OpenSpec.ofChange wheelActsSpec)

/-- ITS FALSE NEIGHBOUR: 'it returns false'. Refute it at one input. -/
def wheelActsWrong : ChangeSpec := { name := "wheelActs", fn := fun _ => fun
  | [d] => { results := [.lit (.bool false)], args := [d] }
  | _ => none }
def WheelActsWrongFalsely : Prop := wheelActsRow.holds Try.pinned (OpenSpec.ofChange wheelActsWrong)

/-- 'fanlightlaw11.TableRaw': WHATEVER THE INPUT: true; the input reads as it did. -/
def tableRawSpec : ChangeSpec := { name := "tableRaw", fn := fun _ => fun
  | [d1, d2, d3] => { results := [.lit (.bool true)], args := [d1, d2, d3] }
  | _ => none }
def tableRawRow : OpenClaim := { program := "ytdmmahhnfnefoaa", sum := "d97a4d6f4b65d73427cb833d820a203a847a636390fcfe1da7cc4c2cb92bfd88", func := "fanlight/fanlightlaw11.TableRaw", spec := "tableRaw", inPlace := ["sync/atomic.LoadUint64", "sync/atomic.StoreUint64", "sync/atomic.CompareAndSwapUint64"], recurses := true, apart := false }
def TableRawSaid : Prop := tableRawRow.holds Try.pinned (OpenSpec.ofChange tableRawSpec)

/-- ITS FALSE NEIGHBOUR: 'it returns false'. Refute it at one input. -/
def tableRawWrong : ChangeSpec := { name := "tableRaw", fn := fun _ => fun
  | [d1, d2, d3] => { results := [.lit (.bool false)], args := [d1, d2, d3] }
  | _ => none }
def TableRawWrongFalsely : Prop := tableRawRow.holds Try.pinned (OpenSpec.ofChange tableRawWrong)

/-- 'fanlightlaw11.TableSpots': WHATEVER THE INPUT: true; the input reads as it did. -/
def tableSpotsSpec : ChangeSpec := { name := "tableSpots", fn := fun _ => fun
  | [d1, d2] => { results := [.lit (.bool true)], args := [d1, d2] }
  | _ => none }
def tableSpotsRow : OpenClaim := { program := "ytdmmahhnfnefoaa", sum := "d97a4d6f4b65d73427cb833d820a203a847a636390fcfe1da7cc4c2cb92bfd88", func := "fanlight/fanlightlaw11.TableSpots", spec := "tableSpots", inPlace := ["sync/atomic.LoadUint64", "sync/atomic.StoreUint64", "sync/atomic.CompareAndSwapUint64"], recurses := true, apart := false }
def TableSpotsSaid : Prop := tableSpotsRow.holds Try.pinned (OpenSpec.ofChange tableSpotsSpec)

/-- ITS FALSE NEIGHBOUR: 'it returns false'. Refute it at one input. -/
def tableSpotsWrong : ChangeSpec := { name := "tableSpots", fn := fun _ => fun
  | [d1, d2] => { results := [.lit (.bool false)], args := [d1, d2] }
  | _ => none }
def TableSpotsWrongFalsely : Prop := tableSpotsRow.holds Try.pinned (OpenSpec.ofChange tableSpotsWrong)

/- THE SECOND FORM. 'bulk': how many values and letters a reading holds, each counted each time it is reached (what is shared counts as often as it is met; a slice's spare places count too). A statement '..UptoSaid' is the law's where the arguments, and the package variables that the reading takes, are together of bulk at most 1048576: NARROWER than '..Said'. Prove '..Said' where nothing that the law and all that it calls make is longer than what came in: it says more and counts as full. Else prove '..UptoSaid'. A law counts once. -/
mutual
def uptoBulk {H : Type} : DataW H → Nat
  | .lit (.string bytes) => bytes.length + 1
  | .lit _ => 1
  | .nil => 1
  | .ptr d => uptoBulk d + 1
  | .slice elems spare => uptoBulkAll elems + uptoBulkAll spare + 1
  | .agg parts => uptoBulkAll parts + 1
  | .iface _ d => uptoBulk d + 1
  | .map entries => uptoBulkEntries entries + 1
  | .held _ => 1
def uptoBulkAll {H : Type} : List (DataW H) → Nat
  | [] => 0
  | d :: r => uptoBulk d + uptoBulkAll r
def uptoBulkEntries {H : Type} : List (Lit × DataW H) → Nat
  | [] => 0
  | x :: r => uptoBulkEntry x + uptoBulkEntries r
def uptoBulkEntry {H : Type} : Lit × DataW H → Nat
  | (.string bytes, d) => bytes.length + uptoBulk d + 1
  | (_, d) => uptoBulk d + 1
 end
def uptoSmall : (H : Type) → List (DataW H) → Bool := fun _ ds => decide (uptoBulkAll ds ≤ 1048576)
def OpenSpec.upto (s : _root_.Go.ChangeSpec) : _root_.Go.OpenSpec := { _root_.Go.OpenSpec.ofChange s with cond := some uptoSmall }

/-- 'fanlightlaw12.WheelSplits', WHERE WHAT IT READS IS OF BULK AT MOST 1048576: true; the input reads as it did. -/
def wheelSplitsUptoRow : OpenClaim := { program := "ytdmmahhnfnefoaa", sum := "d97a4d6f4b65d73427cb833d820a203a847a636390fcfe1da7cc4c2cb92bfd88", func := "fanlight/fanlightlaw12.WheelSplits", spec := "wheelSplits", unfollowed := true, recurses := true, apart := false, narrowed := true }
def WheelSplitsUptoSaid : Prop := wheelSplitsUptoRow.holds Try.pinned (OpenSpec.upto wheelSplitsSpec)

/-- 'fanlightlaw12.WheelEach', WHERE WHAT IT READS IS OF BULK AT MOST 1048576: true; the input reads as it did. -/
def wheelEachUptoRow : OpenClaim := { program := "ytdmmahhnfnefoaa", sum := "d97a4d6f4b65d73427cb833d820a203a847a636390fcfe1da7cc4c2cb92bfd88", func := "fanlight/fanlightlaw12.WheelEach", spec := "wheelEach", unfollowed := true, recurses := true, apart := false, narrowed := true }
def WheelEachUptoSaid : Prop := wheelEachUptoRow.holds Try.pinned (OpenSpec.upto wheelEachSpec)

/-- 'fanlightlaw12.WheelLong', WHERE WHAT IT READS IS OF BULK AT MOST 1048576: true; the input reads as it did. -/
def wheelLongUptoRow : OpenClaim := { program := "ytdmmahhnfnefoaa", sum := "d97a4d6f4b65d73427cb833d820a203a847a636390fcfe1da7cc4c2cb92bfd88", func := "fanlight/fanlightlaw12.WheelLong", spec := "wheelLong", unfollowed := true, recurses := true, apart := false, narrowed := true }
def WheelLongUptoSaid : Prop := wheelLongUptoRow.holds Try.pinned (OpenSpec.upto wheelLongSpec)

/-- 'fanlightlaw12.WheelActs', WHERE WHAT IT READS IS OF BULK AT MOST 1048576: true; the input reads as it did. -/
def wheelActsUptoRow : OpenClaim := { program := "ytdmmahhnfnefoaa", sum := "d97a4d6f4b65d73427cb833d820a203a847a636390fcfe1da7cc4c2cb92bfd88", func := "fanlight/fanlightlaw12.WheelActs", spec := "wheelActs", unfollowed := true, recurses := true, apart := false, narrowed := true }
def WheelActsUptoSaid : Prop := wheelActsUptoRow.holds Try.pinned (OpenSpec.upto wheelActsSpec)

/-- 'fanlightlaw11.TableRaw', WHERE WHAT IT READS IS OF BULK AT MOST 1048576: true; the input reads as it did. -/
def tableRawUptoRow : OpenClaim := { program := "ytdmmahhnfnefoaa", sum := "d97a4d6f4b65d73427cb833d820a203a847a636390fcfe1da7cc4c2cb92bfd88", func := "fanlight/fanlightlaw11.TableRaw", spec := "tableRaw", inPlace := ["sync/atomic.LoadUint64", "sync/atomic.StoreUint64", "sync/atomic.CompareAndSwapUint64"], recurses := true, apart := false, narrowed := true }
def TableRawUptoSaid : Prop := tableRawUptoRow.holds Try.pinned (OpenSpec.upto tableRawSpec)

/-- 'fanlightlaw11.TableSpots', WHERE WHAT IT READS IS OF BULK AT MOST 1048576: true; the input reads as it did. -/
def tableSpotsUptoRow : OpenClaim := { program := "ytdmmahhnfnefoaa", sum := "d97a4d6f4b65d73427cb833d820a203a847a636390fcfe1da7cc4c2cb92bfd88", func := "fanlight/fanlightlaw11.TableSpots", spec := "tableSpots", inPlace := ["sync/atomic.LoadUint64", "sync/atomic.StoreUint64", "sync/atomic.CompareAndSwapUint64"], recurses := true, apart := false, narrowed := true }
def TableSpotsUptoSaid : Prop := tableSpotsUptoRow.holds Try.pinned (OpenSpec.upto tableSpotsSpec)

end Rows
end Go.Proofs.Ytdmmahhnfnefoaa
