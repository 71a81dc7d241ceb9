/-
  math/bits.TrailingZeros64, by the library's table.
-/
import Derived.Test.YtdmmahhnfnefoaaDoorSxT
import Derived.WalkKit
import Derived.Shelf.Spec.TrailingZeros
import Derived.Laws.BitsAllLaws
namespace Go.Proofs.YtdmmahhnfnefoaaDoor
open Go.RowKit

variable {W w : World} {F : SL}
/-- The library's table, as its text lays it. -/
def Tab (W : World) : Prop := TabAt 0 Lib.deBruijn64tab W
theorem Tab.at (hT : Tab W) (h : Sat W w F) : Tab w := fun j hj => by
  have := hT j hj
  rw [h.below.cell (World.block_lt_of_cell? _ _ this)]
  exact this
set_option maxHeartbeats 400000 in
theorem tz_core (x k idx : Nat) (w : World) (hx0 : ((x : Int) == 0) = false)
    (key : IntKind.u64.wrap (bits BinOp.and IntKind.u64 (x : Int) (IntKind.u64.wrap (-(x : Int))) * 285870213051353865) / 288230376151711744 = (idx : Int))
    (hi : idx < 64) (hk : k < 64) (hcell : w.cell? ⟨0, idx, none⟩ = some (.int .u8 k)) :
    Calls Tryd.prog 72 #[.int .u64 x] w fun e w' => e = .returned (.int .i64 k) ∧ w = w' := by
  go_enter Tryd.func72, Tryd.ntmps72
  go_wp2_with (simp only [key])
  go_ret
  exact ⟨rfl, rfl⟩
theorem tz_any (x : Nat) (hx : x < 18446744073709551616) (hx0 : ¬ x = 0) (w : World) (hT : Tab w) :
    Calls Tryd.prog 72 #[.int .u64 x] w fun e w' => e = .returned (.int .i64 (Lib.ctz 64 x : Nat)) ∧ w = w' := by
  obtain ⟨hlow, hk⟩ := Lib.lowest_bit 64 x hx0 hx
  obtain ⟨hi, htab⟩ := Lib.deBruijn64_at _ hk
  have hcell := hT _ hi
  rw [htab] at hcell
  exact tz_core x _ _ w (by simp; omega) (tz64_key x _ hx hx0 hlow) hi hk hcell
theorem tz_spec (hT : Tab W) (x : Nat) (hx : x < 18446744073709551616) (hx0 : ¬ x = 0) : Spec Tryd.prog 72 [.int .u64 (x : Int)] W F (fun _ : Unit => .int .i64 ((Lib.ctz 64 x : Nat) : Int)) (fun _ => F) := by
  intro w h
  refine (tz_any x hx hx0 w (hT.at h)).mono ?_
  rintro e w' ⟨rfl, rfl⟩
  exact ⟨(), rfl, h⟩
end Go.Proofs.YtdmmahhnfnefoaaDoor
