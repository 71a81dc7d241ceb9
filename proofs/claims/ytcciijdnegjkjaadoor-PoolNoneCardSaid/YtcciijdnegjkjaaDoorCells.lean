/-
  Walks over package cells: what each call does, of a row of numbers in memory.
-/
import Derived.Test.YtcciijdnegjkjaaDoorProg
import Derived.Test.YtcciijdnegjkjaaDoorSl
import Derived.WalkKit
import Derived.WalkSpells
import Derived.WalkLawsBesides
namespace Go.Proofs.YtcciijdnegjkjaaDoor
open Go.RowKit

set_option maxHeartbeats 400000 in
theorem at_in (bc bg n i : Nat) (cap : Nat) (w : World) (hc : w.cell? ⟨bc, 0, none⟩ = some (.slice (some ⟨bg, 0, none⟩) n cap)) (hi : i < n) :
    Calls Tryd.prog 32 #[.pointer (some ⟨bc, 0, none⟩), .int .i64 i] w fun e w' => e = .returned (.pointer (some ⟨bg, i, none⟩)) ∧ w = w' := by
  go_enter Tryd.func32, Tryd.ntmps32
  go_wp2
  go_ret
  exact ⟨rfl, rfl⟩

set_option maxHeartbeats 400000 in
theorem Load_in (bc bg n i : Nat) (cap : Nat) (v : Int) (w : World) (hc : w.cell? ⟨bc, 0, none⟩ = some (.slice (some ⟨bg, 0, none⟩) n cap)) (hi : i < n) (hv : w.cell? ⟨bg, i, none⟩ = some (.int .u64 v)) :
    Calls Tryd.prog 34 #[.pointer (some ⟨bc, 0, none⟩), .int .i64 i] w fun e w' => e = .returned (.int .u64 v) ∧ w = w' := by
  have hat := run_call_load (P := Tryd.prog) Tryd.func55 (by kernel_rfl) (by kernel_rfl) (by kernel_rfl) .u64 (by kernel_rfl) hv
  go_enter Tryd.func34, Tryd.ntmps34
  go_wp2_with (go_at_call 32; refine (at_in _ _ _ _ _ _ hc hi).mono ?_; rintro e w' ⟨rfl, rfl⟩)
  go_wp2
  go_ret
  exact ⟨rfl, rfl⟩

set_option maxHeartbeats 400000 in
theorem Store_in (bc bg n i : Nat) (cap : Nat) (u v : Int) (w : World) (hc : w.cell? ⟨bc, 0, none⟩ = some (.slice (some ⟨bg, 0, none⟩) n cap)) (hi : i < n) (hv : w.cell? ⟨bg, i, none⟩ = some (.int .u64 u)) (hf : w.frozen? ⟨bg, i, none⟩ = false) :
    Calls Tryd.prog 21 #[.pointer (some ⟨bc, 0, none⟩), .int .i64 i, .int .u64 v] w fun e w' => e = .returned (.tuple #[]) ∧ w.setCell ⟨bg, i, none⟩ (.int .u64 v) = w' := by
  have hat := run_call_store (P := Tryd.prog) Tryd.func40 (by kernel_rfl) (by kernel_rfl) (by kernel_rfl) (by kernel_rfl) (k := .u64) (y := v) hv hf
  go_enter Tryd.func21, Tryd.ntmps21
  go_wp2_with (go_at_call 32; refine (at_in _ _ _ _ _ _ hc hi).mono ?_; rintro e w' ⟨rfl, rfl⟩)
  go_wp2
  go_end0
  go_wp2
  go_end0
  exact ⟨rfl, rfl⟩

set_option maxHeartbeats 400000 in
theorem Cas_hit (bc bg n i : Nat) (cap : Nat) (u v : Int) (w : World) (hc : w.cell? ⟨bc, 0, none⟩ = some (.slice (some ⟨bg, 0, none⟩) n cap)) (hi : i < n) (hv : w.cell? ⟨bg, i, none⟩ = some (.int .u64 u)) (hf : w.frozen? ⟨bg, i, none⟩ = false) :
    Calls Tryd.prog 36 #[.pointer (some ⟨bc, 0, none⟩), .int .i64 i, .int .u64 u, .int .u64 v] w fun e w' => e = .returned (.bool true) ∧ w.setCell ⟨bg, i, none⟩ (.int .u64 v) = w' := by
  have hat := run_call_cas_hit (P := Tryd.prog) Tryd.func56 (by kernel_rfl) (by kernel_rfl) (by kernel_rfl) .u64 (by kernel_rfl) (y := v) hv hf
  go_enter Tryd.func36, Tryd.ntmps36
  go_wp2_with (go_at_call 32; refine (at_in _ _ _ _ _ _ hc hi).mono ?_; rintro e w' ⟨rfl, rfl⟩)
  go_wp2
  go_ret
  exact ⟨rfl, rfl⟩

set_option maxHeartbeats 400000 in
theorem Cas_miss (bc bg n i : Nat) (cap : Nat) (u u' v : Int) (w : World) (hc : w.cell? ⟨bc, 0, none⟩ = some (.slice (some ⟨bg, 0, none⟩) n cap)) (hi : i < n) (hv : w.cell? ⟨bg, i, none⟩ = some (.int .u64 u')) (hf : w.frozen? ⟨bg, i, none⟩ = false) (hne : ¬ u' = u) :
    Calls Tryd.prog 36 #[.pointer (some ⟨bc, 0, none⟩), .int .i64 i, .int .u64 u, .int .u64 v] w fun e w' => e = .returned (.bool false) ∧ w = w' := by
  have hat := run_call_cas_miss (P := Tryd.prog) Tryd.func56 (by kernel_rfl) (by kernel_rfl) (by kernel_rfl) .u64 (by kernel_rfl) (o := u) (y := v) hv hf hne
  go_enter Tryd.func36, Tryd.ntmps36
  go_wp2_with (go_at_call 32; refine (at_in _ _ _ _ _ _ hc hi).mono ?_; rintro e w' ⟨rfl, rfl⟩)
  go_wp2
  go_ret
  exact ⟨rfl, rfl⟩

set_option maxHeartbeats 400000 in
theorem Size_any (bc n : Nat) (a : Option Addr) (cap : Nat) (w : World) (hc : w.cell? ⟨bc, 0, none⟩ = some (.slice a n cap)) :
    Calls Tryd.prog 22 #[.pointer (some ⟨bc, 0, none⟩)] w fun e w' => e = .returned (.int .i64 n) ∧ w = w' := by
  go_enter Tryd.func22, Tryd.ntmps22
  go_wp2
  go_ret
  exact ⟨rfl, rfl⟩

set_option maxHeartbeats 400000 in
theorem CellsNew_ok (n : Nat) (w : World) (h1 : 1 ≤ n) (h2 : n ≤ 65536) :
    Calls Tryd.prog 20 #[.int .i64 n] w fun e w' => e = .returned (.tuple #[.pointer (some ⟨w.heap.size + 1, 0, none⟩), .int .i64 0]) ∧
      (w.alloc (.cells (Array.replicate n (.int .u64 0)) 89)).alloc (.cells #[.slice (some ⟨w.heap.size, 0, none⟩) n n, .int .u32 0, .int .i32 0, .int .u32 0] 77) = w' := by
  have hmk := make_one (P := Tryd.prog) (t := 63) (e := 89) (z := .agg #[.int .u64 0]) 8 Tryd.underlying63 (by kernel_rfl) rfl n (by omega) (by decide)
  go_enter Tryd.func20, Tryd.ntmps20
  go_wp2
  go_ret2
  exact ⟨rfl, rfl⟩

end Go.Proofs.YtcciijdnegjkjaaDoor
