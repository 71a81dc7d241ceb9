/-
  Package pool: New.
-/
import Derived.Test.YtdmmahhnfnefoaaDoorPp6
namespace Go.Proofs.YtdmmahhnfnefoaaDoor
open Go.RowKit
set_option maxRecDepth 10000
attribute [local irreducible] EK EX ER EN EL ES EG OpVal OpDoes OpSkip
variable {W : World} {F : SL} {X : Cx} {k : List KI} {σ : Env} {p sp : Option Addr} {n m : Nat} {ws : List Nat} {s : PStep}

theorem New_spec (h1 : 1 ≤ n) (h2 : n ≤ 1024) : Spec Tryd.prog 7 [.int .i64 (n : Int)] W F (fun p : Option Addr => .tuple #[.pointer p, .int .i64 0]) (fun p => PoolC p n (newWords n) * F) := by
  refine Spec.of Tryd.func7 rfl Tryd.ntmps7 rfl ?_
  have e1 : ((n : Int) + 32 - 1) / 32 = (((n + 31) / 32 : Nat) : Int) := by omega
  repeat (first | refine go ?_ | (refine goX ?_; intro))
  rw [e1]
  refine EL_call rfl (CNew_spec ((n + 31) / 32) (by omega) (by omega)) ?_
  intro c
  by_cases hr : n % 32 = 0
  · have hr' : (n : Int) % 32 = 0 := by omega
    repeat (first | refine go ?_ | (refine goX ?_; intro))
    rename_i g
    refine EK_ret (ER_2 rfl rfl rfl g rfl (Ent.sat (Ent.trans ?_ (PoolC.shut (c := c)))))
    unfold newWords
    rw [if_pos hr]
    repeat (first | exact Ent.last | refine Ent.cons ?_ | refine Ent.assoc ?_)
  · have hr' : ¬ (n : Int) % 32 = 0 := by omega
    have e2 : IntKind.u64.wrap (1 * 2 ^ ((n : Int) % 32).toNat) = ((2 ^ (n % 32) : Nat) : Int) := by
      rw [show ((n : Int) % 32).toNat = n % 32 by omega, Int.one_mul]
      exact wrap_pow (Nat.mod_lt _ (by decide))
    have e3 : 2 ^ (n % 32) < 4294967296 := pow_lt32 (Nat.mod_lt _ (by decide))
    have e4 : 1 ≤ 2 ^ (n % 32) := Nat.one_le_two_pow
    have e5 := u64_andNot_nat 4294967295 (2 ^ (n % 32) - 1) (by decide) (by omega)
    have e6 : ((2 ^ (n % 32) : Nat) : Int) - 1 = ((2 ^ (n % 32) - 1 : Nat) : Int) := by omega
    have e7 : IntKind.i64.wrap ((((n + 31) / 32 : Nat) : Int) - 1) = (((n + 31) / 32 - 1 : Nat) : Int) := by
      rw [IntKind.wrap_i64]; omega
    have e8 : 4294967295 &&& (18446744073709551615 - (2 ^ (n % 32) - 1)) < 18446744073709551616 := Nat.lt_of_le_of_lt Nat.and_le_left (by decide)
    repeat (first | refine go ?_ | (refine goX ?_; intro))
    refine EK_drawnT 8 rfl (by kernel_rfl) rfl rfl ?_
    repeat (refine goS ?_)
    refine ES_call rfl (Size_spec c _) ?_
    repeat (refine goS ?_)
    rw [List.length_replicate, e2, e6]
    rw [show (4294967295 : Int) = ((4294967295 : Nat) : Int) from rfl, e5, e7]
    refine EL_call rfl (Store_spec c _ ((n + 31) / 32 - 1) _ (by rw [List.length_replicate]; omega) (by rw [List.length_replicate]; omega)) ?_
    intro _
    repeat (first | refine go ?_ | (refine goX ?_; intro))
    rename_i g
    refine EK_ret (ER_2 rfl rfl rfl g rfl (Ent.sat (Ent.trans ?_ (PoolC.shut (c := c)))))
    unfold newWords
    rw [if_neg hr]
    repeat (first | exact Ent.last | refine Ent.cons ?_ | refine Ent.assoc ?_)
end Go.Proofs.YtdmmahhnfnefoaaDoor
