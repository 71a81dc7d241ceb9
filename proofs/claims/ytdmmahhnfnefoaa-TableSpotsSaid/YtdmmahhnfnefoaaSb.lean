/-
  Bits of numbers that aren't below nought, of the kind of int. Plain Lean: no program in sight.
-/
import Derived.Test.YtdmmahhnfnefoaaSm
import Derived.Laws.BitsAllLaws
namespace Go.Proofs.Ytdmmahhnfnefoaa
open Go.RowKit
theorem ofInt_64 (a : Nat) (ha : a < 18446744073709551616) : (BitVec.ofInt 64 (a : Int)).toNat = a := by
  rw [BitVec.ofInt_natCast, BitVec.toNat_ofNat]; exact Nat.mod_eq_of_lt (by omega)
theorem i64_and_nat (a b : Nat) (ha : a < 9223372036854775808) (hb : b < 9223372036854775808) : bits .and .i64 (a : Int) (b : Int) = ((a &&& b : Nat) : Int) := by
  have hx : a &&& b < 2 ^ 63 := Nat.and_lt_two_pow _ (by omega)
  show IntKind.i64.wrap ((BitVec.ofInt 64 (a : Int) &&& BitVec.ofInt 64 (b : Int)).toNat : Int) = _
  rw [BitVec.toNat_and, ofInt_64 a (by omega), ofInt_64 b (by omega)]
  exact InK.wrap (by simp only [InK]; omega)
theorem i64_or_nat (a b : Nat) (ha : a < 9223372036854775808) (hb : b < 9223372036854775808) : bits .or .i64 (a : Int) (b : Int) = ((a ||| b : Nat) : Int) := by
  have hx : a ||| b < 2 ^ 63 := Nat.or_lt_two_pow (by omega) (by omega)
  show IntKind.i64.wrap ((BitVec.ofInt 64 (a : Int) ||| BitVec.ofInt 64 (b : Int)).toNat : Int) = _
  rw [BitVec.toNat_or, ofInt_64 a (by omega), ofInt_64 b (by omega)]
  exact InK.wrap (by simp only [InK]; omega)
theorem i64_xor_nat (a b : Nat) (ha : a < 9223372036854775808) (hb : b < 9223372036854775808) : bits .xor .i64 (a : Int) (b : Int) = ((a ^^^ b : Nat) : Int) := by
  have hx : a ^^^ b < 2 ^ 63 := Nat.xor_lt_two_pow (by omega) (by omega)
  show IntKind.i64.wrap ((BitVec.ofInt 64 (a : Int) ^^^ BitVec.ofInt 64 (b : Int)).toNat : Int) = _
  rw [BitVec.toNat_xor, ofInt_64 a (by omega), ofInt_64 b (by omega)]
  exact InK.wrap (by simp only [InK]; omega)
/-- The low bits. -/
theorem i64_low (a n : Nat) (ha : a < 9223372036854775808) (hn : n ≤ 62) : bits .and .i64 (a : Int) (((2 ^ n - 1 : Nat)) : Int) = ((a % 2 ^ n : Nat) : Int) := by
  have h : 2 ^ n - 1 < 9223372036854775808 := by
    have : 2 ^ n ≤ 2 ^ 62 := Nat.pow_le_pow_right (by decide) hn
    omega
  rw [i64_and_nat a _ ha h, Nat.and_two_pow_sub_one_eq_mod]
theorem shr_nat (a b : Nat) : ((a : Int) / 2 ^ ((b : Int)).toNat) = ((a / 2 ^ b : Nat) : Int) := by
  rw [Int.toNat_natCast, Int.natCast_ediv]; simp
end Go.Proofs.Ytdmmahhnfnefoaa
