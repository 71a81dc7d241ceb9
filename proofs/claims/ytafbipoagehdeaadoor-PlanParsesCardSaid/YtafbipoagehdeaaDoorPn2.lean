/-
  Addresses as texts, plain.
-/
import Derived.Test.YtafbipoagehdeaaDoorPn0
import Derived.Laws.BitsAllLaws
namespace Go.Proofs.YtafbipoagehdeaaDoor
open Go.RowKit

def byteN (a i : Nat) : Nat := a / 2 ^ (8 * i) % 256
theorem and_255 (a i : Nat) (ha : a < 4294967296) : bits BinOp.and IntKind.u32 ((a : Int) / 2 ^ (8 * i)) 255 = ((byteN a i : Nat) : Int) := by
  have h1 : ((a : Int) / 2 ^ (8 * i)) = ((a / 2 ^ (8 * i) : Nat) : Int) := by rw [Int.natCast_ediv]; simp
  have h2 : a / 2 ^ (8 * i) ≤ a := Nat.div_le_self _ _
  have := u32_and_nat (a / 2 ^ (8 * i)) 255 (by omega) (by decide)
  rw [h1, show (255 : Int) = ((255 : Nat) : Int) from rfl, this, show (255 : Nat) = 2 ^ 8 - 1 from rfl, Nat.and_two_pow_sub_one_eq_mod]
  rfl
theorem byteN_lt (a i : Nat) : byteN a i < 256 := Nat.mod_lt _ (by decide)
theorem bytes_sum (a : Nat) (ha : a < 4294967296) : ((byteN a 3 * 256 + byteN a 2) * 256 + byteN a 1) * 256 + byteN a 0 = a := by
  unfold byteN
  omega
theorem or_low (a n : Nat) (ha : a < 16777216) (hn : n < 256) : bits BinOp.or IntKind.u32 (IntKind.u32.wrap ((a : Int) * 2 ^ 8)) ((n : Nat) : Int) = ((a * 256 + n : Nat) : Int) := by
  have h1 : IntKind.u32.wrap ((a : Int) * 2 ^ 8) = ((a * 256 : Nat) : Int) := by
    have : ((a : Int) * 2 ^ 8) = ((a * 256 : Nat) : Int) := by rw [Int.natCast_mul]; rfl
    rw [this]
    exact InK.wrap (by simp only [InK]; omega)
  rw [h1, u32_or_nat _ _ (by omega) (by omega)]
  congr 1
  have := Nat.two_pow_add_eq_or_of_lt (i := 8) hn a
  rw [Nat.mul_comm a 256, show 256 = 2 ^ 8 from rfl, this]
def goA : List (List UInt8) → Nat → Option Nat
  | [], a => some a
  | p :: ps, a => match numT 3 p with
    | none => none
    | some n => if 255 < n then none else goA ps (a * 256 + n)
def addrT (l : List UInt8) : Option Nat := if (splitL 46 l).length = 4 then goA (splitL 46 l) 0 else none
def addrV (o : Option Nat) : Value := .tuple #[.int .u32 ((o.getD 0 : Nat) : Int), .bool o.isSome]
def addrP (a : Nat) : List (List UInt8) := [Lib.decDigits (byteN a 3), Lib.decDigits (byteN a 2), Lib.decDigits (byteN a 1), Lib.decDigits (byteN a 0)]
def addrL (a : Nat) : List UInt8 := Lib.join (addrP a) [46]
theorem itoa_nat (n : Nat) : Lib.itoa (n : Int) = Lib.decDigits n := by
  unfold Lib.itoa
  rw [if_neg (by omega)]
  rfl
theorem decDigits_len3 {n : Nat} (h : n < 1000) : (Lib.decDigits n).length ≤ 3 := by
  rw [Lib.decDigits]
  split
  · simp
  · rw [Lib.decDigits]
    split
    · simp
    · rw [Lib.decDigits]
      rw [dif_pos (by omega)]
      simp
theorem addrL_eq (a : Nat) : addrL a = Lib.decDigits (byteN a 3) ++ 46 :: (Lib.decDigits (byteN a 2) ++ 46 :: (Lib.decDigits (byteN a 1) ++ 46 :: Lib.decDigits (byteN a 0))) := by
  simp [addrL, addrP, Lib.join, List.intercalate, List.intersperse]
theorem addrL_len (a : Nat) : (addrL a).length ≤ 15 := by
  have h := fun i => decDigits_len3 (n := byteN a i) (by have := byteN_lt a i; omega)
  have h0 := h 0; have h1 := h 1; have h2 := h 2; have h3 := h 3
  rw [addrL_eq]
  simp only [List.length_append, List.length_cons]
  omega
end Go.Proofs.YtafbipoagehdeaaDoor
