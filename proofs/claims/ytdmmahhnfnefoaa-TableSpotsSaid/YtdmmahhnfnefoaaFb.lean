/-
  Words of places, flows as numbers, spots: plain Lean, no program in sight.
-/
import Derived.Test.YtdmmahhnfnefoaaSb
import Derived.Test.YtdmmahhnfnefoaaSa
namespace Go.Proofs.Ytdmmahhnfnefoaa
open Go.RowKit
theorem or_add {a b k : Nat} (hb : b < 2 ^ k) : (a * 2 ^ k ||| b) = a * 2 ^ k + b := by
  rw [Nat.mul_comm]; exact (Nat.two_pow_add_eq_or_of_lt hb a).symm
theorem u64_or_hi {a b k : Nat} (hb : b < 2 ^ k) (h : a * 2 ^ k + b < 18446744073709551616) : bits .or .u64 ((a * 2 ^ k : Nat) : Int) (b : Int) = ((a * 2 ^ k + b : Nat) : Int) := by
  rw [u64_or_nat _ _ (by omega) (by omega), or_add hb]
theorem u64_or_lo {a b k : Nat} (hb : b < 2 ^ k) (h : a * 2 ^ k + b < 18446744073709551616) : bits .or .u64 (b : Int) ((a * 2 ^ k : Nat) : Int) = ((b + a * 2 ^ k : Nat) : Int) := by
  rw [u64_or_nat _ _ (by omega) (by omega), Nat.or_comm, or_add hb, Nat.add_comm]
theorem u64_low {a : Nat} (k : Nat) (ha : a < 18446744073709551616) (hk : k ≤ 63) : bits .and .u64 (a : Int) ((2 ^ k - 1 : Nat) : Int) = ((a % 2 ^ k : Nat) : Int) := by
  have h : 2 ^ k - 1 < 18446744073709551616 := by
    have : 2 ^ k ≤ 2 ^ 63 := Nat.pow_le_pow_right (by decide) hk
    omega
  rw [u64_and_nat a _ ha h, Nat.and_two_pow_sub_one_eq_mod]
theorem u64_shl (a k : Nat) (h : a * 2 ^ k < 18446744073709551616) : IntKind.u64.wrap ((a : Int) * 2 ^ ((k : Int)).toNat) = ((a * 2 ^ k : Nat) : Int) := by
  rw [Int.toNat_natCast]
  have e : ((a * 2 ^ k : Nat) : Int) = (a : Int) * 2 ^ k := by simp
  rw [e, ← e]
  exact InK.wrap (by simp only [InK]; omega)
theorem i64_nat {a : Nat} (h : a < 9223372036854775808) : IntKind.i64.wrap (a : Int) = (a : Int) := InK.wrap (by simp only [InK]; omega)
/-- A place's word. -/
structure PWord where
  st : Nat
  gen : Nat
  tr : Nat
  sn : Nat
deriving DecidableEq
namespace PWord
def ok (w : PWord) : Prop := w.st ≤ 3 ∧ w.gen ≤ 65535 ∧ w.tr ≤ 7 ∧ w.sn ≤ 4294967295
instance (w : PWord) : Decidable w.ok := by unfold ok; infer_instance
def num (w : PWord) : Nat := w.st + w.tr * 256 + w.gen * 65536 + w.sn * 4294967296
def of (n : Nat) : PWord := ⟨n % 4, n / 65536 % 65536, n / 256 % 8, n / 4294967296⟩
abbrev vs (w : PWord) : List Value := [.int .i64 (w.st : Int), .int .i64 (w.gen : Int), .int .i64 (w.tr : Int), .int .i64 (w.sn : Int)]
theorem num_lt {w : PWord} (h : w.ok) : w.num < 18446744073709551616 := by unfold ok at h; unfold num; omega
theorem of_ok {n : Nat} (h : n < 18446744073709551616) : (of n).ok := by unfold ok of; dsimp only; omega
theorem of_num {w : PWord} (h : w.ok) : of w.num = w := by
  obtain ⟨a, b, c, d⟩ := w
  unfold ok at h; unfold num of
  dsimp only at h ⊢
  congr 1 <;> omega
end PWord
def mayW (old now : PWord) : Bool :=
  match old.st with
  | 0 => decide (now.st = 1) && decide (now.gen = (old.gen + 1) % 65536)
  | 1 => (decide (now.st = 2) || decide (now.st = 0)) && decide (now = { old with st := now.st })
  | 2 => if now.st = 2 then decide (now.gen = old.gen) && decide (old.sn ≤ now.sn) else decide (now.st = 3) && decide (now = { old with st := now.st })
  | _ => decide (now.st = 0) && decide (now = { old with st := now.st })
section may
variable {a b : PWord}
theorem may0 (e : a.st = 0) : mayW a b = (decide (b.st = 1) && decide (b.gen = (a.gen + 1) % 65536)) := by unfold mayW; rw [e]; rfl
theorem may1 (e : a.st = 1) : mayW a b = ((decide (b.st = 2) || decide (b.st = 0)) && decide (b = { a with st := b.st })) := by unfold mayW; rw [e]; rfl
theorem may2 (e : a.st = 2) : mayW a b = if b.st = 2 then decide (b.gen = a.gen) && decide (a.sn ≤ b.sn) else decide (b.st = 3) && decide (b = { a with st := b.st }) := by unfold mayW; rw [e]; rfl
theorem may3 (e : a.st = 3) : mayW a b = (decide (b.st = 0) && decide (b = { a with st := b.st })) := by unfold mayW; rw [e]; rfl
end may
/-- A flow as a number, of a protocol that fits. -/
def keyN (proto addr port : Nat) : Nat := proto * 281474976710656 + addr * 65536 + port
theorem key_or {a b c : Nat} (ha : a < 65536) (hb : b < 4294967296) (hc : c < 65536) : bits .or .u64 (bits .or .u64 ((a * 2 ^ 48 : Nat) : Int) ((b * 2 ^ 16 : Nat) : Int)) (c : Int) = (keyN a b c : Int) := by
  rw [u64_or_hi (by omega) (by omega), show a * 2 ^ 48 + b * 2 ^ 16 = (a * 2 ^ 32 + b) * 2 ^ 16 by omega, u64_or_hi (by omega) (by omega), show (a * 2 ^ 32 + b) * 2 ^ 16 + c = keyN a b c by unfold keyN; omega]
theorem u64_shl48 (x : Nat) : IntKind.u64.wrap ((x : Int) * 2 ^ Int.toNat 48) = ((x % 65536 * 2 ^ 48 : Nat) : Int) := by
  rw [IntKind.wrap_u64, show (2 : Int) ^ Int.toNat 48 = 281474976710656 from rfl]
  omega
/-! ### Spots -/
def spreadN (n : Nat) : Nat :=
  let x := n * 11400714819323198485 % 18446744073709551616
  let y := (x ^^^ x / 4294967296) * 13787848793156543929 % 18446744073709551616
  y ^^^ y / 4294967296
def fineN (b : Int) : Bool := decide (b = 2 ∨ b = 4 ∨ b = 8 ∨ b = 16 ∨ b = 32 ∨ b = 64 ∨ b = 128 ∨ b = 256 ∨ b = 512 ∨ b = 1024)
theorem mul_val (a c : Nat) : IntKind.u64.wrap ((a : Int) * (c : Int)) = ((a * c % 18446744073709551616 : Nat) : Int) := by
  rw [IntKind.wrap_u64, Int.natCast_emod]; simp
theorem xsh_val {a : Nat} (h : a < 18446744073709551616) : bits .xor .u64 (a : Int) ((a : Int) / 2 ^ Int.toNat 32) = ((a ^^^ a / 4294967296 : Nat) : Int) := by
  rw [show (a : Int) / 2 ^ Int.toNat 32 = ((a / 4294967296 : Nat) : Int) from shr_nat a 32, u64_xor_nat a _ h (by omega)]
theorem xsh_lt {a : Nat} (h : a < 18446744073709551616) : (a ^^^ a / 4294967296) < 18446744073709551616 := Nat.xor_lt_two_pow (n := 64) h (by omega)
theorem fine_tab : ((List.range 1025).all fun k => decide (k < 2) || (decide (k &&& (k - 1) = 0) == fineN (k : Int))) = true := by decide +kernel
theorem fine_val {k : Nat} (h1 : 2 ≤ k) (h2 : k ≤ 1024) : decide (bits .and .i64 (k : Int) ((k : Int) - 1) = 0) = fineN (k : Int) := by
  have h := List.all_eq_true.1 fine_tab k (List.mem_range.2 (by omega))
  rw [decide_eq_false (by omega), Bool.false_or, beq_iff_eq] at h
  rw [← h, show ((k : Int) - 1) = ((k - 1 : Nat) : Int) by omega, i64_and_nat _ _ (by omega) (by omega)]
  exact decide_eq_decide.2 ⟨fun e => by omega, fun e => by rw [e]; rfl⟩
theorem fine_no {b : Int} (h : ¬ (2 ≤ b ∧ b ≤ 1024)) : fineN b = false := by
  unfold fineN
  exact decide_eq_false (by omega)
def spotsN (n b : Nat) : Nat × Nat := (spreadN n % b, (spreadN n % b + 1 + spreadN n / 4294967296 % (b - 1)) % b)
theorem spreadN_lt (n : Nat) : spreadN n < 18446744073709551616 := by
  unfold spreadN
  exact Nat.xor_lt_two_pow (n := 64) (by omega) (by omega)
theorem spots_lt {n b : Nat} (hb : 2 ≤ b) : (spotsN n b).1 < b ∧ (spotsN n b).2 < b ∧ (spotsN n b).1 ≠ (spotsN n b).2 := by
  unfold spotsN
  have h1 := Nat.mod_lt (spreadN n) (show 0 < b by omega)
  have h2 := Nat.mod_lt (spreadN n / 4294967296) (show 0 < b - 1 by omega)
  refine ⟨h1, Nat.mod_lt _ (by omega), ?_⟩
  generalize spreadN n % b = a at *
  generalize spreadN n / 4294967296 % (b - 1) = d at *
  dsimp only
  intro e
  rcases Nat.lt_or_ge (a + 1 + d) b with h | h
  · rw [Nat.mod_eq_of_lt h] at e; omega
  · rw [Nat.mod_eq_sub_mod h, Nat.mod_eq_of_lt (by omega)] at e; omega
end Go.Proofs.Ytdmmahhnfnefoaa
