/-
  Numbers of texts, plain.
-/
import Derived.Test.YtafbipoagehdeaaDoorPs
namespace Go.Proofs.YtafbipoagehdeaaDoor
open Go.RowKit

def isD (c : UInt8) : Prop := 48 ≤ c.toNat ∧ c.toNat ≤ 57
instance (c : UInt8) : Decidable (isD c) := by unfold isD; infer_instance
def digsN (l : List UInt8) : Nat := l.foldl (fun n c => 10 * n + (c.toNat - 48)) 0
theorem digsN_snoc (l : List UInt8) (c : UInt8) : digsN (l ++ [c]) = 10 * digsN l + (c.toNat - 48) := by simp [digsN]
theorem digs_acc : ∀ (l : List UInt8) (a : Nat), (∀ c ∈ l, isD c) → l.foldl (fun n c => 10 * n + (c.toNat - 48)) a < (a + 1) * 10 ^ l.length
  | [], a, _ => by simp
  | c :: l, a, h => by
    have h2 : isD c := h c (by simp)
    unfold isD at h2
    have ih := digs_acc l (10 * a + (c.toNat - 48)) fun x hx => h x (by simp [hx])
    rw [List.foldl_cons, List.length_cons, Nat.pow_succ]
    have hp : 0 < 10 ^ l.length := Nat.pow_pos (by decide)
    calc _ < _ := ih
      _ ≤ (10 * (a + 1)) * 10 ^ l.length := Nat.mul_le_mul_right _ (by omega)
      _ = (a + 1) * (10 ^ l.length * 10) := by rw [Nat.mul_comm 10 (a + 1), Nat.mul_assoc, Nat.mul_comm 10]
theorem digsN_lt (l : List UInt8) (h : ∀ c ∈ l, isD c) : digsN l < 10 ^ l.length := by
  have := digs_acc l 0 h
  simpa [digsN] using this
def numBad (most : Nat) (l : List UInt8) : Prop := l = [] ∨ most < l.length ∨ (1 < l.length ∧ l.getD 0 0 = 48) ∨ ¬ (∀ c ∈ l, isD c)
instance (most : Nat) (l : List UInt8) : Decidable (numBad most l) := by unfold numBad; infer_instance
def numT (most : Nat) (l : List UInt8) : Option Nat := if numBad most l then none else some (digsN l)
def numV (o : Option Nat) : Value := .tuple #[.int .i64 ((o.getD 0 : Nat) : Int), .bool o.isSome]
theorem numT_none {most : Nat} {l : List UInt8} (h : numBad most l) : Value.tuple #[.int .i64 0, .bool false] = numV (numT most l) := by rw [numT, if_pos h]; rfl
theorem numT_some {most : Nat} {l : List UInt8} (h : ¬ numBad most l) : Value.tuple #[.int .i64 ((digsN l : Nat) : Int), .bool true] = numV (numT most l) := by rw [numT, if_neg h]; rfl
theorem numT_lt {most n : Nat} {l : List UInt8} (h : numT most l = some n) : n < 10 ^ most := by
  unfold numT at h
  split at h
  · cases h
  · rename_i hb
    simp only [Option.some.injEq] at h
    subst h
    unfold numBad at hb
    have h1 := digsN_lt l (Classical.not_not.1 fun g => hb (.inr (.inr (.inr g))))
    have h2 : l.length ≤ most := Nat.le_of_not_lt fun g => hb (.inr (.inl g))
    exact Nat.lt_of_lt_of_le h1 (Nat.pow_le_pow_right (by decide) h2)
theorem all_take {l : List UInt8} {k : Nat} (hk : k ≤ l.length) (h : ∀ i, i < k → isD (l.getD i 0)) : ∀ c ∈ l.take k, isD c := by
  intro c hc
  obtain ⟨i, hi, rfl⟩ := List.mem_iff_getElem.1 hc
  have hi' : i < k := by simp at hi; omega
  have := h i hi'
  rw [List.getD_eq_getElem?_getD, List.getElem?_eq_getElem (by omega)] at this
  simpa using this
theorem take_digs {l : List UInt8} {k : Nat} (hk : k < l.length) (hd : isD (l.getD k 0)) : (10 : Int) * ((digsN (l.take k) : Nat) : Int) + ((((l.getD k 0).toNat : Nat) : Int) - 48) = ((digsN (l.take (k + 1)) : Nat) : Int) := by
  unfold isD at hd
  rw [← take_snocD (d := 0) hk, digsN_snoc]
  omega
theorem digs_small {l : List UInt8} {k : Nat} (hk : k ≤ 9) (hl : k ≤ l.length) (h : ∀ i, i < k → isD (l.getD i 0)) : digsN (l.take k) < 1000000000 := by
  have h1 := digsN_lt _ (all_take hl h)
  have h2 : (l.take k).length = k := by rw [List.length_take]; omega
  rw [h2] at h1
  have h3 : 10 ^ k ≤ 10 ^ 9 := Nat.pow_le_pow_right (by decide) hk
  omega

end Go.Proofs.YtafbipoagehdeaaDoor
