/-
  Package plan, plain: what is wrong with a Config, and what follows from it.
-/
import Derived.Test.YtafbipoagehdeaaDoorSs
namespace Go.Proofs.YtafbipoagehdeaaDoor
open Go.RowKit

/-- A Config. -/
structure Cfg where
  w : Int
  o : Int
  lo : Int
  hi : Int
  b : Int
  r : Int
def I64 (z : Int) : Prop := -9223372036854775808 ≤ z ∧ z ≤ 9223372036854775807
structure Cfg.Fit (c : Cfg) : Prop where
  w : I64 c.w
  o : 0 ≤ c.o ∧ c.o ≤ 4294967295
  lo : I64 c.lo
  hi : I64 c.hi
  b : I64 c.b
  r : I64 c.r
def Cfg.cells (c : Cfg) : List Value := [.int .i64 c.w, .int .u32 c.o, .int .i64 c.lo, .int .i64 c.hi, .int .i64 c.b, .int .i64 c.r]

def pow2 (b : Int) : Prop := b = 2 ∨ b = 4 ∨ b = 8 ∨ b = 16 ∨ b = 32 ∨ b = 64 ∨ b = 128 ∨ b = 256 ∨ b = 512 ∨ b = 1024
instance (b : Int) : Decidable (pow2 b) := by unfold pow2; infer_instance
/-- What is wrong. -/
def wrongT (c : Cfg) : List UInt8 :=
  if ¬ (1 ≤ c.w ∧ c.w ≤ 64) then [119, 111, 114, 107, 101, 114, 115]
  else if c.o = 0 ∨ c.o = 4294967295 then [111, 117, 116, 101, 114]
  else if c.lo < 1 ∨ c.hi > 65535 ∨ c.hi < c.lo ∨ c.hi - c.lo ≥ 1024 then [112, 111, 114, 116, 115]
  else if ¬ pow2 c.b then [98, 117, 99, 107, 101, 116, 115]
  else if ¬ (1 ≤ c.r ∧ c.r ≤ 256) then [114, 105, 110, 103]
  else []
structure Cfg.Good (c : Cfg) : Prop where
  w : 1 ≤ c.w ∧ c.w ≤ 64
  o : ¬ c.o = 0 ∧ ¬ c.o = 4294967295
  p : 1 ≤ c.lo ∧ c.hi ≤ 65535 ∧ c.lo ≤ c.hi ∧ c.hi - c.lo < 1024
  b : pow2 c.b
  r : 1 ≤ c.r ∧ c.r ≤ 256
theorem wrongT_nil {c : Cfg} : wrongT c = [] ↔ c.Good := by
  unfold wrongT
  constructor
  · intro h
    split at h; · simp at h
    split at h; · simp at h
    split at h; · simp at h
    split at h; · simp at h
    split at h; · simp at h
    rename_i h1 h2 h3 h4 h5
    exact ⟨by omega, by omega, by omega, Classical.not_not.1 h4, by omega⟩
  · intro h
    obtain ⟨h1, h2, h3, h4, h5⟩ := h
    rw [if_neg (by omega), if_neg (by omega), if_neg (by omega), if_neg (Classical.not_not.2 h4), if_neg (by omega)]
def portsN (c : Cfg) : Int := if wrongT c = [] then c.hi - c.lo + 1 else 0
theorem portsN_le (c : Cfg) : 0 ≤ portsN c ∧ portsN c ≤ 1024 := by
  unfold portsN
  split
  · rename_i h
    have := (wrongT_nil.1 h).p
    omega
  · omega
def wordsN (c : Cfg) : Int := (portsN c + 31) / 32
def kindN (p : Int) : Int := if p = 1 then 0 else if p = 6 then 1 else if p = 17 then 2 else -1
def protoN (k : Int) : Int := if k = 0 then 1 else if k = 1 then 6 else 17
def placeN (c : Cfg) (proto port : Int) : Int := if portsN c = 0 ∨ kindN proto < 0 ∨ ¬ (c.lo ≤ port ∧ port ≤ c.hi) then -1 else kindN proto * portsN c + port - c.lo
def portN (c : Cfg) (place : Int) : Int × Int := if portsN c = 0 ∨ ¬ (0 ≤ place ∧ place ≤ 3 * portsN c - 1) then (0, 0) else (protoN (place / portsN c), c.lo + place % portsN c)

theorem kind_proto (k : Int) (h : 0 ≤ k) (h2 : k ≤ 2) : kindN (protoN k) = k := by
  have : k = 0 ∨ k = 1 ∨ k = 2 := by omega
  rcases this with rfl | rfl | rfl <;> decide
theorem proto_kind (p : Int) (h : 0 ≤ kindN p) : protoN (kindN p) = p ∧ kindN p ≤ 2 := by
  unfold kindN at *
  split at h
  · rename_i e; subst e; simp [protoN]
  split at h
  · rename_i e; subst e; simp [protoN]
  split at h
  · rename_i e; subst e; simp [protoN]
  · omega

/-- They undo each other. -/
theorem port_of_place {c : Cfg} {proto port : Int} (h : 0 ≤ placeN c proto port) : portN c (placeN c proto port) = (proto, port) := by
  unfold placeN at h ⊢
  split at h
  · omega
  · rename_i hn
    rw [if_neg hn]
    obtain ⟨h1, h2⟩ := proto_kind proto (by omega)
    have h3 := portsN_le c
    have hp : portsN c = c.hi - c.lo + 1 := by
      unfold portsN at hn ⊢
      split
      · rfl
      · rename_i hw
        rw [if_neg hw] at hn
        omega
    generalize kindN proto = k at *
    generalize hP : portsN c = n at *
    have hk : k = 0 ∨ k = 1 ∨ k = 2 := by omega
    have hq : k * n + port - c.lo = k * n + (port - c.lo) := by omega
    have hd : (k * n + port - c.lo) / n = k := by
      rw [hq, Int.add_comm, Int.add_mul_ediv_right _ _ (by omega), Int.ediv_eq_zero_of_lt (by omega) (by omega)]; omega
    have hm : (k * n + port - c.lo) % n = port - c.lo := by
      rw [hq, Int.add_comm, Int.add_mul_emod_self_right, Int.emod_eq_of_lt (by omega) (by omega)]
    have hb : k * n ≤ 2 * n := Int.mul_le_mul_of_nonneg_right (by omega) (by omega)
    unfold portN
    rw [hP, if_neg (by omega), hd, hm, h1]
    congr 1
    omega
theorem place_of_port {c : Cfg} {place : Int} (h : ¬ (portN c place).1 = 0) : placeN c (portN c place).1 (portN c place).2 = place := by
  unfold portN at h ⊢
  split at h
  · simp at h
  · rename_i hn
    rw [if_neg hn]
    have h3 := portsN_le c
    have hp : portsN c = c.hi - c.lo + 1 := by
      unfold portsN at hn ⊢
      split
      · rfl
      · rename_i hw
        rw [if_neg hw] at hn
        omega
    have hm := Int.emod_lt_of_pos place (show 0 < portsN c by omega)
    have hm0 := Int.emod_nonneg place (show portsN c ≠ 0 by omega)
    have hdm := Int.mul_ediv_add_emod place (portsN c)
    have hd0 : 0 ≤ place / portsN c := Int.ediv_nonneg (by omega) (by omega)
    have hd2 : place / portsN c ≤ 2 := by
      have : place / portsN c < 3 := Int.ediv_lt_of_lt_mul (by omega) (by omega)
      omega
    have hk := kind_proto _ hd0 hd2
    unfold placeN
    simp only []
    rw [hk, if_neg (by omega)]
    rw [Int.mul_comm] at hdm
    omega

end Go.Proofs.YtafbipoagehdeaaDoor
