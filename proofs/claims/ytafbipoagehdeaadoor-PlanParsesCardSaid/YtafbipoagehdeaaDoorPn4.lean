/-
  A Config's line, plain.
-/
import Derived.Test.YtafbipoagehdeaaDoorPn2
import Derived.Test.YtafbipoagehdeaaDoorPl0
namespace Go.Proofs.YtafbipoagehdeaaDoor
open Go.RowKit

def nameL : Nat → List UInt8
  | 0 => [119, 111, 114, 107, 101, 114, 115, 61]
  | 1 => [111, 117, 116, 101, 114, 61]
  | 2 => [112, 111, 114, 116, 115, 61]
  | 3 => [98, 117, 99, 107, 101, 116, 115, 61]
  | _ => [114, 105, 110, 103, 61]
def vOf (ps : List (List UInt8)) (j : Nat) : List UInt8 := Lib.trimPrefix (ps.getD j []) (nameL j)
def hOf (ps : List (List UInt8)) (j : Nat) : Bool := Lib.hasPrefix (ps.getD j []) (nameL j)
def goodN (ps : List (List UInt8)) : Nat → Bool
  | 0 => true
  | i + 1 => goodN ps i && hOf ps i
abbrev eS : Value := .string ⟨#[]⟩
def valsN (ps : List (List UInt8)) : Nat → List Value
  | 0 => [eS, eS, eS, eS, eS]
  | 1 => [.string (bs (vOf ps 0)), eS, eS, eS, eS]
  | 2 => [.string (bs (vOf ps 0)), .string (bs (vOf ps 1)), eS, eS, eS]
  | 3 => [.string (bs (vOf ps 0)), .string (bs (vOf ps 1)), .string (bs (vOf ps 2)), eS, eS]
  | 4 => [.string (bs (vOf ps 0)), .string (bs (vOf ps 1)), .string (bs (vOf ps 2)), .string (bs (vOf ps 3)), eS]
  | _ => [.string (bs (vOf ps 0)), .string (bs (vOf ps 1)), .string (bs (vOf ps 2)), .string (bs (vOf ps 3)), .string (bs (vOf ps 4))]
def zeroC : Cfg := ⟨0, 0, 0, 0, 0, 0⟩
/-- The parts of a line. -/
def partsC (ps : List (List UInt8)) : Option Cfg :=
  let c := Lib.cut (vOf ps 2) [45]
  if goodN ps 5 = true ∧ c.2.2 = true then
    match numT 5 (vOf ps 0), addrT (vOf ps 1), numT 5 c.1, numT 5 c.2.1, numT 5 (vOf ps 3), numT 5 (vOf ps 4) with
    | some w, some o, some l, some h, some b, some r => some ⟨w, o, l, h, b, r⟩
    | _, _, _, _, _, _ => none
  else none
def rawT (l : List UInt8) : Option Cfg := if (splitL 32 l).length = 5 then partsC (splitL 32 l) else none
def parseT (l : List UInt8) : Cfg × Int := match rawT l with
  | none => (zeroC, 3)
  | some c => if wrongT c = [] then (c, 0) else (zeroC, 1)
theorem addrT_lt {l : List UInt8} {n : Nat} (h : addrT l = some n) : n < 4294967296 := by
  unfold addrT at h
  split at h
  · rename_i hl
    obtain ⟨a, b, c, d, e⟩ : ∃ a b c d, splitL 46 l = [a, b, c, d] := by
      match splitL 46 l, hl with
      | [a, b, c, d], _ => exact ⟨a, b, c, d, rfl⟩
    rw [e] at h
    unfold goA at h; split at h; · cases h
    split at h; · cases h
    unfold goA at h; split at h; · cases h
    split at h; · cases h
    unfold goA at h; split at h; · cases h
    split at h; · cases h
    unfold goA at h; split at h; · cases h
    split at h; · cases h
    unfold goA at h
    simp only [Option.some.injEq] at h
    omega
  · cases h
theorem partsC_eq {ps : List (List UInt8)} {ct : List UInt8 × List UInt8 × Bool} {w0 o0 l0 h0 b0 r0 : Option Nat} (hcut : Lib.cut (vOf ps 2) [45] = ct) (ew : numT 5 (vOf ps 0) = w0) (eo : addrT (vOf ps 1) = o0) (el : numT 5 ct.1 = l0) (eh : numT 5 ct.2.1 = h0) (eb : numT 5 (vOf ps 3) = b0) (er : numT 5 (vOf ps 4) = r0) :
    partsC ps = if goodN ps 5 = true ∧ ct.2.2 = true then
      match w0, o0, l0, h0, b0, r0 with
      | some w, some o, some l, some h, some b, some r => some ⟨w, o, l, h, b, r⟩
      | _, _, _, _, _, _ => none
    else none := by
  subst hcut ew eo el eh eb er
  rfl
theorem parts_none {w0 o0 l0 h0 b0 r0 : Option Nat} {p : Prop} [Decidable p] (hq : ¬ ([.bool w0.isSome, .bool o0.isSome, .bool l0.isSome, .bool h0.isSome, .bool b0.isSome, .bool r0.isSome] : List Value) = [.bool true, .bool true, .bool true, .bool true, .bool true, .bool true]) :
    (if p then
      match w0, o0, l0, h0, b0, r0 with
      | some w, some o, some l, some h, some b, some r => some (⟨w, o, l, h, b, r⟩ : Cfg)
      | _, _, _, _, _, _ => none
    else none) = none := by
  split
  · cases w0 <;> cases o0 <;> cases l0 <;> cases h0 <;> cases b0 <;> cases r0 <;> first | rfl | exact absurd rfl hq
  · rfl
theorem splitL_le (c : UInt8) : ∀ (l x : List UInt8), x ∈ splitL c l → x.length ≤ l.length
  | [], x, h => by
    simp only [splitL, List.mem_singleton] at h
    subst h
    exact Nat.le_refl _
  | y :: l, x, h => by
    unfold splitL at h
    split at h
    · rcases List.mem_cons.1 h with rfl | h
      · simp
      · have := splitL_le c l x h
        simp only [List.length_cons]; omega
    · split at h
      · simp only [List.mem_singleton] at h
        subst h
        simp
      · rename_i a t e
        have ih := splitL_le c l
        rw [e] at ih
        rcases List.mem_cons.1 h with rfl | h
        · have := ih a (by simp)
          simp only [List.length_cons]; omega
        · have := ih x (by simp [h])
          simp only [List.length_cons]; omega
theorem vOf_le (c : UInt8) (l : List UInt8) (j : Nat) : (vOf (splitL c l) j).length ≤ l.length := by
  have h1 : (vOf (splitL c l) j).length ≤ ((splitL c l).getD j []).length := by
    unfold vOf Lib.trimPrefix
    split
    · rw [List.length_drop]; omega
    · exact Nat.le_refl _
  have h2 : ((splitL c l).getD j []).length ≤ l.length := by
    rcases Nat.lt_or_ge j (splitL c l).length with h | h
    · have := getD_get [] h
      exact splitL_le c l _ (List.mem_of_getElem? this)
    · rw [List.getD_eq_getElem?_getD, List.getElem?_eq_none h]; simp
  omega
theorem parse_some {l : List UInt8} {c : Cfg} (h : rawT l = some c) : parseT l = if wrongT c = [] then (c, 0) else (zeroC, 1) := by rw [parseT, h]
end Go.Proofs.YtafbipoagehdeaaDoor
