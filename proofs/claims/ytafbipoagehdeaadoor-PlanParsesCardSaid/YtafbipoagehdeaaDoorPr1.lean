/-
  Readings of numbers and texts; the tables of a start.
-/
import Derived.Test.YtafbipoagehdeaaDoorPr0
import Derived.Test.YtafbipoagehdeaaDoorPq6
import Derived.Stop.LaidErr
namespace Go.Proofs.YtafbipoagehdeaaDoor
open Go.ChangeShapes Go.WideShapes Go.ChangeAt Go.RowKit Go.Deep

section
variable {P : Program} {W : World} {r : Reach} {base : Nat}
theorem u32_of {t : TypeId} {v : Value} (hi : P.underlying t = some (.int .u32)) (h : Value.okWide P W r base t v) : ∃ n : Nat, v = .int .u32 (n : Int) ∧ n < 4294967296 := by
  unfold Value.okWide at h
  rw [hi] at h
  obtain ⟨n, rfl, k⟩ := int_cell hi h
  obtain ⟨k0, k1⟩ := has_u32 k
  obtain ⟨m, rfl⟩ := Int.eq_ofNat_of_zero_le k0
  exact ⟨m, rfl, by omega⟩
theorem str_of {t : TypeId} {v : Value} (hi : P.underlying t = some .string) (h : Value.okWide P W r base t v) : ∃ l : List UInt8, v = str l := by
  unfold Value.okWide at h
  rw [hi] at h
  unfold Cell.okWide Cell.ok at h
  rw [hi] at h
  cases v <;> simp only at h
  rename_i s
  exact ⟨s.data.toList, by rw [str, ← bs_of]⟩
end
theorem planT_of {W : World} {a b : String × DataW Unit} {r : List (String × DataW Unit)} (h : laidMet Tryd.prog (a :: b :: ("internal/strconv.uint64pow10", Rows.laid_internal_strconv_uint64pow10) :: r) W) : PlanT W :=
  ⟨Lib.tabIs_of_head (g := 1) (t := 100) (n := 20) (by kernel_rfl) (by kernel_rfl) Tryd.underlying100 Tryd.underlying87 (by kernel_rfl) (by kernel_rfl) h.tail.tail⟩
noncomputable def tabsWorld (os : Os) : World :=
  putCells (putCells (putCells (utf8World os) 4 (cells1 Rows.laid_math_bits_deBruijn32tab)) 5 (cells1 Rows.laid_math_bits_deBruijn64tab)) 1 (cells1 Rows.laid_internal_strconv_uint64pow10)
end Go.Proofs.YtafbipoagehdeaaDoor
