/-
  What a struct of numbers is, among the arguments.
-/
import Derived.Test.YtdmmahhnfnefoaaRe
namespace Go.Proofs.Ytdmmahhnfnefoaa
open Go.ChangeShapes Go.WideShapes Go.ChangeAt Go.RowKit Go.Deep
section
variable {P : Program} {W : World} {base : Nat} {r : Reach}
theorem agg_cellsS {t : TypeId} {v : Value} {ts : List TypeId} (hu : (∃ fs, P.underlying t = some (.struct fs)) ∨ ∃ n e, P.underlying t = some (.array n e)) (hct : P.cellTypes P.depth t = some ts) (hsz : P.cellsOf t = ts.length) (h : Value.okWide P W r base t v) :
    ∃ cs : List Value, v = .agg cs.toArray ∧ cs.length = ts.length ∧ ∀ (i : Nat) (u : TypeId), ts[i]? = some u → ∃ x, cs[i]? = some x ∧ Cell.okWide P W r base u x := by
  have h' : ∃ cs, v = .agg cs ∧ cs.size = P.cellsOf t ∧ Row.okWide P W r base t cs := by
    unfold Value.okWide at h
    rcases hu with ⟨fs, hu⟩ | ⟨n, e, hu⟩ <;> rw [hu] at h <;> exact h
  obtain ⟨cs, rfl, hs, ts', h1, _, h2⟩ := h'
  rw [hct] at h1
  cases h1
  refine ⟨cs.toList, by simp, by simp [hs, hsz], fun i u hi => ?_⟩
  have hlt := (List.getElem?_eq_some_iff.1 hi).1
  have hlt' : i < cs.size := by rw [hs, hsz]; exact hlt
  obtain ⟨u', h3, h4⟩ := h2 i cs[i] (Array.getElem?_eq_getElem hlt')
  rw [Nat.mod_eq_of_lt hlt, hi] at h3
  cases h3
  exact ⟨cs[i], by simp [hlt'], h4⟩
theorem int_cellS {u : TypeId} {k : IntKind} {x : Value} (hu : P.underlying u = some (.int k)) (h : Cell.okWide P W r base u x) : ∃ n, x = .int k n ∧ k.has n := by
  unfold Cell.okWide Cell.ok at h
  rw [hu] at h
  cases x <;> simp only at h
  obtain ⟨rfl, h⟩ := h
  exact ⟨_, rfl, h⟩
theorem flow_of {t ti tu th : TypeId} {v : Value} {fs : Array Field} (hu : P.underlying t = some (.struct fs)) (hct : P.cellTypes P.depth t = some [ti, tu, th]) (hsz : P.cellsOf t = 3) (hi : P.underlying ti = some (.int .i64)) (hu32 : P.underlying tu = some (.int .u32)) (hu16 : P.underlying th = some (.int .u16)) (h : Value.okWide P W r base t v) :
    ∃ (a : Int) (b c : Nat), v = .agg #[.int .i64 a, .int .u32 (b : Int), .int .u16 (c : Int)] ∧ b < 4294967296 ∧ c < 65536 := by
  obtain ⟨cs, rfl, hl, hc⟩ := agg_cellsS (.inl ⟨fs, hu⟩) hct hsz h
  match cs, hl with
  | [x0, x1, x2], _ =>
    obtain ⟨y0, e0, g0⟩ := hc 0 ti rfl
    obtain ⟨y1, e1, g1⟩ := hc 1 tu rfl
    obtain ⟨y2, e2, g2⟩ := hc 2 th rfl
    cases e0; cases e1; cases e2
    obtain ⟨n0, rfl, k0⟩ := int_cellS hi g0
    obtain ⟨n1, rfl, k1⟩ := int_cellS hu32 g1
    obtain ⟨n2, rfl, k2⟩ := int_cellS hu16 g2
    unfold IntKind.has at k1 k2
    have k1' : 0 ≤ n1 ∧ n1 ≤ 4294967295 := k1
    have k2' : 0 ≤ n2 ∧ n2 ≤ 65535 := k2
    refine ⟨n0, n1.toNat, n2.toNat, ?_, by omega, by omega⟩
    rw [Int.toNat_of_nonneg k1'.1, Int.toNat_of_nonneg k2'.1]
end
end Go.Proofs.Ytdmmahhnfnefoaa
