/-
  Package wheel: Due, but for the sort.
-/
import Derived.Test.YtdmmahhnfnefoaaWh5
namespace Go.Proofs.Ytdmmahhnfnefoaa
open Go.RowKit
set_option maxRecDepth 10000
attribute [local irreducible] EK EX ER EN EL ES EG OpVal OpDoes OpSkip
variable {W : World} {F : SL} {X : Cx} {k : List KI} {σ : Env}

/-- What the levels below l let pass. -/
def idxL (f t : Nat) : Nat → List Nat
  | 0 => []
  | l + 1 => idxL f t l ++ lIdx l f t
theorem idxL_six (f t : Nat) : idxL f t 6 = idx f t := by
  simp [idxL, idx, List.range_succ]
def lvOut (sl : Nat → List Wen) (f t l : Nat) : List Wen := (grab (idxL f t l) sl []).1
def lvSl (sl : Nat → List Wen) (f t l : Nat) : Nat → List Wen := (grab (idxL f t l) sl []).2
theorem lv_succ (sl : Nat → List Wen) (f t l : Nat) : lvOut sl f t (l + 1) = lvOut sl f t l ++ (grab (lIdx l f t) (lvSl sl f t l) []).1 ∧ lvSl sl f t (l + 1) = (grab (lIdx l f t) (lvSl sl f t l) []).2 := by
  unfold lvOut lvSl
  rw [idxL, grab_app, grab_out]
  exact ⟨rfl, rfl⟩
theorem idxL_lt {f t : Nat} : ∀ {l i : Nat}, l ≤ 6 → i ∈ idxL f t l → i < 384
  | 0, i, _, h => by simp [idxL] at h
  | l + 1, i, hl, h => by
    rcases List.mem_append.1 h with h | h
    · exact idxL_lt (by omega) h
    · obtain ⟨j, hj, rfl⟩ := List.mem_map.1 h
      have := pIdx_lt hj
      omega
theorem lv_len (sl : Nat → List Wen) (f t l : Nat) (hl : l ≤ 6) : (lvOut sl f t l).length + (flatS (lvSl sl f t l)).length = (flatS sl).length := by
  have := (grab_perm (idxL f t l) sl [] fun i hi => idxL_lt hl hi).length_eq
  simpa [lvOut, lvSl] using this
theorem lv_mem {sl : Nat → List Wen} {f t l : Nat} (hl : l ≤ 6) {x : Wen} (h : x ∈ lvOut sl f t l) : ∃ i, i < 384 ∧ x ∈ sl i := by
  rcases grab_mem _ _ _ x h with g | ⟨i, hi, g⟩
  · simp at g
  · exact ⟨i, idxL_lt hl hi, g⟩
theorem foldl_take_succ {α β : Type} (f : β → α → β) (b : β) (l : List α) (d : α) {j : Nat} (hj : j < l.length) : (l.take (j + 1)).foldl f b = f ((l.take j).foldl f b) (l.getD j d) := by
  rw [← take_snocD (d := d) hj, List.foldl_append]; rfl
theorem puts_sizes (l : List Wen) (s : WSt) (h : WPos s) (hx : ∀ x ∈ l, x.at_ < 4294967296) : (l.foldl putS s).all.length = l.length + s.all.length := by
  have := (puts_ok l s h hx).2.2.2.length_eq
  rw [this, List.length_append]
end Go.Proofs.Ytdmmahhnfnefoaa
