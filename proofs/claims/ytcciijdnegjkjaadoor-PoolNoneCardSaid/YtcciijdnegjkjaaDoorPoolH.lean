/-
  PoolBounds, the plain law: how many steps one's own step takes.
-/
import Derived.Test.YtcciijdnegjkjaaDoorPoolE
namespace Go.Proofs.YtcciijdnegjkjaaDoor

variable {m : Nat} {ws ws' : List Nat} {o : PStep} {what steps changes : Nat}

/-- How many of the first j words differ. -/
def cntDiff (a b : List Nat) (j : Nat) : Nat := ((List.range j).filter fun i => a.getD i 0 != b.getD i 0).length
theorem cntDiff_succ (a b : List Nat) (j : Nat) : cntDiff a b (j + 1) = cntDiff a b j + if a.getD j 0 = b.getD j 0 then 0 else 1 := by
  unfold cntDiff
  rw [List.range_succ, List.filter_append, List.length_append]
  congr 1
  simp only [List.filter_cons, List.filter_nil, bne_iff_ne, ne_eq]
  by_cases h : a.getD j 0 = b.getD j 0
  · rw [if_neg (not_not_intro h), if_pos h]; rfl
  · rw [if_pos h, if_neg h]; rfl
theorem cntDiff_le (a b : List Nat) (j : Nat) : cntDiff a b j ≤ j := by
  have := List.length_filter_le (fun i => a.getD i 0 != b.getD i 0) (List.range j)
  simpa [cntDiff] using this
theorem cntDiff_pos {a b : List Nat} {j i : Nat} (hi : i < j) (h : a.getD i 0 ≠ b.getD i 0) : 1 ≤ cntDiff a b j := by
  unfold cntDiff
  exact List.length_pos_of_mem (List.mem_filter.2 ⟨List.mem_range.2 hi, by simpa using h⟩)

def wordOf (o : PStep) : Nat := if o.kind = 0 then o.word else (o.parts.headD (0, 0)).1

/-- One's own step, so many steps on. -/
structure Own (ws : List Nat) (o : PStep) (what steps changes m : Nat) : Prop where
  ok : o.Ok m
  live : o.done = false
  kind : (what = 0 ∧ o.kind = 0) ∨ (what = 1 ∧ o.kind = 2 ∧ o.parts.length ≤ 1)
  lost : ∃ lost, lost ≤ changes ∧ steps ≤ (if o.kind = 0 then m - o.left else 0) + 2 * lost + (if o.read = true then 1 else 0) ∧ (o.read = true → ws.getD (wordOf o) 0 = o.seen ∨ lost + 1 ≤ changes)

theorem own_other (hw : WordsOk m ws) (hw' : WordsOk m ws') (h : Own ws o what steps changes m) : Own ws' o what steps (changes + cntDiff ws ws' m) m := by
  obtain ⟨lost, h1, h2, h3⟩ := h.lost
  refine ⟨h.ok, h.live, h.kind, lost, by omega, h2, fun hr => ?_⟩
  rcases h3 hr with h3 | h3
  · by_cases he : ws.getD (wordOf o) 0 = ws'.getD (wordOf o) 0
    · exact .inl (he ▸ h3)
    · have hk : wordOf o < m := by
        rcases Nat.lt_or_ge (wordOf o) m with h | h
        · exact h
        · exact absurd (by rw [List.getD_eq_getElem?_getD, List.getD_eq_getElem?_getD, List.getElem?_eq_none (by rw [hw.len]; exact h), List.getElem?_eq_none (by rw [hw'.len]; exact h)]) he
      have := cntDiff_pos hk he
      exact .inr (by omega)
  · exact .inr (by omega)

theorem own_step (hw : WordsOk m ws) (h : Own ws o what steps changes m) :
    (what = 0 → steps + 1 ≤ m + 1 + 2 * changes) ∧ (what = 1 → steps + 1 ≤ 2 + 2 * changes) ∧ ((doS ws o).2.done = false → Own (doS ws o).1 (doS ws o).2 what (steps + 1) changes m) := by
  obtain ⟨lost, h1, h2, h3⟩ := h.lost
  have hok := (doS_ok hw h.ok).2
  have hlive := h.live
  rcases h.kind with ⟨rfl, hk⟩ | ⟨rfl, hk, hp⟩
  · obtain ⟨t1, t2, t3, t4, t5, t6⟩ := h.ok.takes hk
    have t6 := t6 hlive
    rw [if_pos hk] at h2
    have hwo : wordOf o = o.word := by unfold wordOf; rw [if_pos hk]
    rw [hwo] at h3
    have e0 : doS ws o = takeS ws o := by unfold doS; rw [if_neg (by simp [hlive]), if_pos hk]
    refine ⟨fun _ => by split at h2 <;> omega, fun h => by omega, fun hd => ?_⟩
    refine ⟨hok, hd, .inl ⟨rfl, ?_⟩, ?_⟩
    · rw [e0]; unfold takeS; split <;> split <;> exact hk
    rw [e0] at hd ⊢
    unfold takeS at hd ⊢
    by_cases hr : o.read = true
    · rw [if_pos hr] at hd h2 ⊢
      by_cases he : ws.getD o.word 0 = o.seen
      · rw [if_pos he] at hd; simp at hd
      · rw [if_neg he]
        have := (h3 hr).resolve_left he
        exact ⟨lost + 1, by omega, by simp [hk]; omega, fun h => by simp at h⟩
    · rw [if_neg hr] at hd h2 ⊢
      by_cases hf : freesOf (ws.getD o.word 0) = []
      · rw [if_pos hf] at hd ⊢
        simp at hd
        exact ⟨lost, h1, by simp [hk, hr]; omega, fun h => absurd h hr⟩
      · rw [if_neg hf]
        refine ⟨lost, h1, by simp [hk]; omega, fun _ => .inl ?_⟩
        simp [wordOf, hk]
  · rw [if_neg (by omega)] at h2
    have e0 : doS ws o = backS ws o := by unfold doS; rw [if_neg (by simp [hlive]), if_neg (by omega), if_neg (by omega)]
    refine ⟨fun h => by omega, fun _ => by split at h2 <;> omega, fun hd => ?_⟩
    match hpp : o.parts with
    | [] =>
      rw [e0, backS_nil hpp] at hd
      simp at hd
    | (k, mask) :: rest =>
      have hrest : rest = [] := List.eq_nil_of_length_eq_zero (by rw [hpp] at hp; simp at hp; simp [hp])
      subst hrest
      have hwo : wordOf o = k := by unfold wordOf; rw [if_neg (by omega), hpp]; rfl
      rw [hwo] at h3
      refine ⟨hok, hd, .inr ⟨rfl, ?_⟩, ?_⟩
      · rw [e0, backS_cons hpp] at hd ⊢
        split <;> split <;> simp_all
      rw [e0, backS_cons hpp] at hd ⊢
      by_cases hr : o.read = true
      · rw [if_pos hr] at hd h2 ⊢
        by_cases he : ws.getD k 0 = o.seen
        · rw [if_pos he] at hd; simp at hd
        · rw [if_neg he]
          have := (h3 hr).resolve_left he
          exact ⟨lost + 1, by omega, by simp [hk]; omega, fun h => by simp at h⟩
      · rw [if_neg hr] at hd h2 ⊢
        by_cases he : ws.getD k 0 &&& mask = 0
        · rw [if_pos he] at hd; simp at hd
        · rw [if_neg he]
          refine ⟨lost, h1, by simp [hk]; omega, fun _ => .inl ?_⟩
          simp [wordOf, hk, hpp]

end Go.Proofs.YtcciijdnegjkjaaDoor
