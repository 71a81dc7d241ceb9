/-
  Texts of numbers and addresses: the document's reading and the program's are one. Plain.
-/
import Derived.Test.YtafbipoagehdeaaDoorPn4
namespace Go.Proofs.YtafbipoagehdeaaDoor
open Go.RowKit

/-! ### Numbers at a text's begin -/
def stops (l : List UInt8) : Prop := ∀ c t, l = c :: t → ¬ isD c
theorem stops_nil : stops [] := fun _ _ h => by cases h
theorem stops_cons {c : UInt8} {t : List UInt8} (h : ¬ isD c) : stops (c :: t) := fun _ _ e => by cases e; exact h
def pre (m : Nat) (s : List UInt8) : List UInt8 := (s.take m).takeWhile fun c => decide (isD c)
def rnumBad (m : Nat) (s : List UInt8) : Prop := (1 < (pre m s).length ∧ s.getD 0 0 = 48) ∨ ((pre m s).length < s.length ∧ isD (s.getD (pre m s).length 0))
instance (m : Nat) (s : List UInt8) : Decidable (rnumBad m s) := by unfold rnumBad; infer_instance
def rnumT (m : Nat) (s : List UInt8) : Nat × Nat := if rnumBad m s then (0, 0) else (digsN (pre m s), (pre m s).length)
theorem pre_prefix (m : Nat) (s : List UInt8) : ∃ t, s = pre m s ++ t := by
  refine ⟨(s.take m).dropWhile (fun c => decide (isD c)) ++ s.drop m, ?_⟩
  unfold pre
  rw [← List.append_assoc, List.takeWhile_append_dropWhile, List.take_append_drop]
theorem pre_all (m : Nat) (s : List UInt8) : ∀ c ∈ pre m s, isD c := by
  intro c hc
  have := List.all_eq_true.1 (List.all_takeWhile (l := s.take m) (p := fun c => decide (isD c))) c hc
  simpa using this
theorem pre_len (m : Nat) (s : List UInt8) : (pre m s).length ≤ m := by
  unfold pre
  have h1 : ((s.take m).takeWhile fun c => decide (isD c)).length ≤ (s.take m).length := (List.takeWhile_sublist _).length_le
  have h2 : (s.take m).length ≤ m := by rw [List.length_take]; omega
  omega
/-- The digits are the begin. -/
theorem pre_eq {m : Nat} {D t : List UInt8} (hd : ∀ c ∈ D, isD c) (hl : D.length ≤ m) (hs : stops t ∨ D.length = m) : pre m (D ++ t) = D := by
  have h1 : (D ++ t).take m = D ++ t.take (m - D.length) := by rw [List.take_append, List.take_of_length_le hl]
  unfold pre
  rw [h1, List.takeWhile_append_of_pos (by simpa using hd)]
  have h2 : (t.take (m - D.length)).takeWhile (fun c => decide (isD c)) = [] := by
    rcases hs with hs | hs
    · cases hm : m - D.length with
      | zero => simp
      | succ j =>
        cases t with
        | nil => simp
        | cons c t =>
          have := hs c t rfl
          simp [List.takeWhile_cons, this]
    · rw [hs, Nat.sub_self]; simp
  rw [h2, List.append_nil]
theorem pre_take {m k : Nat} {s : List UInt8} (hk : k ≤ s.length) (hm : k ≤ m) (hd : ∀ i, i < k → isD (s.getD i 0)) (hstop : k = s.length ∨ k = m ∨ ¬ isD (s.getD k 0)) : pre m s = s.take k := by
  have h1 := all_take hk hd
  have h2 : (s.take k).length = k := by rw [List.length_take]; omega
  conv => lhs; rw [← List.take_append_drop k s]
  refine pre_eq h1 (by omega) ?_
  rcases hstop with h | h | h
  · left
    rw [h, List.drop_length]
    exact stops_nil
  · right; omega
  · rcases Nat.lt_or_ge k s.length with hlt | hge
    · left
      rw [List.drop_eq_getElem_cons hlt]
      refine stops_cons ?_
      have : s.getD k 0 = s[k] := by rw [List.getD_eq_getElem?_getD, List.getElem?_eq_getElem hlt]; rfl
      rw [← this]; exact h
    · left
      have : k = s.length := by omega
      rw [this, List.drop_length]
      exact stops_nil
theorem rnum_iff {m : Nat} {s : List UInt8} {n k : Nat} (hk : 0 < k) : rnumT m s = (n, k) ↔ ∃ D t, s = D ++ t ∧ numT m D = some n ∧ D.length = k ∧ stops t := by
  constructor
  · intro h
    unfold rnumT at h
    split at h
    · cases h; omega
    · rename_i hb
      cases h
      obtain ⟨t, ht⟩ := pre_prefix m s
      refine ⟨pre m s, t, ht, ?_, rfl, ?_⟩
      · rw [numT, if_neg]
        unfold numBad
        rintro (h | h | h | h)
        · rw [h] at hk; simp at hk
        · have := pre_len m s; omega
        · refine hb (.inl ⟨h.1, ?_⟩)
          rw [ht, List.getD_eq_getElem?_getD, List.getElem?_append_left (by omega)]
          rw [← List.getD_eq_getElem?_getD]; exact h.2
        · exact h (pre_all m s)
      · intro c u e hc
        refine hb (.inr ?_)
        have hlen : (pre m s).length < s.length := by
          conv => rhs; rw [ht, e]
          simp
        refine ⟨hlen, ?_⟩
        have : s.getD (pre m s).length 0 = c := by
          have hh : ∀ (P : List UInt8), s = P ++ c :: u → s.getD P.length 0 = c := by
            rintro P rfl
            rw [List.getD_eq_getElem?_getD, List.getElem?_append_right (Nat.le_refl _), Nat.sub_self]
            rfl
          exact hh _ (by rw [← e]; exact ht)
        rw [this]; exact hc
  · rintro ⟨D, t, rfl, hn, rfl, hs⟩
    unfold numT at hn
    split at hn
    · cases hn
    · rename_i hb
      simp only [Option.some.injEq] at hn
      subst hn
      unfold numBad at hb
      have hd : ∀ c ∈ D, isD c := Classical.not_not.1 fun g => hb (.inr (.inr (.inr g)))
      have hl : D.length ≤ m := Nat.le_of_not_lt fun g => hb (.inr (.inl g))
      have hp := pre_eq hd hl (.inl hs)
      rw [rnumT, hp, if_neg]
      rintro (h | h)
      · rw [hp] at h
        refine hb (.inr (.inr (.inl ⟨h.1, ?_⟩)))
        have := h.2
        rw [List.getD_eq_getElem?_getD, List.getElem?_append_left (by omega)] at this
        rw [List.getD_eq_getElem?_getD]; exact this
      · rw [hp] at h
        obtain ⟨h1, h2⟩ := h
        cases t with
        | nil => simp at h1
        | cons c t =>
          refine hs c t rfl ?_
          have : (D ++ c :: t).getD D.length 0 = c := by
            rw [List.getD_eq_getElem?_getD, List.getElem?_append_right (Nat.le_refl _), Nat.sub_self]
            rfl
          rw [this] at h2; exact h2
/-- A word and a number. -/
def takeT (s w : List UInt8) (m : Nat) : Nat × List UInt8 × Bool :=
  if s.length < w.length ∨ ¬ s.take w.length = w then (0, [], false)
  else ((rnumT m (s.drop w.length)).1, s.drop (w.length + (rnumT m (s.drop w.length)).2), decide (0 < (rnumT m (s.drop w.length)).2))
theorem take_iff {s w : List UInt8} {m n : Nat} {t : List UInt8} : takeT s w m = (n, t, true) ↔ ∃ D, s = w ++ (D ++ t) ∧ numT m D = some n ∧ stops t := by
  constructor
  · intro h
    unfold takeT at h
    split at h
    · cases h
    · rename_i hb
      have hw : s.take w.length = w := Classical.not_not.1 fun g => hb (.inr g)
      simp only [Prod.mk.injEq, decide_eq_true_eq] at h
      obtain ⟨h1, h2, h3⟩ := h
      obtain ⟨D, u, e1, e2, e3, e4⟩ := (rnum_iff (n := (rnumT m (s.drop w.length)).1) h3).1 rfl
      have e5 : s = w ++ (D ++ u) := by rw [← e1]; conv => lhs; rw [← List.take_append_drop w.length s, hw]
      have e6 : t = u := by
        rw [← h2, ← e3, ← List.drop_drop, e1, List.drop_left]
      subst e6
      exact ⟨D, e5, h1 ▸ e2, e4⟩
  · rintro ⟨D, rfl, hn, hs⟩
    have hD : 0 < D.length := by
      cases D with
      | nil => rw [numT, if_pos (.inl rfl)] at hn; cases hn
      | cons _ _ => simp
    have hr := (rnum_iff (m := m) (s := D ++ t) (n := n) hD).2 ⟨D, t, rfl, hn, rfl, hs⟩
    unfold takeT
    rw [if_neg (by simp), List.drop_left, hr, ← List.drop_drop, List.drop_left, List.drop_left]
    simp [hD]
theorem take_fail {s w : List UInt8} {m : Nat} (h : (takeT s w m).2.2 = false) : ¬ ∃ n t D, s = w ++ (D ++ t) ∧ numT m D = some n ∧ stops t := by
  rintro ⟨n, t, D, hs⟩
  rw [(take_iff (n := n) (t := t)).2 ⟨D, hs⟩] at h
  cases h
end Go.Proofs.YtafbipoagehdeaaDoor
