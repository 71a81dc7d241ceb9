/-
  Plain facts on bits: a number made of a list of places, its lowest bit, a word's free places. No program in sight.
-/
import Derived.Lib.TrailingZeros
import Derived.Laws.BitsAllLaws
namespace Go.Proofs.YtdmmahhnfnefoaaDoor

/-- The number whose bits stand at the places of l. -/
def ofBits : List Nat → Nat
  | [] => 0
  | i :: l => 2 ^ i ||| ofBits l

theorem testBit_ofBits (l : List Nat) (j : Nat) : (ofBits l).testBit j = decide (j ∈ l) := by
  induction l with
  | nil => simp [ofBits]
  | cons i l ih =>
    simp only [ofBits, Nat.testBit_or, Nat.testBit_two_pow, ih, List.mem_cons]
    by_cases h : i = j
    · simp [h]
    · simp [h, show ¬ j = i from fun e => h e.symm]

theorem ofBits_lt (l : List Nat) (n : Nat) (h : ∀ i ∈ l, i < n) : ofBits l < 2 ^ n := by
  apply Nat.lt_pow_two_of_testBit
  intro j hj
  rw [testBit_ofBits]
  simp only [decide_eq_false_iff_not]
  intro hm
  have := h j hm
  omega

theorem ofBits_eq_zero (l : List Nat) : ofBits l = 0 ↔ l = [] := by
  constructor
  · intro h
    cases l with
    | nil => rfl
    | cons i l =>
      have := testBit_ofBits (i :: l) i
      rw [h] at this
      simp at this
  · rintro rfl; rfl

/-- The lowest of places that rise. -/
theorem ctz_ofBits (i : Nat) (l : List Nat) (h : ∀ j ∈ l, i < j) (hi : i < 64) (hl : ∀ j ∈ l, j < 64) : Lib.ctz 64 (ofBits (i :: l)) = i := by
  have h0 : ofBits (i :: l) ≠ 0 := fun e => by simpa using (ofBits_eq_zero _).1 e
  have hlt : ofBits (i :: l) < 2 ^ 64 := ofBits_lt _ 64 (by intro j hj; rcases List.mem_cons.1 hj with rfl | hj; exact hi; exact hl j hj)
  unfold Lib.ctz
  rw [if_neg h0]
  obtain ⟨m, hm, hc⟩ := Lib.ctzFrom_spec 64 _ (Nat.pos_of_ne_zero h0) hlt
  generalize Lib.ctzFrom 64 (ofBits (i :: l)) = c at hm hc ⊢
  have t1 : (ofBits (i :: l)).testBit c = true := by
    rw [hm, Nat.testBit_two_pow_mul]
    simp
  have t2 : ∀ j, j < c → (ofBits (i :: l)).testBit j = false := by
    intro j hj
    rw [hm, Nat.testBit_two_pow_mul]
    simp; omega
  rw [testBit_ofBits] at t1
  have t1 : c ∈ i :: l := by simpa using t1
  rcases List.mem_cons.1 t1 with rfl | hm'
  · rfl
  · have := t2 i (h c hm')
    rw [testBit_ofBits] at this
    simp at this

/-- Places strictly rising. -/
def Rises : List Nat → Prop := List.Pairwise (· < ·)

/-- Without the lowest one. -/
theorem ofBits_tail (i : Nat) (l : List Nat) (h : ∀ j ∈ l, i < j) (hl : ∀ j ∈ l, j < 64) (hi : i < 64) : ofBits (i :: l) &&& (18446744073709551615 - 2 ^ i) = ofBits l := by
  apply Nat.eq_of_testBit_eq
  intro j
  have e : (18446744073709551615 - 2 ^ i).testBit j = (decide (j < 64) && !(decide (i = j))) := by
    have := Nat.testBit_two_pow_sub_succ (n := 64) (x := 2 ^ i) (Nat.pow_lt_pow_of_lt (by omega) hi) j
    rw [show (2 : Nat) ^ 64 - (2 ^ i + 1) = 18446744073709551615 - 2 ^ i by omega, Nat.testBit_two_pow] at this
    exact this
  rw [Nat.testBit_and, testBit_ofBits, testBit_ofBits, e]
  by_cases h1 : j ∈ l
  · have := h j h1; have := hl j h1
    simp [h1, show j < 64 by omega, show ¬ i = j by omega]
  · by_cases h2 : i = j
    · simp [h1, h2]
    · simp [h1, h2, show ¬ j = i from fun e => h2 e.symm]

/-- The free places of a word. -/
def freesOf (u : Nat) : List Nat := (List.range 32).filter fun i => !u.testBit i

theorem mem_freesOf {u i : Nat} : i ∈ freesOf u ↔ i < 32 ∧ u.testBit i = false := by simp [freesOf]

theorem freesOf_rises (u : Nat) : Rises (freesOf u) := List.Pairwise.filter _ List.pairwise_lt_range

theorem freesOf_len (u : Nat) : (freesOf u).length ≤ 32 := by
  have := List.length_filter_le (fun i => !u.testBit i) (List.range 32)
  simpa [freesOf] using this

theorem rises_drop {l : List Nat} (h : Rises l) {k i : Nat} {m : List Nat} (e : l.drop k = i :: m) : (∀ j ∈ m, i < j) := by
  have h2 : Rises (i :: m) := e ▸ List.Pairwise.sublist (List.drop_sublist k l) h
  exact (List.pairwise_cons.1 h2).1

theorem freesOf_nil (u : Nat) : freesOf u = [] ↔ u % 4294967296 = 4294967295 := by
  have hb : ∀ j, (u % 4294967296).testBit j = (decide (j < 32) && u.testBit j) := fun j => Nat.testBit_mod_two_pow u 32 j
  have hc : ∀ j, (4294967295 : Nat).testBit j = decide (j < 32) := fun j => Nat.testBit_two_pow_sub_one 32 j
  constructor
  · intro h
    apply Nat.eq_of_testBit_eq
    intro j
    rw [hb, hc]
    by_cases hj : j < 32
    · cases ht : u.testBit j with
      | true => simp
      | false =>
        have : j ∈ freesOf u := mem_freesOf.2 ⟨hj, ht⟩
        rw [h] at this; simp at this
    · simp [hj]
  · intro h
    apply List.eq_nil_iff_forall_not_mem.2
    intro j hj
    obtain ⟨h1, h2⟩ := mem_freesOf.1 hj
    have := hb j
    rw [h, hc, h2] at this
    simp [h1] at this

/-- The free places as a number. -/
theorem ofBits_frees (u : Nat) (hu : u < 18446744073709551616) : (18446744073709551615 - u) &&& 4294967295 = ofBits (freesOf u) := by
  apply Nat.eq_of_testBit_eq
  intro j
  rw [Nat.testBit_and, testBit_ofBits]
  have hc : (4294967295 : Nat).testBit j = decide (j < 32) := Nat.testBit_two_pow_sub_one 32 j
  have := Nat.testBit_two_pow_sub_succ (n := 64) (x := u) hu j
  rw [show (2 : Nat) ^ 64 - (u + 1) = 18446744073709551615 - u by omega] at this
  rw [hc, this]
  by_cases hj : j < 32
  · cases ht : u.testBit j <;> simp [mem_freesOf, hj, ht, show j < 64 by omega]
  · simp [mem_freesOf, hj]

/-- A word with another lower half, changed once more. -/
def changedN (u low : Nat) : Nat := (u / 4294967296 + 1) % 4294967296 * 4294967296 + low

theorem changedN_lt {u low : Nat} (h : low < 4294967296) : changedN u low < 18446744073709551616 := by
  unfold changedN
  have := Nat.mod_lt (u / 4294967296 + 1) (show 0 < 4294967296 by decide)
  omega
theorem changedN_or {u low : Nat} (hu : u < 18446744073709551616) (h : low < 4294967296) : ((u / 4294967296 + 1) * 4294967296 % 18446744073709551616) ||| low = changedN u low := by
  have e : (u / 4294967296 + 1) * 4294967296 % 18446744073709551616 = (u / 4294967296 + 1) % 4294967296 * 4294967296 := by omega
  rw [e]
  exact nat_join 32 _ _ (by simp) h
theorem changedN_mod {u low : Nat} (h : low < 4294967296) : changedN u low % 4294967296 = low := by unfold changedN; omega
theorem changedN_div {u low : Nat} (h : low < 4294967296) : changedN u low / 4294967296 = (u / 4294967296 + 1) % 4294967296 := by unfold changedN; omega

end Go.Proofs.YtdmmahhnfnefoaaDoor
