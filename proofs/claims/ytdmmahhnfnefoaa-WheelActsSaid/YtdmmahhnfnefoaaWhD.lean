/-
  The least of entries; the document's list: plain. No program in sight.
-/
import Derived.Test.YtdmmahhnfnefoaaWh8
import Derived.Test.YtdmmahhnfnefoaaWhR
namespace Go.Proofs.Ytdmmahhnfnefoaa
open Go.RowKit

/-- The first of an ordered list of Items: its tick. -/
def nextI (l : List (Int × Int)) : Int := match l with
  | [] => 0
  | x :: _ => x.2
/-- The least of the first i + 1 entries. -/
def minN (l : List Wen) : Nat → Wen
  | 0 => l.getD 0 wen0
  | i + 1 => if eLt (l.getD (i + 1) wen0) (minN l i) then l.getD (i + 1) wen0 else minN l i
theorem minN_le (l : List Wen) : ∀ i, (∀ j, j ≤ i → eLe (minN l i) (l.getD j wen0) = true) ∧ ∃ j, j ≤ i ∧ minN l i = l.getD j wen0
  | 0 => ⟨fun j hj => by
      obtain rfl : j = 0 := by omega
      rw [eLe_iff]
      exact .inr ⟨rfl, Nat.le_refl _⟩, 0, Nat.le_refl _, rfl⟩
  | i + 1 => by
    obtain ⟨h1, k, hk, h2⟩ := minN_le l i
    unfold minN
    split
    · rename_i hlt
      simp only [eLt, decide_eq_true_eq] at hlt
      refine ⟨fun j hj => ?_, i + 1, Nat.le_refl _, rfl⟩
      rcases Nat.lt_or_ge i j with g | g
      · obtain rfl : j = i + 1 := by omega
        rw [eLe_iff]
        exact .inr ⟨rfl, Nat.le_refl _⟩
      · have := h1 j g
        rw [eLe_iff] at this ⊢
        omega
    · rename_i hlt
      simp only [eLt, decide_eq_true_eq] at hlt
      refine ⟨fun j hj => ?_, k, by omega, h2⟩
      rcases Nat.lt_or_ge i j with g | g
      · obtain rfl : j = i + 1 := by omega
        rw [eLe_iff]
        omega
      · exact h1 j g
theorem getD_mem' {l : List Wen} {j : Nat} (h : j < l.length) : l.getD j wen0 ∈ l := by
  rw [List.getD_eq_getElem?_getD, List.getElem?_eq_getElem h]
  exact List.getElem_mem h
theorem min_next {l : List Wen} (h : 0 < l.length) : ((minN l (l.length - 1)).at_ : Int) = nextI (itemsE (srt l)) := by
  obtain ⟨h1, k, hk, h2⟩ := minN_le l (l.length - 1)
  have hp := srt_perm l
  have hs := srt_pair l
  have hm : minN l (l.length - 1) ∈ srt l := hp.mem_iff.2 (by rw [h2]; exact getD_mem' (by omega))
  generalize hr : srt l = r at *
  cases r with
  | nil => simp at hm
  | cons x r =>
    have hx : x ∈ l := hp.mem_iff.1 (by simp)
    obtain ⟨j, hj, ej⟩ := List.getElem_of_mem hx
    have h3 := h1 j (by omega)
    rw [List.getD_eq_getElem?_getD, List.getElem?_eq_getElem hj] at h3
    have h3 : eLe (minN l (l.length - 1)) l[j] = true := h3
    rw [ej] at h3
    show ((minN l (l.length - 1)).at_ : Int) = (x.at_ : Int)
    rcases List.mem_cons.1 hm with e | e
    · rw [e]
    · have h4 := (List.pairwise_cons.1 hs).1 _ e
      rw [eLe_iff] at h3 h4
      omega

theorem told_len (t : Int) (l : List (Int × Int)) : (toldI t l).length = cntI t l := by
  unfold toldI
  rw [List.length_take]
  have := cnt_le t l
  omega
theorem left_len (t : Int) (l : List (Int × Int)) : (leftI t l).length = l.length - cntI t l := by
  unfold leftI
  rw [List.length_drop]

/-! ### A wheel and the document's list -/
structure Both (s : WSt) (now : Nat) (L : List (Int × Int)) (m : Nat) : Prop where
  good : WGood s
  same : sI s = L
  now : s.now = now
  turn : s.turn ≤ m
  len : L.length ≤ m
theorem Both.zero : Both newS 0 [] 0 := ⟨new_good, by rw [sI, new_all, srt_nil]; rfl, rfl, Nat.le_refl _, Nat.le_refl _⟩
theorem Both.all {s : WSt} {now : Nat} {L : List (Int × Int)} {m : Nat} (h : Both s now L m) : s.all.length = L.length := by rw [← h.same, sI_len]
theorem Both.lt {s : WSt} {now : Nat} {L : List (Int × Int)} {m : Nat} (h : Both s now L m) : now < 4294967296 := by
  have := h.good.pos.now
  rw [h.now] at this
  exact this
theorem Both.mono {s : WSt} {now : Nat} {L : List (Int × Int)} {m n : Nat} (h : Both s now L m) (hn : m ≤ n) : Both s now L n := ⟨h.good, h.same, h.now, Nat.le_trans h.turn hn, Nat.le_trans h.len hn⟩
theorem Both.add {s : WSt} {now : Nat} {L : List (Int × Int)} {m : Nat} (h : Both s now L m) (id : Int) (a : Nat) (ha : a < 4294967296) : Both (addS s id a) now (insI (id, (a : Int)) L) (m + 1) := by
  obtain ⟨g1, g2, g3, g4⟩ := add_good (id := id) h.good ha
  refine ⟨g1, ?_, g2.trans h.now, by rw [g3]; have := h.turn; omega, by rw [insI_len]; have := h.len; omega⟩
  rw [sI, add_items h.good ha]
  have := h.same
  rw [sI] at this
  rw [this]
theorem Both.due {s : WSt} {now : Nat} {L : List (Int × Int)} {m : Nat} (h : Both s now L m) (n : Int) : Both (dueS s n).2 (dueN s n) (leftI (dueN s n) L) m ∧ itemsE (srt (dueS s n).1) = toldI (dueN s n) L ∧ (dueS s n).1.length = (toldI (dueN s n) L).length := by
  obtain ⟨d1, d2, d3, d4, d5, d6⟩ := due_told (n := n) h.good
  rw [h.same] at d1 d2 d5
  refine ⟨⟨d6, d2, d3, by rw [d4]; exact h.turn, ?_⟩, d1, d5⟩
  rw [left_len]
  have := h.len
  omega
theorem Both.dueN {s : WSt} {now : Nat} {L : List (Int × Int)} {m : Nat} (h : Both s now L m) (n : Int) : ((dueN s n : Nat) : Int) = max (now : Int) (min n 4294967295) := by
  unfold Go.Proofs.Ytdmmahhnfnefoaa.dueN
  rw [h.now]
  omega
end Go.Proofs.Ytdmmahhnfnefoaa
