/-
  WheelEach: the walk.
-/
import Derived.Test.YtdmmahhnfnefoaaWhA
import Derived.Test.YtdmmahhnfnefoaaSg
import Derived.Test.YtdmmahhnfnefoaaSh
namespace Go.Proofs.Ytdmmahhnfnefoaa
open Go.RowKit
set_option maxRecDepth 10000
attribute [local irreducible] EK EX ER EN EL ES EG OpVal OpDoes OpSkip
variable {W : World} {F : SL} {X : Cx} {k : List KI} {σ : Env}

theorem reps_int (n : Nat) : reps n [.int .i64 0] = intsR .i64 (List.replicate n 0) := by
  induction n with
  | zero => rfl
  | succ n ih => rw [List.replicate_succ]; unfold intsR at *; rw [List.map_cons, ← ih]; rfl
theorem rep_get (n k : Nat) : (List.replicate n (0 : Int)).getD k 0 = 0 := by
  rw [List.getD_eq_getElem?_getD, List.getElem?_replicate]; split <;> rfl

set_option maxHeartbeats 3200000 in
theorem Each_walk (p0 p1 : Option Addr) (c0 c1 : Nat) (l0 l1 : List Int) [Ro W p0 l0.length (intsR .i64 l0)] [Ro W p1 l1.length (intsR .i64 l1)] :
    Spec Try.prog 4 [.slice p0 l0.length c0, .slice p1 l1.length c1] W F (fun _ : Unit => .bool true) (fun _ => F) := by
  refine Spec.of Try.func4 rfl Try.ntmps4 rfl ?_
  repeat (first | refine go ?_ | (refine goX ?_; intro))
  refine EL_call rfl WNew_spec ?_
  intro pw
  repeat (first | refine go ?_ | (refine goX ?_; intro))
  refine EL_call rfl turns_spec ?_
  intro _
  repeat (first | refine go ?_ | (refine goX ?_; intro))
  rename_i pt
  obtain ⟨n, hn⟩ : ∃ n : Nat, min l0.length 40 = n := ⟨_, rfl⟩
  have hn2 : min (l0.length : Int) 40 = (n : Int) := by omega
  have hn40 : n ≤ 40 := by omega
  have hnl : n ≤ l0.length := by omega
  rw [hn2, hn, reps_int]
  have hlr : (List.replicate n (0 : Int)).length = n := List.length_replicate
  have hAt := fun k => (atN_eq l0 k).1
  have hAtL := fun k => (atN_eq l0 k).2
  refine EK_exits (γ := WSt) (fun a => Each (atN l0) (List.replicate n 0) a n ∧ a.now = 0 ∧ a.all.length ≤ 40) (fun _ => [(0, .slice p0 l0.length c0), (1, .slice p1 l1.length c1), (5, .pointer pw), (6, .slice pt n n)])
    (fun a => RowC 3 1 pt n n (intsR .i64 (List.replicate n 0)) * (WheelC pw a * F)) ?_ ?_
  · refine EK_loop (γ := Nat × WSt) (fun g => g.1 ≤ n ∧ Each (atN l0) (List.replicate n 0) g.2 g.1 ∧ g.2.now = 0 ∧ g.2.all.length = g.1 ∧ g.2.turn = g.1) (fun g => [(0, .slice p0 l0.length c0), (1, .slice p1 l1.length c1), (5, .pointer pw), (6, .slice pt n n), (7, .int .i64 (g.1 : Int))])
      (fun g => RowC 3 1 pt n n (intsR .i64 (List.replicate n 0)) * (WheelC pw g.2 * F)) (fun g => n - g.1) (0, newS) ⟨Nat.zero_le _, Each.zero _ _, rfl, by rw [new_all]; rfl, rfl⟩ ⟨rfl, rfl, rfl, rfl, rfl, trivial⟩ (Ent.sat (by repeat (first | exact Ent.last | refine Ent.cons ?_ | refine Ent.assoc ?_))) ?_
    intro ⟨i, a⟩ ⟨hi, hE, hnow, hal, htu⟩; dsimp only at hi hE hnow hal htu ⊢
    repeat (first | refine go ?_ | (refine goX ?_; intro))
    refine EK_cond_dec rfl (fun hlt => ?_) (fun hge => ?_)
    · repeat (first | refine go ?_ | (refine goX ?_; intro))
      rw [hAt i]
      repeat (first | refine go ?_ | (refine goX ?_; intro))
      obtain ⟨g1, g2, g3, g4⟩ := add_good (id := i) hE.good (hAtL i)
      have g5 := g4.length_eq
      rw [List.length_cons] at g5
      refine EL_call rfl (Spec.pre (Add_spec pw a i (atN l0 i) hE.good (hAtL i) (by omega) (by omega) (F := RowC 3 1 pt n n (intsR .i64 (List.replicate n 0)) * F)) (by repeat (first | exact Ent.last | refine Ent.cons ?_ | refine Ent.assoc ?_))) ?_
      intro _
      repeat (first | refine go ?_ | (refine goX ?_; intro))
      exact EK_round (i + 1, addS a i (atN l0 i)) ⟨by dsimp only; omega, hE.add (hAtL i) (rep_get n i), by dsimp only; omega, by dsimp only; omega, by dsimp only; omega⟩ (by dsimp only; omega) ⟨rfl, rfl, rfl, rfl, rfl, trivial⟩ (Ent.sat (by repeat (first | exact Ent.last | refine Ent.cons ?_ | refine Ent.assoc ?_)))
    · have e : i = n := by omega
      subst e
      repeat (first | refine go ?_ | (refine goX ?_; intro))
      exact EK_meet a ⟨hE, hnow, by omega⟩ ⟨rfl, rfl, rfl, rfl, trivial⟩ (Ent.sat (Ent.refl _))
  intro a ⟨hE, hnow, hal⟩
  repeat (first | refine go ?_ | (refine goX ?_; intro))
  refine EK_loop (γ := Nat × Nat × List Int × WSt) (fun g => g.1 ≤ l1.length ∧ g.1 ≤ 40 ∧ Each (atN l0) g.2.2.1 g.2.2.2 n ∧ g.2.2.2.now = g.2.1 ∧ g.2.2.2.all.length ≤ 40 ∧ g.2.2.1.length = n ∧ (0 < g.1 → ∀ x ∈ sI g.2.2.2, (g.2.1 : Int) < x.2) ∧ g.2.1 < 4294967296)
    (fun g => [(0, .slice p0 l0.length c0), (1, .slice p1 l1.length c1), (5, .pointer pw), (6, .slice pt n n), (8, .int .i64 (g.2.1 : Int)), (9, .int .i64 (g.1 : Int))])
    (fun g => RowC 3 1 pt n n (intsR .i64 g.2.2.1) * (WheelC pw g.2.2.2 * F)) (fun g => 40 - g.1) (0, 0, List.replicate n 0, a) ⟨Nat.zero_le _, Nat.zero_le _, hE, hnow, hal, hlr, fun h => absurd h (Nat.lt_irrefl 0), by dsimp only; omega⟩ ⟨rfl, rfl, rfl, rfl, rfl, rfl, trivial⟩ (Ent.sat (Ent.refl _)) ?_
  intro ⟨i, c, T, a⟩ ⟨hi, hi2, hE, hnow, hal, hTn, hlate, hc⟩; dsimp only at hi hi2 hE hnow hal hTn hlate hc ⊢
  repeat (first | refine go ?_ | (refine goX ?_; intro))
  refine EL_guard_dec rfl rfl (fun hlt => ?_) (fun hge => ?_)
  rotate_left
  · repeat (first | refine go ?_ | (refine goX ?_; intro))
    exact EK_ret (ER_1 rfl rfl () rfl (Ent.sat Ent.last))
  repeat (first | refine go ?_ | (refine goX ?_; intro))
  refine EK_cond_dec rfl (fun hlt2 => ?_) (fun hge2 => ?_)
  rotate_left
  · repeat (first | refine go ?_ | (refine goX ?_; intro))
    exact EK_ret (ER_1 rfl rfl () rfl (Ent.sat Ent.last))
  repeat (first | refine go ?_ | (refine goX ?_; intro))
  refine EL_call rfl (Spec.pre (Now_spec pw a (F := RowC 3 1 pt n n (intsR .i64 T) * F)) (by repeat (first | exact Ent.last | refine Ent.cons ?_ | refine Ent.assoc ?_))) ?_
  intro _
  rw [hnow]
  repeat (first | refine go ?_ | (refine goX ?_; intro))
  rw [(atN_eq l1 i).1]
  have hd := (atN_eq l1 i).2
  generalize atN l1 i = d at *
  have hmax : max (c : Int) (d : Int) = ((max c d : Nat) : Int) := by omega
  rw [hmax]
  have ht : dueN a (d : Int) = max c d := by unfold dueN; omega
  obtain ⟨d1, d2, d3, d4, d5, d6⟩ := due_told (n := (d : Int)) hE.good
  have dl := (dueS_ok (n := (d : Int)) hE.good.pos).perm.length_eq
  rw [List.length_append] at dl
  refine EL_call rfl (Spec.pre (Due_spec pw a (d : Int) hE.good (by omega) (F := RowC 3 1 pt n n (intsR .i64 T) * F)) (by repeat (first | exact Ent.last | refine Ent.cons ?_ | refine Ent.assoc ?_))) ?_
  intro q
  have hTold := fun k hk T' => hE.told (d := (d : Int)) (k := k) hk (T' := T') hTn
  have hDue := fun T' => hE.due (d := (d : Int)) (T' := T') hTn
  rw [d1, d5, ht]
  rw [ht] at hTold hDue d3 d5
  generalize toldI ((max c d : Nat) : Int) (sI a) = K at *
  generalize (dueS a (d : Int)).2 = a2 at *
  generalize ht2 : max c d = t at *
  have htl : t < 4294967296 := by omega
  repeat (first | refine go ?_ | (refine goX ?_; intro))
  refine EL_call rfl (Spec.pre (Now_spec pw a2 (F := RowC 33 2 q.1 K.length q.2 (itemsR K) * (RowC 3 1 pt n n (intsR .i64 T) * F))) (by repeat (first | exact Ent.last | refine Ent.cons ?_ | refine Ent.assoc ?_))) ?_
  intro _
  rw [d3]
  repeat (first | refine go ?_ | (refine goX ?_; intro))
  have hK40 : K.length ≤ 40 := by omega
  refine EK_exits (γ := List Int) (fun T' => Mark T K T') (fun _ => [(0, .slice p0 l0.length c0), (1, .slice p1 l1.length c1), (5, .pointer pw), (6, .slice pt n n), (8, .int .i64 (t : Int)), (9, .int .i64 (i : Int))])
    (fun T' => RowC 3 1 pt n n (intsR .i64 T') * (WheelC pw a2 * F)) ?_ ?_
  · refine EK_loop (γ := Nat × List Int) (fun g => g.1 ≤ K.length ∧ Mark T (K.take g.1) g.2) (fun g => [(0, .slice p0 l0.length c0), (1, .slice p1 l1.length c1), (5, .pointer pw), (6, .slice pt n n), (8, .int .i64 (t : Int)), (9, .int .i64 (i : Int)), (10, .int .i64 (c : Int)), (11, .slice q.1 K.length q.2), (12, .int .i64 (g.1 : Int))])
      (fun g => RowC 33 2 q.1 K.length q.2 (itemsR K) * (RowC 3 1 pt n n (intsR .i64 g.2) * (WheelC pw a2 * F))) (fun g => K.length - g.1) (0, T) ⟨Nat.zero_le _, Mark.zero T⟩ ⟨rfl, rfl, rfl, rfl, rfl, rfl, rfl, rfl, rfl, trivial⟩ (Ent.sat (by repeat (first | exact Ent.last | refine Ent.cons ?_ | refine Ent.assoc ?_))) ?_
    intro ⟨k, T'⟩ ⟨hk, hM⟩; dsimp only at hk hM ⊢
    have hTl := hM.len
    repeat (first | refine go ?_ | (refine goX ?_; intro))
    refine EK_cond_dec rfl (fun hltk => ?_) (fun hgek => ?_)
    · obtain ⟨j, hj, ej, hTj, hle, hmem⟩ := hTold k (by omega) T' hM
      have hAtj := hAt j
      have hAtLj := hAtL j
      repeat (first | refine go ?_ | (refine goX ?_; intro))
      rename_i px
      rw [ej]
      dsimp only
      by_cases hcj : c < atN l0 j
      · refine EK_drawn rfl (by kernel_rfl) ?_
        repeat (refine goS ?_)
        repeat (first | refine go ?_ | (refine goX ?_; intro))
        exact EK_round (k + 1, T'.set j 1) ⟨by dsimp only; omega, hM.succ (by omega) (by rw [ej]) (by omega)⟩ (by dsimp only; omega) ⟨rfl, rfl, rfl, rfl, rfl, rfl, rfl, rfl, rfl, trivial⟩ (Ent.sat (by repeat (first | exact Ent.last | refine Ent.cons ?_ | refine Ent.assoc ?_)))
      · have hi0 : i = 0 := by
          rcases Nat.eq_zero_or_pos i with h | h
          · exact h
          · have := hlate h _ hmem
            dsimp only at this
            omega
        refine EK_drawn rfl (by kernel_rfl) ?_
        repeat (refine goS ?_)
        repeat (first | refine go ?_ | (refine goX ?_; intro))
        exact EK_round (k + 1, T'.set j 1) ⟨by dsimp only; omega, hM.succ (by omega) (by rw [ej]) (by omega)⟩ (by dsimp only; omega) ⟨rfl, rfl, rfl, rfl, rfl, rfl, rfl, rfl, rfl, trivial⟩ (Ent.sat (by repeat (first | exact Ent.last | refine Ent.cons ?_ | refine Ent.assoc ?_)))
    · have e : k = K.length := by omega
      subst e
      rw [List.take_length] at hM
      repeat (first | refine go ?_ | (refine goX ?_; intro))
      exact EK_meet T' hM ⟨rfl, rfl, rfl, rfl, rfl, rfl, trivial⟩ (Ent.sat (by repeat (first | exact Ent.last | refine Ent.cons ?_ | refine Ent.assoc ?_)))
  intro T' hM
  obtain ⟨hE2, hlate2⟩ := hDue T' hM
  have hTl := hM.len
  repeat (first | refine go ?_ | (refine goX ?_; intro))
  refine EK_loop (γ := Nat) (fun k => k ≤ n) (fun k => [(0, .slice p0 l0.length c0), (1, .slice p1 l1.length c1), (5, .pointer pw), (6, .slice pt n n), (8, .int .i64 (t : Int)), (9, .int .i64 (i : Int)), (14, .int .i64 (k : Int))])
    (fun _ => RowC 3 1 pt n n (intsR .i64 T') * (WheelC pw a2 * F)) (fun k => n - k) 0 (Nat.zero_le _) ⟨rfl, rfl, rfl, rfl, rfl, rfl, rfl, trivial⟩ (Ent.sat (Ent.refl _)) ?_
  intro k hk; dsimp only at hk ⊢
  repeat (first | refine go ?_ | (refine goX ?_; intro))
  refine EK_cond_dec rfl (fun hltk => ?_) (fun hgek => ?_)
  · have hAtk := hAt k
    by_cases hz : T'.getD k 0 = 0
    · have hlk := hlate2 _ (hE2.has k (by omega) hz)
      dsimp only at hlk
      repeat (first | refine go ?_ | (refine goX ?_; intro))
      exact EK_round (k + 1) (by omega) (by omega) ⟨rfl, rfl, rfl, rfl, rfl, rfl, rfl, trivial⟩ (Ent.sat (Ent.refl _))
    · repeat (first | refine go ?_ | (refine goX ?_; intro))
      exact EK_round (k + 1) (by omega) (by omega) ⟨rfl, rfl, rfl, rfl, rfl, rfl, rfl, trivial⟩ (Ent.sat (Ent.refl _))
  · repeat (first | refine go ?_ | (refine goX ?_; intro))
    exact EK_round (i + 1, t, T', a2) ⟨by dsimp only; omega, by dsimp only; omega, hE2, d3, by dsimp only; omega, by dsimp only; omega, fun _ => hlate2, htl⟩ (by dsimp only; omega) ⟨rfl, rfl, rfl, rfl, rfl, rfl, trivial⟩ (Ent.sat (Ent.refl _))
end Go.Proofs.Ytdmmahhnfnefoaa
