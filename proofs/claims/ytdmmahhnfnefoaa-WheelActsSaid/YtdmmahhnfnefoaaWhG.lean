/-
  WheelActs: the walk.
-/
import Derived.Test.YtdmmahhnfnefoaaWhF
import Derived.Test.YtdmmahhnfnefoaaRe
import Derived.Test.YtdmmahhnfnefoaaSj
namespace Go.Proofs.Ytdmmahhnfnefoaa
open Go.RowKit
set_option maxRecDepth 10000
attribute [local irreducible] EK EX ER EN EL ES EG OpVal OpDoes OpSkip
variable {W : World} {F : SL} {X : Cx} {k : List KI} {σ : Env}

theorem none_spec : Spec Try.prog 16 [] W F (fun _ : Unit => .pointer none) (fun _ => F) := by
  refine Spec.of Try.func16 rfl Try.ntmps16 rfl ?_
  repeat (first | refine go ?_ | (refine goX ?_; intro))
  exact EK_ret (ER_1 rfl rfl () rfl (Ent.sat Ent.last))

set_option maxHeartbeats 3200000 in
theorem Acts_walk (p : Option Addr) (n c : Nat) (f : Nat → Nat → Int) [Ro W p n (tabR 3 n f)] :
    Spec Try.prog 6 [.slice p n c] W F (fun _ : Unit => .bool true) (fun _ => F) := by
  refine Spec.of Try.func6 rfl Try.ntmps6 rfl ?_
  repeat (first | refine go ?_ | (refine goX ?_; intro))
  refine EL_call rfl none_spec ?_
  intro _
  repeat (first | refine go ?_ | (refine goX ?_; intro))
  refine EL_call rfl Next_nil ?_
  intro _
  repeat (first | refine go ?_ | (refine goX ?_; intro))
  refine EL_call rfl turns_spec ?_
  intro _
  repeat (first | refine go ?_ | (refine goX ?_; intro))
  refine EL_call rfl none_spec ?_
  intro _
  repeat (first | refine go ?_ | (refine goX ?_; intro))
  refine EL_call rfl (Add_nil 1 1) ?_
  intro _
  repeat (first | refine go ?_ | (refine goX ?_; intro))
  refine EL_call rfl none_spec ?_
  intro _
  repeat (first | refine go ?_ | (refine goX ?_; intro))
  refine EL_call rfl (Due_nil 5) ?_
  intro _
  repeat (first | refine go ?_ | (refine goX ?_; intro))
  refine EL_call rfl none_spec ?_
  intro _
  repeat (first | refine go ?_ | (refine goX ?_; intro))
  refine EL_call rfl Now_nil ?_
  intro _
  repeat (first | refine go ?_ | (refine goX ?_; intro))
  refine EL_call rfl none_spec ?_
  intro _
  repeat (first | refine go ?_ | (refine goX ?_; intro))
  refine EL_call rfl Len_nil ?_
  intro _
  repeat (first | refine go ?_ | (refine goX ?_; intro))
  refine EL_call rfl none_spec ?_
  intro _
  repeat (first | refine go ?_ | (refine goX ?_; intro))
  refine EL_call rfl All_nil ?_
  intro _
  repeat (first | refine go ?_ | (refine goX ?_; intro))
  refine EL_call rfl WNew_spec ?_
  intro pw
  repeat (first | refine go ?_ | (refine goX ?_; intro))
  rename_i pr
  refine EK_loop (γ := Nat × WSt × Nat × List (Int × Int)) (fun g => g.1 ≤ n ∧ g.1 ≤ 120 ∧ Both g.2.1 g.2.2.1 g.2.2.2 g.1) (fun g => [(0, .slice p n c), (5, .pointer pw), (6, .pointer pr), (7, .int .i64 (g.1 : Int))])
    (fun g => WheelC pw g.2.1 * (RefC pr g.2.2.1 g.2.2.2 * F)) (fun g => 120 - g.1) (0, newS, 0, []) ⟨Nat.zero_le _, Nat.zero_le _, Both.zero⟩ ⟨rfl, rfl, rfl, rfl, trivial⟩ (Ent.sat (by
      refine Ent.cons (Ent.trans ?_ (RefC.shut (q := ((none, 0) : Slab))))
      exact Ent.obj pr rfl (Ent.none (Ent.refl _)))) ?_
  intro ⟨i, s, now, L⟩ ⟨hi, hi2, hB⟩; dsimp only at hi hi2 hB ⊢
  have hnow := hB.lt
  have hLl := hB.len
  have htu := hB.turn
  have hal := hB.all
  repeat (first | refine go ?_ | (refine goX ?_; intro))
  refine EL_guard_dec rfl rfl (fun hlt => ?_) (fun hge => ?_)
  rotate_left
  · repeat (first | refine go ?_ | (refine goX ?_; intro))
    exact EK_ret (ER_1 rfl rfl () rfl (Ent.sat (Ent.trans Ent.drop Ent.drop)))
  repeat (first | refine go ?_ | (refine goX ?_; intro))
  refine EK_cond_dec rfl (fun hlt2 => ?_) (fun hge2 => ?_)
  rotate_left
  · repeat (first | refine go ?_ | (refine goX ?_; intro))
    exact EK_ret (ER_1 rfl rfl () rfl (Ent.sat (Ent.trans Ent.drop Ent.drop)))
  repeat (first | refine go ?_ | (refine goX ?_; intro))
  rename_i px
  obtain ⟨x3, hx3, ex3⟩ := modI (f i 2) 300 (by decide) (by decide)
  have ex3 : IntKind.i64.wrap ((IntKind.u64.wrap (f i 2)).tmod 300) = (x3 : Int) := ex3
  obtain ⟨x7, hx7, ex7⟩ := modI (f i 2) 10000000 (by decide) (by decide)
  have ex7 : IntKind.i64.wrap ((IntKind.u64.wrap (f i 2)).tmod 10000000) = (x7 : Int) := ex7
  obtain ⟨v, hv, ev⟩ := modI (f i 0) 6 (by decide) (by decide)
  have ev : IntKind.i64.wrap ((IntKind.u64.wrap (f i 0)).tmod 6) = (v : Int) := ev
  have wr : ∀ x : Nat, (now : Int) + (x : Int) = ((now + x : Nat) : Int) := fun x => by omega
  refine EK_at pr (RefC.open fun q => ?_)
  refine EK_drawn rfl (by kernel_rfl) ?_
  repeat (refine goS ?_)
  rw [ex3, wr x3]
  repeat (first | refine go ?_ | (refine goX ?_; intro))
  refine EK_join (γ := Nat) (fun x => x < 10000000) (fun x => [(0, .slice p n c), (5, .pointer pw), (6, .pointer pr), (7, .int .i64 (i : Int)), (8, .pointer px), (9, .int .i64 ((now + x : Nat) : Int))])
    (fun _ => RefC pr now L * (Obj px 46 [.int .i64 (f i 0), .int .i64 (f i 1), .int .i64 (f i 2)] * (WheelC pw s * F))) ?_ ?_
  · refine EK_cond_dec rfl (fun h4 => ?_) (fun h4 => ?_)
    · repeat (first | refine go ?_ | (refine goX ?_; intro))
      refine EK_drawn rfl (by kernel_rfl) ?_
      repeat (refine goS ?_)
      rw [ex7, wr x7]
      repeat (first | refine go ?_ | (refine goX ?_; intro))
      exact EK_meet x7 (by omega) ⟨rfl, rfl, rfl, rfl, rfl, rfl, trivial⟩ (Ent.sat (RefC.shut (q := q)))
    · repeat (first | refine go ?_ | (refine goX ?_; intro))
      exact EK_meet x3 (by omega) ⟨rfl, rfl, rfl, rfl, rfl, rfl, trivial⟩ (Ent.sat (RefC.shut (q := q)))
  intro x hx
  repeat (first | refine go ?_ | (refine goX ?_; intro))
  rw [ev]
  refine EK_join (γ := Unit) (fun _ => True) (fun _ => [(0, .slice p n c), (5, .pointer pw), (6, .pointer pr), (7, .int .i64 (i : Int)), (8, .pointer px), (9, .int .i64 ((now + x : Nat) : Int)), (98, .int .i64 (v : Int)), (99, .bool (decide (v < 3)))])
    (fun _ => RefC pr now L * (Obj px 46 [.int .i64 (f i 0), .int .i64 (f i 1), .int .i64 (f i 2)] * (WheelC pw s * F))) ?_ ?_
  · have ht : ∀ z : Int, (v : Int) = z → z < 3 → some (Value.bool (decide ((v : Int) = z))) = some (Value.bool (decide (v < 3))) := fun z h1 h2 => by
      rw [decide_eq_true h1, decide_eq_true (by omega)]
    refine EK_cond_dec rfl (fun h0 => ?_) (fun h0 => ?_)
    · repeat (first | refine go ?_ | (refine goX ?_; intro))
      exact EK_meet () trivial ⟨rfl, rfl, rfl, rfl, rfl, rfl, rfl, ht _ h0 (by decide), trivial⟩ (Ent.sat (Ent.refl _))
    repeat (first | refine go ?_ | (refine goX ?_; intro))
    refine EK_cond_dec rfl (fun h1 => ?_) (fun h1 => ?_)
    · repeat (first | refine go ?_ | (refine goX ?_; intro))
      exact EK_meet () trivial ⟨rfl, rfl, rfl, rfl, rfl, rfl, rfl, ht _ h1 (by decide), trivial⟩ (Ent.sat (Ent.refl _))
    repeat (first | refine go ?_ | (refine goX ?_; intro))
    refine EK_meet () trivial ⟨rfl, rfl, rfl, rfl, rfl, rfl, rfl, ?_, trivial⟩ (Ent.sat (Ent.refl _))
    by_cases h2 : (v : Int) = 2
    · exact ht _ h2 (by decide)
    · show some (Value.bool (decide ((v : Int) = 2))) = some (Value.bool (decide (v < 3)))
      rw [decide_eq_false h2, decide_eq_false (by omega)]
  intro _ _
  refine EK_exits (γ := WSt × Nat × List (Int × Int)) (fun g => Both g.1 g.2.1 g.2.2 (i + 1)) (fun _ => [(0, .slice p n c), (5, .pointer pw), (6, .pointer pr), (7, .int .i64 (i : Int))])
    (fun g => WheelC pw g.1 * (RefC pr g.2.1 g.2.2 * F)) ?_ ?_
  · refine EK_cond_dec rfl (fun h3 => ?_) (fun h3 => ?_)
    · by_cases hbig : now + x ≤ 4294967295
      · repeat (first | refine go ?_ | (refine goX ?_; intro))
        refine EL_call rfl (RAdd_spec pr now L (f i 1) ((now + x : Nat) : Int) ⟨by omega, by omega⟩ (by omega)) ?_
        intro _
        repeat (first | refine go ?_ | (refine goX ?_; intro))
        refine EL_call rfl (Spec.pre (Add_spec pw s (f i 1) (now + x) hB.good (by omega) (by omega) (by omega) (F := RefC pr now (insI (f i 1, ((now + x : Nat) : Int)) L) * F)) (by repeat (first | exact Ent.last | refine Ent.cons ?_ | refine Ent.assoc ?_))) ?_
        intro _
        repeat (first | refine go ?_ | (refine goX ?_; intro))
        exact EK_meet (addS s (f i 1) (now + x), now, insI (f i 1, ((now + x : Nat) : Int)) L) (hB.add _ _ (by omega)) ⟨rfl, rfl, rfl, rfl, trivial⟩ (Ent.sat (Ent.refl _))
      · repeat (first | refine go ?_ | (refine goX ?_; intro))
        refine EL_call rfl (RAdd_bad pr now L (f i 1) ((now + x : Nat) : Int) (by omega)) ?_
        intro _
        repeat (first | refine go ?_ | (refine goX ?_; intro))
        refine EL_call rfl (Spec.pre (Add_bad pw s (f i 1) ((now + x : Nat) : Int) (by omega) (F := RefC pr now L * F)) (by repeat (first | exact Ent.last | refine Ent.cons ?_ | refine Ent.assoc ?_))) ?_
        intro _
        repeat (first | refine go ?_ | (refine goX ?_; intro))
        exact EK_meet (s, now, L) (hB.mono (by omega)) ⟨rfl, rfl, rfl, rfl, trivial⟩ (Ent.sat (Ent.refl _))
    repeat (first | refine go ?_ | (refine goX ?_; intro))
    refine EK_cond_dec rfl (fun h3 => ?_) (fun h3' => ?_)
    · by_cases hin : 0 ≤ f i 2 ∧ f i 2 ≤ 4294967295
      · obtain ⟨a, ha⟩ := Int.eq_ofNat_of_zero_le hin.1
        rw [ha] at hin ⊢
        repeat (first | refine go ?_ | (refine goX ?_; intro))
        refine EL_call rfl (RAdd_spec pr now L (f i 1) (a : Int) hin (by omega)) ?_
        intro _
        repeat (first | refine go ?_ | (refine goX ?_; intro))
        refine EL_call rfl (Spec.pre (Add_spec pw s (f i 1) a hB.good (by omega) (by omega) (by omega) (F := RefC pr now (insI (f i 1, (a : Int)) L) * F)) (by repeat (first | exact Ent.last | refine Ent.cons ?_ | refine Ent.assoc ?_))) ?_
        intro _
        repeat (first | refine go ?_ | (refine goX ?_; intro))
        exact EK_meet (addS s (f i 1) a, now, insI (f i 1, (a : Int)) L) (hB.add _ _ (by omega)) ⟨rfl, rfl, rfl, rfl, trivial⟩ (Ent.sat (Ent.refl _))
      · repeat (first | refine go ?_ | (refine goX ?_; intro))
        refine EL_call rfl (RAdd_bad pr now L (f i 1) (f i 2) (by omega)) ?_
        intro _
        repeat (first | refine go ?_ | (refine goX ?_; intro))
        refine EL_call rfl (Spec.pre (Add_bad pw s (f i 1) (f i 2) (by omega) (F := RefC pr now L * F)) (by repeat (first | exact Ent.last | refine Ent.cons ?_ | refine Ent.assoc ?_))) ?_
        intro _
        repeat (first | refine go ?_ | (refine goX ?_; intro))
        exact EK_meet (s, now, L) (hB.mono (by omega)) ⟨rfl, rfl, rfl, rfl, trivial⟩ (Ent.sat (Ent.refl _))
    repeat (first | refine go ?_ | (refine goX ?_; intro))
    refine EK_cond_dec rfl (fun h4 => ?_) (fun h4 => ?_)
    · obtain ⟨e1, e2, e3⟩ := hB.due ((now + x : Nat) : Int)
      have e4 := hB.dueN ((now + x : Nat) : Int)
      have e5 := told_len (dueN s ((now + x : Nat) : Int)) L
      repeat (first | refine go ?_ | (refine goX ?_; intro))
      refine EL_call rfl (Spec.pre (Due_spec pw s ((now + x : Nat) : Int) hB.good (by omega) (F := RefC pr now L * F)) (by repeat (first | exact Ent.last | refine Ent.cons ?_ | refine Ent.assoc ?_))) ?_
      intro q1
      rw [e2, e3, e5]
      generalize (dueS s ((now + x : Nat) : Int)).2 = s2 at *
      generalize dueN s ((now + x : Nat) : Int) = t at *
      repeat (first | refine go ?_ | (refine goX ?_; intro))
      refine EL_call rfl (Spec.pre (RDue_spec pr now L ((now + x : Nat) : Int) t e4 (by omega) (F := RowC 33 2 q1.1 (cntI t L) q1.2 (itemsR (toldI t L)) * (WheelC pw s2 * F))) (by repeat (first | exact Ent.last | refine Ent.cons ?_ | refine Ent.assoc ?_))) ?_
      intro q2
      rw [show L.take (cntI t L) = toldI t L from rfl, show L.drop (cntI t L) = leftI t L from rfl]
      repeat (first | refine go ?_ | (refine goX ?_; intro))
      refine EL_call rfl (Spec.pre (same_spec q1.1 q2.1 (cntI t L) q1.2 q2.2 (toldI t L) e5 (by have := cnt_le t L; omega) (F := WheelC pw s2 * (RefC pr t (leftI t L) * F))) (by repeat (first | exact Ent.last | refine Ent.cons ?_ | refine Ent.assoc ?_))) ?_
      intro _
      repeat (first | refine go ?_ | (refine goX ?_; intro))
      exact EK_meet (s2, t, leftI t L) (e1.mono (by omega)) ⟨rfl, rfl, rfl, rfl, trivial⟩ (Ent.sat (by dsimp only; repeat (first | exact Ent.last | refine Ent.cons ?_ | refine Ent.assoc ?_)))
    repeat (first | refine go ?_ | (refine goX ?_; intro))
    obtain ⟨e1, e2, e3⟩ := hB.due (f i 2)
    have e4 := hB.dueN (f i 2)
    have e5 := told_len (dueN s (f i 2)) L
    refine EK_sink 99 (Obj px 46 [.int .i64 (f i 0), .int .i64 (f i 1), .int .i64 (f i 2)] * 1) rfl rfl rfl ?_
    repeat (first | refine goQ ?_ | refine EG_done (by decide +kernel) ?_)
    refine EG_callQ rfl rfl rfl rfl rfl (Spec.pre (Due_spec pw s (f i 2) hB.good (by omega) (F := RefC pr now L * (Obj px 46 [.int .i64 (f i 0), .int .i64 (f i 1), .int .i64 (f i 2)] * F))) (by repeat (first | exact Ent.last | refine Ent.cons ?_ | refine Ent.assoc ?_))) (fun _ => by first | exact Ent.refl _ | exact Ent.last | (repeat (first | refine Ent.cons ?_ | exact Ent.any | exact Ent.last))) ?_
    intro q1
    rw [e2, e3, e5]
    generalize (dueS s (f i 2)).2 = s2 at *
    generalize dueN s (f i 2) = t at *
    repeat (first | refine goQ ?_ | refine EG_done (by decide +kernel) ?_)
    refine EG_callQ rfl rfl rfl rfl rfl (Spec.pre (RDue_spec pr now L (f i 2) t e4 (by omega) (F := RowC 33 2 q1.1 (cntI t L) q1.2 (itemsR (toldI t L)) * (Obj px 46 [.int .i64 (f i 0), .int .i64 (f i 1), .int .i64 (f i 2)] * (WheelC pw s2 * F)))) (by repeat (first | exact Ent.last | refine Ent.cons ?_ | refine Ent.assoc ?_))) (fun _ => by first | exact Ent.refl _ | exact Ent.last | (repeat (first | refine Ent.cons ?_ | exact Ent.any | exact Ent.last))) ?_
    intro q2
    rw [show L.take (cntI t L) = toldI t L from rfl, show L.drop (cntI t L) = leftI t L from rfl]
    repeat (first | refine goQ ?_ | refine EG_done (by decide +kernel) ?_)
    refine EG_callQ rfl rfl rfl rfl rfl (Spec.pre (same_spec q1.1 q2.1 (cntI t L) q1.2 q2.2 (toldI t L) e5 (by have := cnt_le t L; omega) (F := Obj px 46 [.int .i64 (f i 0), .int .i64 (f i 1), .int .i64 (f i 2)] * (WheelC pw s2 * (RefC pr t (leftI t L) * F)))) (by repeat (first | exact Ent.last | refine Ent.cons ?_ | refine Ent.assoc ?_))) (fun _ => by first | exact Ent.refl _ | exact Ent.last | (repeat (first | refine Ent.cons ?_ | exact Ent.any | exact Ent.last))) ?_
    intro _
    repeat (first | refine goQ ?_ | refine EG_done (by decide +kernel) ?_)
    repeat (first | refine go ?_ | (refine goX ?_; intro))
    exact EK_meet (s2, t, leftI t L) (e1.mono (by omega)) ⟨rfl, rfl, rfl, rfl, trivial⟩ (Ent.sat (by dsimp only; repeat (first | exact Ent.last | refine Ent.cons ?_ | refine Ent.assoc ?_)))
  intro ⟨s2, now2, L2⟩ hB2; dsimp only at hB2 ⊢
  have hL2 := hB2.len
  have hal2 := hB2.all
  have hnow2 := hB2.now
  repeat (first | refine go ?_ | (refine goX ?_; intro))
  refine EL_call rfl (Next_spec pw s2 (by omega)) ?_
  intro _
  rw [hB2.same]
  repeat (first | refine go ?_ | (refine goX ?_; intro))
  refine EK_at pr (RefC.open fun q2 => ?_)
  by_cases hL : 0 < L2.length
  · have hnx : nextI L2 = (L2.getD 0 (0, 0)).2 := by
      cases L2 with
      | nil => simp at hL
      | cons a l => rfl
    haveI : Pos L2.length := ⟨hL⟩
    rw [decide_eq_true hL, hnx]
    refine EK_sink 99 (WheelC pw s2 * RefO pr now2 L2 q2 1) rfl rfl rfl ?_
    repeat (first | refine goQ ?_ | refine EG_done (by decide +kernel) ?_)
    refine EG_callQ rfl rfl rfl rfl rfl (Spec.at1 pw (Now_spec pw s2)) (fun _ => by first | exact Ent.refl _ | exact Ent.last | (repeat (first | refine Ent.cons ?_ | exact Ent.any | exact Ent.last))) ?_
    intro _
    rw [hnow2]
    repeat (first | refine goQ ?_ | refine EG_done (by decide +kernel) ?_)
    refine EG_callQ rfl rfl rfl rfl rfl (Spec.at1 pw (Len_w pw s2)) (fun _ => by first | exact Ent.refl _ | exact Ent.last | (repeat (first | refine Ent.cons ?_ | exact Ent.any | exact Ent.last))) ?_
    intro _
    rw [hal2]
    repeat (first | refine goQ ?_ | refine EG_done (by decide +kernel) ?_)
    refine EG_callQ rfl rfl rfl rfl rfl (Spec.at1 pw (All_spec pw s2 hB2.good (by omega))) (fun _ => by first | exact Ent.refl _ | exact Ent.last | (repeat (first | refine Ent.cons ?_ | exact Ent.any | exact Ent.last))) ?_
    intro q3
    rw [hal2, hB2.same]
    repeat (first | refine goQ ?_ | refine EG_done (by decide +kernel) ?_)
    refine EG_callQ rfl rfl rfl rfl rfl (Spec.pre (same_spec q3.1 q2.1 L2.length q3.2 q2.2 L2 rfl (by omega) (F := WheelC pw s2 * (Obj pr 44 [.int .i64 (now2 : Int), .slice q2.1 L2.length q2.2] * F))) (by repeat (first | exact Ent.last | refine Ent.cons ?_ | refine Ent.assoc ?_))) (fun _ => by first | exact Ent.refl _ | exact Ent.last | (repeat (first | refine Ent.cons ?_ | exact Ent.any | exact Ent.last))) ?_
    intro _
    repeat (first | refine goQ ?_ | refine EG_done (by decide +kernel) ?_)
    repeat (first | refine go ?_ | (refine goX ?_; intro))
    exact EK_round (i + 1, s2, now2, L2) ⟨by dsimp only; omega, by dsimp only; omega, hB2⟩ (by dsimp only; omega) ⟨rfl, rfl, rfl, rfl, trivial⟩ (Ent.sat (by
      dsimp only
      refine Ent.cons (Ent.trans ?_ (RefC.shut (q := q2)))
      repeat (first | exact Ent.last | refine Ent.cons ?_ | refine Ent.assoc ?_)))
  · have hn0 : nextI L2 = 0 := by
      rw [List.eq_nil_of_length_eq_zero (l := L2) (by omega)]; rfl
    rw [decide_eq_false hL, hn0]
    refine EK_sink 99 (WheelC pw s2 * RefO pr now2 L2 q2 1) rfl rfl rfl ?_
    repeat (first | refine goQ ?_ | refine EG_done (by decide +kernel) ?_)
    refine EG_callQ rfl rfl rfl rfl rfl (Spec.at1 pw (Now_spec pw s2)) (fun _ => by first | exact Ent.refl _ | exact Ent.last | (repeat (first | refine Ent.cons ?_ | exact Ent.any | exact Ent.last))) ?_
    intro _
    rw [hnow2]
    repeat (first | refine goQ ?_ | refine EG_done (by decide +kernel) ?_)
    refine EG_callQ rfl rfl rfl rfl rfl (Spec.at1 pw (Len_w pw s2)) (fun _ => by first | exact Ent.refl _ | exact Ent.last | (repeat (first | refine Ent.cons ?_ | exact Ent.any | exact Ent.last))) ?_
    intro _
    rw [hal2]
    repeat (first | refine goQ ?_ | refine EG_done (by decide +kernel) ?_)
    refine EG_callQ rfl rfl rfl rfl rfl (Spec.at1 pw (All_spec pw s2 hB2.good (by omega))) (fun _ => by first | exact Ent.refl _ | exact Ent.last | (repeat (first | refine Ent.cons ?_ | exact Ent.any | exact Ent.last))) ?_
    intro q3
    rw [hal2, hB2.same]
    repeat (first | refine goQ ?_ | refine EG_done (by decide +kernel) ?_)
    refine EG_callQ rfl rfl rfl rfl rfl (Spec.pre (same_spec q3.1 q2.1 L2.length q3.2 q2.2 L2 rfl (by omega) (F := WheelC pw s2 * (Obj pr 44 [.int .i64 (now2 : Int), .slice q2.1 L2.length q2.2] * F))) (by repeat (first | exact Ent.last | refine Ent.cons ?_ | refine Ent.assoc ?_))) (fun _ => by first | exact Ent.refl _ | exact Ent.last | (repeat (first | refine Ent.cons ?_ | exact Ent.any | exact Ent.last))) ?_
    intro _
    repeat (first | refine goQ ?_ | refine EG_done (by decide +kernel) ?_)
    repeat (first | refine go ?_ | (refine goX ?_; intro))
    exact EK_round (i + 1, s2, now2, L2) ⟨by dsimp only; omega, by dsimp only; omega, hB2⟩ (by dsimp only; omega) ⟨rfl, rfl, rfl, rfl, trivial⟩ (Ent.sat (by
      dsimp only
      refine Ent.cons (Ent.trans ?_ (RefC.shut (q := q2)))
      repeat (first | exact Ent.last | refine Ent.cons ?_ | refine Ent.assoc ?_)))
end Go.Proofs.Ytdmmahhnfnefoaa
