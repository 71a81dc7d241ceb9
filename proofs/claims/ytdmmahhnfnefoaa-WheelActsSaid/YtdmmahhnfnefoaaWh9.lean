/-
  WheelSplits: what is due by a tick is told together, or part by part: the walk.
-/
import Derived.Test.YtdmmahhnfnefoaaWh8
import Derived.Test.YtdmmahhnfnefoaaSg
import Derived.Test.YtdmmahhnfnefoaaSh
namespace Go.Proofs.Ytdmmahhnfnefoaa
open Go.RowKit
set_option maxRecDepth 10000
attribute [local irreducible] EK EX ER EN EL ES EG OpVal OpDoes OpSkip
variable {W : World} {F : SL} {X : Cx} {k : List KI} {σ : Env}

theorem modI (z : Int) (m : Nat) (hm : 0 < m) (hm2 : m ≤ 4294967296) : ∃ a : Nat, a < m ∧ IntKind.i64.wrap ((IntKind.u64.wrap z).tmod (m : Int)) = (a : Int) := by
  have h0 : 0 ≤ IntKind.u64.wrap z := by
    simp only [IntKind.wrap, IntKind.bits, IntKind.signed]
    exact Int.emod_nonneg _ (by decide)
  rw [Int.tmod_eq_emod_of_nonneg h0]
  have h1 := Int.emod_nonneg (IntKind.u64.wrap z) (show (m : Int) ≠ 0 by omega)
  have h2 := Int.emod_lt_of_pos (IntKind.u64.wrap z) (show (0 : Int) < (m : Int) by omega)
  refine ⟨((IntKind.u64.wrap z) % (m : Int)).toNat, by omega, ?_⟩
  rw [InK.wrap (by simp only [InK]; omega)]
  omega
structure SpA (i : Nat) (a b : WSt) : Prop where
  ga : WGood a
  gb : WGood b
  na : a.now = 0
  nb : b.now = 0
  ta : a.turn = i
  tb : b.turn = i
  la : a.all.length = i
  lb : b.all.length = i
  same : sI a = sI b
theorem SpA.zero : SpA 0 newS newS := ⟨new_good, new_good, rfl, rfl, rfl, rfl, by rw [new_all]; rfl, by rw [new_all]; rfl, rfl⟩
theorem SpA.succ {i : Nat} {a b : WSt} (h : SpA i a b) (id : Int) (x : Nat) (hx : x < 4294967296) : SpA (i + 1) (addS a id x) (addS b id x) := by
  obtain ⟨a1, a2, a3, a4⟩ := add_good (id := id) h.ga hx
  obtain ⟨b1, b2, b3, b4⟩ := add_good (id := id) h.gb hx
  have l1 := a4.length_eq
  have l2 := b4.length_eq
  rw [List.length_cons, h.la] at l1
  rw [List.length_cons, h.lb] at l2
  refine ⟨a1, b1, a2.trans h.na, b2.trans h.nb, by rw [a3, h.ta], by rw [b3, h.tb], l1, l2, ?_⟩
  have e := h.same
  unfold sI at e ⊢
  rw [add_items h.ga hx, add_items h.gb hx, e]

structure SpB (t : Nat) (L R : List (Int × Int)) (a : WSt) : Prop where
  ga : WGood a
  now : a.now ≤ t
  all : R ++ sI a = L
  le : ∀ x ∈ R, x.2 ≤ (t : Int)
theorem SpB.len {t : Nat} {L R : List (Int × Int)} {a : WSt} (h : SpB t L R a) : R.length + a.all.length = L.length := by
  rw [← h.all, List.length_append, sI_len]
theorem SpB.due {t : Nat} {L R : List (Int × Int)} {a : WSt} (h : SpB t L R a) (n : Int) (hn : n ≤ t) : SpB t L (R ++ itemsE (srt (dueS a n).1)) (dueS a n).2 := by
  obtain ⟨d1, d2, d3, d4, d5, d6⟩ := due_told (n := n) h.ga
  have hle : dueN a n ≤ t := by unfold dueN; have := h.now; omega
  refine ⟨d6, by rw [d3]; exact hle, by rw [d1, d2, List.append_assoc, told_left, h.all], fun x hx => ?_⟩
  rcases List.mem_append.1 hx with g | g
  · exact h.le x g
  · rw [d1] at g
    have := told_mem g
    omega
theorem SpB.last {t : Nat} {L R : List (Int × Int)} {a : WSt} (h : SpB t L R a) (ht : t < 4294967296) : R ++ itemsE (srt (dueS a (t : Int)).1) = toldI t L ∧ (dueS a (t : Int)).2.all.length = (leftI t L).length := by
  obtain ⟨d1, d2, d3, d4, d5, d6⟩ := due_told (n := (t : Int)) h.ga
  have hle : dueN a (t : Int) = t := by unfold dueN; have := h.now; omega
  rw [hle] at d1 d2
  constructor
  · rw [d1, ← h.all, told_app h.le]
  · rw [← sI_len, d2, ← h.all, left_app h.le]
theorem due_len (s : WSt) (n : Int) : (itemsE (srt (dueS s n).1)).length = (dueS s n).1.length := by rw [itemsE_len, srt_len]

set_option maxHeartbeats 1600000 in
theorem Splits_walk (p0 p1 : Option Addr) (c0 c1 : Nat) (l0 l1 : List Int) (z : Int) [Ro W p0 l0.length (intsR .i64 l0)] [Ro W p1 l1.length (intsR .i64 l1)] :
    Spec Try.prog 3 [.slice p0 l0.length c0, .slice p1 l1.length c1, .int .i64 z] W F (fun _ : Unit => .bool true) (fun _ => F) := by
  refine Spec.of Try.func3 rfl Try.ntmps3 rfl ?_
  repeat (first | refine go ?_ | (refine goX ?_; intro))
  refine EL_call rfl WNew_spec ?_
  intro pa
  repeat (first | refine go ?_ | (refine goX ?_; intro))
  refine EL_call rfl WNew_spec ?_
  intro pb
  repeat (first | refine go ?_ | (refine goX ?_; intro))
  refine EL_call rfl turns_spec ?_
  intro _
  repeat (first | refine go ?_ | (refine goX ?_; intro))
  refine EK_exits (γ := Nat × WSt × WSt) (fun g => g.1 ≤ 40 ∧ SpA g.1 g.2.1 g.2.2) (fun g => [(0, .slice p0 l0.length c0), (1, .slice p1 l1.length c1), (2, .int .i64 z), (7, .pointer pa), (8, .pointer pb)])
    (fun g => WheelC pa g.2.1 * (WheelC pb g.2.2 * F)) ?_ ?_
  · refine EK_loop (γ := Nat × WSt × WSt) (fun g => g.1 ≤ l0.length ∧ g.1 ≤ 40 ∧ SpA g.1 g.2.1 g.2.2) (fun g => [(0, .slice p0 l0.length c0), (1, .slice p1 l1.length c1), (2, .int .i64 z), (7, .pointer pa), (8, .pointer pb), (9, .int .i64 (g.1 : Int))])
      (fun g => WheelC pa g.2.1 * (WheelC pb g.2.2 * F)) (fun g => 40 - g.1) (0, newS, newS) ⟨Nat.zero_le _, by decide, SpA.zero⟩ ⟨rfl, rfl, rfl, rfl, rfl, rfl, trivial⟩ (Ent.sat (by repeat (first | exact Ent.last | refine Ent.cons ?_ | refine Ent.assoc ?_))) ?_
    intro ⟨i, a, b⟩ ⟨hi, hi2, hS⟩; dsimp only at hi hi2 hS ⊢
    repeat (first | refine go ?_ | (refine goX ?_; intro))
    refine EL_guard_dec rfl rfl (fun hlt => ?_) (fun hge => ?_)
    · repeat (first | refine go ?_ | (refine goX ?_; intro))
      refine EK_cond_dec rfl (fun hlt2 => ?_) (fun hge2 => ?_)
      · repeat (first | refine go ?_ | (refine goX ?_; intro))
        obtain ⟨x, hx, ex⟩ := modI (l0.getD i 0) 100000 (by decide) (by decide)
        have ex : IntKind.i64.wrap ((IntKind.u64.wrap (l0.getD i 0)).tmod 100000) = (x : Int) := ex
        rw [ex]
        repeat (first | refine go ?_ | (refine goX ?_; intro))
        refine EL_call rfl (Add_spec pa a i x hS.ga (by omega) (by rw [hS.la]; omega) (by rw [hS.ta]; omega)) ?_
        intro _
        repeat (first | refine go ?_ | (refine goX ?_; intro))
        refine EL_call rfl (Spec.pre (Add_spec pb b i x hS.gb (by omega) (by rw [hS.lb]; omega) (by rw [hS.tb]; omega) (F := WheelC pa (addS a i x) * F)) (by repeat (first | exact Ent.last | refine Ent.cons ?_ | refine Ent.assoc ?_))) ?_
        intro _
        repeat (first | refine go ?_ | (refine goX ?_; intro))
        exact EK_round (i + 1, addS a i x, addS b i x) ⟨by dsimp only; omega, by dsimp only; omega, hS.succ i x (by omega)⟩ (by dsimp only; omega) ⟨rfl, rfl, rfl, rfl, rfl, rfl, trivial⟩ (Ent.sat (by repeat (first | exact Ent.last | refine Ent.cons ?_ | refine Ent.assoc ?_)))
      · repeat (first | refine go ?_ | (refine goX ?_; intro))
        exact EK_meet (i, a, b) ⟨hi2, hS⟩ ⟨rfl, rfl, rfl, rfl, rfl, trivial⟩ (Ent.sat (Ent.refl _))
    · repeat (first | refine go ?_ | (refine goX ?_; intro))
      exact EK_meet (i, a, b) ⟨hi2, hS⟩ ⟨rfl, rfl, rfl, rfl, rfl, trivial⟩ (Ent.sat (Ent.refl _))
  intro ⟨m, a, b⟩ ⟨hm, hS⟩; dsimp only at hm hS ⊢
  repeat (first | refine go ?_ | (refine goX ?_; intro))
  obtain ⟨t, ht, et⟩ := modI z 100000 (by decide) (by decide)
  have et : IntKind.i64.wrap ((IntKind.u64.wrap z).tmod 100000) = (t : Int) := et
  rw [et]
  repeat (first | refine go ?_ | (refine goX ?_; intro))
  obtain ⟨L, hL⟩ : ∃ L, sI a = L := ⟨_, rfl⟩
  have hLl : L.length = m := by rw [← hL, sI_len, hS.la]
  have hB0 : SpB t L [] a := ⟨hS.ga, by rw [hS.na]; omega, by rw [List.nil_append, hL], fun x hx => by cases hx⟩
  have hB1 : SpB t L [] b := ⟨hS.gb, by rw [hS.nb]; omega, by rw [List.nil_append, ← hS.same, hL], fun x hx => by cases hx⟩
  refine EK_exits (γ := Slab × List (Int × Int) × WSt) (fun g => SpB t L g.2.1 g.2.2) (fun g => [(7, .pointer pa), (8, .pointer pb), (11, .int .i64 (t : Int)), (12, .slice g.1.1 g.2.1.length g.1.2)])
    (fun g => RowC 33 2 g.1.1 g.2.1.length g.1.2 (itemsR g.2.1) * (WheelC pa g.2.2 * (WheelC pb b * F))) ?_ ?_
  · refine EK_loop (γ := Nat × Slab × List (Int × Int) × WSt) (fun g => g.1 ≤ l1.length ∧ g.1 ≤ 30 ∧ SpB t L g.2.2.1 g.2.2.2) (fun g => [(1, .slice p1 l1.length c1), (7, .pointer pa), (8, .pointer pb), (11, .int .i64 (t : Int)), (12, .slice g.2.1.1 g.2.2.1.length g.2.1.2), (13, .int .i64 (g.1 : Int))])
      (fun g => RowC 33 2 g.2.1.1 g.2.2.1.length g.2.1.2 (itemsR g.2.2.1) * (WheelC pa g.2.2.2 * (WheelC pb b * F))) (fun g => 30 - g.1) (0, (none, 0), [], a) ⟨Nat.zero_le _, Nat.zero_le _, hB0⟩ ⟨rfl, rfl, rfl, rfl, rfl, rfl, trivial⟩ (Ent.sat (Ent.none (Ent.refl _))) ?_
    intro ⟨i, q, R, a⟩ ⟨hi, hi2, hB⟩; dsimp only at hi hi2 hB ⊢
    have hlen := hB.len
    repeat (first | refine go ?_ | (refine goX ?_; intro))
    refine EL_guard_dec rfl rfl (fun hlt => ?_) (fun hge => ?_)
    · repeat (first | refine go ?_ | (refine goX ?_; intro))
      refine EK_cond_dec rfl (fun hlt2 => ?_) (fun hge2 => ?_)
      · repeat (first | refine go ?_ | (refine goX ?_; intro))
        obtain ⟨x, hx, ex⟩ := modI (l1.getD i 0) 100000 (by decide) (by decide)
        have ex : IntKind.i64.wrap ((IntKind.u64.wrap (l1.getD i 0)).tmod 100000) = (x : Int) := ex
        rw [ex]
        repeat (first | refine go ?_ | (refine goX ?_; intro))
        obtain ⟨n, hn⟩ : ∃ n : Int, min (x : Int) (t : Int) = n := ⟨_, rfl⟩
        rw [hn]
        have hnt : n ≤ t := by omega
        have hB2 := hB.due n hnt
        have hlen2 := hB2.len
        have hTl := due_len a n
        rw [List.length_append] at hlen2
        refine EL_call rfl (Spec.pre (Due_spec pa a n hB.ga (by omega) (F := RowC 33 2 q.1 R.length q.2 (itemsR R) * (WheelC pb b * F))) (by repeat (first | exact Ent.last | refine Ent.cons ?_ | refine Ent.assoc ?_))) ?_
        intro q2
        rw [← hTl]
        generalize itemsE (srt (dueS a n).1) = T at *
        repeat (first | refine go ?_ | (refine goX ?_; intro))
        rename_i q3
        refine EK_round (i + 1, q3, R ++ T, (dueS a n).2) ⟨by dsimp only; omega, by dsimp only; omega, hB2⟩ (by dsimp only; omega) ⟨rfl, rfl, rfl, rfl, by rw [List.length_append]; rfl, rfl, trivial⟩ (Ent.sat ?_)
        exact Ent.row q3.1 (by simp) (itemsR_app _ _) (by repeat (first | exact Ent.last | refine Ent.cons ?_ | refine Ent.assoc ?_))
      · repeat (first | refine go ?_ | (refine goX ?_; intro))
        exact EK_meet (q, R, a) hB ⟨rfl, rfl, rfl, rfl, trivial⟩ (Ent.sat (Ent.refl _))
    · repeat (first | refine go ?_ | (refine goX ?_; intro))
      exact EK_meet (q, R, a) hB ⟨rfl, rfl, rfl, rfl, trivial⟩ (Ent.sat (Ent.refl _))
  intro ⟨q, R, a⟩ hB; dsimp only at hB ⊢
  have hlen := hB.len
  repeat (first | refine go ?_ | (refine goX ?_; intro))
  have hB2 := hB.due (t : Int) (Int.le_refl _)
  have hlen2 := hB2.len
  obtain ⟨k1, k2⟩ := hB.last (by omega)
  obtain ⟨k3, k4⟩ := hB1.last (by omega)
  rw [List.nil_append] at k3
  have hTl := due_len a (t : Int)
  have hTl2 := due_len b (t : Int)
  rw [List.length_append] at hlen2
  refine EL_call rfl (Spec.pre (Due_spec pa a (t : Int) hB.ga (by omega) (F := RowC 33 2 q.1 R.length q.2 (itemsR R) * (WheelC pb b * F))) (by repeat (first | exact Ent.last | refine Ent.cons ?_ | refine Ent.assoc ?_))) ?_
  intro q2
  rw [← hTl]
  have hTR : R.length + (itemsE (srt (dueS a (t : Int)).1)).length = (toldI t L).length := by rw [← k1, List.length_append]
  generalize itemsE (srt (dueS a (t : Int)).1) = T at *
  repeat (first | refine go ?_ | (refine goX ?_; intro))
  rename_i q3
  have hbl : b.all.length = m := hS.lb
  rw [hTR]
  refine EL_call rfl (Spec.pre (Due_spec pb b (t : Int) hB1.ga (by omega) (F := RowC 33 2 q3.1 (toldI t L).length q3.2 (itemsR (toldI t L)) * (WheelC pa (dueS a (t : Int)).2 * F))) (by
    refine Ent.cons (Ent.row q3.1 rfl (by rw [itemsR_app, k1]) ?_)
    repeat (first | exact Ent.last | refine Ent.cons ?_ | refine Ent.assoc ?_))) ?_
  intro q4
  rw [← hTl2, k3]
  repeat (first | refine go ?_ | (refine goX ?_; intro))
  generalize toldI (t : Int) L = K at *
  generalize (dueS a (t : Int)).2 = a2 at *
  generalize (dueS b (t : Int)).2 = b2 at *
  refine EL_call rfl (Spec.pre (Len_w pa a2 (F := RowC 33 2 q4.1 K.length q4.2 (itemsR K) * (WheelC pb b2 * (RowC 33 2 q3.1 K.length q3.2 (itemsR K) * F)))) (by repeat (first | exact Ent.last | refine Ent.cons ?_ | refine Ent.assoc ?_))) ?_
  intro _
  repeat (first | refine go ?_ | (refine goX ?_; intro))
  refine EL_call rfl (Spec.pre (Len_w pb b2 (F := RowC 33 2 q4.1 K.length q4.2 (itemsR K) * (RowC 33 2 q3.1 K.length q3.2 (itemsR K) * F))) (by repeat (first | exact Ent.last | refine Ent.cons ?_ | refine Ent.assoc ?_))) ?_
  intro _
  rw [k2, k4]
  repeat (first | refine go ?_ | (refine goX ?_; intro))
  refine EK_loop (γ := Nat) (fun j => j ≤ K.length) (fun j => [(12, .slice q3.1 K.length q3.2), (14, .slice q4.1 K.length q4.2), (15, .int .i64 (j : Int))])
    (fun _ => RowC 33 2 q4.1 K.length q4.2 (itemsR K) * (RowC 33 2 q3.1 K.length q3.2 (itemsR K) * F)) (fun j => K.length - j) 0 (Nat.zero_le _) ⟨rfl, rfl, rfl, trivial⟩ (Ent.sat (by repeat (first | exact Ent.last | refine Ent.cons ?_ | refine Ent.assoc ?_))) ?_
  intro j hj; dsimp only at hj ⊢
  repeat (first | refine go ?_ | (refine goX ?_; intro))
  refine EK_cond_dec rfl (fun hlt => ?_) (fun hge => ?_)
  · repeat (first | refine go ?_ | (refine goX ?_; intro))
    refine EK_drawn rfl (by kernel_rfl) ?_
    repeat (refine goS ?_)
    repeat (first | refine go ?_ | (refine goX ?_; intro))
    refine EK_cond_not rfl (fun h => absurd rfl (@of_decide_eq_false _ (Classical.propDecidable _) h)) (fun _ => ?_)
    repeat (first | refine go ?_ | (refine goX ?_; intro))
    exact EK_round (j + 1) (by omega) (by omega) ⟨rfl, rfl, rfl, trivial⟩ (Ent.sat (by repeat (first | exact Ent.last | refine Ent.cons ?_ | refine Ent.assoc ?_)))
  · repeat (first | refine go ?_ | (refine goX ?_; intro))
    exact EK_ret (ER_1 rfl rfl () rfl (Ent.sat (by repeat (first | exact Ent.last | refine Ent.cons ?_ | refine Ent.assoc ?_))))
end Go.Proofs.Ytdmmahhnfnefoaa
