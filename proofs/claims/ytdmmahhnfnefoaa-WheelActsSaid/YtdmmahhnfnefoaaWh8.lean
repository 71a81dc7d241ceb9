/-
  What a Due tells, as lists; the law's own trial of a wheel (turns).
-/
import Derived.Test.YtdmmahhnfnefoaaWh7
namespace Go.Proofs.Ytdmmahhnfnefoaa
open Go.RowKit
set_option maxRecDepth 10000
attribute [local irreducible] EK EX ER EN EL ES EG OpVal OpDoes OpSkip
variable {W : World} {F : SL} {X : Cx} {k : List KI} {σ : Env}

/-! ### The plain law -/
abbrev sI (s : WSt) : List (Int × Int) := itemsE (srt s.all)
def toldI (t : Int) (l : List (Int × Int)) : List (Int × Int) := l.take (cntI t l)
def leftI (t : Int) (l : List (Int × Int)) : List (Int × Int) := l.drop (cntI t l)
theorem told_left (t : Int) (l : List (Int × Int)) : toldI t l ++ leftI t l = l := List.take_append_drop _ _
theorem sI_len (s : WSt) : (sI s).length = s.all.length := by rw [sI, itemsE_len, srt_len]
def dueN (s : WSt) (n : Int) : Nat := max s.now (min n 4294967295).toNat
theorem due_told {s : WSt} {n : Int} (h : WGood s) :
    itemsE (srt (dueS s n).1) = toldI (dueN s n) (sI s) ∧ sI (dueS s n).2 = leftI (dueN s n) (sI s) ∧ (dueS s n).2.now = dueN s n ∧ (dueS s n).2.turn = s.turn ∧ (dueS s n).1.length = (toldI (dueN s n) (sI s)).length ∧ WGood (dueS s n).2 := by
  have hd := dueS_ok (n := n) h.pos
  have h1 := due_items h.turns hd.perm hd.due hd.left
  refine ⟨h1.1, h1.2, hd.now, hd.turn, ?_, due_good h⟩
  have := congrArg List.length h1.1
  rw [itemsE_len, srt_len] at this
  exact this
theorem told_mem {t : Int} {l : List (Int × Int)} {x : Int × Int} (h : x ∈ toldI t l) : x.2 ≤ t := by
  have e : ∀ l : List (Int × Int), l.take (l.takeWhile fun x => decide (x.2 ≤ t)).length = l.takeWhile fun x => decide (x.2 ≤ t) := fun l => by
    induction l with
    | nil => rfl
    | cons y r ih => rw [List.takeWhile_cons]; split <;> simp_all
  unfold toldI cntI at h
  rw [e] at h
  exact of_decide_eq_true (List.all_eq_true.1 List.all_takeWhile x h)
/-- Told ahead, told now: told at once. -/
theorem told_app {t : Int} {a l : List (Int × Int)} (h : ∀ x ∈ a, x.2 ≤ t) : toldI t (a ++ l) = a ++ toldI t l := by
  have h1 : ∀ x ∈ a, decide (x.2 ≤ t) = true := fun x hx => decide_eq_true (h x hx)
  unfold toldI cntI
  rw [List.takeWhile_append_of_pos h1, List.length_append, List.take_length_add_append]
theorem left_app {t : Int} {a l : List (Int × Int)} (h : ∀ x ∈ a, x.2 ≤ t) : leftI t (a ++ l) = leftI t l := by
  have h1 : ∀ x ∈ a, decide (x.2 ≤ t) = true := fun x hx => decide_eq_true (h x hx)
  unfold leftI cntI
  rw [List.takeWhile_append_of_pos h1, List.length_append, List.drop_length_add_append]

/-! ### turns -/
theorem turns_spec : Spec Try.prog 10 [] W F (fun _ : Unit => .bool true) (fun _ => F) := by
  refine Spec.of Try.func10 rfl Try.ntmps10 rfl ?_
  repeat (first | refine go ?_ | (refine goX ?_; intro))
  refine EL_call rfl WNew_spec ?_
  intro p
  repeat (first | refine go ?_ | (refine goX ?_; intro))
  have g0 := new_good
  obtain ⟨g1, n1, t1, p1⟩ := add_good (id := 7) (a := 100) g0 (by decide)
  have l1 : (addS newS 7 100).all.length = 1 := by rw [p1.length_eq, new_all]; rfl
  have i1 : sI (addS newS 7 100) = [(7, 100)] := by rw [sI, add_items g0 (by decide), new_all, srt_nil]; rfl
  refine EL_call rfl (Add_spec p newS 7 100 new_good (by decide) (by rw [new_all]; decide) (by decide)) ?_
  intro _
  generalize addS newS 7 100 = s1 at *
  repeat (first | refine go ?_ | (refine goX ?_; intro))
  obtain ⟨g2, n2, t2, p2⟩ := add_good (id := 8) (a := 70) g1 (by decide)
  have l2 : (addS s1 8 70).all.length = 2 := by rw [p2.length_eq]; simp [l1]
  have i2 : sI (addS s1 8 70) = [(8, 70), (7, 100)] := by
    have := add_items (id := 8) (a := 70) g1 (by decide)
    rw [sI, this]
    unfold sI at i1
    rw [i1]; rfl
  refine EL_call rfl (Add_spec p s1 8 70 g1 (by decide) (by omega) (by rw [t1]; decide)) ?_
  intro _
  generalize addS s1 8 70 = s2 at *
  repeat (first | refine go ?_ | (refine goX ?_; intro))
  obtain ⟨d1, d2, d3, d4, d5, d6⟩ := due_told (n := 69) g2
  have e3 : dueN s2 69 = 69 := by unfold dueN; rw [n2, n1]; rfl
  rw [e3, i2] at d1 d2 d5
  refine EL_call rfl (Due_spec p s2 69 g2 (by omega)) ?_
  intro q
  generalize dueS s2 69 = g at *
  have z5 : g.1.length = 0 := d5
  repeat (first | refine go ?_ | (refine goX ?_; intro))
  have i3 : sI g.2 = [(8, 70), (7, 100)] := d2
  obtain ⟨c1, c2, c3, c4, c5, c6⟩ := due_told (n := 5000) d6
  have e4 : dueN g.2 5000 = 5000 := by unfold dueN; rw [d3, e3]; rfl
  rw [e4, i3] at c1 c2 c5
  have l3 : g.2.all.length = 2 := by rw [← sI_len, i3]; rfl
  refine EL_call rfl (Spec.pre (Due_spec p g.2 5000 d6 (by omega) (F := F)) Ent.drop) ?_
  intro q2
  generalize dueS g.2 5000 = g' at *
  have c1' : itemsE (srt g'.1) = [(8, 70), (7, 100)] := c1
  have c5' : g'.1.length = 2 := c5
  have l4 : g'.2.all.length = 0 := by rw [← sI_len, c2]; rfl
  rw [c1', c5']
  repeat (first | refine go ?_ | (refine goX ?_; intro))
  refine EL_val (OpVal_loadAggR rfl rfl (by decide) (by decide)) rfl ?_
  repeat (first | refine go ?_ | (refine goX ?_; intro))
  refine EL_guard_split rfl rfl (fun _ => ?_) (fun h => absurd rfl (@of_decide_eq_false _ (Classical.propDecidable _) h))
  repeat (first | refine go ?_ | (refine goX ?_; intro))
  refine EL_val (OpVal_loadAggR rfl rfl (by decide) (by decide)) rfl ?_
  repeat (first | refine go ?_ | (refine goX ?_; intro))
  refine EL_guard_split rfl rfl (fun _ => ?_) (fun h => absurd rfl (@of_decide_eq_false _ (Classical.propDecidable _) h))
  repeat (first | refine go ?_ | (refine goX ?_; intro))
  refine EL_call rfl (Spec.pre (Len_w p g'.2 (F := F)) Ent.drop) ?_
  intro _
  rw [l4]
  repeat (first | refine go ?_ | (refine goX ?_; intro))
  exact EK_ret (ER_1 rfl rfl () rfl (Ent.sat Ent.drop))
end Go.Proofs.Ytdmmahhnfnefoaa
