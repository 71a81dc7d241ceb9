/-
  Package plan: the document's word of what is wrong.
-/
import Derived.Test.YtafbipoagehdeaaDoorPl1
namespace Go.Proofs.YtafbipoagehdeaaDoor
open Go.RowKit
set_option maxRecDepth 10000
attribute [local irreducible] EK EX ER EN EL ES OpVal OpDoes OpSkip
variable {W : World} {F : SL} {X : Cx} {k : List KI} {σ : Env}

theorem rWrong_spec (c : Cfg) (hc : c.Fit) :
    Spec Tryd.prog 13 [c.val] W F (fun _ : Unit => str (wrongT c)) (fun _ => F) := by
  obtain ⟨⟨w1, w2⟩, ⟨o1, o2⟩, ⟨l1, l2⟩, ⟨h1, h2⟩, ⟨b1, b2⟩, ⟨r1, r2⟩⟩ := hc
  refine Spec.of Tryd.func13 rfl Tryd.ntmps13 rfl ?_
  repeat (first | refine go ?_ | (refine goX ?_; intro))
  refine EL_guard_dec rfl rfl (fun hw => ?_) (fun hw => ?_)
  · repeat (first | refine go ?_ | (refine goX ?_; intro))
    exact EK_ret (ER_1 rfl rfl () (wr (by unfold wrongT; repeat (first | rfl | rw [if_pos (by first | omega | assumption)] | rw [if_neg (by first | omega | exact nn_pow2 (by assumption))]))) (Ent.sat Ent.last))
  repeat (first | refine go ?_ | (refine goX ?_; intro))
  refine EK_cond_dec rfl (fun hw' => ?_) (fun hw' => ?_)
  · repeat (first | refine go ?_ | (refine goX ?_; intro))
    exact EK_ret (ER_1 rfl rfl () (wr (by unfold wrongT; repeat (first | rfl | rw [if_pos (by first | omega | assumption)] | rw [if_neg (by first | omega | exact nn_pow2 (by assumption))]))) (Ent.sat Ent.last))
  repeat (first | refine go ?_ | (refine goX ?_; intro))
  refine EL_guard_dec rfl rfl (fun ho => ?_) (fun ho => ?_)
  · repeat (first | refine go ?_ | (refine goX ?_; intro))
    exact EK_ret (ER_1 rfl rfl () (wr (by unfold wrongT; repeat (first | rfl | rw [if_pos (by first | omega | assumption)] | rw [if_neg (by first | omega | exact nn_pow2 (by assumption))]))) (Ent.sat Ent.last))
  repeat (first | refine go ?_ | (refine goX ?_; intro))
  refine EK_cond_dec rfl (fun ho' => ?_) (fun ho' => ?_)
  · repeat (first | refine go ?_ | (refine goX ?_; intro))
    exact EK_ret (ER_1 rfl rfl () (wr (by unfold wrongT; repeat (first | rfl | rw [if_pos (by first | omega | assumption)] | rw [if_neg (by first | omega | exact nn_pow2 (by assumption))]))) (Ent.sat Ent.last))
  repeat (first | refine go ?_ | (refine goX ?_; intro))
  refine EL_guard_dec rfl rfl (fun hp => ?_) (fun hp => ?_)
  · repeat (first | refine go ?_ | (refine goX ?_; intro))
    exact EK_ret (ER_1 rfl rfl () (wr (by unfold wrongT; repeat (first | rfl | rw [if_pos (by first | omega | assumption)] | rw [if_neg (by first | omega | exact nn_pow2 (by assumption))]))) (Ent.sat Ent.last))
  repeat (first | refine go ?_ | (refine goX ?_; intro))
  refine EL_guard_dec rfl rfl (fun hp2 => ?_) (fun hp2 => ?_)
  · repeat (first | refine go ?_ | (refine goX ?_; intro))
    exact EK_ret (ER_1 rfl rfl () (wr (by unfold wrongT; repeat (first | rfl | rw [if_pos (by first | omega | assumption)] | rw [if_neg (by first | omega | exact nn_pow2 (by assumption))]))) (Ent.sat Ent.last))
  repeat (first | refine go ?_ | (refine goX ?_; intro))
  refine EL_guard_dec rfl rfl (fun hp3 => ?_) (fun hp3 => ?_)
  · repeat (first | refine go ?_ | (refine goX ?_; intro))
    exact EK_ret (ER_1 rfl rfl () (wr (by unfold wrongT; repeat (first | rfl | rw [if_pos (by first | omega | assumption)] | rw [if_neg (by first | omega | exact nn_pow2 (by assumption))]))) (Ent.sat Ent.last))
  repeat (first | refine go ?_ | (refine goX ?_; intro))
  refine EK_cond_dec rfl (fun hp4 => ?_) (fun hp4 => ?_)
  · repeat (first | refine go ?_ | (refine goX ?_; intro))
    exact EK_ret (ER_1 rfl rfl () (wr (by unfold wrongT; repeat (first | rfl | rw [if_pos (by first | omega | assumption)] | rw [if_neg (by first | omega | exact nn_pow2 (by assumption))]))) (Ent.sat Ent.last))
  repeat (first | refine go ?_ | (refine goX ?_; intro))
  rename_i p
  refine EK_loop (γ := Nat) (fun i => i ≤ 10) (fun i => [(1, .pointer p), (4, .int .i64 (pp i)), (3, .bool (pw c.b i))]) (fun _ => Obj p 24 [.int .i64 c.w, .int .u32 c.o, .int .i64 c.lo, .int .i64 c.hi, .int .i64 c.b, .int .i64 c.r] * F)
    (fun i => 10 - i) 0 (Nat.zero_le _) ⟨rfl, rfl, rfl, trivial⟩ (Ent.sat (Ent.refl _)) ?_
  intro i hi; dsimp only at hi ⊢
  have hpp := pp_pos i
  have hs := pp_succ i
  repeat (first | refine go ?_ | (refine goX ?_; intro))
  refine EK_cond_dec rfl (fun hlt => ?_) (fun hge => ?_)
  · have hi' : i < 10 := by
      rcases Nat.lt_or_ge i 10 with h | h
      · exact h
      · have : i = 10 := by omega
        subst this
        simp [pp] at hlt
    repeat (first | refine go ?_ | (refine goX ?_; intro))
    refine EL_guard_split rfl rfl (fun hg => ?_) (fun hg => ?_)
    all_goals
      repeat (first | refine go ?_ | (refine goX ?_; intro))
      refine EK_round (i + 1) (by omega) (by omega) ⟨rfl, by rw [← hs]; rfl, by rw [pw_succ, hg]; rfl, trivial⟩ (Ent.sat (Ent.refl _))
  · have hi' : i = 10 := by
      have : i = 10 ∨ i = 0 ∨ i = 1 ∨ i = 2 ∨ i = 3 ∨ i = 4 ∨ i = 5 ∨ i = 6 ∨ i = 7 ∨ i = 8 ∨ i = 9 := by omega
      rcases this with rfl | rfl | rfl | rfl | rfl | rfl | rfl | rfl | rfl | rfl | rfl
      · rfl
      all_goals simp [pp] at hge
    subst hi'
    rw [pw_ten]
    repeat (first | refine go ?_ | (refine goX ?_; intro))
    refine EK_cond_ndec rfl (fun hb' => ?_) (fun hb' => ?_)
    · repeat (first | refine go ?_ | (refine goX ?_; intro))
      exact EK_ret (ER_1 rfl rfl () (wr (by unfold wrongT; repeat (first | rfl | rw [if_pos (by first | omega | assumption)] | rw [if_neg (by first | omega | exact nn_pow2 (by assumption))]))) (Ent.sat Ent.last))
    repeat (first | refine go ?_ | (refine goX ?_; intro))
    refine EL_guard_dec rfl rfl (fun hr => ?_) (fun hr => ?_)
    · repeat (first | refine go ?_ | (refine goX ?_; intro))
      exact EK_ret (ER_1 rfl rfl () (wr (by unfold wrongT; repeat (first | rfl | rw [if_pos (by first | omega | assumption)] | rw [if_neg (by first | omega | exact nn_pow2 (by assumption))]))) (Ent.sat Ent.last))
    repeat (first | refine go ?_ | (refine goX ?_; intro))
    refine EK_cond_dec rfl (fun hr' => ?_) (fun hr' => ?_)
    · repeat (first | refine go ?_ | (refine goX ?_; intro))
      exact EK_ret (ER_1 rfl rfl () (wr (by unfold wrongT; repeat (first | rfl | rw [if_pos (by first | omega | assumption)] | rw [if_neg (by first | omega | exact nn_pow2 (by assumption))]))) (Ent.sat Ent.last))
    repeat (first | refine go ?_ | (refine goX ?_; intro))
    exact EK_ret (ER_1 rfl rfl () (wr (by unfold wrongT; repeat (first | rfl | rw [if_pos (by first | omega | assumption)] | rw [if_neg (by first | omega | exact nn_pow2 (by assumption))]))) (Ent.sat Ent.last))
end Go.Proofs.YtafbipoagehdeaaDoor
