/-
  Package plan: what is wrong, and the numbers; and the document's answers.
-/
import Derived.Test.YtafbipoagehdeaaDoorSxT
import Derived.Test.YtafbipoagehdeaaDoorPl0
import Derived.Test.YtafbipoagehdeaaDoorPs
namespace Go.Proofs.YtafbipoagehdeaaDoor
open Go.RowKit
set_option maxRecDepth 10000
attribute [local irreducible] EK EX ER EN EL ES OpVal OpDoes OpSkip
variable {W : World} {F : SL} {X : Cx} {k : List KI} {σ : Env}

abbrev Cfg.val (c : Cfg) : Value := .agg #[.int .i64 c.w, .int .u32 c.o, .int .i64 c.lo, .int .i64 c.hi, .int .i64 c.b, .int .i64 c.r]


theorem between_spec (n a b : Int) :
    Spec Tryd.prog 33 [.int .i64 n, .int .i64 a, .int .i64 b] W F (fun _ : Unit => .bool (decide (a ≤ n ∧ n ≤ b))) (fun _ => F) := by
  refine Spec.of Tryd.func33 rfl Tryd.ntmps33 rfl ?_
  repeat (first | refine go ?_ | (refine goX ?_; intro))
  refine EL_guard_split rfl rfl (fun h => ?_) (fun h => ?_)
  · repeat (first | refine go ?_ | (refine goX ?_; intro))
    exact EK_ret (ER_1 rfl rfl () (by simp_all) fun _ h => h)
  · repeat (first | refine go ?_ | (refine goX ?_; intro))
    exact EK_ret (ER_1 rfl rfl () (by simp_all; omega) fun _ h => h)

theorem wr {c : Cfg} {l : List UInt8} (h : wrongT c = l) : Value.string ⟨l.toArray⟩ = str (wrongT c) := by rw [h]; rfl
theorem nn_pow2 {b : Int} (h : pow2 b) : ¬ ¬ pow2 b := fun g => g h
theorem bits_pow2 {b : Int} (h : 2 ≤ b ∧ b ≤ 1024) : bits BinOp.and IntKind.i64 b (b - 1) = 0 ↔ pow2 b := by
  have : ∀ m : Fin 1025, (bits BinOp.and IntKind.i64 (m.val : Int) ((m.val : Int) - 1) = 0) ↔ (pow2 (m.val : Int) ∨ m.val < 2) := by decide +kernel
  obtain ⟨n, rfl⟩ : ∃ n : Nat, b = n := ⟨b.toNat, by omega⟩
  have := this ⟨n, by omega⟩
  simp only [show ¬ n < 2 by omega, or_false] at this
  exact this
def pp (i : Nat) : Int := 2 ^ (i + 1)
theorem pp_succ (i : Nat) : 2 * pp i = pp (i + 1) := by unfold pp; rw [Int.pow_succ 2 (i + 1), Int.mul_comm]
theorem pp_pos (i : Nat) : 1 ≤ pp i := by
  have : (0 : Int) < 2 ^ (i + 1) := Int.pow_pos (by decide)
  unfold pp; omega
def pw (b : Int) (i : Nat) : Bool := (List.range i).any fun j => decide (pp j = b)
theorem pw_succ (b : Int) (i : Nat) : pw b (i + 1) = (pw b i || decide (pp i = b)) := by unfold pw; rw [List.range_succ]; simp
theorem pw_ten (b : Int) : pw b 10 = decide (pow2 b) := by
  rw [Bool.eq_iff_iff]
  constructor
  · intro h
    obtain ⟨j, hj, hd⟩ := List.any_eq_true.1 h
    have e := of_decide_eq_true hd
    have hj := List.mem_range.1 hj
    refine decide_eq_true ?_
    have : j = 0 ∨ j = 1 ∨ j = 2 ∨ j = 3 ∨ j = 4 ∨ j = 5 ∨ j = 6 ∨ j = 7 ∨ j = 8 ∨ j = 9 := by omega
    rcases this with rfl | rfl | rfl | rfl | rfl | rfl | rfl | rfl | rfl | rfl <;> subst e <;> decide
  · intro h
    have h := of_decide_eq_true h
    rcases h with rfl | rfl | rfl | rfl | rfl | rfl | rfl | rfl | rfl | rfl <;> decide

theorem Wrong_spec (c : Cfg) (hc : c.Fit) :
    Spec Tryd.prog 12 [c.val] W F (fun _ : Unit => str (wrongT c)) (fun _ => F) := by
  obtain ⟨⟨w1, w2⟩, ⟨o1, o2⟩, ⟨l1, l2⟩, ⟨h1, h2⟩, ⟨b1, b2⟩, ⟨r1, r2⟩⟩ := hc
  refine Spec.of Tryd.func12 rfl Tryd.ntmps12 rfl ?_
  repeat (first | refine go ?_ | (refine goX ?_; intro))
  refine EL_call rfl (between_spec _ _ _) ?_
  intro
  repeat (first | refine go ?_ | (refine goX ?_; intro))
  refine EK_cond_ndec rfl (fun hw => ?_) (fun hw => ?_)
  · repeat (first | refine go ?_ | (refine goX ?_; intro))
    exact EK_ret (ER_1 rfl rfl () (wr (by unfold wrongT; repeat (first | rfl | rw [if_pos (by first | omega | assumption)] | rw [if_neg (by first | omega | exact nn_pow2 (by assumption))]))) (Ent.sat Ent.last))
  repeat (first | refine go ?_ | (refine goX ?_; intro))
  refine EL_guard_dec rfl rfl (fun ho => ?_) (fun ho => ?_)
  · repeat (first | refine go ?_ | (refine goX ?_; intro))
    exact EK_ret (ER_1 rfl rfl () (wr (by unfold wrongT; repeat (first | rfl | rw [if_pos (by first | omega | assumption)] | rw [if_neg (by first | omega | exact nn_pow2 (by assumption))]))) (Ent.sat Ent.last))
  repeat (first | refine go ?_ | (refine goX ?_; intro))
  refine EK_cond_dec rfl (fun ho' => ?_) (fun ho' => ?_)
  · repeat (first | refine go ?_ | (refine goX ?_; intro))
    exact EK_ret (ER_1 rfl rfl () (wr (by unfold wrongT; repeat (first | rfl | rw [if_pos (by first | omega | assumption)] | rw [if_neg (by first | omega | exact nn_pow2 (by assumption))]))) (Ent.sat Ent.last))
  repeat (first | refine go ?_ | (refine goX ?_; intro))
  refine EL_guard_dec rfl rfl (fun hp => ?_) (fun hp => ?_)
  · repeat (first | refine go ?_ | (refine goX ?_; intro))
    exact EK_ret (ER_1 rfl rfl () (wr (by unfold wrongT; repeat (first | rfl | rw [if_pos (by first | omega | assumption)] | rw [if_neg (by first | omega | exact nn_pow2 (by assumption))]))) (Ent.sat Ent.last))
  repeat (first | refine go ?_ | (refine goX ?_; intro))
  refine EL_guard_dec rfl rfl (fun hp2 => ?_) (fun hp2 => ?_)
  · repeat (first | refine go ?_ | (refine goX ?_; intro))
    exact EK_ret (ER_1 rfl rfl () (wr (by unfold wrongT; repeat (first | rfl | rw [if_pos (by first | omega | assumption)] | rw [if_neg (by first | omega | exact nn_pow2 (by assumption))]))) (Ent.sat Ent.last))
  repeat (first | refine go ?_ | (refine goX ?_; intro))
  refine EL_guard_dec rfl rfl (fun hp3 => ?_) (fun hp3 => ?_)
  · repeat (first | refine go ?_ | (refine goX ?_; intro))
    exact EK_ret (ER_1 rfl rfl () (wr (by unfold wrongT; repeat (first | rfl | rw [if_pos (by first | omega | assumption)] | rw [if_neg (by first | omega | exact nn_pow2 (by assumption))]))) (Ent.sat Ent.last))
  repeat (first | refine go ?_ | (refine goX ?_; intro))
  refine EK_cond_dec rfl (fun hp4 => ?_) (fun hp4 => ?_)
  · repeat (first | refine go ?_ | (refine goX ?_; intro))
    exact EK_ret (ER_1 rfl rfl () (wr (by unfold wrongT; repeat (first | rfl | rw [if_pos (by first | omega | assumption)] | rw [if_neg (by first | omega | exact nn_pow2 (by assumption))]))) (Ent.sat Ent.last))
  repeat (first | refine go ?_ | (refine goX ?_; intro))
  refine EL_call rfl (between_spec _ _ _) ?_
  intro
  repeat (first | refine go ?_ | (refine goX ?_; intro))
  refine EL_guard_ndec rfl rfl (fun hb => ?_) (fun hb => ?_)
  · have hb' : ¬ pow2 c.b := by unfold pow2; omega
    repeat (first | refine go ?_ | (refine goX ?_; intro))
    exact EK_ret (ER_1 rfl rfl () (wr (by unfold wrongT; repeat (first | rfl | rw [if_pos (by first | omega | assumption)] | rw [if_neg (by first | omega | exact nn_pow2 (by assumption))]))) (Ent.sat Ent.last))
  repeat (first | refine go ?_ | (refine goX ?_; intro))
  refine EK_cond_ndec rfl (fun hq => ?_) (fun hq => ?_)
  · have hb' : ¬ pow2 c.b := fun h => hq ((bits_pow2 hb).2 h)
    repeat (first | refine go ?_ | (refine goX ?_; intro))
    exact EK_ret (ER_1 rfl rfl () (wr (by unfold wrongT; repeat (first | rfl | rw [if_pos (by first | omega | assumption)] | rw [if_neg (by first | omega | exact nn_pow2 (by assumption))]))) (Ent.sat Ent.last))
  have hb' : pow2 c.b := (bits_pow2 hb).1 hq
  repeat (first | refine go ?_ | (refine goX ?_; intro))
  refine EL_call rfl (between_spec _ _ _) ?_
  intro
  repeat (first | refine go ?_ | (refine goX ?_; intro))
  refine EK_cond_ndec rfl (fun hr => ?_) (fun hr => ?_)
  · repeat (first | refine go ?_ | (refine goX ?_; intro))
    exact EK_ret (ER_1 rfl rfl () (wr (by unfold wrongT; repeat (first | rfl | rw [if_pos (by first | omega | assumption)] | rw [if_neg (by first | omega | exact nn_pow2 (by assumption))]))) (Ent.sat Ent.last))
  repeat (first | refine go ?_ | (refine goX ?_; intro))
  exact EK_ret (ER_1 rfl rfl () (wr (by unfold wrongT; repeat (first | rfl | rw [if_pos (by first | omega | assumption)] | rw [if_neg (by first | omega | exact nn_pow2 (by assumption))]))) (Ent.sat Ent.last))

end Go.Proofs.YtafbipoagehdeaaDoor
