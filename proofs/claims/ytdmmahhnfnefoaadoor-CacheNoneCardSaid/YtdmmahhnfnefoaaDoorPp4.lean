/-
  Package pool: Take, Same, None, Got, Word; slices.Clone.
-/
import Derived.Test.YtdmmahhnfnefoaaDoorPp3
namespace Go.Proofs.YtdmmahhnfnefoaaDoor
open Go.RowKit
set_option maxRecDepth 10000
attribute [local irreducible] EK EX ER EN EL ES EG OpVal OpDoes OpSkip
variable {W : World} {F : SL} {X : Cx} {k : List KI} {σ : Env} {p sp : Option Addr} {n m : Nat} {ws : List Nat} {s : PStep}

theorem CloneI_spec (q : Option Addr) (n c : Nat) (xs : List Value) [h1 : Ones xs] (hl : xs.length = n) (hn : n ≤ 1000000) :
    Spec Tryd.prog 47 [.slice q n c] W (RowC 3 1 q n c xs * F) (fun g : Slab => .slice g.1 n g.2)
      (fun g => RowC 3 1 g.1 n g.2 xs * (RowC 3 1 q n c xs * F)) := by
  subst hl
  refine Spec.of Tryd.func47 rfl Tryd.ntmps47 rfl ?_
  repeat (first | refine go ?_ | (refine goX ?_; intro))
  refine EL_val (OpVal_sliceNil rfl rfl) rfl ?_
  repeat (first | refine go ?_ | (refine goX ?_; intro))
  refine EK_cond_dec rfl (fun hp => ?_) (fun hp => ?_)
  · subst hp
    refine EK_nilrow fun h0 => ?_
    obtain rfl := List.eq_nil_of_length_eq_zero h0
    repeat (first | refine go ?_ | (refine goX ?_; intro))
    exact EK_ret (ER_1 rfl rfl ((none, 0) : Slab) rfl (Ent.sat (Ent.none (Ent.refl _))))
  · repeat (first | refine go ?_ | (refine goX ?_; intro))
    rename_i q0 g
    refine EK_ret (ER_1 rfl rfl g ?_ (Ent.sat (Ent.row g.1 ?_ ?_ ?_)))
    · simp
    · simp
    · simp
    · repeat (first | exact Ent.last | refine Ent.cons ?_ | refine Ent.assoc ?_)
theorem CloneU_spec (q : Option Addr) (n c : Nat) (xs : List Value) [h1 : Ones xs] (hl : xs.length = n) (hn : n ≤ 1000000) :
    Spec Tryd.prog 53 [.slice q n c] W (RowC 23 1 q n c xs * F) (fun g : Slab => .slice g.1 n g.2)
      (fun g => RowC 23 1 g.1 n g.2 xs * (RowC 23 1 q n c xs * F)) := by
  subst hl
  refine Spec.of Tryd.func53 rfl Tryd.ntmps53 rfl ?_
  repeat (first | refine go ?_ | (refine goX ?_; intro))
  refine EL_val (OpVal_sliceNil rfl rfl) rfl ?_
  repeat (first | refine go ?_ | (refine goX ?_; intro))
  refine EK_cond_dec rfl (fun hp => ?_) (fun hp => ?_)
  · subst hp
    refine EK_nilrow fun h0 => ?_
    obtain rfl := List.eq_nil_of_length_eq_zero h0
    repeat (first | refine go ?_ | (refine goX ?_; intro))
    exact EK_ret (ER_1 rfl rfl ((none, 0) : Slab) rfl (Ent.sat (Ent.none (Ent.refl _))))
  · repeat (first | refine go ?_ | (refine goX ?_; intro))
    rename_i q0 g
    refine EK_ret (ER_1 rfl rfl g ?_ (Ent.sat (Ent.row g.1 ?_ ?_ ?_)))
    · simp
    · simp
    · simp
    · repeat (first | exact Ent.last | refine Ent.cons ?_ | refine Ent.assoc ?_)
theorem None_nil : Spec Tryd.prog 38 [.pointer none] W F (fun _ : Unit => .bool false) (fun _ => F) := by
  refine Spec.of Tryd.func38 rfl Tryd.ntmps38 rfl ?_
  repeat (first | refine go ?_ | (refine goX ?_; intro))
  exact EK_ret (ER_1 rfl rfl () rfl (Ent.sat Ent.last))
theorem None_spec (sp : Option Addr) (s : PStep) : Spec Tryd.prog 38 [.pointer sp] W (StepC sp s * F) (fun _ : Unit => .bool (noneS s)) (fun _ => StepC sp s * F) := by
  refine Spec.of Tryd.func38 rfl Tryd.ntmps38 rfl ?_
  refine StepC.open fun q => ?_
  simp only [StepO, stepV]
  have hpn := done_nil s.ports
  have hdn : ∀ b c : Bool, noneS s = b → b = c → some (Value.bool c) = some (Value.bool (noneS s)) := fun b c h1 h2 => by rw [h1, h2]
  by_cases hk : s.kind = 0
  · cases hd : s.done with
    | false =>
      repeat (first | refine go ?_ | (refine goX ?_; intro))
      refine EK_ret (ER_1 rfl rfl () (by unfold noneS; rw [hd]; simp) (Ent.sat (Ent.trans ?_ (StepC.shut (q := q)))))
      refine Ent.obj sp (by simp only [stepV, hd]) ?_
      repeat (first | exact Ent.last | refine Ent.cons ?_ | refine Ent.assoc ?_)
    | true =>
      by_cases h0 : s.ports = []
      · have h0' : ((s.ports.length : Nat) : Int) = 0 := by rw [h0]; rfl
        repeat (first | refine go ?_ | (refine goX ?_; intro))
        refine EK_ret (ER_1 rfl rfl () (by unfold noneS; simp [hd, hk, h0]) (Ent.sat (Ent.trans ?_ (StepC.shut (q := q)))))
        refine Ent.obj sp (by simp only [stepV, hd]) ?_
        repeat (first | exact Ent.last | refine Ent.cons ?_ | refine Ent.assoc ?_)
      · have h0' : ¬ ((s.ports.length : Nat) : Int) = 0 := by
          intro e
          exact h0 (List.eq_nil_of_length_eq_zero (by omega))
        repeat (first | refine go ?_ | (refine goX ?_; intro))
        refine EK_ret (ER_1 rfl rfl () (by unfold noneS; simp [hd, hk, h0]) (Ent.sat (Ent.trans ?_ (StepC.shut (q := q)))))
        refine Ent.obj sp (by simp only [stepV, hd]) ?_
        repeat (first | exact Ent.last | refine Ent.cons ?_ | refine Ent.assoc ?_)
  · have hk' : ¬ ((s.kind : Nat) : Int) = 0 := by omega
    repeat (first | refine go ?_ | (refine goX ?_; intro))
    refine EK_ret (ER_1 rfl rfl () (by unfold noneS; simp [hk]) (Ent.sat (Ent.trans ?_ (StepC.shut (q := q)))))
    repeat (first | exact Ent.last | refine Ent.cons ?_ | refine Ent.assoc ?_)
theorem SSame_nil : Spec Tryd.prog 37 [.pointer none] W F (fun _ : Unit => .bool false) (fun _ => F) := by
  refine Spec.of Tryd.func37 rfl Tryd.ntmps37 rfl ?_
  repeat (first | refine go ?_ | (refine goX ?_; intro))
  exact EK_ret (ER_1 rfl rfl () rfl (Ent.sat Ent.last))
theorem SSame_spec (sp : Option Addr) (s : PStep) : Spec Tryd.prog 37 [.pointer sp] W (StepC sp s * F) (fun _ : Unit => .bool s.alike) (fun _ => StepC sp s * F) := by
  refine Spec.of Tryd.func37 rfl Tryd.ntmps37 rfl ?_
  refine StepC.open fun q => ?_
  simp only [StepO, stepV]
  repeat (first | refine go ?_ | (refine goX ?_; intro))
  refine EK_ret (ER_1 rfl rfl () rfl (Ent.sat (Ent.trans ?_ (StepC.shut (q := q)))))
  repeat (first | exact Ent.last | refine Ent.cons ?_ | refine Ent.assoc ?_)
theorem Word_spec (sp : Option Addr) (s : PStep) : Spec Tryd.prog 51 [.pointer sp] W (StepC sp s * F) (fun _ : Unit => .int .i64 (if s.ports = [] then -1 else (s.word : Int))) (fun _ => StepC sp s * F) := by
  refine Spec.of Tryd.func51 rfl Tryd.ntmps51 rfl ?_
  refine StepC.open fun q => ?_
  simp only [StepO, stepV]
  by_cases h0 : s.ports = []
  · have h0' : ((s.ports.length : Nat) : Int) = 0 := by rw [h0]; rfl
    rw [if_pos h0]
    repeat (first | refine go ?_ | (refine goX ?_; intro))
    refine EK_ret (ER_1 rfl rfl () rfl (Ent.sat (Ent.trans ?_ (StepC.shut (q := q)))))
    repeat (first | exact Ent.last | refine Ent.cons ?_ | refine Ent.assoc ?_)
  · have h0' : ¬ ((s.ports.length : Nat) : Int) = 0 := by
      intro e
      exact h0 (List.eq_nil_of_length_eq_zero (by omega))
    rw [if_neg h0]
    repeat (first | refine go ?_ | (refine goX ?_; intro))
    refine EK_ret (ER_1 rfl rfl () rfl (Ent.sat (Ent.trans ?_ (StepC.shut (q := q)))))
    repeat (first | exact Ent.last | refine Ent.cons ?_ | refine Ent.assoc ?_)
theorem Got_spec (sp : Option Addr) (s : PStep) (hn : s.ports.length ≤ 1000) : Spec Tryd.prog 25 [.pointer sp] W (StepC sp s * F) (fun g : Slab => .slice g.1 s.ports.length g.2)
    (fun g => RowC 3 1 g.1 s.ports.length g.2 (natsR .i64 s.ports) * (StepC sp s * F)) := by
  refine Spec.of Tryd.func25 rfl Tryd.ntmps25 rfl ?_
  refine StepC.open fun q => ?_
  simp only [StepO, stepV]
  repeat (first | refine go ?_ | (refine goX ?_; intro))
  refine EL_call rfl (Spec.at1 q.2.2.1 (CloneI_spec q.2.2.1 s.ports.length q.2.2.2 (natsR .i64 s.ports) (natsR_len _ _) (by omega))) ?_
  intro g
  repeat (first | refine go ?_ | (refine goX ?_; intro))
  refine EK_ret (ER_1 rfl rfl g rfl (Ent.sat (Ent.cons (Ent.trans ?_ (StepC.shut (q := q))))))
  repeat (first | exact Ent.last | refine Ent.cons ?_ | refine Ent.assoc ?_)
end Go.Proofs.YtdmmahhnfnefoaaDoor
