/-
  A drawn region whose last operation is a call: behind it nothing is read any more.
-/
import Derived.Test.YtdmmahhnfnefoaaSj
namespace Go.Proofs.Ytdmmahhnfnefoaa
open Go.RowKit
variable {X : Cx} {k : List KI} {σ : Env} {H S : SL} {ops : List Oper} {fuel L : Nat} {listed : Array Bool}
theorem EG_callL {α : Type} {r : α → Value} {H' : α → SL} {f : FuncId} [IsFn X.P f] {args : Array Operand} {ats : Array TypeId} {vs : List Value} {d : Nat} {ty : TypeId} {pos : String} {aft : Array Edge} {g : Option (Nat × Bool)} {ls : Array Bool}
    (hi : ops.toArray[L]? = some ⟨some d, .call { callee := .value (.func f), args := args, argTypes := ats }, ty, pos, aft, g⟩) (hargs : evs σ args.toList = some vs) (hg : guardV ops σ g = some true) (hl : listed.setIfInBounds L true = ls) (hc : Spec X.P f vs X.W H r H')
    (h : ∀ x, EG X k ops S L fuel ls ((d, r x) :: σ) (H' x)) (hr : Region.ready .any ops.toArray listed = [L] := by decide +kernel) (hd : Nat.blt d X.N = true := by rfl) : EG X k ops S L (fuel + 1) listed σ H := by
  subst hl
  intro a w ha hw
  refine EG_all hr ?_
  unfold wpOp
  rw [hi]
  simp only [guardV_spec ha hg, Oper.wp, if_true]
  refine .inl ?_
  have hrun := run_call (d := some d) (ty := ty) (pos := pos) (aft := aft) (ats := ats) (f := f) (w := w) ha hargs
  have hrun' : (execOp a.eval ⟨some d, .call { callee := .value (.func f), args := args, argTypes := ats }, ty, pos, aft, g⟩).run X.P w = .ok (.enter f vs.toArray) w := hrun
  rw [hrun', Oper.upon_enter]
  refine (hc w hw).mono ?_
  rintro e w' ⟨x, rfl, hs'⟩
  exact ⟨fun e => absurd rfl e, h x _ _ (ha.put hd _) hs'⟩
end Go.Proofs.Ytdmmahhnfnefoaa
