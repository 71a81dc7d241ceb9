/-
  WheelActs: true of every input; the input reads as it did: the row (printed by wip/genS.py).
-/
import Derived.Test.YtdmmahhnfnefoaaRe
import Derived.Test.YtdmmahhnfnefoaaWhG
namespace Go.Proofs.Ytdmmahhnfnefoaa
open Go.ChangeShapes Go.WideShapes Go.ChangeAt Go.RowKit Go.Deep
namespace fnWheelActs
theorem own : ownKnob Try.prog.godebug = none := by kernel_rfl
theorem laidOut : laidOutB Try.prog = true := by kernel_rfl
set_option maxRecDepth 100000 in
set_option maxHeartbeats 4000000 in
theorem lifted (os : Os) (started : os.Started) (H : Type) (enc : TypeId × Value → H) :
    ReturnsInHanded {} Try.checked os 6 .any (Rows.wheelActsSpec.pre6 enc Try.prog Try.f6 Rows.wheelActsRow.domain false) (Rows.wheelActsSpec.post enc Try.prog Try.f6 false true false false) := by
  refine returnsInHanded_of_change (C := Try.checked) own started (by kernel_rfl) Try.func6
    (ChangeSpec.witness6 (enc := enc) (C := Try.checked) false ⟨#[], #[.slice none 0 0], []⟩ 8 (by kernel_rfl) (by kernel_rfl) (by kernel_rfl) (by kernel_rfl)) ?_
  intro W base args ds gs before hval0 hW hcnd _
  have hval : ∀ (j : Nat) t v, Try.f6.params[j]? = some t → args[j]? = some v → Value.okWide Try.prog W .any base t v := hval0
  have hW' := hW
  obtain ⟨p, q, hA0, hV, rfl, hfz, hnd⟩ := hW
  have hA : DataW.TrodAll enc Try.prog W 0 (fun _ => true) true Try.f6.params.toList args.toList ds p := hA0
  rw [Try.params6] at hA hval
  obtain ⟨v0, vs0, d0, ds0, p0, q0, hargs, rfl, rfl, h0, r0⟩ := trodAll_cons hA
  obtain ⟨rfl, rfl, rfl⟩ := trodAll_nil r0
  obtain rfl : args = #[v0] := by cases args; simp_all
  obtain ⟨rfl, rfl⟩ := trodVars_none hV
  obtain ⟨b0, m0, n0, rfl⟩ := okWide_slice Try.underlying39 (hval 0 39 v0 rfl rfl)
  obtain ⟨_, k0⟩ := h0
  simp only [Value.cells] at k0
  obtain ⟨a0, u0, c0, f0, e0, o0⟩ := tab_ro (k := 3) Try.underlying39 Try.underlying46 (by kernel_rfl) (by kernel_rfl) (by kernel_rfl) Try.underlying3 (by decide) k0
  cases e0
  haveI := o0
  refine Calls.mono ((Acts_walk (F := 1) b0 m0 n0 f0) W (Sat.start W)) fun e W' ⟨_, he, hs⟩ => ?_
  subst he
  exact ⟨_, rfl, post_below rfl laidOut (by rw [Try.params6]; intro t ht; simp at ht; rcases ht with rfl <;> exact ⟨by kernel_rfl, of_decide_eq_true (by kernel_rfl)⟩) hW' (fun _ _ _ => trodAll_cons_mk (shut_bool Try.underlying4 _) trodAll_mk0) rfl rfl hs.below
    (ok_one (by kernel_rfl) rfl (okWide_bool_mk Try.underlying4 _))⟩
end fnWheelActs
theorem WheelActs_holds : Rows.WheelActsSaid :=
  OpenClaim.holds_of_wide 6 Try.f6 rfl rfl rfl rfl rfl rfl rfl ⟨rfl, rfl, rfl, rfl, rfl⟩ rfl rfl rfl rfl rfl (by kernel_rfl) Try.func6 (by kernel_rfl)
    (of_decide_eq_true (by kernel_rfl)) (by unfold Func.isWrapper; rw [if_neg (of_decide_eq_false (by kernel_rfl))]; exact ⟨rfl, rfl⟩)
    (fun os started H enc _ => fnWheelActs.lifted os started H enc)
end Go.Proofs.Ytdmmahhnfnefoaa
