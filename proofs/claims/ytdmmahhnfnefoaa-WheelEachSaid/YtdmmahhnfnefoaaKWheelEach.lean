/-
  WheelEach: true of every input; the input reads as it did: the row (printed by wip/genS.py).
-/
import Derived.Test.YtdmmahhnfnefoaaRd
import Derived.Test.YtdmmahhnfnefoaaWhB
namespace Go.Proofs.Ytdmmahhnfnefoaa
open Go.ChangeShapes Go.WideShapes Go.ChangeAt Go.RowKit Go.Deep
namespace fnWheelEach
theorem own : ownKnob Try.prog.godebug = none := by kernel_rfl
theorem laidOut : laidOutB Try.prog = true := by kernel_rfl
set_option maxRecDepth 100000 in
set_option maxHeartbeats 4000000 in
theorem lifted (os : Os) (started : os.Started) (H : Type) (enc : TypeId × Value → H) :
    ReturnsInHanded {} Try.checked os 4 .any (Rows.wheelEachSpec.pre6 enc Try.prog Try.f4 Rows.wheelEachRow.domain false) (Rows.wheelEachSpec.post enc Try.prog Try.f4 false true false false) := by
  refine returnsInHanded_of_change (C := Try.checked) own started (by kernel_rfl) Try.func4
    (ChangeSpec.witness6 (enc := enc) (C := Try.checked) false ⟨#[], #[.slice none 0 0, .slice none 0 0], []⟩ 8 (by kernel_rfl) (by kernel_rfl) (by kernel_rfl) (by kernel_rfl)) ?_
  intro W base args ds gs before hval0 hW hcnd _
  have hval : ∀ (j : Nat) t v, Try.f4.params[j]? = some t → args[j]? = some v → Value.okWide Try.prog W .any base t v := hval0
  have hW' := hW
  obtain ⟨p, q, hA0, hV, rfl, hfz, hnd⟩ := hW
  have hA : DataW.TrodAll enc Try.prog W 0 (fun _ => true) true Try.f4.params.toList args.toList ds p := hA0
  rw [Try.params4] at hA hval
  obtain ⟨v0, vs0, d0, ds0, p0, q0, hargs, rfl, rfl, h0, r0⟩ := trodAll_cons hA
  obtain ⟨v1, vs1, d1, ds1, p1, q1, rfl, rfl, rfl, h1, r1⟩ := trodAll_cons r0
  obtain ⟨rfl, rfl, rfl⟩ := trodAll_nil r1
  obtain rfl : args = #[v0, v1] := by cases args; simp_all
  obtain ⟨rfl, rfl⟩ := trodVars_none hV
  obtain ⟨b0, m0, n0, rfl⟩ := okWide_slice Try.underlying22 (hval 0 22 v0 rfl rfl)
  obtain ⟨_, k0⟩ := h0
  simp only [Value.cells] at k0
  obtain ⟨a0, c0, l0, e0, o0⟩ := ints_ro Try.underlying22 Try.underlying3 (by kernel_rfl) k0
  cases e0
  haveI := o0
  obtain ⟨b1, m1, n1, rfl⟩ := okWide_slice Try.underlying22 (hval 1 22 v1 rfl rfl)
  obtain ⟨_, k1⟩ := h1
  simp only [Value.cells] at k1
  obtain ⟨a1, c1, l1, e1, o1⟩ := ints_ro Try.underlying22 Try.underlying3 (by kernel_rfl) k1
  cases e1
  haveI := o1
  refine Calls.mono ((Each_walk (F := 1) b0 b1 n0 n1 l0 l1) W (Sat.start W)) fun e W' ⟨_, he, hs⟩ => ?_
  subst he
  exact ⟨_, rfl, post_below rfl laidOut (by rw [Try.params4]; intro t ht; simp at ht; rcases ht with rfl <;> exact ⟨by kernel_rfl, of_decide_eq_true (by kernel_rfl)⟩) hW' (fun _ _ _ => trodAll_cons_mk (shut_bool Try.underlying4 _) trodAll_mk0) rfl rfl hs.below
    (ok_one (by kernel_rfl) rfl (okWide_bool_mk Try.underlying4 _))⟩
end fnWheelEach
theorem WheelEach_holds : Rows.WheelEachSaid :=
  OpenClaim.holds_of_wide 4 Try.f4 rfl rfl rfl rfl rfl rfl rfl ⟨rfl, rfl, rfl, rfl, rfl⟩ rfl rfl rfl rfl rfl (by kernel_rfl) Try.func4 (by kernel_rfl)
    (of_decide_eq_true (by kernel_rfl)) (by unfold Func.isWrapper; rw [if_neg (of_decide_eq_false (by kernel_rfl))]; exact ⟨rfl, rfl⟩)
    (fun os started H enc _ => fnWheelEach.lifted os started H enc)
end Go.Proofs.Ytdmmahhnfnefoaa
