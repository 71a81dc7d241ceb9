/-
  Package pool: Do, whole; what steps keep.
-/
import Derived.Test.YtcciijdnegjkjaaDoorPool6
namespace Go.Proofs.YtcciijdnegjkjaaDoor
open Go.RowKit

variable {W w : World} {F : SL} {bp bc bg n sp m : Nat} {ws : List Nat} {s : PStep}

/-- A value returned, and the heap as it should be. -/
def Gives (W : World) (v : Value) (P : SL) (e : Ending) (w' : World) : Prop := e = .returned v ∧ Sat W w' P

theorem back_any (hw : WordsOk m ws) (hs : s.Ok m) (h : Sat W w (PoolSL bp bc bg n ws * (StepSL sp s * F))) :
    Calls Tryd.prog 28 #[.pointer (some ⟨bp, 0, none⟩), .pointer (some ⟨sp, 0, none⟩)] w (StepEnds W (PoolSL bp bc bg n (backS ws s).1 * (StepSL sp (backS ws s).2 * F))) := by
  match hp : s.parts with
  | [] => exact back_nil h hp
  | (k, mask) :: rest =>
    cases hr : s.read with
    | false => exact back_read hw hs h hp hr
    | true => exact back_cas hw hs h hp hr

set_option maxRecDepth 100000 in
set_option maxHeartbeats 800000 in
/-- Do. -/
theorem Do_any (hT : Tab W) (hw : WordsOk m ws) (hs : s.Ok m) (h : Sat W w (PoolSL bp bc bg n ws * (StepSL sp s * F))) :
    Calls Tryd.prog 12 #[.pointer (some ⟨bp, 0, none⟩), .pointer (some ⟨sp, 0, none⟩)] w (Gives W (.bool (doS ws s).2.done) (PoolSL bp bc bg n (doS ws s).1 * (StepSL sp (doS ws s).2 * F))) := by
  obtain ⟨vw, vp, vo, h1⟩ := StepSL.open h.swap
  obtain ⟨s0, _, _, _, _, _, _, _, _, s9, _, fs⟩ := StepB.facts h1
  have hkind := hs.kind
  cases hd : s.done with
  | true =>
    have e0 : doS ws s = (ws, s) := by unfold doS; rw [if_pos hd]
    rw [e0]
    have HE := Lib.hid h
    rw [hd] at s9
    have HD := Lib.hid hd
    clear h h1 hs hw hT fs hd hkind
    go_enter Tryd.func12, Tryd.ntmps12
    go_wp2
    go_ret
    refine ⟨?_, HE.out⟩
    rw [HD.out]; rfl
  | false =>
    have HC : (s.kind = 0 → Calls Tryd.prog 26 #[.pointer (some ⟨bp, 0, none⟩), .pointer (some ⟨sp, 0, none⟩)] w (StepEnds W (PoolSL bp bc bg n (doS ws s).1 * (StepSL sp (doS ws s).2 * F)))) ∧
        (s.kind = 1 → Calls Tryd.prog 27 #[.pointer (some ⟨bp, 0, none⟩), .pointer (some ⟨sp, 0, none⟩)] w (StepEnds W (PoolSL bp bc bg n (doS ws s).1 * (StepSL sp (doS ws s).2 * F)))) ∧
        (s.kind = 2 → Calls Tryd.prog 28 #[.pointer (some ⟨bp, 0, none⟩), .pointer (some ⟨sp, 0, none⟩)] w (StepEnds W (PoolSL bp bc bg n (doS ws s).1 * (StepSL sp (doS ws s).2 * F)))) := by
      refine ⟨fun hk => ?_, fun hk => ?_, fun hk => ?_⟩
      · have e0 : doS ws s = takeS ws s := by unfold doS; rw [if_neg (by simp [hd]), if_pos hk]
        rw [e0]; exact take_any hT hw hs h hk hd
      · have e0 : doS ws s = sameS ws s := by unfold doS; rw [if_neg (by simp [hd]), if_neg (by omega), if_pos hk]
        rw [e0]; exact same_any hw hs h hk hd
      · have e0 : doS ws s = backS ws s := by unfold doS; rw [if_neg (by simp [hd]), if_neg (by omega), if_neg (by omega)]
        rw [e0]; exact back_any hw hs h
    have HX := Lib.hid HC
    rw [hd] at s9
    clear HC h h1 hs hw hT fs hd
    generalize doS ws s = G at *
    have fin : ∀ (w' : World), Sat W w' (PoolSL bp bc bg n G.1 * (StepSL sp G.2 * F)) → w'.cell? ⟨sp, 9, none⟩ = some (.bool G.2.done) := fun w' h' => by
      obtain ⟨_, _, _, h2⟩ := StepSL.open h'.swap
      exact (StepB.facts h2).2.2.2.2.2.2.2.2.2.1
    have HF := Lib.hid fin
    clear fin
    rcases hkind with hk | hk | hk
    · rw [hk] at s0
      have HY := Lib.hid (HX.out.1 hk)
      clear hk
      go_enter Tryd.func12, Tryd.ntmps12
      go_wp2_with (go_at_call 26; refine HY.out.mono ?_; rintro e w' ⟨rfl, hq⟩; have hc := HF.out _ hq; have HQ := Lib.hid hq; clear hq)
      go_wp2
      go_ret
      exact ⟨rfl, HQ.out⟩
    · rw [hk] at s0
      have HY := Lib.hid (HX.out.2.1 hk)
      clear hk
      go_enter Tryd.func12, Tryd.ntmps12
      go_wp2_with (go_at_call 27; refine HY.out.mono ?_; rintro e w' ⟨rfl, hq⟩; have hc := HF.out _ hq; have HQ := Lib.hid hq; clear hq)
      go_wp2
      go_ret
      exact ⟨rfl, HQ.out⟩
    · rw [hk] at s0
      have HY := Lib.hid (HX.out.2.2 hk)
      clear hk
      go_enter Tryd.func12, Tryd.ntmps12
      go_wp2_with (go_at_call 28; refine HY.out.mono ?_; rintro e w' ⟨rfl, hq⟩; have hc := HF.out _ hq; have HQ := Lib.hid hq; clear hq)
      go_wp2
      go_ret
      exact ⟨rfl, HQ.out⟩

end Go.Proofs.YtcciijdnegjkjaaDoor
