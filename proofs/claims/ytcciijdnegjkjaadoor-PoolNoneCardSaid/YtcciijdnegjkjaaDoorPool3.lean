/-
  Walks over package pool's steps, third part: take, same, back whole.
-/
import Derived.Test.YtcciijdnegjkjaaDoorPool2
namespace Go.Proofs.YtcciijdnegjkjaaDoor
open Go.RowKit

variable {W w : World} {F : SL} {bp bc bg n sp m : Nat} {ws : List Nat} {s : PStep}

theorem takeS_read (h : s.read = true) : takeS ws s = grabS ws { s with read := false } := by
  unfold takeS grabS
  rw [if_pos h]

set_option maxRecDepth 100000 in
set_option maxHeartbeats 400000 in
theorem take_read (hT : Tab W) (hw : WordsOk m ws) (hs : s.Ok m) (h : Sat W w (PoolSL bp bc bg n ws * (StepSL sp s * F))) (hk : s.kind = 0) (hr : s.read = true) :
    Calls Tryd.prog 26 #[.pointer (some ⟨bp, 0, none⟩), .pointer (some ⟨sp, 0, none⟩)] w (StepEnds W (PoolSL bp bc bg n (takeS ws s).1 * (StepSL sp (takeS ws s).2 * F))) := by
  rw [takeS_read hr]
  have hs' : ({ s with read := false } : PStep).Ok m := ⟨hs.kind, hs.seen, hs.words, hs.takes, hs.sames, hs.parts, hs.ports⟩
  obtain ⟨vw, vp, vo, h1⟩ := StepSL.open h.swap
  obtain ⟨_, _, _, _, s4, _, _, _, _, _, _, fs⟩ := StepB.facts h1
  rw [hr] at s4
  have f4 := fs 4
  have h2 := Lib.hid (StepSL.shut (h1.stRead false)).swap
  have HT := Lib.hid hT
  have HW := Lib.hid hw
  have HS := Lib.hid hs'
  clear hT hw hs hs' h h1 fs
  go_enter Tryd.func26, Tryd.ntmps26
  go_wp2_with (go_at_call 35; refine (grab_any HT.out HW.out HS.out h2.out hk).mono ?_; rintro e w' ⟨rfl, hq⟩)
  go_wp2
  refine bodyPost_ret (results_none rfl _ _ _) rfl ?_
  exact ⟨rfl, hq⟩

/-- take, whole. -/
theorem take_any (hT : Tab W) (hw : WordsOk m ws) (hs : s.Ok m) (h : Sat W w (PoolSL bp bc bg n ws * (StepSL sp s * F))) (hk : s.kind = 0) (hd : s.done = false) :
    Calls Tryd.prog 26 #[.pointer (some ⟨bp, 0, none⟩), .pointer (some ⟨sp, 0, none⟩)] w (StepEnds W (PoolSL bp bc bg n (takeS ws s).1 * (StepSL sp (takeS ws s).2 * F))) := by
  cases hr : s.read with
  | true => exact take_read hT hw hs h hk hr
  | false =>
    by_cases hf : freesOf (ws.getD s.word 0) = []
    · have e : takeS ws s = (ws, { s with seen := ws.getD s.word 0, words := s.words.set s.word (ws.getD s.word 0), word := (s.word + 1) % s.words.length, left := s.left - 1, done := decide (s.left - 1 = 0) }) := by
        unfold takeS
        rw [if_neg (by simp [hr]), if_pos hf]
      rw [e]
      exact take_full hw hs h hk hd hr hf
    · have e : takeS ws s = (ws, { s with seen := ws.getD s.word 0, read := true }) := by
        unfold takeS
        rw [if_neg (by simp [hr]), if_neg hf]
      rw [e]
      exact take_some hw hs h hk hr hf

set_option maxRecDepth 100000 in
set_option maxHeartbeats 800000 in
theorem same_any (hw : WordsOk m ws) (hs : s.Ok m) (h : Sat W w (PoolSL bp bc bg n ws * (StepSL sp s * F))) (hk : s.kind = 1) (hd : s.done = false) :
    Calls Tryd.prog 27 #[.pointer (some ⟨bp, 0, none⟩), .pointer (some ⟨sp, 0, none⟩)] w (StepEnds W (PoolSL bp bc bg n (sameS ws s).1 * (StepSL sp (sameS ws s).2 * F))) := by
  obtain ⟨vw, vp, vo, h1⟩ := StepSL.open h.swap
  obtain ⟨p0, _, q0, qb, _⟩ := PoolSL.facts h
  obtain ⟨_, s1, _, _, _, _, s6, _, _, s9, s10, fs⟩ := StepB.facts h1
  obtain ⟨hwl, _, hwd⟩ := hs.sames hk
  have hwd := hwd hd
  obtain ⟨hg, hlt⟩ := hw.get hwd
  have hv := qb _ _ hg
  have f1 := fs 1
  have f9 := fs 9
  have f10 := fs 10
  have hi : s.word < ws.length := by rw [hw.len]; exact hwd
  have h2 : Sat W w (Row 23 1 vw s.words.length (u64s s.words) * (StepB sp s vw vp vo * (RowAt 58 2 vp s.parts.length (partCells s.parts) * (Row 3 1 vo s.ports.length (i64s s.ports) * (PoolSL bp bc bg n ws * F))))) := h1.ac (by unfold StepR; ac_rfl)
  obtain ⟨a, cap, rfl, _, _, hrow⟩ := Row.at h2
  obtain ⟨gw, rfl, hcw, _⟩ := hrow (by omega)
  have hcw := hcw s.word _ (get_u64s (u := s.words.getD s.word 0) (by rw [List.getD_eq_getElem?_getD, List.getElem?_eq_getElem (by omega)]; rfl))
  have hne : gw ≠ sp := h2.ne_of (by
    rintro x ⟨_, hx | ⟨g', cap', cur', e, _, _, _, _, hx⟩⟩
    · simp at hx
    · simp at e
      obtain ⟨rfl, _⟩ := e
      exact SL.Has.blk _ _ x hx) StepB.has
  have hm3 := hw.most
  have hwl' : s.word < s.words.length := by omega
  have hb2 : s.words.length ≤ 32 := by omega
  have e1 : ws.getD s.word 0 = s.words.getD s.word 0 → Sat W ((((w.setCell ⟨sp, 1, none⟩ (.int .i64 ((s.word : Int) + 1))).setCell ⟨sp, 9, none⟩ (.bool ((s.word : Int) + 1 == (s.words.length : Int)))).setCell ⟨sp, 10, none⟩ (.bool ((s.word : Int) + 1 == (s.words.length : Int)))).drew.drew)
      (PoolSL bp bc bg n (sameS ws s).1 * (StepSL sp (sameS ws s).2 * F)) := fun e => by
    unfold sameS
    rw [if_pos e]
    have eb : decide (s.word + 1 = s.words.length) = ((s.word : Int) + 1 == (s.words.length : Int)) := by rw [Bool.eq_iff_iff]; simp; omega
    exact (StepSL.shut (((h1.stWord (s.word + 1) (v := .int .i64 ((s.word : Int) + 1)) (by simp)).stDone _ (congrArg Value.bool eb)).stAlike _ (congrArg Value.bool eb))).swap.drew.drew
  have e2 : ¬ ws.getD s.word 0 = s.words.getD s.word 0 → Sat W (w.setCell ⟨sp, 9, none⟩ (.bool true)).drew (PoolSL bp bc bg n (sameS ws s).1 * (StepSL sp (sameS ws s).2 * F)) := fun e => by
    unfold sameS
    rw [if_neg e]
    exact (StepSL.shut (h1.stDone true)).swap.drew
  generalize sameS ws s = G at *
  generalize ws.getD s.word 0 = U at *
  generalize s.words.getD s.word 0 = V at *
  generalize hL : s.words.length = L at *
  by_cases he : U = V
  · have HE := Lib.hid (e1 he)
    subst he
    clear e1 e2 h h1 h2 hw hs qb fs hrow hg hwl hL hwd
    go_enter Tryd.func27, Tryd.ntmps27
    go_wp2
    refine region_still (by kernel_rfl) (by kernel_rfl) ?_
    repeat still_step
    still_call (flip_same (Load_in _ _ _ _ _ _ w.drew q0 hi hv))
    repeat still_step
    refine wpStill_nil ?_
    go_wp2
    refine region_tail 13 (by kernel_rfl) (by kernel_rfl) ?_
    simp only [List.take_succ_cons, List.take_zero, List.drop_succ_cons, List.drop_zero]
    repeat still_step
    refine wpStill_nil ?_
    go_wp2
    refine bodyPost_end (results_none rfl _ _ _) rfl ?_
    exact ⟨rfl, HE.out⟩
  · have HE := Lib.hid (e2 he)
    have hb : ((U : Int) != (V : Int)) = true := by rw [bne_iff_ne]; omega
    clear e1 e2 h h1 h2 hw hs qb fs hrow hg hwl hL hwd
    go_enter Tryd.func27, Tryd.ntmps27
    go_wp2
    refine region_still (by kernel_rfl) (by kernel_rfl) ?_
    repeat still_step
    still_call (flip_same (Load_in _ _ _ _ _ _ w.drew q0 hi hv))
    repeat still_step
    refine wpStill_nil ?_
    go_wp2
    refine bodyPost_ret (results_none rfl _ _ _) rfl ?_
    exact ⟨rfl, HE.out⟩

end Go.Proofs.YtcciijdnegjkjaaDoor
