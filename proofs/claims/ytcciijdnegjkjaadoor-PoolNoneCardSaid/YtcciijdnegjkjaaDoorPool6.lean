/-
  Walks over package pool's steps, sixth part: back with a Cas before it.
-/
import Derived.Test.YtcciijdnegjkjaaDoorPool5
namespace Go.Proofs.YtcciijdnegjkjaaDoor
open Go.RowKit

variable {W w : World} {F : SL} {bp bc bg n sp m : Nat} {ws : List Nat} {s : PStep}

set_option maxRecDepth 100000 in
set_option maxHeartbeats 1600000 in
theorem back_cas (hw : WordsOk m ws) (hs : s.Ok m) (h : Sat W w (PoolSL bp bc bg n ws * (StepSL sp s * F))) {k mask : Nat} {rest : List (Nat × Nat)} (hp : s.parts = (k, mask) :: rest) (hr : s.read = true) :
    Calls Tryd.prog 28 #[.pointer (some ⟨bp, 0, none⟩), .pointer (some ⟨sp, 0, none⟩)] w (StepEnds W (PoolSL bp bc bg n (backS ws s).1 * (StepSL sp (backS ws s).2 * F))) := by
  obtain ⟨vw, g, off, cap, vo, h1, hcap, c0, c1, n1, n2, n3⟩ := back_open hw hs h hp
  obtain ⟨p0, _, q0, qb, fb⟩ := PoolSL.facts h
  obtain ⟨_, _, _, _, s4, s5, _, s7, _, s9, _, fs⟩ := StepB.facts h1
  obtain ⟨hk, hmask⟩ := hs.parts (k, mask) (by rw [hp]; simp)
  obtain ⟨hg, hlt⟩ := hw.get hk
  have hv := qb _ _ hg
  rw [hr] at s4
  have f4 := fs 4
  have f5 := fs 5
  have f7 := fs 7
  have f9 := fs 9
  have fg := fb k
  have hi : k < ws.length := by rw [hw.len]; exact hk
  have hseen := hs.seen
  have hand := andNot_key hseen hmask
  have hand0 : bits BinOp.and IntKind.u64 (s.seen : Int) 4294967295 = (s.seen : Int) % 4294967296 := by rw [low_test hseen]; rfl
  have hlow : s.seen % 4294967296 &&& (18446744073709551615 - mask) < 4294967296 := Nat.lt_of_le_of_lt Nat.and_le_left (by omega)
  have b1 := World.block_lt_of_cell? _ _ c0
  have b2 := World.block_lt_of_cell? _ _ s4
  have b3 := World.block_lt_of_cell? _ _ p0
  have b4 := World.block_lt_of_cell? _ _ q0
  have b5 := World.block_lt_of_cell? _ _ hv
  simp only at b1 b2 b3 b4 b5
  have H1 := Lib.hid h1
  have HP := Lib.hid hp
  have e0 := backS_cons (ws := ws) hp
  rw [if_pos hr] at e0
  have hm0 : m ≤ 32 := hw.most
  by_cases hq : ws.getD k 0 = s.seen
  · rw [if_pos hq] at e0
    rw [e0]
    rw [show ((ws.getD k 0 : Nat) : Int) = (s.seen : Int) by rw [hq]] at hv
    generalize hZ : s.seen % 4294967296 &&& (18446744073709551615 - mask) = Z at *
    clear h h1 hp e0 qb fs hs hw hg hq hZ fb
    by_cases hc : cap = 1
    · have hrl : rest.length = 0 := by omega
      have hrn := Lib.hid (List.eq_nil_of_length_eq_zero hrl)
      have HRL := Lib.hid hrl
      rw [hrl] at s7
      subst hc
      clear hrl
      go_enter Tryd.func28, Tryd.ntmps28
      go_wp2
      refine region_tail 23 (by kernel_rfl) (by kernel_rfl) ?_
      simp only [List.take_succ_cons, List.take_zero, List.drop_succ_cons, List.drop_zero]
      repeat still_step
      still_call (flip_same (changed_any _ _ hseen hlow _))
      repeat still_step
      refine wpStill_nil ?_
      go_wp2_with (go_at_call 36; refine (Cas_hit _ _ _ _ _ _ _ _ (cell_later_r q0 (by simp)) hi (cell_later_r hv (by simp [n3])) (free_later_r fg b5)).mono ?_; rintro e w' ⟨rfl, rfl⟩)
      go_wp2
      refine bodyPost_end (results_none rfl _ _ _) rfl ?_
      refine ⟨rfl, ?_⟩
      refine Sat.swap (back_rest (k := k) (mask := mask) (rest := rest) (g := g) (off := off) (cap := 1) (vw := vw) (vo := vo) HP.out rfl rfl rfl ?_)
      rw [if_pos rfl, HRL.out, hrn.out]
      have k1 := H1.out
      rw [HRL.out] at k1
      have k2 := (((((k1.stRead false).ac (by ac_rfl) : Sat W _ (PoolSL bp bc bg n ws * (StepB sp { s with read := false } vw (.slice (some ⟨g, off, none⟩) (0 + 1) 1) vo * (StepR s vw (.slice (some ⟨g, off, none⟩) (0 + 1) 1) vo * F)))).poolSet k (changedN s.seen Z)).swap.stVparts rest (.slice (some ⟨g, off, none⟩) 0 0)).stDone true)
      exact Sat.drew (Sat.forget (k2.ac (by ac_rfl)) _)
    · have hc1 : 1 < cap := by omega
      go_enter Tryd.func28, Tryd.ntmps28
      go_wp2
      refine region_tail 23 (by kernel_rfl) (by kernel_rfl) ?_
      simp only [List.take_succ_cons, List.take_zero, List.drop_succ_cons, List.drop_zero]
      repeat still_step
      still_call (flip_same (changed_any _ _ hseen hlow _))
      repeat still_step
      refine wpStill_nil ?_
      go_wp2_with (go_at_call 36; refine (Cas_hit _ _ _ _ _ _ _ _ (cell_later_r q0 (by simp)) hi (cell_later_r hv (by simp [n3])) (free_later_r fg b5)).mono ?_; rintro e w' ⟨rfl, rfl⟩)
      go_wp2
      refine bodyPost_end (results_none rfl _ _ _) rfl ?_
      refine ⟨rfl, ?_⟩
      refine Sat.swap (back_rest (k := k) (mask := mask) (rest := rest) (g := g) (off := off) (cap := cap) (vw := vw) (vo := vo) HP.out rfl rfl rfl ?_)
      rw [if_neg hc]
      have k2 := (((((H1.out.stRead false).ac (by ac_rfl) : Sat W _ (PoolSL bp bc bg n ws * (StepB sp { s with read := false } vw (.slice (some ⟨g, off, none⟩) (rest.length + 1) cap) vo * (StepR s vw (.slice (some ⟨g, off, none⟩) (rest.length + 1) cap) vo * F)))).poolSet k (changedN s.seen Z)).swap.stVparts rest (.slice (some ⟨g, off + 2, none⟩) rest.length (cap - 1))).stDone _ (done_len rest))
      exact Sat.drew (Sat.forget (k2.ac (by ac_rfl)) _)
  · rw [if_neg hq] at e0
    rw [e0]
    have hq' : ¬ ((ws.getD k 0 : Nat) : Int) = (s.seen : Int) := by omega
    generalize hZ : s.seen % 4294967296 &&& (18446744073709551615 - mask) = Z at *
    generalize ws.getD k 0 = u at *
    clear h h1 hp e0 qb fs hs hw hg hq hZ fb
    go_enter Tryd.func28, Tryd.ntmps28
    go_wp2
    refine region_tail 23 (by kernel_rfl) (by kernel_rfl) ?_
    simp only [List.take_succ_cons, List.take_zero, List.drop_succ_cons, List.drop_zero]
    repeat still_step
    still_call (flip_same (changed_any _ _ hseen hlow _))
    repeat still_step
    refine wpStill_nil ?_
    go_wp2_with (go_at_call 36; refine (Cas_miss _ _ _ _ _ _ _ _ _ (cell_later_r q0 (by simp)) hi (cell_later_r hv (by simp [n3])) (free_later_r fg b5) hq').mono ?_; rintro e w' ⟨rfl, rfl⟩)
    go_wp2
    refine bodyPost_ret (results_none rfl _ _ _) rfl ?_
    refine ⟨rfl, ?_⟩
    refine Sat.swap (StepSL.shut (vw := vw) (vp := .slice (some ⟨g, off, none⟩) (rest.length + 1) cap) (vo := vo) ?_)
    exact Sat.drew (Sat.forget (H1.out.stRead false) _)

end Go.Proofs.YtcciijdnegjkjaaDoor
