/-
  Walks over package pool's steps, fifth part: back with a part before it.
-/
import Derived.Test.YtcciijdnegjkjaaDoorPool4
namespace Go.Proofs.YtcciijdnegjkjaaDoor
open Go.RowKit

variable {W w : World} {F : SL} {bp bc bg n sp m : Nat} {ws : List Nat} {s : PStep}

theorem cell_more {w : World} {a : Addr} {v : Value} {o : Obj} (h : w.cell? a = some v) : (w.alloc o).drew.cell? a = some v := by
  rw [World.cell?_drew, World.cell?_alloc_lt _ _ _ (World.block_lt_of_cell? _ _ h), h]

theorem cell_later_r {w : World} {a b : Addr} {v x : Value} {o : Obj} (h : w.cell? a = some v) (hne : b ≠ a) : ((w.setCell b x).alloc o).drew.cell? a = some v := by
  have : (w.setCell b x).cell? a = some v := by rw [World.cell?_setCell_other _ _ _ _ hne, h]
  rw [World.cell?_drew, World.cell?_alloc_lt _ _ _ (World.block_lt_of_cell? _ _ this), this]
theorem free_later_r {w : World} {a b : Addr} {x : Value} {o : Obj} (h : w.frozen? a = false) (hl : a.block < w.heap.size) : ((w.setCell b x).alloc o).drew.frozen? a = false := by
  rw [World.frozen?_drew, World.frozen?_alloc_old _ _ _ (by simp; omega), World.frozen?_setCell, h]

theorem and_nat {u k : Nat} (hu : u < 18446744073709551616) (hk : k < 4294967296) : bits BinOp.and IntKind.u64 (u : Int) (k : Int) = ((u &&& k : Nat) : Int) := u64_and_nat u k hu (by omega)

theorem done_len {α : Type} [DecidableEq α] (l : List α) : Value.bool (decide (l = [])) = Value.bool ((l.length : Int) == 0) := by
  cases l <;> simp
  omega

theorem andNot_key {u mask : Nat} (hu : u < 18446744073709551616) (hm : mask < 4294967296) : bits BinOp.andNot IntKind.u64 ((u : Int) % 4294967296) (mask : Int) = ((u % 4294967296 &&& (18446744073709551615 - mask) : Nat) : Int) := by
  have := u64_andNot_nat (u % 4294967296) mask (by omega) (by omega)
  rw [← this]
  congr 1

set_option maxRecDepth 100000 in
set_option maxHeartbeats 800000 in
theorem back_read (hw : WordsOk m ws) (hs : s.Ok m) (h : Sat W w (PoolSL bp bc bg n ws * (StepSL sp s * F))) {k mask : Nat} {rest : List (Nat × Nat)} (hp : s.parts = (k, mask) :: rest) (hr : s.read = false) :
    Calls Tryd.prog 28 #[.pointer (some ⟨bp, 0, none⟩), .pointer (some ⟨sp, 0, none⟩)] w (StepEnds W (PoolSL bp bc bg n (backS ws s).1 * (StepSL sp (backS ws s).2 * F))) := by
  obtain ⟨vw, g, off, cap, vo, h1, hcap, c0, c1, n1, n2, n3⟩ := back_open hw hs h hp
  obtain ⟨p0, _, q0, qb, _⟩ := PoolSL.facts h
  obtain ⟨_, _, _, _, s4, s5, _, s7, _, s9, _, fs⟩ := StepB.facts h1
  obtain ⟨hk, hmask⟩ := hs.parts (k, mask) (by rw [hp]; simp)
  obtain ⟨hg, hlt⟩ := hw.get hk
  have hv := qb _ _ hg
  rw [hr] at s4
  have f4 := fs 4
  have f5 := fs 5
  have f7 := fs 7
  have f9 := fs 9
  have hi : k < ws.length := by rw [hw.len]; exact hk
  have hand := and_nat hlt hmask
  have b1 := World.block_lt_of_cell? _ _ c0
  have b2 := World.block_lt_of_cell? _ _ s4
  have b3 := World.block_lt_of_cell? _ _ p0
  have b4 := World.block_lt_of_cell? _ _ q0
  have b5 := World.block_lt_of_cell? _ _ hv
  simp only at b1 b2 b3 b4 b5
  have H1 := Lib.hid h1
  have HP := Lib.hid hp
  have e0 := backS_cons (ws := ws) hp
  rw [if_neg (by simp [hr])] at e0
  have hm0 : m ≤ 32 := hw.most
  by_cases hq : ws.getD k 0 &&& mask = 0
  · rw [if_pos hq] at e0
    rw [e0]
    rw [hq] at hand
    generalize ws.getD k 0 = u at *
    clear h h1 hp e0 qb fs hs hw hg hq
    by_cases hc : cap = 1
    · have hrl : rest.length = 0 := by omega
      have hrn := Lib.hid (List.eq_nil_of_length_eq_zero hrl)
      have HRL := Lib.hid hrl
      rw [hrl] at s7
      subst hc
      clear hrl
      go_enter Tryd.func28, Tryd.ntmps28
      go_wp2
      refine region_tail 10 (by kernel_rfl) (by kernel_rfl) ?_
      simp only [List.take_succ_cons, List.take_zero, List.drop_succ_cons, List.drop_zero]
      repeat still_step
      still_call (flip_same (Load_in _ _ _ _ _ _ _ (cell_more q0) hi (cell_more hv)))
      repeat still_step
      refine wpStill_nil ?_
      go_wp2
      refine region_tail 11 (by kernel_rfl) (by kernel_rfl) ?_
      simp only [List.take_succ_cons, List.take_zero, List.drop_succ_cons, List.drop_zero]
      repeat still_step
      refine wpStill_nil ?_
      go_wp2
      refine bodyPost_end (results_none rfl _ _ _) rfl ?_
      refine ⟨rfl, ?_⟩
      refine Sat.swap (back_rest (k := k) (mask := mask) (rest := rest) (g := g) (off := off) (cap := 1) (vw := vw) (vo := vo) HP.out rfl rfl rfl ?_)
      rw [if_pos rfl, HRL.out, hrn.out]
      have k1 := H1.out
      rw [HRL.out] at k1
      exact Sat.drew (Sat.drew (Sat.forget ((((k1.stSeen u).stRead false).stVparts rest _).stDone true) _))
    · have hc1 : 1 < cap := by omega
      go_enter Tryd.func28, Tryd.ntmps28
      go_wp2
      refine region_tail 10 (by kernel_rfl) (by kernel_rfl) ?_
      simp only [List.take_succ_cons, List.take_zero, List.drop_succ_cons, List.drop_zero]
      repeat still_step
      still_call (flip_same (Load_in _ _ _ _ _ _ _ (cell_more q0) hi (cell_more hv)))
      repeat still_step
      refine wpStill_nil ?_
      go_wp2
      refine region_tail 11 (by kernel_rfl) (by kernel_rfl) ?_
      simp only [List.take_succ_cons, List.take_zero, List.drop_succ_cons, List.drop_zero]
      repeat still_step
      refine wpStill_nil ?_
      go_wp2
      refine bodyPost_end (results_none rfl _ _ _) rfl ?_
      refine ⟨rfl, ?_⟩
      refine Sat.swap (back_rest (k := k) (mask := mask) (rest := rest) (g := g) (off := off) (cap := cap) (vw := vw) (vo := vo) HP.out rfl rfl rfl ?_)
      rw [if_neg hc]
      exact Sat.drew (Sat.drew (Sat.forget ((((H1.out.stSeen u).stRead false).stVparts rest _).stDone _ (done_len rest)) _))
  · rw [if_neg hq] at e0
    rw [e0]
    generalize ws.getD k 0 &&& mask = q at *
    have hqb : ((q : Int) != 0) = true := by rw [bne_iff_ne]; omega
    generalize ws.getD k 0 = u at *
    clear h h1 hp e0 qb fs hs hw hg hq
    go_enter Tryd.func28, Tryd.ntmps28
    go_wp2
    refine region_tail 10 (by kernel_rfl) (by kernel_rfl) ?_
    simp only [List.take_succ_cons, List.take_zero, List.drop_succ_cons, List.drop_zero]
    repeat still_step
    still_call (flip_same (Load_in _ _ _ _ _ _ _ (cell_more q0) hi (cell_more hv)))
    repeat still_step
    refine wpStill_nil ?_
    go_wp2
    refine region_tail 11 (by kernel_rfl) (by kernel_rfl) ?_
    simp only [List.take_succ_cons, List.take_zero, List.drop_succ_cons, List.drop_zero]
    repeat still_step
    refine wpStill_nil ?_
    go_wp2
    refine bodyPost_ret (results_none rfl _ _ _) rfl ?_
    refine ⟨rfl, ?_⟩
    refine Sat.swap (StepSL.shut (vw := vw) (vp := .slice (some ⟨g, off, none⟩) (rest.length + 1) cap) (vo := vo) ?_)
    exact Sat.drew (Sat.drew (Sat.forget ((H1.out.stSeen u).stRead true) _))

end Go.Proofs.YtcciijdnegjkjaaDoor
