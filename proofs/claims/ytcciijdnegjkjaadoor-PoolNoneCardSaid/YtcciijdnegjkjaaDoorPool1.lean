/-
  Walks over package pool's steps, in one goroutine's hands: what Do does to the words and to the step.
-/
import Derived.Test.YtcciijdnegjkjaaDoorCells
import Derived.Test.YtcciijdnegjkjaaDoorPoolDefs
import Derived.Deep.QuietTactic
import Derived.BigQuiet
import Derived.StillTailTactics
import Derived.Lib.Hide
namespace Go.Proofs.YtcciijdnegjkjaaDoor
open Go.RowKit

theorem flip_same {P : Program} {f : FuncId} {args : Array Value} {w : World} {v : Value} (h : Calls P f args w fun e w' => e = .returned v ∧ w = w') : Calls P f args w fun e w' => e = .returned v ∧ w' = w := h.mono fun _ _ h => ⟨h.1, h.2.symm⟩

theorem region_tail {P : Program} {id : Nat} {Q : Exit → Act → World → Prop} {a : Act} {w : World} {l : List Oper} (n : Nat) (hm : P.follows .mixedOrders = true) (hB : Region.lexTailB .any l.toArray n = true)
    (h : wpStill P l.toArray w.drew (fun a' => wpList P l.toArray Q (l.drop n) a' w.drew) (l.take n) a) : (Code.region id l.toArray true).wp P Q a w := wp_region_still_tail n hm hB h

theorem region_still {P : Program} {id : Nat} {Q : Exit → Act → World → Prop} {a : Act} {w : World} {l : List Oper} (hm : P.follows .mixedOrders = true) (hB : Region.lexB .any l.toArray = true)
    (h : wpStill P l.toArray w.drew (fun a' => Q .normal a' w.drew) l a) : (Code.region id l.toArray true).wp P Q a w := wp_region_still_lit hm hB h

variable {W w : World} {F : SL} {bp bc bg n sp m : Nat} {ws : List Nat} {s : PStep}

/-- A step's end: nothing returned, and the heap as it should be. -/
def StepEnds (W : World) (P : SL) (e : Ending) (w' : World) : Prop := e = .returned (.tuple #[]) ∧ Sat W w' P

theorem low_test {u : Nat} (hu : u < 18446744073709551616) : bits BinOp.and IntKind.u64 (u : Int) 4294967295 = ((u % 4294967296 : Nat) : Int) := by
  have := u64_and_nat u 4294967295 hu (by decide)
  rw [show ((4294967295 : Nat) : Int) = 4294967295 from rfl] at this
  rw [this, Nat.and_two_pow_sub_one_eq_mod u 32]

set_option maxRecDepth 100000 in
set_option maxHeartbeats 400000 in
theorem take_some (hw : WordsOk m ws) (hs : s.Ok m) (h : Sat W w (PoolSL bp bc bg n ws * (StepSL sp s * F))) (hk : s.kind = 0) (hr : s.read = false) (hf : ¬ freesOf (ws.getD s.word 0) = []) :
    Calls Tryd.prog 26 #[.pointer (some ⟨bp, 0, none⟩), .pointer (some ⟨sp, 0, none⟩)] w (StepEnds W (PoolSL bp bc bg n ws * (StepSL sp { s with seen := ws.getD s.word 0, read := true } * F))) := by
  obtain ⟨vw, vp, vo, h1⟩ := StepSL.open h.swap
  obtain ⟨p0, _, q0, qb, _⟩ := PoolSL.facts h
  obtain ⟨_, s1, _, _, s4, s5, _, _, _, _, _, fs⟩ := StepB.facts h1
  obtain ⟨_, hwd, _⟩ := hs.takes hk
  obtain ⟨hg, hlt⟩ := hw.get hwd
  have hv := qb _ _ hg
  rw [hr] at s4
  have f4 := fs 4
  have f5 := fs 5
  have hlow : (bits BinOp.and IntKind.u64 ((ws.getD s.word 0 : Nat) : Int) 4294967295 != 4294967295) = true := by
    rw [low_test hlt, bne_iff_ne]
    intro e
    exact hf ((freesOf_nil _).2 (by omega))
  have hi : s.word < ws.length := by rw [hw.len]; exact hwd
  have hend : Sat W ((w.setCell ⟨sp, 5, none⟩ (.int .u64 (ws.getD s.word 0 : Nat))).setCell ⟨sp, 4, none⟩ (.bool true)).drew (PoolSL bp bc bg n ws * (StepSL sp { s with seen := ws.getD s.word 0, read := true } * F)) :=
    (StepSL.shut ((h1.stSeen _).stRead true)).swap.drew
  have HE := Lib.hid hend
  clear hend h h1 qb fs hs hw hf
  generalize ws.getD s.word 0 = u at *
  go_enter Tryd.func26, Tryd.ntmps26
  go_wp2
  refine region_tail 12 (by kernel_rfl) (by kernel_rfl) ?_
  simp only [List.take_succ_cons, List.take_zero, List.drop_succ_cons, List.drop_zero]
  repeat still_step
  still_call (flip_same (Load_in _ _ _ _ _ _ w.drew q0 hi hv))
  repeat still_step
  refine wpStill_nil ?_
  go_wp2
  refine bodyPost_ret (results_none rfl _ _ _) rfl ?_
  exact ⟨rfl, HE.out⟩

set_option maxRecDepth 100000 in
set_option maxHeartbeats 800000 in
theorem take_full (hw : WordsOk m ws) (hs : s.Ok m) (h : Sat W w (PoolSL bp bc bg n ws * (StepSL sp s * F))) (hk : s.kind = 0) (hd : s.done = false) (hr : s.read = false) (hf : freesOf (ws.getD s.word 0) = []) :
    Calls Tryd.prog 26 #[.pointer (some ⟨bp, 0, none⟩), .pointer (some ⟨sp, 0, none⟩)] w
      (StepEnds W (PoolSL bp bc bg n ws * (StepSL sp { s with seen := ws.getD s.word 0, words := s.words.set s.word (ws.getD s.word 0), word := (s.word + 1) % s.words.length, left := s.left - 1, done := decide (s.left - 1 = 0) } * F))) := by
  obtain ⟨vw, vp, vo, h1⟩ := StepSL.open h.swap
  obtain ⟨p0, _, q0, qb, _⟩ := PoolSL.facts h
  obtain ⟨_, s1, s2, _, s4, s5, s6, _, _, s9, _, fs⟩ := StepB.facts h1
  obtain ⟨hwl, hwd, hl, hm1, hm2, hl1⟩ := hs.takes hk
  have hl1 := hl1 hd
  have hm3 := hw.most
  obtain ⟨hg, hlt⟩ := hw.get hwd
  have hv := qb _ _ hg
  rw [hr] at s4
  have f1 := fs 1
  have f2 := fs 2
  have f4 := fs 4
  have f5 := fs 5
  have f9 := fs 9
  have hlow : (bits BinOp.and IntKind.u64 ((ws.getD s.word 0 : Nat) : Int) 4294967295 != 4294967295) = false := by
    rw [low_test hlt, bne_eq_false_iff_eq]
    have := (freesOf_nil _).1 hf
    omega
  have hi : s.word < ws.length := by rw [hw.len]; exact hwd
  have h2 : Sat W w (Row 23 1 vw s.words.length (u64s s.words) * (StepB sp s vw vp vo * (RowAt 58 2 vp s.parts.length (partCells s.parts) * (Row 3 1 vo s.ports.length (i64s s.ports) * (PoolSL bp bc bg n ws * F))))) := h1.ac (by unfold StepR; ac_rfl)
  obtain ⟨_, ⟨_, hn, _⟩ | ⟨gw, cap, cur, rfl, a1, a2, a3, a4, h3⟩⟩ := Row.open h2
  · omega
  have hne : gw ≠ sp := h3.ne_of (SL.Has.blk _ _) StepB.has
  have hne' : sp ≠ gw := fun e => hne e.symm
  have hcw : cur[s.word]? = some (.int .u64 (s.words.getD s.word 0 : Nat)) := by
    have hx : (u64s s.words)[s.word]? = some (.int .u64 (s.words.getD s.word 0 : Nat)) := get_u64s (by rw [List.getD_eq_getElem?_getD, List.getElem?_eq_getElem (by omega)]; rfl)
    rw [← a4, List.getElem?_take] at hx
    have hx' : s.word < s.words.length := by omega
    simpa [hx'] using hx
  have c0 := h3.cell s.word
  rw [hcw] at c0
  have fw := h3.free s.word
  generalize hu : ws.getD s.word 0 = u at *
  have hend : Sat W (((((w.setCell ⟨sp, 5, none⟩ (.int .u64 u)).setCell ⟨gw, s.word, none⟩ (.int .u64 u)).setCell ⟨sp, 1, none⟩ (.int .i64 (((s.word : Int) + 1) % (s.words.length : Int)))).setCell ⟨sp, 2, none⟩ (.int .i64 ((s.left : Int) - 1))).setCell ⟨sp, 9, none⟩ (.bool ((s.left : Int) - 1 == 0))).drew.drew.drew
      (PoolSL bp bc bg n ws * (StepSL sp { s with seen := u, words := s.words.set s.word u, word := (s.word + 1) % s.words.length, left := s.left - 1, done := decide (s.left - 1 = 0) } * F)) := by
    have k1 := ((h3.swap.stSeen u).swap.set s.word (.int .u64 (u : Int)))
    have k2 := Row.blk_in (size := 1) k1 s.words.length a1 a2 (by simpa using a3)
    have e : ((cur.setIfInBounds s.word (.int .u64 (u : Int))).toList.take (s.words.length * 1)) = u64s (s.words.set s.word u) := by
      rw [← u64s_set, ← a4, Array.toList_setIfInBounds, List.take_set]
    rw [e] at k2
    have k3 := (((k2.swap.stWords (s.words.set s.word u)).stWord ((s.word + 1) % s.words.length) (v := .int .i64 (((s.word : Int) + 1) % (s.words.length : Int))) (by simp)).stLeft (s.left - 1) (v := .int .i64 ((s.left : Int) - 1)) (by rw [Int.natCast_sub hl1]; rfl)).stDone (decide (s.left - 1 = 0)) (v := .bool ((s.left : Int) - 1 == 0)) (by congr 1; rw [Bool.eq_iff_iff]; simp; omega)
    refine (StepSL.shut (vw := .slice (some ⟨gw, 0, none⟩) s.words.length cap) (vp := vp) (vo := vo) ?_).swap.drew.drew.drew
    refine k3.ac ?_
    unfold StepR
    simp only [List.length_set]
    ac_rfl
  have HE := Lib.hid hend
  have hwl' : s.word < s.words.length := by omega
  have hpos : 0 < s.words.length := by omega
  have hb2 : s.words.length ≤ 32 := by omega
  have hz : ¬ s.words = [] := by intro e; rw [e] at hpos; simp at hpos
  clear hend h h1 h2 h3 qb fs hs hw hf hwl hcw a4
  go_enter Tryd.func26, Tryd.ntmps26
  go_wp2
  refine region_tail 12 (by kernel_rfl) (by kernel_rfl) ?_
  simp only [List.take_succ_cons, List.take_zero, List.drop_succ_cons, List.drop_zero]
  repeat still_step
  still_call (flip_same (Load_in _ _ _ _ _ _ w.drew q0 hi hv))
  repeat still_step
  refine wpStill_nil ?_
  go_wp2
  refine region_tail 13 (by kernel_rfl) (by kernel_rfl) ?_
  simp only [List.take_succ_cons, List.take_zero, List.drop_succ_cons, List.drop_zero]
  repeat still_step
  refine wpStill_nil ?_
  go_wp2
  refine region_tail 14 (by kernel_rfl) (by kernel_rfl) ?_
  simp only [List.take_succ_cons, List.take_zero, List.drop_succ_cons, List.drop_zero]
  repeat still_step
  refine wpStill_nil ?_
  go_wp2
  refine bodyPost_end (results_none rfl _ _ _) rfl ?_
  exact ⟨rfl, HE.out⟩

end Go.Proofs.YtcciijdnegjkjaaDoor
