/-
  Package pool: New; the law's own run.
-/
import Derived.Test.YtcciijdnegjkjaaDoorPoolA
namespace Go.Proofs.YtcciijdnegjkjaaDoor
open Go.RowKit

variable {W w : World} {F : SL} {bp bc bg n sp m : Nat} {ws : List Nat} {s : PStep}

/-- The words of a new pool. -/
def newWords (n : Nat) : List Nat :=
  if n % 32 = 0 then List.replicate ((n + 31) / 32) 0
  else (List.replicate ((n + 31) / 32) 0).set ((n + 31) / 32 - 1) (4294967295 &&& (18446744073709551615 - (2 ^ (n % 32) - 1)))

theorem newWords_ok (h1 : 1 ≤ n) (h2 : n ≤ 1024) : WordsOk ((n + 31) / 32) (newWords n) where
  len := by unfold newWords; split <;> simp
  pos := by omega
  most := by omega
  lt := by
    unfold newWords
    split
    · intro u hu; simp at hu; omega
    · intro u hu
      rcases List.mem_or_eq_of_mem_set hu with hu | rfl
      · simp at hu; omega
      · exact Nat.lt_of_le_of_lt Nat.and_le_left (by decide)

/-- A new pool, returned. -/
def NewPool (W : World) (n : Nat) (F : SL) (e : Ending) (w' : World) : Prop :=
  ∃ bp bc bg, e = .returned (.tuple #[.pointer (some ⟨bp, 0, none⟩), .int .i64 0]) ∧ Sat W w' (PoolSL bp bc bg n (newWords n) * F)

theorem PoolSL.make {cs : Array Value} {M : Nat} (h : Sat W w (SL.blk bp (.cells #[.pointer (some ⟨bc, 0, none⟩), .int .i64 (n : Int)] 52 (0, 0)) * (SL.blk bc (.cells #[.slice (some ⟨bg, 0, none⟩) M M, .int .u32 0, .int .i32 0, .int .u32 0] 77 (0, 0)) * (SL.blk bg (.cells cs 89 (0, 0)) * F))))
    (e1 : M = ws.length) (e2 : cs = (u64s ws).toArray) : Sat W w (PoolSL bp bc bg n ws * F) := by
  subst e1 e2
  unfold PoolSL
  exact h.ac (by ac_rfl)

theorem new_key (r : Nat) (hr : r < 32) : bits BinOp.andNot IntKind.u64 4294967295 (IntKind.u64.wrap (IntKind.u64.wrap ((2 : Int) ^ r) - 1)) = ((4294967295 &&& (18446744073709551615 - (2 ^ r - 1)) : Nat) : Int) := by
  have h1 := pow_lt32 hr
  have h0 : 0 < 2 ^ r := Nat.two_pow_pos r
  rw [wrap_pow hr, show IntKind.u64.wrap (((2 ^ r : Nat) : Int) - 1) = ((2 ^ r - 1 : Nat) : Int) by rw [IntKind.wrap_u64]; generalize 2 ^ r = p at *; omega]
  exact u64_andNot_nat 4294967295 _ (by decide) (by generalize 2 ^ r = p at *; omega)

set_option maxRecDepth 100000 in
set_option maxHeartbeats 800000 in
theorem New_any (h1 : 1 ≤ n) (h2 : n ≤ 1024) (h : Sat W w F) :
    Calls Tryd.prog 6 #[.int .i64 (n : Int)] w (NewPool W n F) := by
  have hm : (((n + 31) / 32 : Nat) : Int) = ((n : Int) + 32 - 1) / 32 := by omega
  have H := Lib.hid h
  have hc := CellsNew_ok ((n + 31) / 32) w (by omega) (by omega)
  rw [hm] at hc
  have HC := Lib.hid hc
  clear hc h hm
  generalize hM : (n + 31) / 32 = M at *
  have hl0 : M = (newWords n).length := by rw [← hM, (newWords_ok h1 h2).len]
  have HL := Lib.hid hl0
  have HM := Lib.hid hM
  clear hl0 hM
  by_cases hr : n % 32 = 0
  · have hrb : ((n : Int) % 32 != 0) = false := by rw [bne_eq_false_iff_eq]; omega
    have hnw : newWords n = List.replicate M 0 := by rw [newWords, if_pos hr, HM.out]
    have HN := Lib.hid hnw
    clear hnw
    go_enter Tryd.func6, Tryd.ntmps6
    go_wp2_with (go_at_call 20; refine HC.out.mono ?_; rintro e w' ⟨rfl, rfl⟩)
    go_ret2
    refine ⟨w.heap.size + 2, w.heap.size + 1, w.heap.size, rfl, ?_⟩
    have k1 := ((H.out.alloc (.cells (Array.replicate M (.int .u64 0)) 89)).alloc (.cells #[.slice (some ⟨w.heap.size, 0, none⟩) M M, .int .u32 0, .int .i32 0, .int .u32 0] 77)).alloc (.cells #[.pointer (some ⟨w.heap.size + 1, 0, none⟩), .int .i64 (n : Int)] 52)
    simp only [World.size_alloc] at k1
    exact PoolSL.make k1 HL.out (by rw [HN.out]; simp [u64s])
  · have hrb : ((n : Int) % 32 != 0) = true := by rw [bne_iff_ne]; omega
    have hnw : newWords n = (List.replicate M 0).set (M - 1) (4294967295 &&& (18446744073709551615 - (2 ^ (n % 32) - 1))) := by rw [newWords, if_neg hr, HM.out]
    have hkey := new_key (n % 32) (by omega)
    have e3 : ((n % 32 : Nat) : Int) = (n : Int) % 32 := by omega
    have HN := Lib.hid hnw
    clear hnw
    have hM1 : 1 ≤ M := by have := HM.out; omega
    have hM2 : M ≤ 32 := by have := HM.out; omega
    have e4 := Lib.hid (show ((M : Int) - 1) = ((M - 1 : Nat) : Int) by omega)
    have hge1 : (0 : Int) ≤ (n : Int) % 32 := by omega
    have hge2 : (n : Int) % 32 < 32 := by omega
    go_enter Tryd.func6, Tryd.ntmps6
    go_wp2_with (go_at_call 20; refine HC.out.mono ?_; rintro e w' ⟨rfl, rfl⟩)
    refine region_tail 8 (by kernel_rfl) (by kernel_rfl) ?_
    simp only [List.take_succ_cons, List.take_zero, List.drop_succ_cons, List.drop_zero]
    repeat still_step
    still_call (flip_same (Size_any (w.heap.size + 1) M (some ⟨w.heap.size, 0, none⟩) M _ (by simp)))
    repeat still_step
    refine wpStill_nil ?_
    go_wp2_with (go_at_call 21; rw [hkey, e4.out]; refine (Store_in (w.heap.size + 1) w.heap.size M (M - 1) M 0 _ _ (by simp) (by omega) ?s1 ?s2).mono ?_)
    case s1 => rw [World.cell?_drew, World.cell?_alloc2_first, Array.getElem?_replicate, if_pos (by omega)]
    case s2 => simp
    rintro e w' ⟨rfl, rfl⟩
    go_wp2
    go_ret2
    refine ⟨w.heap.size + 2, w.heap.size + 1, w.heap.size, rfl, ?_⟩
    have k1 := ((H.out.alloc (.cells ((Array.replicate M (.int .u64 0)).setIfInBounds (M - 1) (.int .u64 ((4294967295 &&& (18446744073709551615 - (2 ^ (n % 32) - 1)) : Nat) : Int))) 89)).alloc (.cells #[.slice (some ⟨w.heap.size, 0, none⟩) M M, .int .u32 0, .int .i32 0, .int .u32 0] 77)).alloc (.cells #[.pointer (some ⟨w.heap.size + 1, 0, none⟩), .int .i64 (n : Int)] 52)
    simp only [World.size_alloc] at k1
    exact (PoolSL.make k1 HL.out (by rw [HN.out, ← List.toArray_replicate, List.setIfInBounds_toArray]; simp [u64s, List.map_set])).drew

end Go.Proofs.YtcciijdnegjkjaaDoor
