/-
  Package pool: New, Take, and what may be asked of a step.
-/
import Derived.Test.YtcciijdnegjkjaaDoorPool7
namespace Go.Proofs.YtcciijdnegjkjaaDoor
open Go.RowKit

variable {W w : World} {F : SL} {bp bc bg n sp m : Nat} {ws : List Nat} {s : PStep}

/-- A new Take. -/
def takeNew (fr mo : Int) (m : Nat) : PStep :=
  { kind := 0, word := (fr % 18446744073709551616).toNat % m, left := m, most := (min (max mo 1) 32).toNat, words := List.replicate m 0 }

theorem takeNew_ok (fr mo : Int) (hm : 1 ≤ m) : (takeNew fr mo m).Ok m where
  kind := .inl rfl
  seen := by simp [takeNew]
  words := by simp [takeNew]
  takes := fun _ => ⟨by simp [takeNew], Nat.mod_lt _ hm, Nat.le_refl _, by simp [takeNew]; omega, by simp [takeNew]; omega, fun _ => hm⟩
  sames := by simp [takeNew]
  parts := by simp [takeNew]
  ports := by simp [takeNew]

/-- A new step, returned. -/
def NewStep (W : World) (s : PStep) (F : SL) (e : Ending) (w' : World) : Prop := ∃ sp, e = .returned (.pointer (some ⟨sp, 0, none⟩)) ∧ Sat W w' (StepSL sp s * F)

theorem take_word (fr mo : Int) (hm1 : 1 ≤ m) (hm2 : m ≤ 32) : wrap64 ((IntKind.u64.wrap fr).tmod (m : Int)) = (((takeNew fr mo m).word : Nat) : Int) := by
  have h1 : 0 ≤ fr % 18446744073709551616 := by omega
  have h2 : fr % 18446744073709551616 = (((fr % 18446744073709551616).toNat : Nat) : Int) := by omega
  rw [IntKind.wrap_u64, Int.tmod_eq_emod_of_nonneg h1]
  have h3 := Int.emod_lt_of_pos (fr % 18446744073709551616) (show 0 < (m : Int) by omega)
  have h4 := Int.emod_nonneg (fr % 18446744073709551616) (show (m : Int) ≠ 0 by omega)
  rw [IntWalk.wrap64_in _ ⟨by omega, by omega⟩]
  unfold takeNew
  rw [h2]
  simp

theorem take_end {x y : Int} {fr mo : Int} (h : Sat W w (PoolSL bp bc bg n ws * F)) (hw : WordsOk m ws) (hx : x = (((takeNew fr mo m).word : Nat) : Int)) (hy : y = (((takeNew fr mo m).most : Nat) : Int)) :
    NewStep W (takeNew fr mo m) (PoolSL bp bc bg n ws * F) (.returned (.pointer (some ⟨w.heap.size + 1, 0, none⟩)))
      ((w.alloc (.cells (Array.replicate m (.int .u64 0)) 23)).alloc (.cells #[.int .i64 0, .int .i64 x, .int .i64 (m : Int), .int .i64 y, .bool false, .int .u64 0, .slice (some ⟨w.heap.size, 0, none⟩) m m, .slice none 0 0, .slice none 0 0, .bool false, .bool false] 55)).drew := by
  refine ⟨w.heap.size + 1, rfl, ?_⟩
  subst hx
  subst hy
  have k1 := Row.blk_in (size := 1) (h.alloc (.cells (Array.replicate m (.int .u64 0)) 23)) m (Nat.le_refl _) (by have := hw.most; unfold maxLen; omega) (by simp)
  have k2 := k1.alloc (.cells #[.int .i64 0, .int .i64 (((takeNew fr mo m).word : Nat) : Int), .int .i64 (m : Int), .int .i64 (((takeNew fr mo m).most : Nat) : Int), .bool false, .int .u64 0, .slice (some ⟨w.heap.size, 0, none⟩) m m, .slice none 0 0, .slice none 0 0, .bool false, .bool false] 55)
  have e3 : (w.alloc (.cells (Array.replicate m (.int .u64 0)) 23)).heap.size = w.heap.size + 1 := by simp
  rw [e3] at k2
  have k3 := Row.nil_in 3 1 k2
  have k4 := (Row.nil_in 58 2 k3).left Row.le_at
  have k5 := k4.ac (SL.sep_comm4 _ _ _ _ _)
  exact (StepSL.make k5 rfl (by simp [takeNew]) (by simp [takeNew, u64s]) rfl rfl rfl rfl).drew

set_option maxRecDepth 100000 in
set_option maxHeartbeats 800000 in
theorem Take_any (hw : WordsOk m ws) (fr mo : Int) (hf1 : -9223372036854775808 ≤ fr) (hf2 : fr ≤ 9223372036854775807) (h : Sat W w (PoolSL bp bc bg n ws * F)) :
    Calls Tryd.prog 8 #[.pointer (some ⟨bp, 0, none⟩), .int .i64 fr, .int .i64 mo] w (NewStep W (takeNew fr mo m) (PoolSL bp bc bg n ws * F)) := by
  obtain ⟨p0, _, q0, _, _⟩ := PoolSL.facts h
  have hl := hw.len
  rw [hl] at q0
  have hm1 := hw.pos
  have hm2 := hw.most
  have hmk := make_one (P := Tryd.prog) (t := 36) (e := 23) (z := .int .u64 0) 8 Tryd.underlying36 (by kernel_rfl) rfl m (by omega) (by decide)
  have hz : ¬ (m : Int) = 0 := by omega
  have HE := Lib.hid h
  have HW := Lib.hid hw
  clear h hw hl
  go_enter Tryd.func8, Tryd.ntmps8
  go_wp2_with (go_at_call 22; refine (Size_any _ _ _ _ _ q0).mono ?_; rintro e w' ⟨rfl, rfl⟩)
  go_region
  all_goals go_wp2
  all_goals
    go_ret
    exact take_end HE.out HW.out (take_word fr mo hm1 hm2) (by simp [takeNew]; omega)

/-- What a step may be asked. -/
def noneS (s : PStep) : Bool := decide (s.kind = 0) && s.done && decide (s.ports = [])

set_option maxRecDepth 100000 in
set_option maxHeartbeats 400000 in
theorem None_any (h : Sat W w (StepSL sp s * F)) :
    Calls Tryd.prog 16 #[.pointer (some ⟨sp, 0, none⟩)] w fun e w' => e = .returned (.bool (noneS s)) ∧ w = w' := by
  obtain ⟨vw, vp, vo, h1⟩ := StepSL.open h
  obtain ⟨s0, _, _, _, _, _, _, _, s8, s9, _, _⟩ := StepB.facts h1
  have h2 : Sat W w (Row 3 1 vo s.ports.length (i64s s.ports) * (StepB sp s vw vp vo * (Row 23 1 vw s.words.length (u64s s.words) * (RowAt 58 2 vp s.parts.length (partCells s.parts) * F)))) := h1.ac (by unfold StepR; ac_rfl)
  obtain ⟨a, cap, rfl, _, _, _⟩ := Row.at h2
  by_cases hk : s.kind = 0
  · cases hd : s.done with
    | true =>
      have hb : noneS s = decide (s.ports.length = 0) := by unfold noneS; simp [hk, hd]
      rw [hb]
      rw [hk] at s0
      rw [hd] at s9
      generalize s.ports.length = L at *
      clear h h1 h2 hk hd hb
      by_cases hL : L = 0
      · subst hL
        go_enter Tryd.func16, Tryd.ntmps16
        go_wp2
        go_ret
        exact ⟨rfl, rfl⟩
      · have hb : ((L : Int) == 0) = false := by rw [beq_eq_false_iff_ne]; omega
        have hc : decide (L = 0) = false := by simpa using hL
        rw [hc]
        clear hc
        go_enter Tryd.func16, Tryd.ntmps16
        go_wp2
        go_ret
        exact ⟨rfl, rfl⟩
    | false =>
      have hb : noneS s = false := by unfold noneS; simp [hd]
      rw [hb]
      rw [hk] at s0
      rw [hd] at s9
      clear h h1 h2 hk hd hb
      go_enter Tryd.func16, Tryd.ntmps16
      go_wp2
      go_ret
      exact ⟨rfl, rfl⟩
  · have hb : noneS s = false := by unfold noneS; simp [hk]
    rw [hb]
    have hk' : ((s.kind : Int) == 0) = false := by rw [beq_eq_false_iff_ne]; omega
    clear h h1 h2 hb
    go_enter Tryd.func16, Tryd.ntmps16
    go_wp2
    go_ret
    exact ⟨rfl, rfl⟩

set_option maxHeartbeats 400000 in
theorem StepSame_any (h : Sat W w (StepSL sp s * F)) :
    Calls Tryd.prog 18 #[.pointer (some ⟨sp, 0, none⟩)] w fun e w' => e = .returned (.bool s.alike) ∧ w = w' := by
  obtain ⟨vw, vp, vo, h1⟩ := StepSL.open h
  obtain ⟨_, _, _, _, _, _, _, _, _, _, s10, _⟩ := StepB.facts h1
  clear h h1
  go_enter Tryd.func18, Tryd.ntmps18
  go_wp2
  go_ret
  exact ⟨rfl, rfl⟩

end Go.Proofs.YtcciijdnegjkjaaDoor
