/-
  Package pool: Got, Same, Copy, Free.
-/
import Derived.Test.YtcciijdnegjkjaaDoorClone
namespace Go.Proofs.YtcciijdnegjkjaaDoor
open Go.RowKit

variable {W w : World} {F : SL} {bp bc bg n sp m : Nat} {ws : List Nat} {s : PStep}

theorem one_u64s (l : List Nat) : ∀ u ∈ u64s l, u.oneCell' = true := by
  intro u hu; simp [u64s] at hu; obtain ⟨x, _, rfl⟩ := hu; rfl
theorem one_i64s (l : List Nat) : ∀ u ∈ i64s l, u.oneCell' = true := by
  intro u hu; simp [i64s] at hu; obtain ⟨x, _, rfl⟩ := hu; rfl

set_option maxHeartbeats 400000 in
theorem Got_any (hl : s.ports.length ≤ 4294967296) (h : Sat W w (StepSL sp s * F)) :
    Calls Tryd.prog 17 #[.pointer (some ⟨sp, 0, none⟩)] w (NewRow W 3 1 s.ports.length (i64s s.ports) (StepSL sp s * F)) := by
  obtain ⟨vw, vp, vo, h1⟩ := StepSL.open h
  obtain ⟨_, _, _, _, _, _, _, _, s8, _, _, _⟩ := StepB.facts h1
  have h2 : Sat W w (Row 3 1 vo s.ports.length (i64s s.ports) * (StepB sp s vw vp vo * (Row 23 1 vw s.words.length (u64s s.words) * (RowAt 58 2 vp s.parts.length (partCells s.parts) * F)))) := h1.ac (by unfold StepR; ac_rfl)
  have HC := Lib.hid (Clone_i64 (W := W) (w := w) hl (one_i64s s.ports) (h2.left Row.le_at) h)
  clear h h1 h2
  go_enter Tryd.func17, Tryd.ntmps17
  go_wp2_with (go_at_call 30; refine HC.out.mono ?_; rintro e w' ⟨v, rfl, hq⟩)
  go_ret
  exact ⟨_, rfl, hq⟩

/-- A Same of a Take. -/
def sameNew (t : PStep) : PStep := { kind := 1, words := t.words }

theorem sameNew_ok {t : PStep} (ht : t.Ok m) (hk : t.kind = 0) (hm : 1 ≤ m) : (sameNew t).Ok m where
  kind := .inr (.inl rfl)
  seen := by simp [sameNew]
  words := ht.words
  takes := by simp [sameNew]
  sames := fun _ => ⟨(ht.takes hk).1, by simp [sameNew], fun _ => by simp [sameNew]; omega⟩
  parts := by simp [sameNew]
  ports := by simp [sameNew]

set_option maxHeartbeats 400000 in
theorem Same_any (hl : s.words.length ≤ 4294967296) (hn : noneS s = true) (h : Sat W w (StepSL sp s * F)) :
    Calls Tryd.prog 15 #[.pointer (some ⟨bp, 0, none⟩), .pointer (some ⟨sp, 0, none⟩)] w (NewStep W (sameNew s) (StepSL sp s * F)) := by
  obtain ⟨vw, vp, vo, h1⟩ := StepSL.open h
  obtain ⟨_, _, _, _, _, _, s6, _, _, _, _, _⟩ := StepB.facts h1
  have h2 : Sat W w (Row 23 1 vw s.words.length (u64s s.words) * (StepB sp s vw vp vo * (RowAt 58 2 vp s.parts.length (partCells s.parts) * (Row 3 1 vo s.ports.length (i64s s.ports) * F)))) := h1.ac (by unfold StepR; ac_rfl)
  have HC := Lib.hid (Clone_u64 (W := W) (w := w) hl (one_u64s s.words) (h2.left Row.le_at) h)
  have hN := None_any h
  rw [hn] at hN
  have HN := Lib.hid hN
  clear h h1 h2 hN hn
  go_enter Tryd.func15, Tryd.ntmps15
  go_wp2_with (first | (go_at_call 29; refine HC.out.mono ?_; rintro e w' ⟨v, rfl, hq⟩; obtain ⟨av, cv, rfl, _, _, _⟩ := Row.at hq) | (go_at_call 16; refine HN.out.mono ?_; rintro e w' ⟨rfl, rfl⟩))
  go_ret
  refine ⟨_, rfl, ?_⟩
  have k2 := hq.alloc (.cells #[.int .i64 1, .int .i64 0, .int .i64 0, .int .i64 0, .bool false, .int .u64 0, .slice av s.words.length cv, .slice none 0 0, .slice none 0 0, .bool false, .bool false] 55)
  have k3 := Row.nil_in 3 1 k2
  have k4 := (Row.nil_in 58 2 k3).left Row.le_at
  have k5 := k4.ac (SL.sep_comm4 _ _ _ _ _)
  exact StepSL.make k5 rfl rfl rfl rfl rfl rfl rfl

set_option maxRecDepth 100000 in
set_option maxHeartbeats 800000 in
theorem CellsCopy_any (hw : WordsOk m ws) (h : Sat W w (PoolSL bp bc bg n ws * F)) :
    Calls Tryd.prog 25 #[.pointer (some ⟨bc, 0, none⟩)] w (NewRow W 23 1 m (u64s ws) (PoolSL bp bc bg n ws * F)) := by
  obtain ⟨p0, _, q0, qb, _⟩ := PoolSL.facts h
  have hl := hw.len
  rw [hl] at q0
  have hm2 := hw.most
  have HE := Lib.hid h
  have HW := Lib.hid hw
  have HL := Lib.hid hl
  clear h hw hl qb
  go_enter Tryd.func25, Tryd.ntmps25
  go_wp2_with (go_at_call 22; refine (Size_any _ _ _ _ _ q0).mono ?_; rintro e w' ⟨rfl, rfl⟩)
  go_loopw [3, 7] (fun v3 v7 wr => ∃ k : Nat, k ≤ m ∧ v7 = .int .i64 (k : Int) ∧ Sat W wr (Row 23 1 v3 k (u64s (ws.take k)) * (PoolSL bp bc bg n ws * F))) (fun _ v7 _ => m - (intOf v7).toNat)
  case atStart => exact ⟨0, Nat.zero_le _, rfl, by simpa [u64s] using Row.nil_in 23 1 HE.out⟩
  case round =>
    obtain ⟨k, hk, rfl, hrel⟩ := hrel
    by_cases hkm : k < m
    · obtain ⟨_, _, q0', qb', _⟩ := PoolSL.facts hrel.drop
      rw [HL.out] at q0'
      obtain ⟨hg, hlt⟩ := HW.out.get hkm
      have hv := qb' _ _ hg
      have HR := Lib.hid hrel
      have HG := Lib.hid hg
      clear qb' hg hrel
      go_wp2_with (first | (go_at_call 34; refine (Load_in _ _ _ _ _ _ _ q0' hkm hv).mono ?_; rintro e w' ⟨rfl, rfl⟩) | (at_builtin; refine wpList_append_row rfl (.tmp 10) (.tmp 14) 36 rfl elem_u64 rfl (HR.out.forget _) ⟨wr.heap.size, 0, none⟩ 1 1 [_] rfl rfl (cell_one_new _ _ _) ?c3 ?c4 ?c5 ?_))
      case c3 => simp [Value.oneCell']
      case c4 => unfold maxLen; omega
      case c5 => omega
      intro v' w' hs' hsz
      go_wp2
      go_roundw
      case rel =>
        refine ⟨k + 1, by omega, by go_num, ?_⟩
        refine hs'.ac ?_
        have e : ws.take (k + 1) = ws.take k ++ [ws.getD k 0] := by rw [List.take_add_one, HG.out]; rfl
        rw [e]
        simp [u64s]
      case measure => simp [intOf]; omega
    · have hkm : k = m := by omega
      subst hkm
      have HR := Lib.hid hrel
      clear hrel
      go_wp2
      go_ret
      refine ⟨_, rfl, ?_⟩
      have := HR.out
      rwa [List.take_of_length_le (by rw [HL.out]; exact Nat.le_refl _)] at this

set_option maxHeartbeats 400000 in
theorem Copy_any (hw : WordsOk m ws) (h : Sat W w (PoolSL bp bc bg n ws * F)) :
    Calls Tryd.prog 11 #[.pointer (some ⟨bp, 0, none⟩)] w (NewRow W 23 1 m (u64s ws) (PoolSL bp bc bg n ws * F)) := by
  obtain ⟨p0, _⟩ := PoolSL.facts h
  have HC := Lib.hid (CellsCopy_any hw h)
  clear h
  go_enter Tryd.func11, Tryd.ntmps11
  go_wp2_with (go_at_call 25; refine HC.out.mono ?_; rintro e w' ⟨v, rfl, hq⟩)
  go_ret
  exact ⟨_, rfl, hq⟩

end Go.Proofs.YtcciijdnegjkjaaDoor
