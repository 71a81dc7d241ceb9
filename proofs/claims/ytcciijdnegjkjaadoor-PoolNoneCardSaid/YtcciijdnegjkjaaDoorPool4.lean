/-
  Walks over package pool's steps, fourth part: back.
-/
import Derived.Test.YtcciijdnegjkjaaDoorPool3
namespace Go.Proofs.YtcciijdnegjkjaaDoor
open Go.RowKit

variable {W w : World} {F : SL} {bp bc bg n sp m : Nat} {ws : List Nat} {s : PStep}

/-- A readable row without its first element. -/
theorem RowAt.rest {e size n : Nat} {v : Value} {xs ys : List Value} {g off cap : Nat} (hv : v = .slice (some ⟨g, off, none⟩) (n + 1) cap) (hy : ys.length = size) :
    SL.le (RowAt e size v (n + 1) (ys ++ xs)) (RowAt e size (if cap = 1 then .slice (some ⟨g, off, none⟩) n (cap - 1) else .slice (some ⟨g, off + size, none⟩) n (cap - 1)) n xs) := by
  rintro h ⟨hl, ⟨hv', _⟩ | ⟨g', off', cap', cur, hv', h1, h2, h3, h4, h5⟩⟩
  · rw [hv] at hv'; simp at hv'
  · rw [hv] at hv'
    simp at hv'
    obtain ⟨⟨rfl, rfl⟩, rfl⟩ := hv'
    have hlx : xs.length = n * size := by rw [List.length_append, hy, Nat.add_mul] at hl; omega
    refine ⟨hlx, .inr ?_⟩
    have hxs : (cur.toList.drop (off + size)).take (n * size) = xs := by
      have := congrArg (List.drop size) h4
      rw [List.drop_left' hy, List.drop_take, List.drop_drop, Nat.add_mul] at this
      rw [← this]
      congr 1
      omega
    rw [Nat.add_mul] at h3
    by_cases hc : cap = 1
    · have hn : n = 0 := by omega
      subst hn
      rw [if_pos hc]
      exact ⟨g, off, cap - 1, cur, rfl, by omega, by omega, by omega, by simpa using hxs, h5⟩
    · rw [if_neg hc]
      exact ⟨g, off + size, cap - 1, cur, rfl, by omega, by omega, by omega, hxs, h5⟩

theorem backS_nil (h : s.parts = []) : backS ws s = (ws, { s with done := true }) := by
  cases s; simp at h; subst h; rfl
theorem backS_cons {k mask : Nat} {rest : List (Nat × Nat)} (h : s.parts = (k, mask) :: rest) : backS ws s =
    if s.read = true then
      if ws.getD k 0 = s.seen then
        (ws.set k (changedN s.seen (s.seen % 4294967296 &&& (18446744073709551615 - mask))), { s with read := false, parts := rest, done := decide (rest = []) })
      else (ws, { s with read := false })
    else if ws.getD k 0 &&& mask = 0 then (ws, { s with seen := ws.getD k 0, read := false, parts := rest, done := decide (rest = []) })
    else (ws, { s with seen := ws.getD k 0, read := true }) := by
  cases s; simp at h; subst h; rfl

set_option maxRecDepth 100000 in
set_option maxHeartbeats 400000 in
theorem back_nil (h : Sat W w (PoolSL bp bc bg n ws * (StepSL sp s * F))) (hp : s.parts = []) :
    Calls Tryd.prog 28 #[.pointer (some ⟨bp, 0, none⟩), .pointer (some ⟨sp, 0, none⟩)] w (StepEnds W (PoolSL bp bc bg n (backS ws s).1 * (StepSL sp (backS ws s).2 * F))) := by
  obtain ⟨vw, vp, vo, h1⟩ := StepSL.open h.swap
  obtain ⟨_, _, _, _, _, _, _, s7, _, s9, _, fs⟩ := StepB.facts h1
  have f9 := fs 9
  have h2 : Sat W w (RowAt 58 2 vp s.parts.length (partCells s.parts) * (StepB sp s vw vp vo * (Row 23 1 vw s.words.length (u64s s.words) * (Row 3 1 vo s.ports.length (i64s s.ports) * (PoolSL bp bc bg n ws * F))))) := h1.ac (by unfold StepR; ac_rfl)
  obtain ⟨a, cap, rfl, _, _, _⟩ := RowAt.at h2
  have hend : Sat W (w.setCell ⟨sp, 9, none⟩ (.bool true)) (PoolSL bp bc bg n (backS ws s).1 * (StepSL sp (backS ws s).2 * F)) := by
    rw [backS_nil hp]
    exact (StepSL.shut (h1.stDone true)).swap
  have HE := Lib.hid hend
  have hl : s.parts.length = 0 := by rw [hp]; rfl
  rw [hl] at s7
  clear hend h h1 h2 fs hp hl
  go_enter Tryd.func28, Tryd.ntmps28
  go_wp2
  refine bodyPost_ret (results_none rfl _ _ _) rfl ?_
  exact ⟨rfl, HE.out⟩

/-- What is known at the first part of a Back that goes on. -/
theorem back_open (hw : WordsOk m ws) (hs : s.Ok m) (h : Sat W w (PoolSL bp bc bg n ws * (StepSL sp s * F))) {k mask : Nat} {rest : List (Nat × Nat)} (hp : s.parts = (k, mask) :: rest) :
    ∃ vw g off cap vo, Sat W w (StepB sp s vw (.slice (some ⟨g, off, none⟩) (rest.length + 1) cap) vo * (StepR s vw (.slice (some ⟨g, off, none⟩) (rest.length + 1) cap) vo * (PoolSL bp bc bg n ws * F))) ∧ rest.length + 1 ≤ cap ∧
      w.cell? ⟨g, off, none⟩ = some (.int .i64 (k : Int)) ∧ w.cell? ⟨g, off + 1, none⟩ = some (.int .u64 (mask : Int)) ∧ sp ≠ g ∧ bg ≠ g ∧ sp ≠ bg := by
  obtain ⟨vw, vp, vo, h1⟩ := StepSL.open h.swap
  have h2 : Sat W w (RowAt 58 2 vp s.parts.length (partCells s.parts) * (StepB sp s vw vp vo * (PoolSL bp bc bg n ws * (Row 23 1 vw s.words.length (u64s s.words) * (Row 3 1 vo s.ports.length (i64s s.ports) * F))))) := h1.ac (by unfold StepR; ac_rfl)
  have hl : s.parts.length = rest.length + 1 := by rw [hp]; rfl
  obtain ⟨a, cap, rfl, hcap, _, hrow⟩ := RowAt.at h2
  obtain ⟨g, off, rfl, hc⟩ := hrow (by omega)
  have hg : SL.Has (RowAt 58 2 (.slice (some ⟨g, off, none⟩) s.parts.length cap) s.parts.length (partCells s.parts)) g := by
    rintro x ⟨_, ⟨e, _⟩ | ⟨g', off', cap', cur', e, _, _, _, _, hx⟩⟩
    · simp at e
    · simp at e
      obtain ⟨⟨rfl, _⟩, _⟩ := e
      exact SL.Has.blk _ _ x hx
  have n1 : sp ≠ g := h2.swap.ne_of StepB.has hg
  have n2 : bg ≠ g := (h2.drop.swap.ac (Q := PoolSL bp bc bg n ws * (StepB sp s vw (.slice (some ⟨g, off, none⟩) s.parts.length cap) vo * (Row 23 1 vw s.words.length (u64s s.words) * (Row 3 1 vo s.ports.length (i64s s.ports) * F)))) (by ac_rfl)) |> fun _ => (h2.ac (Q := PoolSL bp bc bg n ws * (RowAt 58 2 (.slice (some ⟨g, off, none⟩) s.parts.length cap) s.parts.length (partCells s.parts) * (StepB sp s vw (.slice (some ⟨g, off, none⟩) s.parts.length cap) vo * (Row 23 1 vw s.words.length (u64s s.words) * (Row 3 1 vo s.ports.length (i64s s.ports) * F))))) (by ac_rfl)).ne_of PoolSL.has.2.2 hg
  have n3 : sp ≠ bg := h2.drop.ne_of StepB.has PoolSL.has.2.2
  rw [hl] at h1 hcap
  have c0 := hc 0 (.int .i64 (k : Int)) (by rw [hp]; rfl)
  have c1 := hc 1 (.int .u64 (mask : Int)) (by rw [hp]; rfl)
  exact ⟨vw, g, off, cap, vo, h1, hcap, c0, c1, n1, n2, n3⟩

/-- The first part is over: what it was leaves the step. -/
theorem back_rest {vw vo : Value} {g off cap : Nat} {w' : World} {k mask : Nat} {rest : List (Nat × Nat)} {s' : PStep} (hp : s.parts = (k, mask) :: rest) (hs : s'.parts = rest) (hsw : s'.words = s.words) (hso : s'.ports = s.ports)
    (h : Sat W w' (StepB sp s' vw (if cap = 1 then .slice (some ⟨g, off, none⟩) rest.length (cap - 1) else .slice (some ⟨g, off + 2, none⟩) rest.length (cap - 1)) vo * (StepR s vw (.slice (some ⟨g, off, none⟩) (rest.length + 1) cap) vo * F))) :
    Sat W w' (StepSL sp s' * F) := by
  refine StepSL.shut (vw := vw) (vp := if cap = 1 then .slice (some ⟨g, off, none⟩) rest.length (cap - 1) else .slice (some ⟨g, off + 2, none⟩) rest.length (cap - 1)) (vo := vo) ?_
  have h2 : Sat W w' (RowAt 58 2 (.slice (some ⟨g, off, none⟩) (rest.length + 1) cap) (rest.length + 1) ([.int .i64 (k : Int), .int .u64 (mask : Int)] ++ partCells rest) * (StepB sp s' vw (if cap = 1 then .slice (some ⟨g, off, none⟩) rest.length (cap - 1) else .slice (some ⟨g, off + 2, none⟩) rest.length (cap - 1)) vo * (Row 23 1 vw s.words.length (u64s s.words) * (Row 3 1 vo s.ports.length (i64s s.ports) * F)))) := by
    refine h.ac ?_
    unfold StepR
    rw [hp, partCells_cons]
    simp only [List.length_cons]
    ac_rfl
  have h3 := h2.left (RowAt.rest (n := rest.length) (xs := partCells rest) (ys := [.int .i64 (k : Int), .int .u64 (mask : Int)]) rfl rfl)
  refine h3.ac ?_
  unfold StepR
  rw [hs, hsw, hso]
  ac_rfl

end Go.Proofs.YtcciijdnegjkjaaDoor
