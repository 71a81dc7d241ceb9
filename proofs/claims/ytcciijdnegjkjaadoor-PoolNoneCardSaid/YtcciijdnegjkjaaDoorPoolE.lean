/-
  The law's own helpers: run, few.
-/
import Derived.Test.YtcciijdnegjkjaaDoorPoolD
namespace Go.Proofs.YtcciijdnegjkjaaDoor
open Go.RowKit

variable {W w : World} {F : SL} {bp bc bg n sp m : Nat} {ws : List Nat} {s : PStep}

theorem append_row_none {P : Program} {t ty e : TypeId} {z v : Value} {size bytes : Nat} {xs : List Value} (E : Elem P t e z size bytes) (h : Sat W w (Row e size v n xs * F)) :
    ∃ v', (Builtin.append_ #[t, t] ty #[v, .slice none 0 0]).run P w = .ok v' w ∧ Sat W w (Row e size v' n xs * F) := by
  obtain ⟨i, hi, hz, hsize, hby⟩ := info_parts E.info
  refine ⟨v, ?_, h⟩
  obtain ⟨a, cap, rfl, hc, _, _⟩ := Row.at h
  cases a with
  | none =>
    obtain ⟨hl, ⟨e1, _⟩ | ⟨g, cap', cur, e1, _⟩⟩ := Row.open h
    · simp at e1
      obtain ⟨rfl, rfl⟩ := e1
      simp [Builtin.append_, run_underlying E.under, sizeOf, typeInfo, hi, Builtin.lenOf, Builtin.firstCells, loadCells, loadCellsFrom]
    · simp at e1
  | some a =>
    simp [Builtin.append_, run_underlying E.under, sizeOf, typeInfo, hi, Builtin.lenOf, Builtin.firstCells, loadCells, loadCellsFrom, hc, storeCells]

theorem wpList_append_row_none {P : Program} {Q : Exit → Act → World → Prop} {ops : Array Oper} {rest : List Oper} {o : Oper} {a : Act} {e size : Nat} {v : Value} {xs : List Value} (hgd : o.guard = none) (s x : Operand) (t : TypeId)
    (ho : o.op = .call { callee := .builtin .append, args := #[s, x], argTypes := #[t, t] }) {z : Value} {bytes : Nat} (E : Elem P t e z size bytes)
    (hs : a.eval s = v) (hown : Sat W w (Row e size v n xs * F)) (hx : a.eval x = .slice none 0 0)
    (h : ∀ v', Sat W w (Row e size v' n xs * F) → wpList P ops Q rest (a.put o.dst v') w) : wpList P ops Q (o :: rest) a w := by
  refine wpList_plain hgd fun K hK => ?_
  obtain ⟨v', hr, h2⟩ := append_row_none (ty := o.type) E hown
  unfold Oper.wp execOp
  simp only [ho, resolve, invoke, builtin, Sem.run_bind, Sem.run_pure, Result.andThen_ok, List.map_toArray, List.map_cons, List.map_nil, hs, hx]
  rw [hr]
  exact hK _ _ (h v' h2)

theorem picks_mem {u most i : Nat} (h : i ∈ picks u most) : i < 32 := (mem_freesOf.1 (List.mem_of_mem_take h)).1
theorem picks_lt (u most : Nat) : ofBits (picks u most) < 4294967296 := ofBits_lt _ 32 fun _ h => picks_mem h

theorem WordsOk.set (h : WordsOk m ws) (i : Nat) {u : Nat} (hu : u < 18446744073709551616) : WordsOk m (ws.set i u) where
  len := by rw [List.length_set]; exact h.len
  pos := h.pos
  most := h.most
  lt := fun x hx => by
    rcases List.mem_or_eq_of_mem_set hx with hx | rfl
    · exact h.lt x hx
    · exact hu

theorem getD_lt (h : ∀ u ∈ ws, u < 18446744073709551616) (i : Nat) : ws.getD i 0 < 18446744073709551616 := by
  rw [List.getD_eq_getElem?_getD]
  by_cases hi : i < ws.length
  · rw [List.getElem?_eq_getElem hi]; exact h _ (List.getElem_mem hi)
  · rw [List.getElem?_eq_none (by omega)]; simp

/-- A step's Do keeps what a step and a pool look like. -/
theorem doS_ok (hw : WordsOk m ws) (hs : s.Ok m) : WordsOk m (doS ws s).1 ∧ (doS ws s).2.Ok m := by
  unfold doS
  by_cases hd : s.done = true
  · rw [if_pos hd]; exact ⟨hw, hs⟩
  rw [if_neg hd]
  by_cases h0 : s.kind = 0
  · rw [if_pos h0]
    obtain ⟨t1, t2, t3, t4, t5, t6⟩ := hs.takes h0
    have t6 := t6 (by simpa using hd)
    have hu := getD_lt hw.lt s.word
    unfold takeS
    by_cases hr : s.read = true
    · rw [if_pos hr]
      by_cases he : ws.getD s.word 0 = s.seen
      · rw [if_pos he]
        refine ⟨hw.set _ (changedN_lt (or_lt (by omega) (picks_lt _ _))), ⟨hs.kind, hs.seen, hs.words, fun _ => ⟨t1, t2, t3, t4, t5, fun h => by simp at h⟩, fun h => by simp [h0] at h, hs.parts, ?_⟩⟩
        simp only [List.length_map, picks, List.length_take]
        have := freesOf_len s.seen
        omega
      · rw [if_neg he]
        exact ⟨hw, ⟨hs.kind, hs.seen, hs.words, hs.takes, hs.sames, hs.parts, hs.ports⟩⟩
    · rw [if_neg hr]
      by_cases hf : freesOf (ws.getD s.word 0) = []
      · rw [if_pos hf]
        refine ⟨hw, ⟨hs.kind, hu, fun x hx => ?_, fun _ => ⟨by simp [t1], ?_, by simp; omega, t4, t5, fun h => ?_⟩, fun h => by simp [h0] at h, hs.parts, hs.ports⟩⟩
        · rcases List.mem_or_eq_of_mem_set hx with hx | rfl
          · exact hs.words x hx
          · exact hu
        · simp only [t1]
          exact Nat.mod_lt _ (by omega)
        · have h' : decide (s.left - 1 = 0) = false := h
          have := of_decide_eq_false h'
          show 1 ≤ s.left - 1
          omega
      · rw [if_neg hf]
        exact ⟨hw, ⟨hs.kind, hu, hs.words, hs.takes, hs.sames, hs.parts, hs.ports⟩⟩
  · rw [if_neg h0]
    by_cases h1 : s.kind = 1
    · rw [if_pos h1]
      obtain ⟨t1, t2, t3⟩ := hs.sames h1
      have t3 := t3 (by simpa using hd)
      unfold sameS
      by_cases he : ws.getD s.word 0 = s.words.getD s.word 0
      · rw [if_pos he]
        refine ⟨hw, ⟨hs.kind, hs.seen, hs.words, fun h => absurd h h0, fun _ => ⟨t1, by simp; omega, fun h => ?_⟩, hs.parts, hs.ports⟩⟩
        simp [t1] at h
        simp; omega
      · rw [if_neg he]
        exact ⟨hw, ⟨hs.kind, hs.seen, hs.words, fun h => absurd h h0, fun _ => ⟨t1, t2, fun h => by simp at h⟩, hs.parts, hs.ports⟩⟩
    · rw [if_neg h1]
      match hp : s.parts with
      | [] =>
        rw [backS_nil hp]
        exact ⟨hw, ⟨hs.kind, hs.seen, hs.words, fun h => absurd h h0, fun h => absurd h h1, hs.parts, hs.ports⟩⟩
      | (k, mask) :: rest =>
        rw [backS_cons hp]
        have hpp : ∀ p ∈ rest, p.1 < m ∧ p.2 < 4294967296 := fun p hp' => hs.parts p (by rw [hp]; exact List.mem_cons_of_mem _ hp')
        by_cases hr : s.read = true
        · rw [if_pos hr]
          by_cases he : ws.getD k 0 = s.seen
          · rw [if_pos he]
            exact ⟨hw.set _ (changedN_lt (Nat.lt_of_le_of_lt Nat.and_le_left (by omega))), ⟨hs.kind, hs.seen, hs.words, fun h => absurd h h0, fun h => absurd h h1, hpp, hs.ports⟩⟩
          · rw [if_neg he]
            exact ⟨hw, ⟨hs.kind, hs.seen, hs.words, hs.takes, hs.sames, hs.parts, hs.ports⟩⟩
        · rw [if_neg hr]
          have hu := getD_lt hw.lt k
          by_cases he : ws.getD k 0 &&& mask = 0
          · rw [if_pos he]
            exact ⟨hw, ⟨hs.kind, hu, hs.words, fun h => absurd h h0, fun h => absurd h h1, hpp, hs.ports⟩⟩
          · rw [if_neg he]
            exact ⟨hw, ⟨hs.kind, hu, hs.words, hs.takes, hs.sames, hs.parts, hs.ports⟩⟩

/-- The law's run. -/
def runS : Nat → Nat → List Nat → PStep → (List Nat × PStep) × Int
  | 0, _, ws, s => ((ws, s), -1)
  | f + 1, n, ws, s => if (doS ws s).2.done = true then (doS ws s, (n : Int)) else runS f (n + 1) (doS ws s).1 (doS ws s).2

set_option maxRecDepth 100000 in
set_option maxHeartbeats 800000 in
theorem run_any (hT : Tab W) (hw : WordsOk m ws) (hs : s.Ok m) (h : Sat W w (PoolSL bp bc bg n ws * (StepSL sp s * F))) :
    Calls Tryd.prog 13 #[.pointer (some ⟨bp, 0, none⟩), .pointer (some ⟨sp, 0, none⟩)] w
      (Gives W (.int .i64 (runS 299 1 ws s).2) (PoolSL bp bc bg n (runS 299 1 ws s).1.1 * (StepSL sp (runS 299 1 ws s).1.2 * F))) := by
  have H := Lib.hid h
  have HW := Lib.hid hw
  have HS := Lib.hid hs
  clear h hw hs
  generalize hG : runS 299 1 ws s = G
  have HG := Lib.hid hG
  clear hG
  go_enter Tryd.func13, Tryd.ntmps13
  go_wp2
  go_loopw [5] (fun v5 wr => ∃ k : Nat, ∃ ws' s', 1 ≤ k ∧ k ≤ 300 ∧ v5 = .int .i64 (k : Int) ∧ runS (300 - k) k ws' s' = G ∧ WordsOk m ws' ∧ s'.Ok m ∧ Sat W wr (PoolSL bp bc bg n ws' * (StepSL sp s' * F))) (fun v5 _ => 300 - (intOf v5).toNat)
  case atStart => exact ⟨1, ws, s, by omega, by omega, rfl, HG.out, HW.out, HS.out, H.out⟩
  case round =>
    obtain ⟨k, ws', s', hk1, hk2, rfl, hg, hw', hs', hrel⟩ := hrel
    by_cases hk : k < 300
    · have HD := Lib.hid (Do_any hT hw' hs' hrel)
      have HO := Lib.hid (doS_ok hw' hs')
      rw [show 300 - k = (299 - k) + 1 by omega, runS] at hg
      generalize doS ws' s' = D at *
      clear hrel hw' hs'
      cases hdn : D.2.done with
      | true =>
        rw [if_pos hdn] at hg
        rw [hdn] at HD
        have HGG := Lib.hid hg
        clear hg hdn
        go_wp2_with (go_at_call 12; refine HD.out.mono ?_; rintro e w' ⟨rfl, hq⟩)
        go_ret
        rw [← HGG.out]
        exact ⟨rfl, hq⟩
      | false =>
        rw [if_neg (by simp [hdn])] at hg
        rw [hdn] at HD
        have HGG := Lib.hid hg
        clear hg hdn
        go_wp2_with (go_at_call 12; refine HD.out.mono ?_; rintro e w' ⟨rfl, hq⟩)
        go_roundw
        case rel => exact ⟨k + 1, _, _, by omega, by omega, by go_num, by rw [show 300 - (k + 1) = 299 - k by omega]; exact HGG.out, HO.out.1, HO.out.2, hq⟩
        case measure => simp [intOf]; omega
    · have hk : k = 300 := by omega
      subst hk
      have HGG := Lib.hid hg
      have HR := Lib.hid hrel
      clear hg hrel
      go_wp2
      go_ret
      rw [← HGG.out]
      exact ⟨rfl, HR.out⟩

end Go.Proofs.YtcciijdnegjkjaaDoor
