/-
  Package pool: the search for a part.
-/
import Derived.Test.YtcciijdnegjkjaaDoorPoolB
namespace Go.Proofs.YtcciijdnegjkjaaDoor
open Go.RowKit

variable {W w : World} {F : SL} {bp bc bg n sp m : Nat} {ws : List Nat} {s : PStep}

theorem Row.store {e size : Nat} {v : Value} {xs : List Value} (h : Sat W w (Row e size v n xs * F)) {g cap : Nat} (hv : v = .slice (some ⟨g, 0, none⟩) n cap) (i : Nat) (u : Value) :
    Sat W (w.setCell ⟨g, i, none⟩ u) (Row e size v n (xs.set i u) * F) := by
  obtain ⟨hl, ⟨e1, _⟩ | ⟨g', cap', cur, e1, a1, a2, a3, a4, hs⟩⟩ := Row.open h
  · rw [hv] at e1; simp at e1
  · rw [hv] at e1
    simp at e1
    obtain ⟨rfl, rfl⟩ := e1
    subst hv
    have k := Row.blk_in (size := size) (hs.set i u) n a1 a2 (by simpa using a3)
    rw [Array.toList_setIfInBounds, List.take_set, a4] at k
    exact k

set_option maxHeartbeats 400000 in
theorem Back1_any (a b z : Int) (pn : Nat) (w : World) (hz0 : 0 ≤ z) (_hz1 : z ≤ 4294967296) (hc : w.cell? ⟨pn, 0, none⟩ = some (.int .i64 z)) (hb : pn < w.heap.size) :
    Calls Tryd.prog 24 #[.agg #[.int .i64 a, .int .u64 b], .pointer (some ⟨pn, 0, none⟩)] w fun e w' => e = .returned (.bool (a == z / 32)) ∧ w.alloc (.cells #[.int .i64 a, .int .u64 b] 58) = w' := by
  go_enter Tryd.func24, Tryd.ntmps24
  go_wp2
  go_ret
  exact ⟨rfl, rfl⟩

/-- Where the first part of a word stands. -/
def partAt (ps : List (Nat × Nat)) (k : Nat) : Option Nat := ps.findIdx? fun p => p.1 == k
def idxOr (o : Option Nat) : Int := match o with | some i => (i : Int) | none => -1

theorem get_partCells : ∀ (ps : List (Nat × Nat)) (k : Nat), k < ps.length → (partCells ps)[k * 2]? = some (.int .i64 ((ps.getD k (0, 0)).1 : Int)) ∧ (partCells ps)[k * 2 + 1]? = some (.int .u64 ((ps.getD k (0, 0)).2 : Int))
  | [], k, h => by simp at h
  | p :: ps, 0, _ => by simp [partCells_cons]
  | p :: ps, k + 1, h => by
    have ih := get_partCells ps k (by simpa using h)
    rw [partCells_cons, show (k + 1) * 2 = k * 2 + 1 + 1 by omega, show k * 2 + 1 + 1 + 1 = (k * 2 + 1) + 1 + 1 by omega]
    simpa using ih

theorem partAt_some {ps : List (Nat × Nat)} {k c : Nat} (h : ∀ i, i < k → (ps.getD i (0, 0)).1 ≠ c) (hk : k < ps.length) (hc : (ps.getD k (0, 0)).1 = c) : partAt ps c = some k := by
  unfold partAt
  rw [List.findIdx?_eq_some_iff_getElem]
  have e : ∀ i (hi : i < ps.length), (ps.getD i (0, 0)) = ps[i] := fun i hi => by rw [List.getD_eq_getElem?_getD, List.getElem?_eq_getElem hi]; rfl
  refine ⟨hk, by rw [← e k hk]; simpa using hc, fun j hj => ?_⟩
  have := h j hj
  rw [e j (by omega)] at this
  simpa using this
theorem partAt_none {ps : List (Nat × Nat)} {c : Nat} (h : ∀ i, i < ps.length → (ps.getD i (0, 0)).1 ≠ c) : partAt ps c = none := by
  unfold partAt
  rw [List.findIdx?_eq_none_iff]
  intro p hp
  obtain ⟨i, hi, rfl⟩ := List.getElem_of_mem hp
  have := h i hi
  rw [List.getD_eq_getElem?_getD, List.getElem?_eq_getElem hi] at this
  simpa using this

set_option maxRecDepth 100000 in
set_option maxHeartbeats 800000 in
theorem IndexFunc_any {v : Value} {ps : List (Nat × Nat)} {pn z : Nat} (hps : ps.length ≤ 4294967296) (hz : z ≤ 4294967296) (h : Sat W w (Row 58 2 v ps.length (partCells ps) * (SL.blk pn (.cells #[.int .i64 (z : Int)] 3 (0, 0)) * F))) :
    Calls Tryd.prog 23 #[v, .func (.func 24) #[] #[.pointer (some ⟨pn, 0, none⟩)]] w
      (Gives W (.int .i64 (idxOr (partAt ps (z / 32)))) (Row 58 2 v ps.length (partCells ps) * (SL.blk pn (.cells #[.int .i64 (z : Int)] 3 (0, 0)) * F))) := by
  obtain ⟨a, cap, rfl, _, _, hrow⟩ := Row.at h
  have H := Lib.hid h
  clear h hrow
  go_enter Tryd.func23, Tryd.ntmps23
  go_wp2
  go_loopw [8] (fun v8 wr => ∃ k : Nat, k ≤ ps.length ∧ v8 = .int .i64 (k : Int) ∧ (∀ i, i < k → (ps.getD i (0, 0)).1 ≠ z / 32) ∧
      Sat W wr (Row 58 2 (.slice a ps.length cap) ps.length (partCells ps) * (SL.blk pn (.cells #[.int .i64 (z : Int)] 3 (0, 0)) * F))) (fun v8 _ => ps.length - (intOf v8).toNat)
  case atStart => exact ⟨0, Nat.zero_le _, rfl, fun i hi => absurd hi (by omega), H.out⟩
  case round =>
    obtain ⟨k, hk, rfl, hno, hrel⟩ := hrel
    have HNO := Lib.hid hno
    by_cases hkm : k < ps.length
    · obtain ⟨g, rfl, hcell⟩ := Row.cellAt hrel (by omega)
      have hc := hrel.drop.cell 0
      have hpn := hrel.drop.lt
      have hg := get_partCells ps k hkm
      have c1 := hcell _ _ hg.1
      have c2 := hcell _ _ hg.2
      have HR := Lib.hid hrel
      clear hrel hcell hg hno
      simp only [List.getElem?_toArray, List.getElem?_cons_zero] at hc
      generalize hA : (ps.getD k (0, 0)).1 = A at *
      generalize (ps.getD k (0, 0)).2 = B at *
      have HA := Lib.hid hA
      clear hA
      by_cases hAz : A = z / 32
      · have hb : ((A : Int) == (z : Int) / 32) = true := by rw [beq_iff_eq]; omega
        go_wp2_with (go_at_call 24; refine (Back1_any _ _ _ _ _ (by omega) (by omega) hc hpn).mono ?_; rintro e w' ⟨rfl, rfl⟩)
        go_ret
        refine ⟨?_, HR.out.forget _⟩
        rw [partAt_some HNO.out hkm (by rw [HA.out]; exact hAz)]
        rfl
      · have hb : ((A : Int) == (z : Int) / 32) = false := by rw [beq_eq_false_iff_ne]; omega
        go_wp2_with (go_at_call 24; refine (Back1_any _ _ _ _ _ (by omega) (by omega) hc hpn).mono ?_; rintro e w' ⟨rfl, rfl⟩)
        go_roundw
        case rel =>
          refine ⟨k + 1, by omega, by go_num, fun i hi => ?_, HR.out.forget _⟩
          by_cases hik : i < k
          · exact HNO.out i hik
          · have : i = k := by omega
            subst this
            rw [HA.out]
            exact hAz
        case measure => simp [intOf]; omega
    · have hkm : k = ps.length := by omega
      subst hkm
      have HR := Lib.hid hrel
      clear hrel hno
      go_wp2
      go_ret
      refine ⟨?_, HR.out⟩
      rw [partAt_none HNO.out]
      rfl

end Go.Proofs.YtcciijdnegjkjaaDoor
