/-
  The law's helper few; what the arguments' memory reads as.
-/
import Derived.Test.YtcciijdnegjkjaaDoorPoolF
namespace Go.Proofs.YtcciijdnegjkjaaDoor
open Go.RowKit

variable {W w : World} {F : SL} {bp bc bg n sp m : Nat} {ws : List Nat} {s : PStep}

/-- v reads as a slice of these integers. -/
structure IntsAt (W : World) (v : Value) (xs : List Int) : Prop where
  shape : ∃ a cap, v = .slice a xs.length cap ∧ xs.length ≤ cap ∧ cap ≤ 9223372036854775807 ∧ (a = none → cap = 0) ∧ (∀ g, a = some g → ∀ i z, xs[i]? = some z → g.block < W.heap.size ∧ W.cell? (g.add i) = some (.int .i64 z))
  range : ∀ z ∈ xs, -9223372036854775808 ≤ z ∧ z ≤ 9223372036854775807

set_option maxRecDepth 100000 in
set_option maxHeartbeats 800000 in
theorem few_any {v : Value} {xs : List Int} (hx : IntsAt W v xs) (h : Sat W w F) :
    Calls Tryd.prog 10 #[v] w (NewRow W 3 1 (xs.take 40).length (ints (xs.take 40)) F) := by
  obtain ⟨a, cap, rfl, h1, h2, h0, h3⟩ := hx.shape
  have H := Lib.hid h
  have hl : xs.length ≤ 9223372036854775807 := by omega
  have HX := Lib.hid h3
  have hbe := h.below
  cases a with
  | none =>
    have hc := h0 rfl
    subst hc
    obtain rfl : xs = [] := List.eq_nil_of_length_eq_zero (by omega)
    clear h h3 h0
    go_enter Tryd.func10, Tryd.ntmps10
    go_wp2_with (at_builtin; refine wpList_append_row_none rfl (.tmp 3) (.tmp 8) 30 rfl elem_i64 rfl (Row.blk_in (size := 1) (H.out.alloc (.cells #[] 3)) 0 (Nat.zero_le _) (Nat.zero_le _) rfl) rfl ?_)
    intro v' hq
    go_wp2
    go_ret
    exact ⟨_, rfl, by simpa [ints] using hq⟩
  | some g =>
    have hcell := h3 g rfl
    have hnews : ∀ k, ∀ j u, (ints (xs.take k))[j]? = some u → (w.alloc (.cells #[] 3)).cell? (g.add j) = some u := by
      intro k j u hu
      have hadd : (g.add j).block = g.block := by unfold Addr.add; split <;> rfl
      simp only [ints, List.getElem?_map, List.getElem?_take] at hu
      have hj : xs[j]?.map (fun z => Value.int .i64 z) = some u := by
        split at hu
        · exact hu
        · simp at hu
      obtain ⟨z, hz, rfl⟩ := Option.map_eq_some_iff.1 hj
      obtain ⟨hb, this⟩ := hcell j z hz
      have hw : w.cell? (g.add j) = some (.int .i64 z) := by rw [hbe.cell (hadd ▸ hb)]; exact this
      rw [World.cell?_alloc_lt _ _ _ (World.block_lt_of_cell? _ _ hw), hw]
    have HN := Lib.hid hnews
    have hone : ∀ l : List Int, ∀ u ∈ ints l, u.oneCell' = true := fun l u hu => by simp [ints] at hu; obtain ⟨x, _, rfl⟩ := hu; rfl
    have HO := Lib.hid hone
    clear h h3 h0 hcell hnews hone hbe
    by_cases h40 : xs.length ≤ 40
    · have e := Lib.hid (List.take_of_length_le h40)
      go_enter Tryd.func10, Tryd.ntmps10
      go_wp2_with (at_builtin; refine wpList_append_row rfl (.tmp 3) (.tmp 8) 30 rfl elem_i64 rfl (Row.blk_in (size := 1) (H.out.alloc (.cells #[] 3)) 0 (Nat.zero_le _) (Nat.zero_le _) rfl) g xs.length cap (ints (xs.take 40)) rfl ?c1 (HN.out 40) (HO.out _) ?c4 ?c5 ?_)
      case c1 => rw [e.out]; simp [ints]
      case c4 => unfold maxLen; omega
      case c5 => omega
      intro v' w' hs' _
      go_wp2
      go_ret
      refine ⟨_, rfl, ?_⟩
      have hlen : (xs.take 40).length = 0 + xs.length := by rw [e.out]; omega
      rw [hlen]
      simpa using hs'
    · have h41 : 40 < xs.length := by omega
      have e : (xs.take 40).length = 40 := by rw [List.length_take]; omega
      have E := Lib.hid e
      clear e
      go_enter Tryd.func10, Tryd.ntmps10
      go_wp2_with (at_builtin; refine wpList_append_row rfl (.tmp 3) (.tmp 8) 30 rfl elem_i64 rfl (Row.blk_in (size := 1) (H.out.alloc (.cells #[] 3)) 0 (Nat.zero_le _) (Nat.zero_le _) rfl) g 40 cap (ints (xs.take 40)) rfl ?c1 (HN.out 40) (HO.out _) ?c4 ?c5 ?_)
      case c1 => rw [length_ints, E.out]
      case c4 => unfold maxLen; omega
      case c5 => omega
      intro v' w' hs' _
      go_wp2
      go_ret
      refine ⟨_, rfl, ?_⟩
      rw [E.out]
      simpa using hs'

/-- An element of the law's row. -/
structure ActD where
  what : Int
  worker : Int
  fr : Int
  most : Int
  pv : Value
  ports : List Int

/-- A word of 64 bits. -/
def W64 (z : Int) : Prop := -9223372036854775808 ≤ z ∧ z ≤ 9223372036854775807

/-- The law's row in the arguments' memory. -/
structure ActsAt (W : World) (v : Value) (l : List ActD) : Prop where
  shape : ∃ a cap, v = .slice a l.length cap ∧ l.length ≤ 9223372036854775807 ∧ (0 < l.length → ∃ b off, a = some ⟨b, off, none⟩ ∧ b < W.heap.size ∧ ∀ i x, l[i]? = some x →
    W.cell? ⟨b, off + i * 5, none⟩ = some (.int .i64 x.what) ∧ W.cell? ⟨b, off + i * 5 + 1, none⟩ = some (.int .i64 x.worker) ∧ W.cell? ⟨b, off + i * 5 + 2, none⟩ = some (.int .i64 x.fr) ∧
      W.cell? ⟨b, off + i * 5 + 3, none⟩ = some (.int .i64 x.most) ∧ W.cell? ⟨b, off + i * 5 + 4, none⟩ = some x.pv)
  each : ∀ x ∈ l, W64 x.what ∧ W64 x.worker ∧ W64 x.fr ∧ W64 x.most ∧ IntsAt W x.pv x.ports

end Go.Proofs.YtcciijdnegjkjaaDoor
