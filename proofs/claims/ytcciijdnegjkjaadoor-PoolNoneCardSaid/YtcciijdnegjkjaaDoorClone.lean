/-
  Clones of slices.
-/
import Derived.Test.YtcciijdnegjkjaaDoorPool8
import Derived.WalkSpells
namespace Go.Proofs.YtcciijdnegjkjaaDoor
open Go.RowKit

variable {W w : World} {F : SL} {bp bc bg n sp m : Nat} {ws : List Nat} {s : PStep}

/-- A new slice of the call's own, returned. -/
def NewRow (W : World) (e size n : Nat) (xs : List Value) (F : SL) (en : Ending) (w' : World) : Prop := ∃ v, en = .returned v ∧ Sat W w' (Row e size v n xs * F)

theorem elem_u64 : Elem Tryd.prog 36 23 (.int .u64 0) 1 8 := ⟨Tryd.underlying36, by kernel_rfl, rfl, Nat.zero_lt_one⟩

set_option maxRecDepth 100000 in
set_option maxHeartbeats 400000 in
theorem CloneNil_u64 (h : Sat W w F) :
    Calls Tryd.prog 29 #[.slice none 0 0] w (NewRow W 23 1 0 [] F) := by
  have H := Lib.hid h
  have e1 := fun (wx : World) (a : Option Addr) (l c : Nat) => Lib.run_eql_slice_nil (P := Tryd.prog) wx 36 23 a l c 0 0 Tryd.underlying36
  clear h
  go_enter Tryd.func29, Tryd.ntmps29
  go_wp2
  go_ret
  exact ⟨_, rfl, Row.nil_in _ _ H.out⟩

set_option maxRecDepth 100000 in
set_option maxHeartbeats 400000 in
theorem CloneSome_u64 {g off cap : Nat} {xs : List Value} (hn : n ≤ 4294967296) (h1 : ∀ u ∈ xs, u.oneCell' = true) (hl : xs.length = n) (hnews : ∀ j u, xs[j]? = some u → w.cell? ⟨g, off + j, none⟩ = some u) (h : Sat W w F) :
    Calls Tryd.prog 29 #[.slice (some ⟨g, off, none⟩) n cap] w (NewRow W 23 1 n xs F) := by
  have H := Lib.hid h
  have HN := Lib.hid hnews
  have H1 := Lib.hid h1
  have HL := Lib.hid (show xs.length = n * 1 by omega)
  have e1 := fun (wx : World) (a : Option Addr) (l c : Nat) => Lib.run_eql_slice_nil (P := Tryd.prog) wx 36 23 a l c 0 0 Tryd.underlying36
  clear h hl hnews h1
  go_enter Tryd.func29, Tryd.ntmps29
  go_wp2_with (at_builtin; refine wpList_append_row rfl (.tmp 5) (.tmp 6) 36 rfl elem_u64 rfl (Row.blk_in (size := 1) (H.out.alloc (.cells #[] 23)) 0 (Nat.zero_le _) (Nat.zero_le _) rfl) ⟨g, off, none⟩ n cap xs rfl HL.out ?c2 H1.out ?c4 ?c5 ?_)
  case c2 =>
    intro j u hu
    have := HN.out j u hu
    have hadd : (⟨g, off, none⟩ : Addr).add j = ⟨g, off + j, none⟩ := by unfold Addr.add; split <;> simp_all
    rw [hadd, World.cell?_alloc_lt _ _ _ (World.block_lt_of_cell? _ _ this), this]
  case c4 => unfold maxLen; omega
  case c5 => omega
  intro v' w' hs' _
  go_wp2
  go_ret
  refine ⟨_, rfl, ?_⟩
  simpa using hs'

/-- slices.Clone of a row that the call has. -/
theorem Clone_u64 {v : Value} {xs : List Value} {G : SL} (hn : n ≤ 4294967296) (h1 : ∀ u ∈ xs, u.oneCell' = true) (h : Sat W w (RowAt 23 1 v n xs * G)) (hF : Sat W w F) :
    Calls Tryd.prog 29 #[v] w (NewRow W 23 1 n xs F) := by
  obtain ⟨hl, ⟨rfl, rfl, hs⟩ | ⟨g, off, cap, cur, rfl, a1, a2, a3, a4, hs⟩⟩ := RowAt.open h
  · obtain rfl : xs = [] := List.eq_nil_of_length_eq_zero (by simpa using hl)
    exact CloneNil_u64 hF
  · refine CloneSome_u64 hn h1 (by omega) (fun j u hu => ?_) hF
    rw [hs.cell, ← hu, ← a4, List.getElem?_take, List.getElem?_drop]
    have hj : j < n := by
      have := (List.getElem?_eq_some_iff.1 hu).1
      omega
    simp [hj]

theorem elem_i64 : Elem Tryd.prog 30 3 (.int .i64 0) 1 8 := ⟨Tryd.underlying30, by kernel_rfl, rfl, Nat.zero_lt_one⟩

set_option maxRecDepth 100000 in
set_option maxHeartbeats 400000 in
theorem CloneNil_i64 (h : Sat W w F) :
    Calls Tryd.prog 30 #[.slice none 0 0] w (NewRow W 3 1 0 [] F) := by
  have H := Lib.hid h
  have e1 := fun (wx : World) (a : Option Addr) (l c : Nat) => Lib.run_eql_slice_nil (P := Tryd.prog) wx 30 3 a l c 0 0 Tryd.underlying30
  clear h
  go_enter Tryd.func30, Tryd.ntmps30
  go_wp2
  go_ret
  exact ⟨_, rfl, Row.nil_in _ _ H.out⟩

set_option maxRecDepth 100000 in
set_option maxHeartbeats 400000 in
theorem CloneSome_i64 {g off cap : Nat} {xs : List Value} (hn : n ≤ 4294967296) (h1 : ∀ u ∈ xs, u.oneCell' = true) (hl : xs.length = n) (hnews : ∀ j u, xs[j]? = some u → w.cell? ⟨g, off + j, none⟩ = some u) (h : Sat W w F) :
    Calls Tryd.prog 30 #[.slice (some ⟨g, off, none⟩) n cap] w (NewRow W 3 1 n xs F) := by
  have H := Lib.hid h
  have HN := Lib.hid hnews
  have H1 := Lib.hid h1
  have HL := Lib.hid (show xs.length = n * 1 by omega)
  have e1 := fun (wx : World) (a : Option Addr) (l c : Nat) => Lib.run_eql_slice_nil (P := Tryd.prog) wx 30 3 a l c 0 0 Tryd.underlying30
  clear h hl hnews h1
  go_enter Tryd.func30, Tryd.ntmps30
  go_wp2_with (at_builtin; refine wpList_append_row rfl (.tmp 5) (.tmp 6) 30 rfl elem_i64 rfl (Row.blk_in (size := 1) (H.out.alloc (.cells #[] 3)) 0 (Nat.zero_le _) (Nat.zero_le _) rfl) ⟨g, off, none⟩ n cap xs rfl HL.out ?c2 H1.out ?c4 ?c5 ?_)
  case c2 =>
    intro j u hu
    have := HN.out j u hu
    have hadd : (⟨g, off, none⟩ : Addr).add j = ⟨g, off + j, none⟩ := by unfold Addr.add; split <;> simp_all
    rw [hadd, World.cell?_alloc_lt _ _ _ (World.block_lt_of_cell? _ _ this), this]
  case c4 => unfold maxLen; omega
  case c5 => omega
  intro v' w' hs' _
  go_wp2
  go_ret
  refine ⟨_, rfl, ?_⟩
  simpa using hs'

/-- slices.Clone of a row that the call has. -/
theorem Clone_i64 {v : Value} {xs : List Value} {G : SL} (hn : n ≤ 4294967296) (h1 : ∀ u ∈ xs, u.oneCell' = true) (h : Sat W w (RowAt 3 1 v n xs * G)) (hF : Sat W w F) :
    Calls Tryd.prog 30 #[v] w (NewRow W 3 1 n xs F) := by
  obtain ⟨hl, ⟨rfl, rfl, hs⟩ | ⟨g, off, cap, cur, rfl, a1, a2, a3, a4, hs⟩⟩ := RowAt.open h
  · obtain rfl : xs = [] := List.eq_nil_of_length_eq_zero (by simpa using hl)
    exact CloneNil_i64 hF
  · refine CloneSome_i64 hn h1 (by omega) (fun j u hu => ?_) hF
    rw [hs.cell, ← hu, ← a4, List.getElem?_take, List.getElem?_drop]
    have hj : j < n := by
      have := (List.getElem?_eq_some_iff.1 hu).1
      omega
    simp [hj]

end Go.Proofs.YtcciijdnegjkjaaDoor
