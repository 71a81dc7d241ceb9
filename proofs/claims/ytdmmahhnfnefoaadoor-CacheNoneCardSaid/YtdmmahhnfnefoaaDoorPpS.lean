/-
  slices.Sort, slices.Reverse of ints: a row holds them in order, or the other way round.
-/
import Derived.Test.YtdmmahhnfnefoaaDoorPp1
import Derived.Test.YtdmmahhnfnefoaaDoorShelf
namespace Go.Proofs.YtdmmahhnfnefoaaDoor
open Go.RowKit Go.Sort Go.Lib
variable {W : World} {F : SL}
/-- A call that puts other numbers (as many) into a row's cells, and makes new blocks. -/
theorem row_put {w : World} {e g o c n : Nat} {cur : List Value} {zs ys : List Int} (hs : Sat W w (SL.blk g (.cells cur.toArray e (0, 0)) * F)) (hc : n ≤ c) (hm : c ≤ maxLen) (h2 : o + c * 1 ≤ cur.length) (hl : ys.length = n)
    (m : Nat) (os : Array Go.Obj) : Sat W (grow (putRow (Value.int .i64) (Sort.ahead w m) g o ys.toArray) os) (RowC e 1 (some ⟨g, o, none⟩) n c (intsR .i64 ys) * F) := by
  have hg := hs.get
  have hw : Sat W (grow (putRow (Value.int .i64) (Sort.ahead w m) g o ys.toArray) os) (SL.blk g (.cells (putCells (Value.int .i64) o ys.toArray cur.toArray).toList.toArray e (0, 0)) * F) := by
    refine hs.write ?_ rfl rfl rfl ?_ ?_
    · simp [Go.Sort.grow, putRow, mapBlock, Go.Sort.ahead]
    · intro k hk hkg
      simp only [Go.Sort.grow, putRow, mapBlock]
      rw [Array.getElem?_append_left (by simpa [Go.Sort.ahead] using hk), Array.getElem?_modify, if_neg (Ne.symm hkg)]
      rfl
    · simp only [Go.Sort.grow, putRow, mapBlock]
      rw [Array.getElem?_append_left (by simpa [Go.Sort.ahead] using hs.lt), Array.getElem?_modify, if_pos rfl]
      have : (Go.Sort.ahead w m).heap = w.heap := rfl
      rw [this, hg]
      rfl
  refine RowC.shut (o := o) hc hm ?_ ?_ hw
  · simpa [putCells] using h2
  · apply List.ext_getElem?
    intro j
    rw [List.getElem?_take, List.getElem?_drop]
    split
    · rename_i hj
      simp only [putCells, Array.getElem?_toList, Array.getElem?_mapIdx, List.getElem?_toArray]
      have hlt : o + j < cur.length := by omega
      have hjy : j < ys.length := by omega
      rw [List.getElem?_eq_getElem hlt]
      simp only [Option.map_some]
      rw [if_pos ⟨by omega, by simp; omega⟩]
      unfold intsR
      rw [List.getElem?_map, List.getElem?_eq_getElem hjy]
      simp only [Option.map_some]
      congr 2
      rw [show o + j - o = j by omega, getElem!_pos _ j (by simpa using hjy)]
      simp
    · rw [List.getElem?_eq_none (by simp [intsR]; omega)]
theorem row_holds {w : World} {e g o c n : Nat} {cur : List Value} {zs : List Int} (hs : Sat W w (SL.blk g (.cells cur.toArray e (0, 0)) * F)) (h3 : (cur.drop o).take (n * 1) = intsR .i64 zs) (hl : zs.length = n) : Holds (Value.int .i64) w g o zs.toArray := by
  intro j hj
  have hj' : j < zs.length := by simpa using hj
  refine ⟨?_, hs.free _⟩
  rw [hs.cell]
  have e1 : ((cur.drop o).take (n * 1))[j]? = (intsR .i64 zs)[j]? := by rw [h3]
  rw [List.getElem?_take, if_pos (by omega), List.getElem?_drop] at e1
  rw [List.getElem?_toArray, e1]
  unfold intsR
  rw [List.getElem?_map, List.getElem?_eq_getElem hj', getElem!_pos _ j (by simpa using hj')]
  simp
def srtI (zs : List Int) : List Int := zs.mergeSort fun x y => decide (x ≤ y)
theorem srtI_len (zs : List Int) : (srtI zs).length = zs.length := List.length_mergeSort zs
theorem Sort_spec (p : Option Addr) (n c : Nat) (zs : List Int) (hl : zs.length = n) (hsm : n ≤ 1000000) :
    Spec Tryd.prog 43 [.slice p n c] W (RowC 3 1 p n c (intsR .i64 zs) * F) (fun _ : Unit => .tuple #[]) (fun _ => RowC 3 1 p n c (intsR .i64 (srtI zs)) * F) := by
  intro w h
  obtain ⟨⟨_, hc, hm⟩, ⟨_, hc0, hs⟩ | ⟨g, o, cur, rfl, h2, h3, hs⟩⟩ := RowC.open h
  · have hn : n = 0 := by omega
    subst hn
    obtain rfl := List.eq_nil_of_length_eq_zero hl
    refine (Tryd.slices_Sort_int_none p c w).mono ?_
    rintro e w' ⟨rfl, rfl⟩
    exact ⟨(), rfl, by simpa [srtI] using h⟩
  · subst hl
    refine (Tryd.slices_Sort_int g o c zs w (row_holds (c := c) hs h3 rfl) hs.lt (by omega)).mono ?_
    rintro e w' ⟨rfl, m, os, rfl⟩
    exact ⟨(), rfl, row_put (zs := zs) hs hc hm h2 (srtI_len zs) m os⟩
theorem grow_none (w : World) : grow w #[] = w := by
  unfold grow
  simp
theorem Reverse_spec (p : Option Addr) (n c : Nat) (zs : List Int) (hl : zs.length = n) (hsm : n ≤ 1000000) :
    Spec Tryd.prog 50 [.slice p n c] W (RowC 3 1 p n c (intsR .i64 zs) * F) (fun _ : Unit => .tuple #[]) (fun _ => RowC 3 1 p n c (intsR .i64 zs.reverse) * F) := by
  intro w h
  obtain ⟨⟨_, hc, hm⟩, ⟨_, hc0, hs⟩ | ⟨g, o, cur, rfl, h2, h3, hs⟩⟩ := RowC.open h
  · have hn : n = 0 := by omega
    subst hn
    obtain rfl := List.eq_nil_of_length_eq_zero hl
    refine (Tryd.slices_Reverse_int_empty p c w).mono ?_
    rintro e w' ⟨rfl, rfl⟩
    exact ⟨(), rfl, by simpa using h⟩
  · subst hl
    refine (Tryd.slices_Reverse_int g o c zs w (row_holds (c := c) hs h3 rfl) (by omega)).mono ?_
    rintro e w' ⟨rfl, m, rfl⟩
    have := row_put (zs := zs) hs hc hm h2 (show zs.reverse.length = zs.length by simp) m #[]
    rw [grow_none] at this
    exact ⟨(), rfl, this⟩
end Go.Proofs.YtdmmahhnfnefoaaDoor
