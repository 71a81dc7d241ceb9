/-
  slices.SortFunc over entries, by package wheel's order: the row holds them in order.
-/
import Derived.Test.YtdmmahhnfnefoaaWo0
import Derived.Shelf.SlSortCmp.NoneTotal
namespace Go.Proofs.Ytdmmahhnfnefoaa
open Go.RowKit Go.Sort Go.Lib
variable {W : World} {F : SL}
instance : Inhabited Wen := ⟨wen0⟩
theorem lt_cfW (x y : Wen) : ltOf cfW x y = eLt x y := by
  unfold ltOf eLt cfW
  congr 1
  unfold Lib.compareInt
  apply propext
  constructor
  · intro h
    split at h <;> (repeat' split at h) <;> omega
  · intro h
    split <;> (repeat' split) <;> omega
theorem swo_cfW : SWO (ltOf cfW) where
  irrefl x := by rw [lt_cfW]; simp [eLt]
  trans x y z h1 h2 := by
    rw [lt_cfW] at *
    simp only [eLt, decide_eq_true_eq] at *
    omega
  ntrans x y z h1 h2 := by
    rw [lt_cfW] at *
    simp only [eLt, decide_eq_false_iff_not] at *
    omega
theorem flat_ents (l : List Wen) : flatK wenC 3 l.toArray = (entsR l).toArray := by
  have hl := entsR_len l
  refine ext_get! (by simp [hl]) fun t ht => ?_
  have ht' : t < l.length * 3 := by simpa using ht
  rw [get_flatK _ _ _ t (by simpa using ht')]
  have hi : t / 3 < l.length := by omega
  have hj : t % 3 < 3 := Nat.mod_lt _ (by decide)
  have e1 : l.toArray[t / 3]! = l.getD (t / 3) wen0 := by
    rw [getElem!_pos l.toArray (t / 3) (by simpa using hi), List.getD_eq_getElem?_getD, List.getElem?_eq_getElem hi]
    simp
  rw [e1]
  have hw : (wenC (l.getD (t / 3) wen0)).length = 3 := rfl
  have h2 := entsR_get (l := l) (i := t / 3) (j := t % 3) (v := (wenC (l.getD (t / 3) wen0))[t % 3]!) hi (by
    rw [getElem!_pos _ (t % 3) (by rw [hw]; exact hj), List.getElem?_eq_getElem (by rw [hw]; exact hj)])
  rw [show t / 3 * 3 + t % 3 = t by omega] at h2
  have h3 : t < (entsR l).toArray.size := by simpa [hl] using ht'
  rw [getElem!_pos (entsR l).toArray t h3]
  have h4 := List.getElem?_eq_some_iff.1 h2
  obtain ⟨h5, h6⟩ := h4
  simpa using h6.symm
theorem sorted_list {l : List Wen} {d : Array Wen} (hp : PermIn 0 l.toArray.size l.toArray d) (hs : SortedIn (ltOf cfW) 0 l.toArray.size d) (ht : Turns l) : d.toList = srt l := by
  obtain ⟨h1, _, h3⟩ := hp
  have h1' : d.size = l.length := by simpa using h1
  have h3' : d.toList.Perm l := by
    have e1 : (d.extract 0 l.toArray.size) = d := by
      rw [← h1]; simp
    have e2 : (l.toArray.extract 0 l.toArray.size) = l.toArray := by simp
    rw [e1, e2] at h3
    simpa using h3
  refine srt_one ht h3' ?_
  rw [List.pairwise_iff_getElem]
  intro i j hi hj hij
  have hi' : i < d.size := by simpa using hi
  have hj' : j < d.size := by simpa using hj
  have := hs i j (Nat.zero_le _) hij (by simp; omega)
  rw [lt_cfW, getElem!_pos d j hj', getElem!_pos d i hi'] at this
  simp only [eLe, Array.getElem_toList, this, Bool.not_false]
theorem SortFunc_spec (p : Option Addr) (n c : Nat) (l : List Wen) (ht : Turns l) (hsm : l.length ≤ 1000000) :
    Spec Try.prog 67 [.slice p n c, .func (.func 44) #[] #[]] W (RowC 97 3 p n c (entsR l) * F) (fun _ : Unit => .tuple #[]) (fun _ => RowC 97 3 p n c (entsR (srt l)) * F) := by
  intro w h
  obtain ⟨⟨hl, hc, hm⟩, ⟨_, hc0, hs⟩ | ⟨g, o, cur, rfl, h2, h3, hs⟩⟩ := RowC.open h
  · have hn : n = 0 := by omega
    subst hn
    have hl0 : l = [] := by
      rw [entsR_len] at hl
      exact List.eq_nil_of_length_eq_zero (by omega)
    subst hl0
    refine (AnyF.slices_SortFunc_none Try.sortEnt p c (.func (.func 44) #[] #[]) w).mono ?_
    rintro e w' ⟨rfl, rfl⟩
    exact ⟨(), rfl, by rw [srt_nil]; exact h⟩
  · have hln : l.length = n := by
      rw [entsR_len] at hl; omega
    subst hln
    have hH : HoldsK wenC 3 w g o l.toArray := by
      unfold HoldsK
      rw [flat_ents]
      intro j hj
      have hj' : j < (entsR l).length := by simpa using hj
      refine ⟨?_, hs.free _⟩
      rw [getElem!_pos (entsR l).toArray j hj, hs.cell]
      have e1 : (List.take (l.length * 3) (List.drop o cur))[j]? = (entsR l)[j]? := by rw [h3]
      rw [List.getElem?_take, if_pos (by omega), List.getElem?_drop] at e1
      rw [List.getElem?_toArray, e1, List.getElem?_eq_getElem hj']
      simp
    have hlen : l.length < 4611686018427387904 := by omega
    have hsz : l.toArray.size = l.length := by simp
    have hcon := AnyQ.slices_SortFunc Try.sortEnt 3 Try.isAgg97 Try.sizeOf97 wenC (fun _ => rfl) (fun x v hv => by simp [wenC] at hv; rcases hv with rfl | rfl | rfl <;> rfl) cfW swo_cfW 44 #[] g o c l.toArray w
      (IsFn.runs) (fun _ _ _ _ x y => order_calls x y _) hH hs.lt (by rw [hsz]; exact hlen)
    rw [hsz] at hcon
    refine hcon.mono ?_
    rintro e w' ⟨rfl, d, m, os, hp, hso, rfl⟩
    have hd := sorted_list (l := l) (d := d) (by rw [hsz]; exact hp) (by rw [hsz]; exact hso) ht
    have hd' : d = (srt l).toArray := by rw [← hd]
    subst hd'
    refine ⟨(), rfl, ?_⟩
    have hflat := flat_ents (srt l)
    have hsl : (entsR (srt l)).length = l.length * 3 := by rw [entsR_len, srt_len]
    have hg := hs.get
    have hw : Sat W (sortWorldK wenC 3 w g o m (srt l).toArray os) (SL.blk g (.cells (putCells id o (entsR (srt l)).toArray cur.toArray).toList.toArray 97 (0, 0)) * F) := by
      refine hs.write ?_ rfl rfl rfl ?_ ?_
      · simp [sortWorldK, Go.Sort.grow, putRowK, Go.Sort.ahead]
      · intro k hk hkg
        simp only [sortWorldK, Go.Sort.grow, putRowK, putRow, mapBlock]
        rw [Array.getElem?_append_left (by simpa [Go.Sort.ahead] using hk), Array.getElem?_modify, if_neg (Ne.symm hkg)]
        rfl
      · simp only [sortWorldK, Go.Sort.grow, putRowK, putRow, mapBlock, hflat]
        rw [Array.getElem?_append_left (by simpa [Go.Sort.ahead] using hs.lt), Array.getElem?_modify, if_pos rfl]
        have : (Go.Sort.ahead w m).heap = w.heap := rfl
        rw [this, hg]
        rfl
    refine RowC.shut (o := o) hc hm ?_ ?_ hw
    · simpa [putCells] using h2
    · apply List.ext_getElem?
      intro j
      rw [List.getElem?_take, List.getElem?_drop]
      have hle : l.length * 3 ≤ c * 3 := Nat.mul_le_mul_right _ hc
      split
      · rename_i hj
        simp only [putCells, Array.getElem?_toList, Array.getElem?_mapIdx, List.getElem?_toArray]
        have hlt : o + j < cur.length := by omega
        rw [List.getElem?_eq_getElem hlt, List.getElem?_eq_getElem (by rw [hsl]; exact hj)]
        simp only [Option.map_some]
        rw [if_pos ⟨by omega, by simp [hsl]; omega⟩]
        congr 1
        rw [show o + j - o = j by omega, getElem!_pos _ j (by simp [hsl]; exact hj)]
        simp
      · rw [List.getElem?_eq_none (by rw [hsl]; omega)]
end Go.Proofs.Ytdmmahhnfnefoaa
