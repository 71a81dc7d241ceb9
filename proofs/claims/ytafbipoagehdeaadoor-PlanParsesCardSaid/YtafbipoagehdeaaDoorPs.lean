/-
  What the library's functions give, as contracts over assertions: strings.Split at one byte, Cut, CutPrefix, Join, strconv.Itoa.
-/
import Derived.Test.YtafbipoagehdeaaDoorSxT
import Derived.Test.YtafbipoagehdeaaDoorShelf
import Derived.Lib.SplitLaws
namespace Go.Proofs.YtafbipoagehdeaaDoor
open Go.RowKit
set_option maxRecDepth 10000
attribute [local irreducible] EK EX ER EN EL ES OpVal OpDoes OpSkip
variable {W : World} {F : SL}

abbrev str (l : List UInt8) : Value := .string (bs l)
def strsR (l : List (List UInt8)) : List Value := l.map fun x => .string (bs x)
theorem strsR_len (l : List (List UInt8)) : (strsR l).length = l.length := by simp [strsR]
theorem strsR_snoc (l : List (List UInt8)) (x : List UInt8) : strsR l ++ [.string (bs x)] = strsR (l ++ [x]) := by simp [strsR]
instance RowGet.strs (l : List (List UInt8)) (i : Nat) : RowGet (strsR l) i 1 0 (.string (bs (l.getD i []))) (i < l.length) := ⟨fun h => by
  simp only [strsR, List.getElem?_map, Nat.mul_one, Nat.add_zero, getD_get [] h, Option.map_some]⟩
instance Ones.iStrs (l : List (List UInt8)) : Ones (strsR l) := ⟨by simp [Go.Proofs.YtafbipoagehdeaaDoor.ones, strsR, Value.oneCell']⟩
/-- What the library's functions read of the world. -/
class PlanW (W : World) : Prop where
  m : ∃ m, W.cell? ⟨0, 0, none⟩ = some (.int .i64 m)
class PlanT (W : World) : Prop where
  tab : Lib.TabIs Tryd.prog W "internal/strconv.uint64pow10" .u64 Lib.pow10Tab

/-- A text cut at each c. -/
def splitL (c : UInt8) : List UInt8 → List (List UInt8)
  | [] => [[]]
  | x :: l => if x = c then [] :: splitL c l else match splitL c l with
    | [] => [[x]]
    | h :: t => (x :: h) :: t
theorem splitL_ne (c : UInt8) (l : List UInt8) : splitL c l ≠ [] := by
  cases l with
  | nil => simp [splitL]
  | cons x l => unfold splitL; split; · simp
                split <;> simp
theorem index_cons (x c : UInt8) (l : List UInt8) : Lib.index (x :: l) [c] = if x = c then 0 else if Lib.index l [c] = -1 then -1 else Lib.index l [c] + 1 := by
  have hb : ([c].isPrefixOf (x :: l)) = decide (x = c) := by rw [show [c].isPrefixOf (x :: l) = (c == x && true) from by simp [List.isPrefixOf], Bool.eq_iff_iff, Bool.and_true, beq_iff_eq, decide_eq_true_iff]; exact eq_comm
  rw [show Lib.index (x :: l) [c] = if [c].isPrefixOf (x :: l) then 0 else if (Lib.index l [c] == -1) then -1 else Lib.index l [c] + 1 from rfl, hb]
  by_cases h : x = c <;> simp [h]
theorem splitK_one (c : UInt8) : ∀ (s : List UInt8) (k : Nat), s.count c ≤ k → Lib.splitK [c] 0 k s = splitL c s
  | [], k, _ => by cases k <;> simp [Lib.splitK, splitL, Lib.index]
  | x :: l, k, h => by
    by_cases hx : x = c
    · subst hx
      rw [List.count_cons_self] at h
      obtain ⟨k, rfl⟩ : ∃ j, k = j + 1 := ⟨k - 1, by omega⟩
      have hi : Lib.index (x :: l) [x] = 0 := by rw [index_cons, if_pos rfl]
      rw [Lib.splitK, hi, if_neg (by decide), splitL, if_pos rfl]
      simp [splitK_one x l k (by omega)]
    · have h' : l.count c ≤ k := by
        rw [List.count_cons_of_ne (by simpa using hx)] at h
        exact h
      have ih := splitK_one c l k h'
      rw [splitL, if_neg hx, ← ih]
      cases k with
      | zero => simp [Lib.splitK]
      | succ k =>
        have hi : Lib.index (x :: l) [c] = if Lib.index l [c] = -1 then -1 else Lib.index l [c] + 1 := by rw [index_cons, if_neg hx]
        by_cases hn : Lib.index l [c] = -1
        · rw [if_pos hn] at hi
          simp [Lib.splitK, hi, hn]
        · rw [if_neg hn] at hi
          have hg := Lib.index_ge l [c]
          obtain ⟨i, e⟩ : ∃ i : Nat, Lib.index l [c] = i := ⟨(Lib.index l [c]).toNat, by omega⟩
          have e1 : (Lib.index l [c] + 1).toNat = i + 1 := by omega
          have e2 : (Lib.index l [c]).toNat = i := by omega
          have e3 : ¬ Lib.index l [c] + 1 = -1 := by omega
          simp [Lib.splitK, hi, hn, e1, e2, e3]
theorem splitL_len (c : UInt8) (l : List UInt8) : (splitL c l).length = l.count c + 1 := by
  induction l with
  | nil => rfl
  | cons x l ih =>
    unfold splitL
    by_cases hx : x = c
    · subst hx
      rw [if_pos rfl, List.count_cons_self, List.length_cons, ih]
    · rw [if_neg hx, List.count_cons_of_ne (by simpa using hx), ← ih]
      split
      · rename_i e
        exact absurd e (splitL_ne c l)
      · rename_i e
        rw [e]; simp
theorem splitB_one (c : UInt8) (s : List UInt8) : (Lib.splitB (bs [c]) 0 (Lib.countB (bs s) (bs [c])) (bs s)).map Value.string = strsR (splitL c s) := by
  have h := Lib.splitB_data (bs [c]) 0 (Lib.countB (bs s) (bs [c])) (bs s)
  have e1 : (bs [c]).data.toList = [c] := rfl
  have e2 : (bs s).data.toList = s := by simp [bs]
  rw [e1, e2, splitK_one c s _ (by unfold Lib.countB; rw [e1, e2, Lib.count_one]; exact Nat.le_refl _)] at h
  rw [← h, strsR, List.map_map]
  apply List.map_congr_left
  intro x _
  simp only [Function.comp, ← bs_of]

theorem Split_spec [hW : PlanW W] (s : List UInt8) (c : UInt8) (hs : s.length < 4294967281) :
    Spec Tryd.prog 37 [str s, str [c]] W F (fun p : Option Addr => .slice p (splitL c s).length (splitL c s).length) (fun p => RowC 9 1 p (splitL c s).length (splitL c s).length (strsR (splitL c s)) * F) := by
  intro w h
  obtain ⟨m, hm⟩ := hW.m
  have hm' : w.cell? ⟨0, 0, none⟩ = some (.int .i64 m) := by rw [h.below.cell (World.block_lt_of_cell? _ _ hm)]; exact hm
  refine (Tryd.strings_Split (bs s) (bs [c]) m w (by rw [bs_size]; exact hs) hm' (by rw [bs_size]; exact Nat.le_refl 1)).mono ?_
  rintro e w' ⟨rfl, rfl⟩
  have e1 : (bs [c]).data.toList = [c] := rfl
  have e2 : (bs s).data.toList = s := by simp [bs]
  have hl : Lib.countB (bs s) (bs [c]) + 1 = (splitL c s).length := by rw [splitL_len]; unfold Lib.countB; rw [e1, e2, Lib.count_one]
  have hk : s.count c ≤ s.length := List.count_le_length
  refine ⟨some ⟨w.heap.size, 0, none⟩, by rw [hl], ?_⟩
  rw [splitB_one]
  exact RowC.shut (o := 0) (cur := strsR (splitL c s)) (Nat.le_refl _) (by unfold maxLen; rw [splitL_len]; omega) (by simp [strsR_len]) (by rw [List.drop_zero]; exact List.take_of_length_le (by simp [strsR_len])) (h.alloc _)

theorem Cut_spec [hW : PlanW W] (s sep : List UInt8) (hs : s.length < 4294967281) :
    Spec Tryd.prog 42 [str s, str sep] W F (fun _ : Unit => .tuple #[str (Lib.cut s sep).1, str (Lib.cut s sep).2.1, .bool (Lib.cut s sep).2.2]) (fun _ => F) := by
  intro w h
  obtain ⟨m, hm⟩ := hW.m
  have hm' : w.cell? ⟨0, 0, none⟩ = some (.int .i64 m) := by rw [h.below.cell (World.block_lt_of_cell? _ _ hm)]; exact hm
  refine (Tryd.strings_Cut (bs s) (bs sep) m w (by rw [bs_size]; exact hs) hm').mono ?_
  rintro e w' ⟨rfl, n, rfl⟩
  have e1 : (bs sep).data.toList = sep := by simp [bs]
  have e2 : (bs s).data.toList = s := by simp [bs]
  exact ⟨(), by rw [e1, e2]; rfl, h.drewN n⟩
theorem CutPrefix_spec (s p : List UInt8) :
    Spec Tryd.prog 41 [str s, str p] W F (fun _ : Unit => .tuple #[str (Lib.trimPrefix s p), .bool (Lib.hasPrefix s p)]) (fun _ => F) := by
  intro w h
  refine (Tryd.strings_CutPrefix (bs s) (bs p) w).mono ?_
  rintro e w' ⟨rfl, rfl⟩
  have e1 : (bs p).data.toList = p := by simp [bs]
  have e2 : (bs s).data.toList = s := by simp [bs]
  exact ⟨(), by rw [e1, e2]; rfl, h⟩
theorem Sat.under {w w' : World} (h : Sat W w F) (hb : Below w.heap.size w w') : Sat W w' F := h.keep hb.size hb.os hb.tape hb.output hb.block
theorem tab_under {P : Program} {n : String} {k : IntKind} {zs : List Int} {w w' : World} (h : Lib.TabIs P w n k zs) (hb : Below w.heap.size w w') : Lib.TabIs P w' n k zs := by
  unfold Lib.TabIs World.var? at h ⊢
  cases hg : P.globalNamed n with
  | none => simp [hg] at h
  | some g =>
    simp only [hg, Option.bind_some] at h ⊢
    have hlt : g < w.heap.size := by
      rcases Nat.lt_or_ge g w.heap.size with h' | h'
      · exact h'
      · simp [Array.getElem?_eq_none h'] at h
    rw [hb.block g hlt]
    exact h
theorem Itoa_spec [hW : PlanT W] (n : Int) (h0 : -9223372036854775808 ≤ n) (h1 : n ≤ 9223372036854775807) :
    Spec Tryd.prog 35 [.int .i64 n] W F (fun _ : Unit => str (Lib.itoa n)) (fun _ => F) := by
  intro w h
  have htab : Lib.TabIs Tryd.prog w "internal/strconv.uint64pow10" .u64 Lib.pow10Tab := tab_under hW.tab h.below
  refine (Tryd.strconv_Itoa n h0 h1 w htab).mono ?_
  rintro e w' ⟨rfl, k, os, rfl⟩
  refine ⟨(), rfl, (h.drewN k).keep (by simp [Go.Sort.grow]) rfl rfl rfl fun b hb => ?_⟩
  simp only [Go.Sort.grow]
  exact Array.getElem?_append_left hb
theorem Join_spec (p : Option Addr) (n c : Nat) (l : List (List UInt8)) (sep : List UInt8) (hn : 0 < n) (hlen : (Lib.join l sep).length ≤ 140737488355328) (hN : n ≤ 140737488355328) :
    Spec Tryd.prog 36 [.slice p n c, str sep] W (RowC 9 1 p n c (strsR l) * F) (fun _ : Unit => str (Lib.join l sep)) (fun _ => RowC 9 1 p n c (strsR l) * F) := by
  intro w h
  obtain ⟨⟨hl, hc, hm⟩, ⟨_, h2, _⟩ | ⟨g, o, cur, rfl, h2, h3, hs⟩⟩ := RowC.open h
  · omega
  · have hl' : l.length = n := by simpa [strsR_len] using hl
    subst hl'
    have hlm : (l.map bs).length = l.length := by simp
    have := Tryd.strings_Join g o c (l.map bs) (bs sep) w (fun j x hx => by
      obtain ⟨a, e1, e2⟩ := RowC.cell h (i := j) (v := .string x) (by
        simp only [strsR, List.getElem?_map, Option.map_eq_some_iff] at hx ⊢
        obtain ⟨y, e1, rfl⟩ := hx
        exact ⟨y, e1, rfl⟩)
      simp only [off, Option.map_some, Option.some.injEq] at e1
      subst e1
      rw [add_at] at e2
      exact e2) hs.lt (by rw [hlm]; exact hN) (by rw [hlm]; exact hc) (by
        have : (l.map bs).map (·.data.toList) = l := by
          rw [List.map_map]
          have : ((fun x : ByteArray => x.data.toList) ∘ bs) = id := by funext x; simp [bs]
          rw [this, List.map_id]
        rw [this]
        simpa [bs] using hlen)
    rw [hlm] at this
    refine this.mono ?_
    rintro e w' ⟨rfl, hb⟩
    have e1 : (l.map bs).map (·.data.toList) = l := by
      rw [List.map_map]
      have : ((fun x : ByteArray => x.data.toList) ∘ bs) = id := by funext x; simp [bs]
      rw [this, List.map_id]
    have e2 : (bs sep).data.toList = sep := by simp [bs]
    exact ⟨(), by rw [e1, e2]; rfl, h.under hb⟩
end Go.Proofs.YtafbipoagehdeaaDoor
