/-
  The wheel in memory.
-/
import Derived.Test.YtdmmahhnfnefoaaSxT
import Derived.Test.YtdmmahhnfnefoaaSg
import Derived.Test.YtdmmahhnfnefoaaSh
import Derived.Test.YtdmmahhnfnefoaaSm
import Derived.Test.YtdmmahhnfnefoaaWh1
namespace Go.Proofs.Ytdmmahhnfnefoaa
open Go.RowKit

theorem spl_set : ∀ {cs : List Value} {i : Nat} {v : Value}, i < cs.length → spl cs i [v] = some (cs.set i v)
  | [], _, _, h => by simp at h
  | c :: cs, 0, v, _ => by
    cases cs <;> simp [spl]
  | c :: cs, i + 1, v, h => by
    have := spl_set (cs := cs) (i := i) (v := v) (by simpa using h)
    simp [spl, this]

/-! ### Entries in a row -/
def wenC (x : Wen) : List Value := [.int .i64 x.id, .int .i64 (x.at_ : Int), .int .i64 (x.turn : Int)]
def entsR (l : List Wen) : List Value := l.flatMap wenC
def wen0 : Wen := ⟨0, 0, 0⟩
theorem entsR_len (l : List Wen) : (entsR l).length = l.length * 3 := by
  induction l with
  | nil => rfl
  | cons x l ih =>
    simp only [entsR, List.flatMap_cons, List.length_append, List.length_cons] at ih ⊢
    rw [ih]; simp [wenC]; omega
theorem entsR_get : ∀ {l : List Wen} {i j : Nat} {v : Value}, i < l.length → (wenC (l.getD i wen0))[j]? = some v → (entsR l)[i * 3 + j]? = some v
  | [], _, _, _, h, _ => by simp at h
  | x :: l, 0, j, v, _, h => by
    have hj : j < 3 := by
      have := (List.getElem?_eq_some_iff.1 h).1
      simpa [wenC] using this
    simp only [entsR, List.flatMap_cons, Nat.zero_mul, Nat.zero_add]
    rw [List.getElem?_append_left (by simpa [wenC] using hj)]
    simpa using h
  | x :: l, i + 1, j, v, hi, h => by
    have ih := entsR_get (l := l) (i := i) (j := j) (v := v) (by simpa using hi) (by simpa using h)
    simp only [entsR, List.flatMap_cons] at ih ⊢
    rw [List.getElem?_append_right (by simp [wenC]; omega), show (i + 1) * 3 + j - (wenC x).length = i * 3 + j by simp [wenC]; omega]
    exact ih
instance RowGet.wen0 (l : List Wen) (i : Nat) : RowGet (entsR l) i 3 0 (.int .i64 (l.getD i Go.Proofs.Ytdmmahhnfnefoaa.wen0).id) (i < l.length) := ⟨fun h => entsR_get h rfl⟩
instance RowGet.wen1 (l : List Wen) (i : Nat) : RowGet (entsR l) i 3 1 (.int .i64 ((l.getD i Go.Proofs.Ytdmmahhnfnefoaa.wen0).at_ : Int)) (i < l.length) := ⟨fun h => entsR_get h rfl⟩
instance RowGet.wen2 (l : List Wen) (i : Nat) : RowGet (entsR l) i 3 2 (.int .i64 ((l.getD i Go.Proofs.Ytdmmahhnfnefoaa.wen0).turn : Int)) (i < l.length) := ⟨fun h => entsR_get h rfl⟩
instance RowAll.wen (l : List Wen) (i : Nat) : RowAll (entsR l) i 3 (wenC (l.getD i wen0)) (i < l.length) := ⟨fun h => ⟨rfl, fun _ _ hv => entsR_get h hv⟩⟩
instance Ones.wens (l : List Wen) : Ones (entsR l) := ⟨by
  simp only [Go.Proofs.Ytdmmahhnfnefoaa.ones, List.all_eq_true, entsR]
  intro v hv
  obtain ⟨x, _, hv⟩ := List.mem_flatMap.1 hv
  simp only [wenC, List.mem_cons, List.not_mem_nil, or_false] at hv
  rcases hv with rfl | rfl | rfl <;> rfl⟩
instance RLen.ents (l : List Wen) : RLen (entsR l) (l.length * 3) := ⟨entsR_len l⟩
theorem entsR_snoc (l : List Wen) (x : Wen) : entsR l ++ wenC x = entsR (l ++ [x]) := by simp [entsR]
theorem entsR_app (l m : List Wen) : entsR l ++ entsR m = entsR (l ++ m) := by simp [entsR]
/-- Items in a row. -/
def itemC (x : Int × Int) : List Value := [.int .i64 x.1, .int .i64 x.2]
def itemsR (l : List (Int × Int)) : List Value := l.flatMap itemC
theorem itemsR_len (l : List (Int × Int)) : (itemsR l).length = l.length * 2 := by
  induction l with
  | nil => rfl
  | cons x l ih =>
    simp only [itemsR, List.flatMap_cons, List.length_append, List.length_cons] at ih ⊢
    rw [ih]; simp [itemC]; omega
theorem itemsR_get : ∀ {l : List (Int × Int)} {i j : Nat} {v : Value}, i < l.length → (itemC (l.getD i (0, 0)))[j]? = some v → (itemsR l)[i * 2 + j]? = some v
  | [], _, _, _, h, _ => by simp at h
  | x :: l, 0, j, v, _, h => by
    have hj : j < 2 := by
      have := (List.getElem?_eq_some_iff.1 h).1
      simpa [itemC] using this
    simp only [itemsR, List.flatMap_cons, Nat.zero_mul, Nat.zero_add]
    rw [List.getElem?_append_left (by simpa [itemC] using hj)]
    simpa using h
  | x :: l, i + 1, j, v, hi, h => by
    have ih := itemsR_get (l := l) (i := i) (j := j) (v := v) (by simpa using hi) (by simpa using h)
    simp only [itemsR, List.flatMap_cons] at ih ⊢
    rw [List.getElem?_append_right (by simp [itemC]; omega), show (i + 1) * 2 + j - (itemC x).length = i * 2 + j by simp [itemC]; omega]
    exact ih
instance RowGet.item0 (l : List (Int × Int)) (i : Nat) : RowGet (itemsR l) i 2 0 (.int .i64 (l.getD i (0, 0)).1) (i < l.length) := ⟨fun h => itemsR_get h rfl⟩
instance RowGet.item1 (l : List (Int × Int)) (i : Nat) : RowGet (itemsR l) i 2 1 (.int .i64 (l.getD i (0, 0)).2) (i < l.length) := ⟨fun h => itemsR_get h rfl⟩
instance RowAll.item (l : List (Int × Int)) (i : Nat) : RowAll (itemsR l) i 2 (itemC (l.getD i (0, 0))) (i < l.length) := ⟨fun h => ⟨rfl, fun _ _ hv => itemsR_get h hv⟩⟩
instance Ones.items (l : List (Int × Int)) : Ones (itemsR l) := ⟨by
  simp only [Go.Proofs.Ytdmmahhnfnefoaa.ones, List.all_eq_true, itemsR]
  intro v hv
  obtain ⟨x, _, hv⟩ := List.mem_flatMap.1 hv
  simp only [itemC, List.mem_cons, List.not_mem_nil, or_false] at hv
  rcases hv with rfl | rfl <;> rfl⟩
instance RLen.items (l : List (Int × Int)) : RLen (itemsR l) (l.length * 2) := ⟨itemsR_len l⟩
theorem itemsR_snoc (l : List (Int × Int)) (x : Int × Int) : itemsR l ++ itemC x = itemsR (l ++ [x]) := by simp [itemsR]
theorem itemsR_app (l m : List (Int × Int)) : itemsR l ++ itemsR m = itemsR (l ++ m) := by simp [itemsR]

/-! ### Rows by number -/
abbrev Slab := Option Addr × Nat
def slV (q : Nat → Slab) (sl : Nat → List Wen) : List Value := (List.range 384).map fun k => .slice (q k).1 (sl k).length (q k).2
theorem slV_len (q : Nat → Slab) (sl : Nat → List Wen) : (slV q sl).length = 384 := by simp [slV]
theorem slV_get (q : Nat → Slab) (sl : Nat → List Wen) {k : Nat} (h : k < 384) : (slV q sl)[k]? = some (.slice (q k).1 (sl k).length (q k).2) := by
  simp [slV, h]
theorem slV_set (q : Nat → Slab) (sl : Nat → List Wen) {k : Nat} (h : k < 384) (r : Slab) (l : List Wen) : (slV q sl).set k (.slice r.1 l.length r.2) = slV (upd q k r) (upd sl k l) := by
  apply List.ext_getElem?
  intro i
  by_cases hi : i = k
  · subst hi
    rw [List.getElem?_set_self (by rw [slV_len]; exact h), slV_get _ _ h, upd_at, upd_at]
  · rw [List.getElem?_set_ne (Ne.symm hi)]
    by_cases h2 : i < 384
    · rw [slV_get _ _ h2, slV_get _ _ h2, upd_ne _ _ hi, upd_ne _ _ hi]
    · rw [List.getElem?_eq_none (by rw [slV_len]; omega), List.getElem?_eq_none (by rw [slV_len]; omega)]
def rowW (q : Nat → Slab) (sl : Nat → List Wen) (k : Nat) : SL := RowC 97 3 (q k).1 (sl k).length (q k).2 (entsR (sl k))
def rowsS (q : Nat → Slab) (sl : Nat → List Wen) : SL := SL.big ((List.range 384).map (rowW q sl))
def rowsB (k : Nat) (q : Nat → Slab) (sl : Nat → List Wen) : SL := SL.big (((List.range 384).map (rowW q sl)).eraseIdx k)
theorem rowsS_at (q : Nat → Slab) (sl : Nat → List Wen) {k : Nat} (h : k < 384) : rowsS q sl = RowC 97 3 (q k).1 (sl k).length (q k).2 (entsR (sl k)) * rowsB k q sl := by
  unfold rowsS rowsB
  rw [SL.big_split _ k (by simpa using h)]
  simp [rowW]
theorem rowsB_upd (q : Nat → Slab) (sl : Nat → List Wen) {k : Nat} (r : Slab) (l : List Wen) : rowsB k (upd q k r) (upd sl k l) = rowsB k q sl := by
  unfold rowsB
  congr 1
  rw [List.eraseIdx_eq_take_drop_succ, List.eraseIdx_eq_take_drop_succ]
  congr 1
  · apply List.ext_getElem?
    intro i
    rw [List.getElem?_take, List.getElem?_take]
    split
    · rename_i hi
      have : i ≠ k := by omega
      simp only [List.getElem?_map]
      cases hr : (List.range 384)[i]? with
      | none => rfl
      | some j =>
        obtain ⟨_, hj⟩ := List.getElem?_eq_some_iff.1 hr
        simp only [List.getElem_range] at hj
        subst hj
        simp only [Option.map_some, rowW, upd_ne _ _ this]
    · rfl
  · apply List.ext_getElem?
    intro i
    rw [List.getElem?_drop, List.getElem?_drop]
    have : k + 1 + i ≠ k := by omega
    simp only [List.getElem?_map]
    cases hr : (List.range 384)[k + 1 + i]? with
    | none => rfl
    | some j =>
      obtain ⟨_, hj⟩ := List.getElem?_eq_some_iff.1 hr
      simp only [List.getElem_range] at hj
      subst hj
      simp only [Option.map_some, rowW, upd_ne _ _ this]
theorem rowsS_upd (q : Nat → Slab) (sl : Nat → List Wen) {k : Nat} (h : k < 384) (r : Slab) (l : List Wen) :
    rowsS (upd q k r) (upd sl k l) = RowC 97 3 r.1 l.length r.2 (entsR l) * rowsB k q sl := by
  rw [rowsS_at _ _ h, rowsB_upd, upd_at, upd_at]

/-! ### A wheel -/
abbrev whV (now turn cnt : Int) (r : Slab) (n : Nat) (q : Nat → Slab) (sl : Nat → List Wen) : List Value := .int .i64 now :: .int .i64 turn :: .int .i64 cnt :: .slice r.1 n r.2 :: slV q sl
instance ObjGet.wh (a b c d : Value) (q : Nat → Slab) (sl : Nat → List Wen) (l j : Nat) : ObjGet (a :: b :: c :: d :: slV q sl) (0 + 4 + l * 64 + j * 1) (.slice (q (l * 64 + j)).1 (sl (l * 64 + j)).length (q (l * 64 + j)).2) (l * 64 + j < 384) := ⟨fun h => by
  rw [show 0 + 4 + l * 64 + j * 1 = (l * 64 + j) + 4 by omega]
  simpa using slV_get q sl h⟩
instance ObjPut.wh (a b c d : Value) (q : Nat → Slab) (sl : Nat → List Wen) (l j n : Nat) (p : Option Addr) (cap : Nat) : ObjPut (a :: b :: c :: d :: slV q sl) (0 + 4 + l * 64 + j * 1) (.slice p n cap) (a :: b :: c :: d :: (slV q sl).set (l * 64 + j) (.slice p n cap)) (l * 64 + j < 384) := ⟨fun h => by
  rw [show 0 + 4 + l * 64 + j * 1 = (l * 64 + j) + 4 by omega, spl_set (by simp [slV_len]; omega)]
  rfl⟩
abbrev WheelO (p : Option Addr) (s : WSt) (cnt : Int) (r : Slab) (q : Nat → Slab) (F : SL) : SL :=
  Obj p 94 (whV s.now s.turn cnt r s.ready.length q s.sl) * (RowC 97 3 r.1 s.ready.length r.2 (entsR s.ready) * (rowsS q s.sl * F))
def WheelX (p : Option Addr) (s : WSt) (g : Slab × (Nat → Slab)) : SL := Obj p 94 (whV s.now s.turn (s.all.length : Int) g.1 s.ready.length g.2 s.sl) * (RowC 97 3 g.1.1 s.ready.length g.1.2 (entsR s.ready) * rowsS g.2 s.sl)
def WheelC (p : Option Addr) (s : WSt) : SL := SL.ex (WheelX p s)
theorem WheelX.eq (p : Option Addr) (s : WSt) (g : Slab × (Nat → Slab)) (F : SL) : WheelX p s g * F = WheelO p s (s.all.length : Int) g.1 g.2 F := by
  unfold WheelX WheelO
  rw [SL.sep_assoc, SL.sep_assoc]
theorem WheelC.open {X : Cx} {k : List KI} {σ : Env} {F : SL} {p : Option Addr} {s : WSt} (h : ∀ r q, EK X k σ (WheelO p s (s.all.length : Int) r q F)) : EK X k σ (WheelC p s * F) := EK_ex fun g => by
  rw [WheelX.eq]
  exact h g.1 g.2
theorem WheelC.shut {F : SL} {p : Option Addr} {s : WSt} {cnt : Int} {r : Slab} {q : Nat → Slab} (hc : cnt = (s.all.length : Int)) : Ent (WheelO p s cnt r q F) (WheelC p s * F) := by
  subst hc
  refine Ent.ex (r, q) ?_
  rw [WheelX.eq]
  exact Ent.refl _
instance (priority := 2000) (p : Option Addr) (s : WSt) (F : SL) : AtP (WheelC p s * F) p (WheelC p s) F := ⟨rfl⟩
instance (p : Option Addr) (s : WSt) : Root (WheelC p s) p := ⟨fun W w F h => by
  obtain ⟨g, h⟩ := h.ex_out
  exact (Obj.root p _ _).nn W w _ (h.ac (SL.sep_assoc _ _ _))⟩
end Go.Proofs.Ytdmmahhnfnefoaa
