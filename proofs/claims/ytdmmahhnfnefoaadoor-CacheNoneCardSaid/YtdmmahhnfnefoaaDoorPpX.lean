/-
  PoolOwns: the walk.
-/
import Derived.Test.YtdmmahhnfnefoaaDoorPpW
import Derived.Test.YtdmmahhnfnefoaaDoorPpA
import Derived.Test.YtdmmahhnfnefoaaDoorRf
import Derived.Test.YtdmmahhnfnefoaaDoorSj
namespace Go.Proofs.YtdmmahhnfnefoaaDoor
open Go.RowKit
set_option maxRecDepth 10000
attribute [local irreducible] EK EX ER EN EL ES EG OpVal OpDoes OpSkip
variable {W : World} {F : SL} {X : Cx} {k : List KI} {σ : Env} {p sp : Option Addr} {n m : Nat} {ws o : List Nat} {s : PStep} {ss : List (Option PStep)} {bs : List Bool}

/-! ### Arrays of pointers, of truths -/
def ptrR (l : List (Option Addr)) : List Value := l.map .pointer
def boolR (l : List Bool) : List Value := l.map .bool
instance ObjGet.ptr (l : List (Option Addr)) (i : Nat) : ObjGet (ptrR l) i (.pointer (l.getD i none)) (i < l.length) := ⟨fun h => by
  simp [ptrR, h]⟩
instance ObjGet.bool (l : List Bool) (i : Nat) : ObjGet (boolR l) i (.bool (l.getD i false)) (i < l.length) := ⟨fun h => by
  simp [boolR, h]⟩
theorem spl_set : ∀ {l : List Value} {i : Nat} {v : Value}, i < l.length → spl l i [v] = some (l.set i v)
  | [], _, _, h => by simp at h
  | _ :: _, 0, _, _ => by simp [spl]
  | c :: l, i + 1, v, h => by
    have := spl_set (l := l) (i := i) (v := v) (by simpa using h)
    simp [spl, this]
instance ObjPut.ptr (l : List (Option Addr)) (i : Nat) (q : Option Addr) : ObjPut (ptrR l) i (.pointer q) (ptrR (l.set i q)) (i < l.length) := ⟨fun h => by
  rw [spl_set (by simpa [ptrR] using h)]; simp [ptrR, List.map_set]⟩
instance ObjPut.bool (l : List Bool) (i : Nat) (q : Bool) : ObjPut (boolR l) i (.bool q) (boolR (l.set i q)) (i < l.length) := ⟨fun h => by
  rw [spl_set (by simpa [boolR] using h)]; simp [boolR, List.map_set]⟩
/-! ### The workers' steps -/
def StA (p : Option Addr) (o : Option PStep) : SL := match o with
  | none => SL.pure (p = none)
  | some s => StepC p s
abbrev sA (ps : List (Option Addr)) (ss : List (Option PStep)) (w : Nat) : SL := StA (ps.getD w none) (ss.getD w none)
def StAll (ps : List (Option Addr)) (ss : List (Option PStep)) : SL := sA ps ss 0 * (sA ps ss 1 * (sA ps ss 2 * sA ps ss 3))
def StRest (w : Nat) (ps : List (Option Addr)) (ss : List (Option PStep)) : SL := match w with
  | 0 => sA ps ss 1 * (sA ps ss 2 * sA ps ss 3)
  | 1 => sA ps ss 0 * (sA ps ss 2 * sA ps ss 3)
  | 2 => sA ps ss 0 * (sA ps ss 1 * sA ps ss 3)
  | _ => sA ps ss 0 * (sA ps ss 1 * sA ps ss 2)
theorem left_comm (A B C : SL) : A * (B * C) = B * (A * C) := by rw [← SL.sep_assoc, SL.sep_comm A B, SL.sep_assoc]
theorem StAll.at (ps : List (Option Addr)) (ss : List (Option PStep)) {w : Nat} (hw : w < 4) : StAll ps ss = sA ps ss w * StRest w ps ss := by
  unfold StAll StRest
  match w, hw with
  | 0, _ => rfl
  | 1, _ => exact left_comm _ _ _
  | 2, _ =>
    show sA ps ss 0 * (sA ps ss 1 * (sA ps ss 2 * sA ps ss 3)) = sA ps ss 2 * (sA ps ss 0 * (sA ps ss 1 * sA ps ss 3))
    rw [left_comm (sA ps ss 1), left_comm (sA ps ss 0)]
  | 3, _ =>
    show sA ps ss 0 * (sA ps ss 1 * (sA ps ss 2 * sA ps ss 3)) = sA ps ss 3 * (sA ps ss 0 * (sA ps ss 1 * sA ps ss 2))
    rw [SL.sep_comm (sA ps ss 2), left_comm (sA ps ss 1), left_comm (sA ps ss 0)]
theorem StRest.set (ps : List (Option Addr)) (ss : List (Option PStep)) {w : Nat} (hw : w < 4) (ha : ps.length = 4) (hs : ss.length = 4) (q : Option Addr) (y : Option PStep) : StRest w (ps.set w q) (ss.set w y) = StRest w ps ss := by
  have e1 : ∀ x, x ≠ w → (ps.set w q).getD x none = ps.getD x none := fun x hx => by rw [getD_setO _ _ _ _ _ (by omega), if_neg (fun e => hx e.symm)]
  have e2 : ∀ x, x ≠ w → (ss.set w y).getD x none = ss.getD x none := fun x hx => by rw [getD_setO _ _ _ _ _ (by omega), if_neg (fun e => hx e.symm)]
  have e3 : ∀ x, x ≠ w → sA (ps.set w q) (ss.set w y) x = sA ps ss x := fun x hx => by unfold sA; rw [e1 x hx, e2 x hx]
  unfold StRest
  match w, hw with
  | 0, _ => simp only [e3 1 (by decide), e3 2 (by decide), e3 3 (by decide)]
  | 1, _ => simp only [e3 0 (by decide), e3 2 (by decide), e3 3 (by decide)]
  | 2, _ => simp only [e3 0 (by decide), e3 1 (by decide), e3 3 (by decide)]
  | 3, _ => simp only [e3 0 (by decide), e3 1 (by decide), e3 2 (by decide)]
theorem StAll.set (ps : List (Option Addr)) (ss : List (Option PStep)) {w : Nat} (hw : w < 4) (ha : ps.length = 4) (hs : ss.length = 4) (q : Option Addr) (y : Option PStep) : StAll (ps.set w q) (ss.set w y) = StA q y * StRest w ps ss := by
  rw [StAll.at _ _ hw, StRest.set ps ss hw ha hs]
  unfold sA
  rw [getD_setO _ _ _ _ _ (by omega), if_pos rfl, getD_setO _ _ _ _ _ (by omega), if_pos rfl]
/-! ### At the start -/
theorem newWords_free {x : Nat} (h1 : 1 ≤ n) : (x < n → isFree (newWords n) x = true) ∧ (n ≤ x → x < (n + 31) / 32 * 32 → isFree (newWords n) x = false) := by
  have h0 : ∀ i, (List.replicate ((n + 31) / 32) (0 : Nat)).getD i 0 = 0 := fun i => by
    rw [List.getD_eq_getElem?_getD, List.getElem?_replicate]; split <;> rfl
  unfold newWords
  split
  · rename_i h
    refine ⟨fun _ => by unfold isFree; rw [h0]; simp, fun h2 h3 => by omega⟩
  · rename_i h
    have hx2 : x % 32 < 32 := Nat.mod_lt _ (by decide)
    have hp := pow_lt32 (i := n % 32) (Nat.mod_lt _ (by decide))
    have hp1 := Nat.one_le_two_pow (n := n % 32)
    rw [isFree_set (by simp; omega)]
    by_cases hx : x / 32 = (n + 31) / 32 - 1
    · rw [if_pos hx, Nat.testBit_and, notmask_bit (by omega) hx2, show (4294967295 : Nat) = 2 ^ 32 - 1 from rfl, Nat.testBit_two_pow_sub_one, Nat.testBit_two_pow_sub_one]
      simp only [hx2, decide_true, Bool.true_and, Bool.not_not, decide_eq_true_eq, decide_eq_false_iff_not]
      omega
    · rw [if_neg hx]
      refine ⟨fun _ => by unfold isFree; rw [h0]; simp, fun h2 h3 => by omega⟩
theorem OwnI.new (h1 : 1 ≤ n) (h2 : n ≤ 1024) : OwnI n ((n + 31) / 32) (newWords n) (List.replicate n 0) (List.replicate 4 none) (List.replicate 4 false) where
  words := newWords_ok h1 h2
  km := by omega
  len := by simp
  free := fun x hx => by
    rw [(newWords_free h1).1 hx, List.getD_eq_getElem?_getD, List.getElem?_replicate]
    split <;> simp
  tail := fun x h3 h4 => (newWords_free h1).2 h3 h4
  ssl := by simp
  bsl := by simp
  step := fun w s hw hs => by
    rw [List.getD_eq_getElem?_getD, List.getElem?_replicate] at hs
    split at hs <;> simp at hs
theorem StepI.take {w1 kk : Nat} (fr mo : Int) (hm : 1 ≤ m) : StepI kk m o w1 (takeNew fr mo m) false := ⟨takeNew_ok fr mo hm, rfl, rfl, by simp [takeNew], rfl⟩
def ownL (o : List Nat) (k w1 : Nat) (l : List Int) : List Int := l.filter fun x => decide (0 ≤ x) && decide (x < k) && decide (o.getD x.toNat 0 = w1)
theorem StepI.back {w1 kk : Nat} {l : List Int} (hk : kk ≤ 32 * m) (hl : l.length ≤ 40) : StepI kk m o w1 (backNew kk (ownL o kk w1 l)) true where
  ok := backNew_ok hk _
  done := rfl
  ports := rfl
  plen := by
    have h1 := backParts_len kk (ownL o kk w1 l)
    have h2 := List.length_filter_le (fun (x : Int) => decide (0 ≤ x) && decide (x < (kk : Int)) && decide (o.getD x.toNat 0 = w1)) l
    have h3 : (backNew kk (ownL o kk w1 l)).parts = backParts kk (ownL o kk w1 l) := rfl
    have h4 : (ownL o kk w1 l).length ≤ l.length := h2
    rw [h3]
    omega
  kind := by
    rw [if_pos rfl]
    obtain ⟨a, b⟩ := backParts_parts kk (ownL o kk w1 l)
    refine ⟨rfl, a, fun y hy => ?_⟩
    obtain ⟨h1, h2⟩ := b y hy
    refine ⟨h2, ?_⟩
    unfold ownL at h1
    have := (List.mem_filter.1 h1).2
    simp only [Bool.and_eq_true, decide_eq_true_eq] at this
    simpa using this.2
theorem ownL_succ (o : List Nat) (k w1 : Nat) (l : List Int) {j : Nat} (hj : j < l.length) : ownL o k w1 (l.take (j + 1)) = ownL o k w1 (l.take j) ++ if 0 ≤ l.getD j 0 ∧ l.getD j 0 < k ∧ o.getD (l.getD j 0).toNat 0 = w1 then [l.getD j 0] else [] := by
  rw [← take_snocD (l := l) (d := 0) hj]
  unfold ownL
  rw [List.filter_append]
  congr 1
  generalize l.getD j 0 = z
  by_cases h : 0 ≤ z ∧ z < k ∧ o.getD z.toNat 0 = w1
  · rw [if_pos h]; simp; exact ⟨⟨h.1, h.2.1⟩, h.2.2⟩
  · rw [if_neg h]; simp; exact fun h1 h2 h3 => h ⟨h1, h2, h3⟩
theorem Left_spec2 (hp : s.parts.length ≤ 1000) (hm : ∀ x ∈ s.parts, x.1 < 1000000 ∧ x.2 < 18446744073709551616) : Spec Tryd.prog 23 [.pointer sp] W (StepC sp s * F) (fun g : Slab => .slice g.1 (leftS s.parts).length g.2) (fun g => RowC 3 1 g.1 (leftS s.parts).length g.2 (natsR .i64 (leftS s.parts)) * (StepC sp s * F)) := by
  rw [leftS_R, leftS_len]
  exact Left_spec hp hm
theorem ownBack_succ (before after o : List Nat) {j : Nat} (hj : j < before.length) : ownBack (before.take (j + 1)) after o = if before.getD j 0 ∈ after then ownBack (before.take j) after o else (ownBack (before.take j) after o).set (before.getD j 0) 0 := by
  rw [← take_snocD (l := before) (d := 0) hj]
  unfold ownBack
  rw [List.foldl_append]
  rfl
theorem ownTake_succ (w : Nat) (g o : List Nat) {j : Nat} (hj : j < g.length) : ownTake w (g.take (j + 1)) o = (ownTake w (g.take j) o).set (g.getD j 0) (w + 1) := by
  rw [← take_snocD (l := g) (d := 0) hj]
  unfold ownTake
  rw [List.foldl_append]
  rfl
theorem gone_succ (b : Nat) (after : List Nat) {m : Nat} (hm : m < after.length) : decide (b ∉ after.take (m + 1)) = (decide (b ∉ after.take m) && decide (after.getD m 0 ≠ b)) := by
  rw [← take_snocD (l := after) (d := 0) hm]
  have : (b ∉ after.take m ++ [after.getD m 0]) ↔ (b ∉ after.take m ∧ after.getD m 0 ≠ b) := by
    rw [List.mem_append, List.mem_singleton]
    constructor
    · exact fun h => ⟨fun h1 => h (.inl h1), fun h2 => h (.inr h2.symm)⟩
    · rintro ⟨h1, h2⟩ (h | h)
      · exact h1 h
      · exact h2 h.symm
  simp only [this]
  exact Bool.decide_and _ _
theorem leftS_small {l : List (Nat × Nat)} (h : l.length ≤ 40) : (leftS l).length ≤ 1280 := by
  have := leftN_len l
  rw [leftS_len, leftI_len]
  omega
theorem set_self {α : Type} (l : List α) (i : Nat) (d : α) : l.set i (l.getD i d) = l := by
  apply List.ext_getElem?
  intro j
  rw [List.getElem?_set]
  split
  · rename_i e; subst e
    split
    · rename_i h; rw [List.getD_eq_getElem?_getD, List.getElem?_eq_getElem h]; rfl
    · rename_i h; rw [List.getElem?_eq_none (by omega)]
  · rfl
end Go.Proofs.YtdmmahhnfnefoaaDoor
