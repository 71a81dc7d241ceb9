/-
  Package pool in memory; changed, grab, take.
-/
import Derived.Test.YtdmmahhnfnefoaaDoorCe
import Derived.Test.YtdmmahhnfnefoaaDoorSn
import Derived.Test.YtdmmahhnfnefoaaDoorSb
import Derived.Test.YtdmmahhnfnefoaaDoorPp0
namespace Go.Proofs.YtdmmahhnfnefoaaDoor
open Go.RowKit
set_option maxRecDepth 10000
attribute [local irreducible] EK EX ER EN EL ES EG OpVal OpDoes OpSkip
variable {W : World} {F : SL} {X : Cx} {k : List KI} {σ : Env}

abbrev Slab := Option Addr × Nat
/-! ### Parts in a row -/
def partC (x : Nat × Nat) : List Value := [.int .i64 (x.1 : Int), .int .u64 (x.2 : Int)]
def partsR (l : List (Nat × Nat)) : List Value := l.flatMap partC
theorem partsR_len (l : List (Nat × Nat)) : (partsR l).length = l.length * 2 := by
  induction l with
  | nil => rfl
  | cons x l ih =>
    simp only [partsR, List.flatMap_cons, List.length_append, List.length_cons] at ih ⊢
    rw [ih]; simp [partC]; omega
theorem partsR_get : ∀ {l : List (Nat × Nat)} {i j : Nat} {v : Value}, i < l.length → (partC (l.getD i (0, 0)))[j]? = some v → (partsR l)[i * 2 + j]? = some v
  | [], _, _, _, h, _ => by simp at h
  | x :: l, 0, j, v, _, h => by
    have hj : j < 2 := by
      have := (List.getElem?_eq_some_iff.1 h).1
      simpa [partC] using this
    simp only [partsR, List.flatMap_cons, Nat.zero_mul, Nat.zero_add]
    rw [List.getElem?_append_left (by simpa [partC] using hj)]
    simpa using h
  | x :: l, i + 1, j, v, hi, h => by
    have ih := partsR_get (l := l) (i := i) (j := j) (v := v) (by simpa using hi) (by simpa using h)
    simp only [partsR, List.flatMap_cons] at ih ⊢
    rw [List.getElem?_append_right (by simp [partC]; omega), show (i + 1) * 2 + j - (partC x).length = i * 2 + j by simp [partC]; omega]
    exact ih
instance RowGet.part0 (l : List (Nat × Nat)) (i : Nat) : RowGet (partsR l) i 2 0 (.int .i64 ((l.getD i (0, 0)).1 : Int)) (i < l.length) := ⟨fun h => partsR_get h rfl⟩
instance RowGet.part1 (l : List (Nat × Nat)) (i : Nat) : RowGet (partsR l) i 2 1 (.int .u64 ((l.getD i (0, 0)).2 : Int)) (i < l.length) := ⟨fun h => partsR_get h rfl⟩
instance RowAll.part (l : List (Nat × Nat)) (i : Nat) : RowAll (partsR l) i 2 [.int .i64 ((l.getD i (0, 0)).1 : Int), .int .u64 ((l.getD i (0, 0)).2 : Int)] (i < l.length) := ⟨fun h => ⟨rfl, fun _ _ hv => partsR_get h hv⟩⟩
instance Ones.parts (l : List (Nat × Nat)) : Ones (partsR l) := ⟨by
  simp only [Go.Proofs.YtdmmahhnfnefoaaDoor.ones, List.all_eq_true, partsR]
  intro v hv
  obtain ⟨x, _, hv⟩ := List.mem_flatMap.1 hv
  simp only [partC, List.mem_cons, List.not_mem_nil, or_false] at hv
  rcases hv with rfl | rfl <;> rfl⟩
instance RLen.parts (l : List (Nat × Nat)) : RLen (partsR l) (l.length * 2) := ⟨partsR_len l⟩
theorem partsR_snoc (l : List (Nat × Nat)) (x : Nat × Nat) : partsR l ++ partC x = partsR (l ++ [x]) := by simp [partsR]

/-! ### A pool, a step -/
def PoolX (p : Option Addr) (n : Nat) (ws : List Nat) (c : Option Addr) : SL := Obj p 66 [.pointer c, .int .i64 (n : Int)] * CellsSL c ws
def PoolC (p : Option Addr) (n : Nat) (ws : List Nat) : SL := SL.ex (PoolX p n ws)
abbrev PoolO (p : Option Addr) (n : Nat) (ws : List Nat) (c : Option Addr) (F : SL) : SL := Obj p 66 [.pointer c, .int .i64 (n : Int)] * (CellsSL c ws * F)
variable {p : Option Addr} {n : Nat} {ws : List Nat} {s : PStep}
theorem PoolC.open (h : ∀ c, EK X k σ (PoolO p n ws c F)) : EK X k σ (PoolC p n ws * F) := EK_ex fun c => by
  have := h c
  unfold PoolO at this
  unfold PoolX
  rw [SL.sep_assoc]
  exact this
theorem PoolC.shut {c : Option Addr} : Ent (PoolO p n ws c F) (PoolC p n ws * F) := Ent.ex c (Ent.assoc (Ent.refl _))
instance (priority := 2000) (p : Option Addr) (n : Nat) (ws : List Nat) (F : SL) : AtP (PoolC p n ws * F) p (PoolC p n ws) F := ⟨rfl⟩
instance (p : Option Addr) (n : Nat) (ws : List Nat) : Root (PoolC p n ws) p := ⟨fun W w F h => by
  obtain ⟨g, h⟩ := h.ex_out
  exact (Obj.root p _ _).nn W w _ (h.ac (SL.sep_assoc _ _ _))⟩
abbrev stepV (s : PStep) (q : Slab × Slab × Slab) : List Value :=
  [.int .i64 (s.kind : Int), .int .i64 (s.word : Int), .int .i64 (s.left : Int), .int .i64 (s.most : Int), .bool s.read, .int .u64 (s.seen : Int), .slice q.1.1 s.words.length q.1.2, .slice q.2.1.1 s.parts.length q.2.1.2, .slice q.2.2.1 s.ports.length q.2.2.2, .bool s.done, .bool s.alike]
abbrev StepO (p : Option Addr) (s : PStep) (q : Slab × Slab × Slab) (F : SL) : SL :=
  Obj p 78 (stepV s q) * (RowC 23 1 q.1.1 s.words.length q.1.2 (natsR .u64 s.words) * (RowC 81 2 q.2.1.1 s.parts.length q.2.1.2 (partsR s.parts) * (RowC 3 1 q.2.2.1 s.ports.length q.2.2.2 (natsR .i64 s.ports) * F)))
def StepX (p : Option Addr) (s : PStep) (q : Slab × Slab × Slab) : SL := Obj p 78 (stepV s q) * (RowC 23 1 q.1.1 s.words.length q.1.2 (natsR .u64 s.words) * (RowC 81 2 q.2.1.1 s.parts.length q.2.1.2 (partsR s.parts) * RowC 3 1 q.2.2.1 s.ports.length q.2.2.2 (natsR .i64 s.ports)))
def StepC (p : Option Addr) (s : PStep) : SL := SL.ex (StepX p s)
theorem StepX.eq (p : Option Addr) (s : PStep) (q : Slab × Slab × Slab) (F : SL) : StepX p s q * F = StepO p s q F := by
  unfold StepX StepO
  rw [SL.sep_assoc, SL.sep_assoc, SL.sep_assoc]
theorem StepC.open (h : ∀ q, EK X k σ (StepO p s q F)) : EK X k σ (StepC p s * F) := EK_ex fun q => by
  rw [StepX.eq]
  exact h q
theorem StepC.shut {q : Slab × Slab × Slab} : Ent (StepO p s q F) (StepC p s * F) := Ent.ex q (by rw [StepX.eq]; exact Ent.refl _)
instance (priority := 2000) (p : Option Addr) (s : PStep) (F : SL) : AtP (StepC p s * F) p (StepC p s) F := ⟨rfl⟩
instance (p : Option Addr) (s : PStep) : Root (StepC p s) p := ⟨fun W w F h => by
  obtain ⟨g, h⟩ := h.ex_out
  rw [StepX.eq] at h
  exact (Obj.root p _ _).nn W w _ h⟩

theorem chg_val {u low : Nat} (hu : u < 18446744073709551616) (hl : low < 4294967296) :
    bits .or .u64 (IntKind.u64.wrap (IntKind.u64.wrap ((u : Int) / 2 ^ (32 : Int).toNat + 1) * 2 ^ (32 : Int).toNat)) (low : Int) = ((changedN u low : Nat) : Int) := by
  have e : IntKind.u64.wrap (IntKind.u64.wrap ((u : Int) / 2 ^ (32 : Int).toNat + 1) * 2 ^ (32 : Int).toNat) = (((u / 4294967296 + 1) * 4294967296 % 18446744073709551616 : Nat) : Int) := by
    rw [IntKind.wrap_u64, IntKind.wrap_u64, show (32 : Int).toNat = 32 from rfl]
    omega
  rw [e, u64_or_nat _ _ (Nat.mod_lt _ (by decide)) (by omega), changedN_or hu hl]
theorem changed_spec (u low : Nat) (hu : u < 18446744073709551616) (hl : low < 4294967296) : Spec Tryd.prog 58 [.int .u64 (u : Int), .int .u64 (low : Int)] W F (fun _ : Unit => .int .u64 ((changedN u low : Nat) : Int)) (fun _ => F) := by
  refine Spec.of Tryd.func58 rfl Tryd.ntmps58 rfl ?_
  repeat (first | refine go ?_ | (refine goX ?_; intro))
  refine EK_ret (ER_1 rfl rfl () ?_ (Ent.sat Ent.last))
  rw [chg_val hu hl]
end Go.Proofs.YtdmmahhnfnefoaaDoor
