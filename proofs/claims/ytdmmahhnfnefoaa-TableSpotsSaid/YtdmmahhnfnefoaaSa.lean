/-
  Atomic words, in one goroutine's hands. Plain Lean: no program in sight.
-/
import Derived.Test.YtdmmahhnfnefoaaSu
namespace Go.Proofs.Ytdmmahhnfnefoaa
open Go.RowKit

class IsLoad (P : Program) (f : FuncId) (k : IntKind) : Prop where
  h : ∃ fn, P.funcs[f]? = some fn ∧ (fn.name == "runtime.NumGoroutine") = false ∧ fn.body.isNone = true ∧ Extern.findNext fn = none ∧ Extern.find fn = some (Extern.Atomic.loadT (.int k))
class IsStore (P : Program) (f : FuncId) : Prop where
  h : ∃ fn, P.funcs[f]? = some fn ∧ (fn.name == "runtime.NumGoroutine") = false ∧ fn.body.isNone = true ∧ Extern.findNext fn = none ∧ Extern.find fn = some Extern.Atomic.storeT
class IsCas (P : Program) (f : FuncId) (k : IntKind) : Prop where
  h : ∃ fn, P.funcs[f]? = some fn ∧ (fn.name == "runtime.NumGoroutine") = false ∧ fn.body.isNone = true ∧ Extern.findNext fn = none ∧ Extern.find fn = some (Extern.Atomic.casT (.int k))
class IsAdd (P : Program) (f : FuncId) (k : IntKind) : Prop where
  h : ∃ fn, P.funcs[f]? = some fn ∧ (fn.name == "runtime.NumGoroutine") = false ∧ fn.body.isNone = true ∧ Extern.findNext fn = none ∧ Extern.find fn = some (Extern.Atomic.update (Op.intArith .add) k true)

theorem getD_get {α : Type} {l : List α} {i : Nat} (d : α) (h : i < l.length) : l[i]? = some (l.getD i d) := by simp [List.getD_eq_getElem?_getD, h]
class Pos (n : Nat) : Prop where pos : 0 < n
instance NN.iElem (H F : SL) (q p : Option Addr) (i s j e sz n c : Nat) (xs : List Value) [l : RLoc q p i s j] [r : AtP H p (RowC e sz p n c xs) F] [h : Pos n] : NN H q := ⟨fun W w hs => by
  have := RowC.nn (r.eq ▸ hs) h.pos
  rw [l.eq]
  cases p with
  | none => exact absurd rfl this
  | some a => simp [Go.Proofs.Ytdmmahhnfnefoaa.off]⟩

/-- A cell that may be written: what it holds, and the assertion when it holds something else. -/
class CellAt (H : SL) (q : Option Addr) (v : outParam Value) (φ : outParam Prop) : Prop where
  get : φ → ∀ W w, Sat W w H → ∃ a, q = some a ∧ w.cell? a = some v ∧ w.frozen? a = false
class CellPut (H : SL) (q : Option Addr) (u : Value) (H' : outParam SL) (φ : outParam Prop) : Prop where
  put : φ → ∀ W w a, Sat W w H → q = some a → Sat W (w.setCell a u) H'

theorem RowC.setCell {W w : World} {F : SL} {e sz n cap : Nat} {p : Option Addr} {xs : List Value} (h : Sat W w (RowC e sz p n cap xs * F)) {i : Nat} (hi : i < n * sz) (u : Value) :
    ∃ a v, off p i = some a ∧ xs[i]? = some v ∧ w.cell? a = some v ∧ w.frozen? a = false ∧ Sat W (w.setCell a u) (RowC e sz p n cap (xs.set i u) * F) := by
  obtain ⟨⟨hl, hn, hm⟩, ⟨_, hc, _⟩ | ⟨g, o, cur, rfl, h2, h3, hs⟩⟩ := RowC.open h
  · have h0 : n = 0 := by omega
    subst h0
    omega
  · have hle := Nat.mul_le_mul_right sz hn
    have hx : i < xs.length := by omega
    refine ⟨(⟨g, o, none⟩ : Addr).add i, xs[i], rfl, List.getElem?_eq_getElem hx, ?_, ?_, ?_⟩
    · obtain ⟨a, h4, h5⟩ := RowC.cell h (List.getElem?_eq_getElem hx)
      simp only [off, Option.map_some, Option.some.injEq] at h4
      rw [h4]; exact h5
    · rw [add_at]; exact hs.free _
    · rw [add_at]
      have h6 := hs.set (o + i) u
      rw [List.setIfInBounds_toArray] at h6
      refine RowC.shut hn hm (by simpa using h2) ?_ h6
      subst h3
      apply List.ext_getElem?
      intro j
      simp only [List.getElem?_take, List.getElem?_drop, List.getElem?_set, List.length_take, List.length_drop, List.length_set]
      repeat' split
      all_goals first
        | rfl
        | omega
        | (congr 1; omega)
        | skip

instance CellAt.row (H F : SL) (q p : Option Addr) (i s j e sz n c : Nat) (xs : List Value) (v : Value) (φ : Prop) [l : RLoc q p i s j] [r : AtP H p (RowC e sz p n c xs) F] [g : RowGet xs i s j v φ] : CellAt H q v φ := ⟨fun hφ W w hs => by
  have hg := g.get hφ
  have hr := r.eq ▸ hs
  have hi : i * s + j < n * sz := by rw [← (RowC.len hr).1]; exact (List.getElem?_eq_some_iff.1 hg).1
  obtain ⟨a, u, h1, h2, h3, h4, _⟩ := RowC.setCell hr hi v
  rw [hg] at h2
  cases h2
  exact ⟨a, by rw [l.eq, h1], h3, h4⟩⟩
instance CellPut.row (H F : SL) (q p : Option Addr) (i s j e sz n c : Nat) (xs ys : List Value) (u : Value) (φ : Prop) [l : RLoc q p i s j] [r : AtP H p (RowC e sz p n c xs) F] [g : RowSet xs i s j [u] ys φ] : CellPut H q u (RowC e sz p n c ys * F) φ := ⟨fun hφ W w a hs hq => by
  obtain ⟨h1, rfl⟩ := g.set hφ
  have hr := r.eq ▸ hs
  simp only [List.length_cons, List.length_nil] at h1
  have hi : i * s + j < n * sz := by rw [← (RowC.len hr).1]; omega
  obtain ⟨b, v, h2, _, _, _, h5⟩ := RowC.setCell hr hi u
  rw [l.eq, h2] at hq
  simp only [Option.some.injEq] at hq
  subst hq
  rw [List.set_eq_take_append_cons_drop, if_pos (by omega)] at h5
  simpa using h5⟩
instance CellAt.obj (H F : SL) (q p : Option Addr) (i t : Nat) (cs : List Value) [l : Loc q p i] [r : AtP H p (Obj p t cs) F] : CellAt H q (cs.getD i undef) (i < cs.length) := ⟨fun hφ W w hs => by
  have hr := r.eq ▸ hs
  have hφ := getD_get undef hφ
  obtain ⟨hi, hv⟩ := List.getElem?_eq_some_iff.1 hφ
  obtain ⟨a, u, h1, h2, h3, _⟩ := Obj.set hr hi undef
  obtain ⟨a', h4, h5⟩ := Obj.cell hr hφ
  rw [h1] at h4
  cases h4
  exact ⟨a, by rw [l.eq, h1], h5, h3⟩⟩
instance CellPut.obj (H F : SL) (q p : Option Addr) (i t : Nat) (cs : List Value) (u : Value) [l : Loc q p i] [r : AtP H p (Obj p t cs) F] : CellPut H q u (Obj p t (cs.set i u) * F) (i < cs.length) := ⟨fun hi W w a hs hq => by
  have hr := r.eq ▸ hs
  obtain ⟨b, v, h1, _, _, h4⟩ := Obj.set hr hi u
  rw [l.eq, h1] at hq
  cases hq
  exact h4⟩

variable {X : Cx} {k : List KI} {σ : Env} {H : SL} {o : Oper}

theorem OpVal_aload {x : Operand} {ats : Array TypeId} {f : FuncId} {kk : IntKind} [I : IsLoad X.P f kk] {q : Option Addr} {z : Int} {φ : Prop} (ho : o.op = .call { callee := .value (.func f), args := #[x], argTypes := ats }) (hx : ev σ x = some (.pointer q)) [c : CellAt H q (.int kk z) φ] (hφ : φ) : OpVal X σ H o (.int kk z) := by
  intro a w ha hs
  obtain ⟨fn, h1, h2, h3, h4, h5⟩ := I.h
  obtain ⟨b, rfl, hc, _⟩ := c.get hφ _ w hs
  simp only [execOp, ho, resolve, Act.eval, Deferred.ofValue, Sem.run_bind, Sem.run_pure, Result.andThen_ok, invoke, Array.empty_append, Array.append_empty]
  have : Array.map a.eval #[x] = #[.pointer (some b)] := by simp [ha.eval hx]
  rw [this]
  exact run_call_load h1 h2 h3 h4 kk h5 hc
theorem OpDoes_astore {x y : Operand} {ats : Array TypeId} {f : FuncId} {kk : IntKind} [I : IsStore X.P f] {q : Option Addr} {z : Int} {v : Value} {φ ψ : Prop} {H' : SL} (ho : o.op = .call { callee := .value (.func f), args := #[x, y], argTypes := ats }) (hx : ev σ x = some (.pointer q)) (hy : ev σ y = some (.int kk z)) [c : CellAt H q v φ] [d : CellPut H q (.int kk z) H' ψ] (hφ : φ) (hψ : ψ) :
    OpDoes X σ H o (fun _ : Unit => .tuple #[]) (fun _ => H') := by
  intro a w ha hs
  obtain ⟨fn, h1, h2, h3, h4, h5⟩ := I.h
  obtain ⟨b, rfl, hc, hf⟩ := c.get hφ _ w hs
  refine ⟨(), _, ?_, d.put hψ _ w b hs rfl⟩
  simp only [execOp, ho, resolve, Act.eval, Deferred.ofValue, Sem.run_bind, Sem.run_pure, Result.andThen_ok, invoke, Array.empty_append, Array.append_empty]
  have : Array.map a.eval #[x, y] = #[.pointer (some b), .int kk z] := by simp [ha.eval hx, ha.eval hy]
  rw [this]
  exact run_call_store h1 h2 h3 h4 h5 hc hf
theorem OpDoes_acas {x y y' : Operand} {ats : Array TypeId} {f : FuncId} {kk : IntKind} [I : IsCas X.P f kk] {q : Option Addr} {z u u' : Int} {φ ψ : Prop} {H' : SL} (ho : o.op = .call { callee := .value (.func f), args := #[x, y, y'], argTypes := ats }) (hx : ev σ x = some (.pointer q)) (hy : ev σ y = some (.int kk u)) (hy' : ev σ y' = some (.int kk u')) [c : CellAt H q (.int kk z) φ] [d : CellPut H q (.int kk u') H' ψ] (hφ : φ) (hψ : ψ) (he : z = u) :
    OpDoes X σ H o (fun _ : Unit => .bool true) (fun _ => H') := by
  intro a w ha hs
  subst he
  obtain ⟨fn, h1, h2, h3, h4, h5⟩ := I.h
  obtain ⟨b, rfl, hc, hf⟩ := c.get hφ _ w hs
  refine ⟨(), _, ?_, d.put hψ _ w b hs rfl⟩
  simp only [execOp, ho, resolve, Act.eval, Deferred.ofValue, Sem.run_bind, Sem.run_pure, Result.andThen_ok, invoke, Array.empty_append, Array.append_empty]
  have : Array.map a.eval #[x, y, y'] = #[.pointer (some b), .int kk z, .int kk u'] := by simp [ha.eval hx, ha.eval hy, ha.eval hy']
  rw [this]
  exact run_call_cas_hit h1 h2 h3 h4 kk h5 hc hf
theorem OpVal_acas {x y y' : Operand} {ats : Array TypeId} {f : FuncId} {kk : IntKind} [I : IsCas X.P f kk] {q : Option Addr} {z u u' : Int} {φ : Prop} (ho : o.op = .call { callee := .value (.func f), args := #[x, y, y'], argTypes := ats }) (hx : ev σ x = some (.pointer q)) (hy : ev σ y = some (.int kk u)) (hy' : ev σ y' = some (.int kk u')) [c : CellAt H q (.int kk z) φ] (hφ : φ) (he : ¬ z = u) :
    OpVal X σ H o (.bool false) := by
  intro a w ha hs
  obtain ⟨fn, h1, h2, h3, h4, h5⟩ := I.h
  obtain ⟨b, rfl, hc, hf⟩ := c.get hφ _ w hs
  simp only [execOp, ho, resolve, Act.eval, Deferred.ofValue, Sem.run_bind, Sem.run_pure, Result.andThen_ok, invoke, Array.empty_append, Array.append_empty]
  have : Array.map a.eval #[x, y, y'] = #[.pointer (some b), .int kk u, .int kk u'] := by simp [ha.eval hx, ha.eval hy, ha.eval hy']
  rw [this]
  exact run_call_cas_miss h1 h2 h3 h4 kk h5 hc hf he

/-! ### Lists of numbers in rows -/
def natsR (k : IntKind) (l : List Nat) : List Value := l.map fun (n : Nat) => .int k (n : Int)
def intsR (k : IntKind) (l : List Int) : List Value := l.map fun n => .int k n
theorem natsR_len (k : IntKind) (l : List Nat) : (natsR k l).length = l.length := by simp [natsR]
theorem intsR_len (k : IntKind) (l : List Int) : (intsR k l).length = l.length := by simp [intsR]
instance RowGet.nats (k : IntKind) (l : List Nat) (i : Nat) : RowGet (natsR k l) i 1 0 (.int k ((l.getD i 0 : Nat) : Int)) (i < l.length) := ⟨fun h => by
  simp only [natsR, List.getElem?_map, Nat.mul_one, Nat.add_zero, getD_get 0 h, Option.map_some]⟩
instance RowGet.ints (k : IntKind) (l : List Int) (i : Nat) : RowGet (intsR k l) i 1 0 (.int k (l.getD i 0)) (i < l.length) := ⟨fun h => by
  simp only [intsR, List.getElem?_map, Nat.mul_one, Nat.add_zero, getD_get 0 h, Option.map_some]⟩
theorem set_split {l : List Value} {i : Nat} {v : Value} (h : i < l.length) : l.set i v = l.take i ++ [v] ++ l.drop (i + 1) := by
  rw [List.set_eq_take_append_cons_drop, if_pos h]; simp
instance RowSet.nats (k : IntKind) (l : List Nat) (i n : Nat) (z : Int) [m : NatOf z n] : RowSet (natsR k l) i 1 0 [.int k z] (natsR k (l.set i n)) (i < l.length) := ⟨fun h => by
  rw [m.eq]
  refine ⟨by simp [natsR]; omega, ?_⟩
  simp only [Nat.mul_one, Nat.add_zero, List.length_cons, List.length_nil, Nat.zero_add]
  rw [← set_split (by simpa [natsR] using h)]
  simp [natsR, List.map_set]⟩
instance RowSet.ints (k : IntKind) (l : List Int) (i : Nat) (z : Int) : RowSet (intsR k l) i 1 0 [.int k z] (intsR k (l.set i z)) (i < l.length) := ⟨fun h => by
  refine ⟨by simp [intsR]; omega, ?_⟩
  simp only [Nat.mul_one, Nat.add_zero, List.length_cons, List.length_nil, Nat.zero_add]
  rw [← set_split (by simpa [intsR] using h)]
  simp [intsR, List.map_set]⟩
instance Ones.iNats (k : IntKind) (l : List Nat) : Ones (natsR k l) := ⟨by simp [Go.Proofs.Ytdmmahhnfnefoaa.ones, natsR, Value.oneCell']⟩
instance Ones.iInts (k : IntKind) (l : List Int) : Ones (intsR k l) := ⟨by simp [Go.Proofs.Ytdmmahhnfnefoaa.ones, intsR, Value.oneCell']⟩
theorem take_snocD {α : Type} {l : List α} {i : Nat} {d : α} (h : i < l.length) : l.take i ++ [l.getD i d] = l.take (i + 1) := by
  rw [List.take_add_one, getD_get d h]; rfl
theorem natsR_snoc (k : IntKind) (l : List Nat) (n : Nat) : natsR k l ++ [.int k (n : Int)] = natsR k (l ++ [n]) := by simp [natsR]
theorem intsR_snoc (k : IntKind) (l : List Int) (n : Int) : intsR k l ++ [.int k n] = intsR k (l ++ [n]) := by simp [intsR]

end Go.Proofs.Ytdmmahhnfnefoaa
