/-
  What operations do, of the assertions: slices of the call's own and slices to be read. Plain Lean: no program in sight.
-/
import Derived.Test.YtdmmahhnfnefoaaSy
namespace Go.Proofs.Ytdmmahhnfnefoaa
open Go.RowKit

class TStr (P : Program) (t : TypeId) : Prop where h : P.underlying t = some .string
class TBool (P : Program) (t : TypeId) : Prop where h : P.underlying t = some .bool
class TPtr (P : Program) (t : TypeId) (e : outParam TypeId) : Prop where h : P.underlying t = some (.pointer e)
class TArr (P : Program) (t : TypeId) (n : outParam Nat) (sz : outParam Nat) : Prop where
  h : ∃ e, P.underlying t = some (.array n e) ∧ (P.info? e).map (·.size) = some sz
  pos : 0 < sz

/-- z is a number from nought. -/
class NatOf (z : Int) (i : outParam Nat) : Prop where eq : z = (i : Int)
instance (priority := 1500) NatOf.cast (i : Nat) : NatOf (i : Int) i := ⟨rfl⟩
instance NatOf.add (a b : Int) (i j : Nat) [h : NatOf a i] [g : NatOf b j] : NatOf (a + b) (i + j) := ⟨by rw [h.eq, g.eq, Int.natCast_add]⟩
instance NatOf.mul (a b : Int) (i j : Nat) [h : NatOf a i] [g : NatOf b j] : NatOf (a * b) (i * j) := ⟨by rw [h.eq, g.eq, Int.natCast_mul]⟩
instance NatOf.div (a b : Int) (i j : Nat) [h : NatOf a i] [g : NatOf b j] : NatOf (a / b) (i / j) := ⟨by rw [h.eq, g.eq, Int.natCast_ediv]⟩
instance NatOf.mod (a b : Int) (i j : Nat) [h : NatOf a i] [g : NatOf b j] : NatOf (a % b) (i % j) := ⟨by rw [h.eq, g.eq, Int.natCast_emod]⟩
instance (priority := 1400) NatOf.lit (n : Nat) : NatOf (@OfNat.ofNat Int n instOfNat) (@OfNat.ofNat Nat n (instOfNatNat n)) := ⟨rfl⟩
instance (priority := 1600) NatOf.l0 : NatOf 0 0 := ⟨rfl⟩
instance (priority := 1600) NatOf.l1 : NatOf 1 1 := ⟨rfl⟩
instance (priority := 1600) NatOf.l2 : NatOf 2 2 := ⟨rfl⟩
instance (priority := 1600) NatOf.l3 : NatOf 3 3 := ⟨rfl⟩
instance (priority := 1600) NatOf.l4 : NatOf 4 4 := ⟨rfl⟩
instance (priority := 1600) NatOf.l5 : NatOf 5 5 := ⟨rfl⟩
instance (priority := 1600) NatOf.l6 : NatOf 6 6 := ⟨rfl⟩
instance (priority := 1600) NatOf.l7 : NatOf 7 7 := ⟨rfl⟩
instance (priority := 1600) NatOf.l8 : NatOf 8 8 := ⟨rfl⟩
instance (priority := 1600) NatOf.l9 : NatOf 9 9 := ⟨rfl⟩
instance (priority := 1600) NatOf.l10 : NatOf 10 10 := ⟨rfl⟩
instance (priority := 1600) NatOf.l11 : NatOf 11 11 := ⟨rfl⟩
instance (priority := 1600) NatOf.l12 : NatOf 12 12 := ⟨rfl⟩
instance (priority := 1600) NatOf.l13 : NatOf 13 13 := ⟨rfl⟩
instance (priority := 1600) NatOf.l14 : NatOf 14 14 := ⟨rfl⟩
instance (priority := 1600) NatOf.l15 : NatOf 15 15 := ⟨rfl⟩
instance (priority := 1600) NatOf.l16 : NatOf 16 16 := ⟨rfl⟩
instance (priority := 1600) NatOf.l17 : NatOf 17 17 := ⟨rfl⟩
instance (priority := 1600) NatOf.l18 : NatOf 18 18 := ⟨rfl⟩
instance (priority := 1600) NatOf.l19 : NatOf 19 19 := ⟨rfl⟩
instance (priority := 1600) NatOf.l20 : NatOf 20 20 := ⟨rfl⟩
instance (priority := 1600) NatOf.l21 : NatOf 21 21 := ⟨rfl⟩
instance (priority := 1600) NatOf.l22 : NatOf 22 22 := ⟨rfl⟩
instance (priority := 1600) NatOf.l23 : NatOf 23 23 := ⟨rfl⟩
instance (priority := 1600) NatOf.l24 : NatOf 24 24 := ⟨rfl⟩
instance (priority := 1600) NatOf.l25 : NatOf 25 25 := ⟨rfl⟩
instance (priority := 1600) NatOf.l26 : NatOf 26 26 := ⟨rfl⟩
instance (priority := 1600) NatOf.l27 : NatOf 27 27 := ⟨rfl⟩
instance (priority := 1600) NatOf.l28 : NatOf 28 28 := ⟨rfl⟩
instance (priority := 1600) NatOf.l29 : NatOf 29 29 := ⟨rfl⟩
instance (priority := 1600) NatOf.l30 : NatOf 30 30 := ⟨rfl⟩
instance (priority := 1600) NatOf.l31 : NatOf 31 31 := ⟨rfl⟩
instance (priority := 1600) NatOf.l32 : NatOf 32 32 := ⟨rfl⟩
instance (priority := 1600) NatOf.l40 : NatOf 40 40 := ⟨rfl⟩
instance (priority := 1600) NatOf.l48 : NatOf 48 48 := ⟨rfl⟩
instance (priority := 1600) NatOf.l63 : NatOf 63 63 := ⟨rfl⟩
instance (priority := 1600) NatOf.l64 : NatOf 64 64 := ⟨rfl⟩
instance (priority := 1600) NatOf.l100 : NatOf 100 100 := ⟨rfl⟩
instance (priority := 1600) NatOf.l127 : NatOf 127 127 := ⟨rfl⟩
instance (priority := 1600) NatOf.l128 : NatOf 128 128 := ⟨rfl⟩
instance (priority := 1600) NatOf.l255 : NatOf 255 255 := ⟨rfl⟩
instance (priority := 1600) NatOf.l256 : NatOf 256 256 := ⟨rfl⟩
instance (priority := 1600) NatOf.l512 : NatOf 512 512 := ⟨rfl⟩
instance (priority := 1600) NatOf.l1023 : NatOf 1023 1023 := ⟨rfl⟩
instance (priority := 1600) NatOf.l1024 : NatOf 1024 1024 := ⟨rfl⟩

/-! ### Rows -/
/-- A slice of n elements of e (sz cells each) in a block of the call's own, with room for cap: its cells are xs. -/
def RowC (e sz : Nat) (p : Option Addr) (n cap : Nat) (xs : List Value) : SL := fun h =>
  (xs.length = n * sz ∧ n ≤ cap ∧ cap ≤ maxLen) ∧ ((True ∧ cap = 0 ∧ SL.emp h) ∨
    ∃ (g o : Nat) (cur : List Value), p = some ⟨g, o, none⟩ ∧ o + cap * sz ≤ cur.length ∧ (cur.drop o).take (n * sz) = xs ∧ SL.blk g (.cells cur.toArray e (0, 0)) h)
instance (priority := 2000) AtP.row (e sz : Nat) (p : Option Addr) (n cap : Nat) (xs : List Value) (F : SL) : AtP (RowC e sz p n cap xs * F) p (RowC e sz p n cap xs) F := ⟨rfl⟩

section rows
variable {W w : World} {F : SL} {e sz n cap : Nat} {p : Option Addr} {xs : List Value}
theorem RowC.open (h : Sat W w (RowC e sz p n cap xs * F)) : (xs.length = n * sz ∧ n ≤ cap ∧ cap ≤ maxLen) ∧ ((True ∧ cap = 0 ∧ Sat W w F) ∨
    ∃ (g o : Nat) (cur : List Value), p = some ⟨g, o, none⟩ ∧ o + cap * sz ≤ cur.length ∧ (cur.drop o).take (n * sz) = xs ∧ Sat W w (SL.blk g (.cells cur.toArray e (0, 0)) * F)) := by
  have hd := h.drop
  obtain ⟨hb, x, ⟨h1, h2, ⟨hl, ⟨hp, hc, he⟩ | ⟨g, o, cur, a1, a2, a3, a4⟩⟩, q, d, e'⟩, hx⟩ := h
  · exact ⟨hl, .inl ⟨hp, hc, hd⟩⟩
  · exact ⟨hl, .inr ⟨g, o, cur, a1, a2, a3, hb, x, ⟨h1, h2, a4, q, d, e'⟩, hx⟩⟩
theorem RowC.len (h : Sat W w (RowC e sz p n cap xs * F)) : xs.length = n * sz ∧ n ≤ cap ∧ cap ≤ maxLen := (RowC.open h).1
theorem RowC.zero_in (e sz : Nat) (p : Option Addr) (h : Sat W w F) : Sat W w (RowC e sz p 0 0 [] * F) := by
  obtain ⟨hb, x, q, hx⟩ := h
  exact ⟨hb, x, ⟨fun _ => none, x, ⟨by simp, .inl ⟨trivial, rfl, fun _ => rfl⟩⟩, q, fun _ => .inl rfl, fun _ => by simp⟩, hx⟩
theorem RowC.none_in (e sz : Nat) (h : Sat W w F) : Sat W w (RowC e sz none 0 0 [] * F) := RowC.zero_in e sz none h
theorem RowC.shut {g o : Nat} {cur : List Value} (hl : n ≤ cap) (hm : cap ≤ maxLen) (h1 : o + cap * sz ≤ cur.length) (h2 : (cur.drop o).take (n * sz) = xs) (h : Sat W w (SL.blk g (.cells cur.toArray e (0, 0)) * F)) : Sat W w (RowC e sz (some ⟨g, o, none⟩) n cap xs * F) := by
  refine h.left fun x hx => ⟨⟨?_, hl, hm⟩, .inr ⟨g, o, cur, rfl, h1, h2, hx⟩⟩
  rw [← h2, List.length_take, List.length_drop]
  have := Nat.mul_le_mul_right sz hl
  omega
theorem RowC.cell (h : Sat W w (RowC e sz p n cap xs * F)) {i : Nat} {v : Value} (hv : xs[i]? = some v) : ∃ a, off p i = some a ∧ w.cell? a = some v := by
  obtain ⟨⟨hl, hn, hm⟩, ⟨_, hc, _⟩ | ⟨g, o, cur, rfl, h1, h2, hs⟩⟩ := RowC.open h
  · have h0 : n = 0 := by omega
    subst h0
    have : xs = [] := List.eq_nil_of_length_eq_zero (by simpa using hl)
    subst this
    simp at hv
  · refine ⟨(⟨g, o, none⟩ : Addr).add i, rfl, ?_⟩
    rw [add_at, hs.cell]
    rw [← h2, List.getElem?_take] at hv
    split at hv
    · rw [List.getElem?_drop] at hv
      simpa using hv
    · simp at hv
theorem RowC.nn (h : Sat W w (RowC e sz p n cap xs * F)) (hn : 0 < n) : p ≠ none := by
  obtain ⟨⟨_, hn', _⟩, ⟨_, hc, _⟩ | ⟨g, o, cur, rfl, _⟩⟩ := RowC.open h
  · omega
  · simp
/-- Cells of it are written. -/
theorem RowC.write {P : Program} (h : Sat W w (RowC e sz p n cap xs * F)) {i : Nat} {vs : List Value} (hi : i + vs.length ≤ n * sz) (hv : 0 < vs.length) (h1 : ones vs = true) :
    ∃ a w', off p i = some a ∧ (storeCells a vs).run P w = .ok () w' ∧ Sat W w' (RowC e sz p n cap (xs.take i ++ vs ++ xs.drop (i + vs.length)) * F) := by
  obtain ⟨⟨hl, hn, hm⟩, ⟨_, hc, _⟩ | ⟨g, o, cur, rfl, h2, h3, hs⟩⟩ := RowC.open h
  · have h0 : n = 0 := by omega
    subst h0
    omega
  · have hle := Nat.mul_le_mul_right sz hn
    obtain ⟨w', h4, h5⟩ := blk_stores (P := P) (o := o + i) hs (by omega) h1
    refine ⟨(⟨g, o, none⟩ : Addr).add i, w', rfl, by rw [add_at]; exact h4, RowC.shut hn hm ?_ ?_ h5⟩
    · simp; omega
    · subst h3
      apply List.ext_getElem?
      intro j
      simp only [List.getElem?_take, List.getElem?_drop, List.getElem?_append, List.length_append, List.length_take, List.length_drop]
      repeat' split
      all_goals first
        | rfl
        | omega
        | (congr 1; omega)
        | skip
end rows

def el (p : Option Addr) (i sz : Nat) : Option Addr := off p (i * sz)
class RLoc (q : Option Addr) (p : outParam (Option Addr)) (i sz j : outParam Nat) : Prop where eq : q = off p (i * sz + j)
instance (priority := 2000) RLoc.iEl (p : Option Addr) (i sz : Nat) : RLoc (el p i sz) p i sz 0 := ⟨rfl⟩
instance (priority := 3000) RLoc.iElOff (p : Option Addr) (i sz k : Nat) : RLoc (off (el p i sz) k) p i sz k := ⟨(@Loc.eq _ _ _ (@Loc.iOff (Go.Proofs.Ytdmmahhnfnefoaa.off p (i * sz)) p (i * sz) k ⟨rfl⟩))⟩
instance (priority := 1000) RLoc.iOff (q p : Option Addr) (i sz j k : Nat) [h : RLoc q p i sz j] : RLoc (off q k) p i sz (j + k) := ⟨by
  rw [h.eq]
  have := @Loc.eq _ _ _ (@Loc.iOff (Go.Proofs.Ytdmmahhnfnefoaa.off p (i * sz + j)) p (i * sz + j) k ⟨rfl⟩)
  rw [this, Nat.add_assoc]⟩

/-- What stands at element i, cell j; what stands there behind a store; an element whole. -/
class RowGet (xs : List Value) (i sz j : Nat) (v : outParam Value) (φ : outParam Prop) : Prop where get : φ → xs[i * sz + j]? = some v
class RowSet (xs : List Value) (i sz j : Nat) (vs : List Value) (ys : outParam (List Value)) (φ : outParam Prop) : Prop where
  set : φ → i * sz + j + vs.length ≤ xs.length ∧ ys = xs.take (i * sz + j) ++ vs ++ xs.drop (i * sz + j + vs.length)
class RowAll (xs : List Value) (i sz : Nat) (vs : outParam (List Value)) (φ : outParam Prop) : Prop where all : φ → vs.length = sz ∧ ∀ j v, vs[j]? = some v → xs[i * sz + j]? = some v
class Ones (xs : List Value) : Prop where ones : ones xs = true
instance Ones.nil : Ones [] := ⟨rfl⟩
instance Ones.int (k : IntKind) (z : Int) (l : List Value) [h : Ones l] : Ones (.int k z :: l) := ⟨by have := h.ones; simpa [Go.Proofs.Ytdmmahhnfnefoaa.ones, Value.oneCell'] using this⟩
instance Ones.bool (z : Bool) (l : List Value) [h : Ones l] : Ones (.bool z :: l) := ⟨by have := h.ones; simpa [Go.Proofs.Ytdmmahhnfnefoaa.ones, Value.oneCell'] using this⟩
instance Ones.str (z : ByteArray) (l : List Value) [h : Ones l] : Ones (.string z :: l) := ⟨by have := h.ones; simpa [Go.Proofs.Ytdmmahhnfnefoaa.ones, Value.oneCell'] using this⟩
instance Ones.ptr (z : Option Addr) (l : List Value) [h : Ones l] : Ones (.pointer z :: l) := ⟨by have := h.ones; simpa [Go.Proofs.Ytdmmahhnfnefoaa.ones, Value.oneCell'] using this⟩
instance Ones.slice (z : Option Addr) (n c : Nat) (l : List Value) [h : Ones l] : Ones (.slice z n c :: l) := ⟨by have := h.ones; simpa [Go.Proofs.Ytdmmahhnfnefoaa.ones, Value.oneCell'] using this⟩

/-- The cells xs stand at p, n elements: to be read. -/
class Src (W : World) (H : SL) (p : Option Addr) (n : outParam Nat) (xs : outParam (List Value)) : Prop where
  cells : ∀ w, Sat W w H → ∀ i v, xs[i]? = some v → ∃ a, off p i = some a ∧ w.cell? a = some v
  nn : ∀ w, Sat W w H → 0 < n → p ≠ none
instance (priority := 900) Src.row (W : World) (H F : SL) (e sz n cap : Nat) (p : Option Addr) (xs : List Value) [r : AtP H p (RowC e sz p n cap xs) F] : Src W H p n xs where
  cells := fun w hs i v hv => RowC.cell (r.eq ▸ hs) hv
  nn := fun w hs hn => RowC.nn (r.eq ▸ hs) hn
/-- A slice in the arguments' memory. -/
class Ro (W : World) (p : Option Addr) (n : outParam Nat) (xs : outParam (List Value)) : Prop where
  cells : ∀ i v, xs[i]? = some v → ∃ a, off p i = some a ∧ a.block < W.heap.size ∧ W.cell? a = some v
  nn : 0 < n → p ≠ none
instance (priority := 2000) Src.ro (W : World) (H : SL) (n : Nat) (p : Option Addr) (xs : List Value) [r : Ro W p n xs] : Src W H p n xs where
  cells := fun w hs i v hv => by
    obtain ⟨a, h1, h2, h3⟩ := r.cells i v hv
    exact ⟨a, h1, by rw [hs.below.cell h2]; exact h3⟩
  nn := fun _ _ hn => r.nn hn

variable {X : Cx} {k : List KI} {σ : Env} {H : SL} {o : Oper}

theorem OpVal_len {x : Operand} {p : Option Addr} {n cap : Nat} {t e sz by' : Nat} {z : List Value} (ho : o.op = .call { callee := .builtin .len, args := #[x], argTypes := #[t] }) (hx : ev σ x = some (.slice p n cap)) [s : TSlice X.P t e sz by' z] : OpVal X σ H o (.int .i64 (n : Int)) := by
  intro a w ha hs
  simp only [execOp, ho, resolve, invoke, builtin, Sem.run_bind, Sem.run_pure, Result.andThen_ok, List.map_toArray, List.map_cons, List.map_nil, ha.eval hx]
  simp [Builtin.len_, run_underlying s.under, go_sem]

theorem OpVal_indexAddr {x y : Operand} {p : Option Addr} {n cap i : Nat} {zi : Int} {ik : IntKind} {t e sz by' : Nat} {z xs : List Value} (ho : o.op = .indexAddr t x y) (hx : ev σ x = some (.slice p n cap)) (hy : ev σ y = some (.int ik zi)) [s : TSlice X.P t e sz by' z] [m : NatOf zi i]
    {n0 : Nat} [r : Src X.W H p n0 xs] (hi : i < n) (hi' : i < n0) : OpVal X σ H o (.pointer (el p i sz)) := by
  intro a w ha hs
  have hp := r.nn w hs (by omega)
  have hz := m.eq
  subst hz
  obtain ⟨v, h1, h2⟩ := s.info
  obtain ⟨j, hj, hsz⟩ := map_info h1
  have hj2 : j.size = sz := by
    have := congrArg (fun q => q.2.1) hsz
    simpa using this
  cases p with
  | none => exact absurd rfl hp
  | some g =>
    simp only [execOp, ho, ha.eval hx, ha.eval hy]
    have e1 : (0 : Int) ≤ (i : Int) ∧ (i : Int) < (n : Int) := by omega
    simp [Instr.indexAt, asIntOf, run_underlying s.under, sizeOf, typeInfo, hj, hj2, e1, el, off, go_sem]
    intro; omega

theorem OpVal_loadR {x : Operand} {q p : Option Addr} {t i sz j n : Nat} {xs : List Value} {v : Value} {φ : Prop} (ho : o.op = .load t x) (hx : ev σ x = some (.pointer q)) [c : TCell X.P t] [l : RLoc q p i sz j] [r : Src X.W H p n xs] [g : RowGet xs i sz j v φ] (hφ : φ) : OpVal X σ H o v := by
  intro a w ha hs
  obtain ⟨b, hb, hc⟩ := r.cells w hs _ _ (g.get hφ)
  rw [← l.eq] at hb
  subst hb
  obtain ⟨d, h1, h2⟩ := c.agg
  simp only [execOp, ho, ha.eval hx]
  cases d <;> simp at h2 <;> simp [Instr.loadAt, Instr.sureAddr, loadVar, isAgg, run_underlying h1, load, Sem.run, hc, go_sem]

end Go.Proofs.Ytdmmahhnfnefoaa
