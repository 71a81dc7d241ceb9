/-
  Strings, as lists of bytes. Plain Lean: no program in sight.
-/
import Derived.Test.YtdmmahhnfnefoaaSa
import Derived.Lib.ConvBytes
import Derived.Laws.IdiomStrings
namespace Go.Proofs.Ytdmmahhnfnefoaa
open Go.RowKit

def bs (l : List UInt8) : ByteArray := ⟨l.toArray⟩
class StrOf (s : ByteArray) (l : outParam (List UInt8)) : Prop where eq : s = bs l
instance (priority := 2000) StrOf.iBs (l : List UInt8) : StrOf (bs l) l := ⟨rfl⟩
instance (priority := 1900) StrOf.iMk (l : List UInt8) : StrOf ⟨l.toArray⟩ l := ⟨rfl⟩
instance (priority := 1800) StrOf.iEmpty : StrOf ByteArray.empty [] := ⟨rfl⟩
theorem bs_size (l : List UInt8) : (bs l).size = l.length := by simp [bs, ByteArray.size]
theorem bs_data (l : List UInt8) : (bs l).data = l.toArray := rfl
theorem bs_toList (l : List UInt8) : (bs l).toList = l := by
  simp [bs, ByteArray.toList_eq]
theorem bs_inj {a b : List UInt8} : bs a = bs b ↔ a = b := by
  constructor
  · intro h
    have := congrArg (fun s => s.data.toList) h
    simpa [bs] using this
  · rintro rfl; rfl
theorem bs_append (a b : List UInt8) : bs a ++ bs b = bs (a ++ b) := by
  apply ByteArray.ext
  simp [bs, ByteArray.data_append]
theorem bs_extract (l : List UInt8) (i j : Nat) : (bs l).extract i j = bs ((l.take j).drop i) := by
  apply ByteArray.ext
  simp [bs, ByteArray.data_extract, List.drop_take]
theorem bs_get {l : List UInt8} {i : Nat} (h : i < l.length) : (bs l)[i]? = some (l.getD i 0) := by
  have : i < (bs l).size := by rw [bs_size]; exact h
  rw [getElem?_pos (bs l) i this]
  simp [bs, ByteArray.getElem_eq_getElem_data, List.getD_eq_getElem?_getD, h]
theorem bs_of (s : ByteArray) : s = bs s.data.toList := by cases s; simp [bs]

variable {X : Cx} {k : List KI} {σ : Env} {H : SL} {o : Oper}

theorem OpVal_lenStr {x : Operand} {s : ByteArray} {l : List UInt8} {t : TypeId} (ho : o.op = .call { callee := .builtin .len, args := #[x], argTypes := #[t] }) (hx : ev σ x = some (.string s)) [m : StrOf s l] [u : TStr X.P t] : OpVal X σ H o (.int .i64 (l.length : Int)) := by
  intro a w ha hs
  have e := m.eq
  subst e
  simp only [execOp, ho, resolve, invoke, builtin, Sem.run_bind, Sem.run_pure, Result.andThen_ok, List.map_toArray, List.map_cons, List.map_nil, ha.eval hx]
  simp [Builtin.len_, run_underlying u.h, bs_size, go_sem]
theorem OpVal_indexStr {x y : Operand} {s : ByteArray} {l : List UInt8} {t : TypeId} {kk : IntKind} {z : Int} {i : Nat} (ho : o.op = .index t x y) (hx : ev σ x = some (.string s)) (hy : ev σ y = some (.int kk z)) [m : StrOf s l] [q : NatOf z i] [u : TStr X.P t] (hi : i < l.length) : OpVal X σ H o (.int .u8 (((l.getD i 0).toNat : Nat) : Int)) := by
  intro a w ha hs
  have e := m.eq
  subst e
  have e := q.eq
  subst e
  simp only [execOp, ho, ha.eval hx, ha.eval hy]
  simp [Instr.index, asIntOf, run_underlying u.h, bs_get hi, go_sem]
theorem run_eqStr {P : Program} {w : World} {op : BinOp} {t : TypeId} {p q : Operand} {a b : ByteArray} : (eqGuard op t p q (.string a) (.string b)).run P w = .ok () w := by
  unfold eqGuard
  cases op <;> rfl
theorem OpVal_strEq {x y : Operand} {t u : TypeId} {s r : ByteArray} {l m : List UInt8} (ho : o.op = .binOp .eql t x y u) (hx : ev σ x = some (.string s)) (hy : ev σ y = some (.string r)) [e1 : StrOf s l] [e2 : StrOf r m] : OpVal X σ H o (.bool (decide (l = m))) := by
  intro a w ha hs
  have e := e1.eq
  subst e
  have e := e2.eq
  subst e
  simp only [execOp, ho, ha.eval hx, ha.eval hy]
  have : (l == m) = decide (l = m) := by rw [Bool.eq_iff_iff]; simp
  simp [Sem.run_bind, run_eqStr, binOp, Op.stringOp, bs_toList, this, go_sem]
theorem OpVal_strNe {x y : Operand} {t u : TypeId} {s r : ByteArray} {l m : List UInt8} (ho : o.op = .binOp .neq t x y u) (hx : ev σ x = some (.string s)) (hy : ev σ y = some (.string r)) [e1 : StrOf s l] [e2 : StrOf r m] : OpVal X σ H o (.bool (!decide (l = m))) := by
  intro a w ha hs
  have e := e1.eq
  subst e
  have e := e2.eq
  subst e
  simp only [execOp, ho, ha.eval hx, ha.eval hy]
  have : (l == m) = decide (l = m) := by rw [Bool.eq_iff_iff]; simp
  simp [Sem.run_bind, run_eqStr, binOp, Op.stringOp, bs_toList, this, go_sem]
theorem OpVal_strAdd {x y : Operand} {t u : TypeId} {s r : ByteArray} {l m : List UInt8} (ho : o.op = .binOp .add t x y u) (hx : ev σ x = some (.string s)) (hy : ev σ y = some (.string r)) [e1 : StrOf s l] [e2 : StrOf r m] (hb : l.length + m.length ≤ 9223372036854775807) : OpVal X σ H o (.string (bs (l ++ m))) := by
  intro a w ha hs
  have e := e1.eq
  subst e
  have e := e2.eq
  subst e
  simp only [execOp, ho, ha.eval hx, ha.eval hy]
  have hn : ¬ (((bs l).size + (bs m).size : Nat) : Int) > IntKind.i64.max := by
    rw [bs_size, bs_size]
    have : IntKind.i64.max = 9223372036854775807 := rfl
    omega
  simp only [Sem.run_bind, run_eqStr, binOp, Op.stringOp, Result.andThen_ok, if_neg hn, bs_append]
  rfl
/-- A part of a string. -/
theorem run_sliceStr {P : Program} {w : World} {t : TypeId} [u : TStr P t] {l : List UInt8} {lo hi : Option Value} {i j : Nat} (hl : lo = none ∧ i = 0 ∨ ∃ kk, lo = some (.int kk (i : Int))) (hh : hi = none ∧ j = l.length ∨ ∃ kk, hi = some (.int kk (j : Int))) (hij : i ≤ j) (hj : j ≤ l.length) :
    (Instr.sliceAt t (.string (bs l)) lo hi none).run P w = .ok (.string (bs ((l.take j).drop i))) w := by
  have h2 : (i : Int) ≤ (j : Int) := by omega
  have h3 : (j : Int) ≤ (l.length : Int) := by omega
  rcases hl with ⟨rfl, rfl⟩ | ⟨k1, rfl⟩ <;> rcases hh with ⟨rfl, rfl⟩ | ⟨k2, rfl⟩ <;>
    simp [Instr.sliceAt, Instr.slice, Instr.sliceBounds, Instr.sliceBound, asIntOf, run_underlying u.h, bs_size, bs_extract, h2, h3, hij, hj, go_sem]
  all_goals first | done | (intro; omega)
theorem OpVal_sliceStr {x : Operand} {lo hi : Option Operand} {s : ByteArray} {l : List UInt8} {t : TypeId} {i j : Nat} (ho : o.op = .slice t x lo hi none) (hx : ev σ x = some (.string s)) [m : StrOf s l] [u : TStr X.P t]
    (hl : lo = none ∧ i = 0 ∨ ∃ y kk z, lo = some y ∧ ev σ y = some (.int kk z) ∧ z = (i : Int)) (hh : hi = none ∧ j = l.length ∨ ∃ y kk z, hi = some y ∧ ev σ y = some (.int kk z) ∧ z = (j : Int)) (hij : i ≤ j) (hj : j ≤ l.length) : OpVal X σ H o (.string (bs ((l.take j).drop i))) := by
  intro a w ha hs
  have e := m.eq
  subst e
  simp only [execOp, ho, ha.eval hx]
  have h1 : lo.map a.eval = none ∧ i = 0 ∨ ∃ kk, lo.map a.eval = some (.int kk (i : Int)) := by
    rcases hl with ⟨rfl, h⟩ | ⟨y, kk, z, rfl, h, rfl⟩
    · exact .inl ⟨rfl, h⟩
    · exact .inr ⟨kk, by simp [ha.eval h]⟩
  have h2 : hi.map a.eval = none ∧ j = l.length ∨ ∃ kk, hi.map a.eval = some (.int kk (j : Int)) := by
    rcases hh with ⟨rfl, h⟩ | ⟨y, kk, z, rfl, h, rfl⟩
    · exact .inl ⟨rfl, h⟩
    · exact .inr ⟨kk, by simp [ha.eval h]⟩
  simp only [Sem.run_bind, Option.map_none, run_sliceStr h1 h2 hij hj, Result.andThen_ok]
  rfl
theorem OpVal_sliceLo {x y : Operand} {s : ByteArray} {l : List UInt8} {t : TypeId} {kk : IntKind} {z : Int} {i : Nat} (ho : o.op = .slice t x (some y) none none) (hx : ev σ x = some (.string s)) (hy : ev σ y = some (.int kk z)) [m : StrOf s l] [u : TStr X.P t] [q : NatOf z i] (hi : i ≤ l.length) : OpVal X σ H o (.string (bs (l.drop i))) := by
  have := OpVal_sliceStr (X := X) (H := H) (j := l.length) ho hx (.inr ⟨y, kk, z, rfl, hy, q.eq⟩) (.inl ⟨rfl, rfl⟩) hi (Nat.le_refl _)
  rwa [List.take_length] at this
theorem OpVal_sliceHi {x y : Operand} {s : ByteArray} {l : List UInt8} {t : TypeId} {kk : IntKind} {z : Int} {j : Nat} (ho : o.op = .slice t x none (some y) none) (hx : ev σ x = some (.string s)) (hy : ev σ y = some (.int kk z)) [m : StrOf s l] [u : TStr X.P t] [q : NatOf z j] (hi : j ≤ l.length) : OpVal X σ H o (.string (bs (l.take j))) := by
  have := OpVal_sliceStr (X := X) (H := H) (i := 0) ho hx (.inl ⟨rfl, rfl⟩) (.inr ⟨y, kk, z, rfl, hy, q.eq⟩) (Nat.zero_le _) hi
  rwa [List.drop_zero] at this

/-! ### Bytes of a string, a string of bytes -/
def bytesR (l : List UInt8) : List Value := l.map fun b => .int .u8 ((b.toNat : Nat) : Int)
theorem bytesR_len (l : List UInt8) : (bytesR l).length = l.length := by simp [bytesR]
instance RowGet.bytes (l : List UInt8) (i : Nat) : RowGet (bytesR l) i 1 0 (.int .u8 (((l.getD i 0).toNat : Nat) : Int)) (i < l.length) := ⟨fun h => by
  simp only [bytesR, List.getElem?_map, Nat.mul_one, Nat.add_zero, getD_get 0 h, Option.map_some]⟩
instance Ones.iBytes (l : List UInt8) : Ones (bytesR l) := ⟨by simp [Go.Proofs.Ytdmmahhnfnefoaa.ones, bytesR, Value.oneCell']⟩
class BytesOf (xs : List Value) (l : outParam (List UInt8)) (φ : outParam Prop) : Prop where eq : φ → xs = bytesR l
instance (priority := 2000) BytesOf.iR (l : List UInt8) : BytesOf (bytesR l) l ((0 : Int) ≤ 0) := ⟨fun _ => rfl⟩
instance BytesOf.iNil : BytesOf [] [] ((0 : Int) ≤ 0) := ⟨fun _ => rfl⟩
instance BytesOf.iCons (z : Int) (xs : List Value) (l : List UInt8) (φ : Prop) [h : BytesOf xs l φ] : BytesOf (.int .u8 z :: xs) (UInt8.ofNat z.toNat :: l) ((0 ≤ z ∧ z < 256) ∧ φ) := ⟨fun g => by
  rw [h.eq g.2]
  simp only [bytesR, List.map_cons, List.cons.injEq, Value.int.injEq, true_and, and_true]
  have : (UInt8.ofNat z.toNat).toNat = z.toNat := by
    rw [UInt8.toNat_ofNat']
    exact Nat.mod_eq_of_lt (by omega)
  rw [this]
  omega⟩

/-- A row that is only read (its block may bear a mark). -/
def RowF (e sz : Nat) (p : Option Addr) (n cap : Nat) (xs : List Value) : SL := fun h =>
  (xs.length = n * sz ∧ n ≤ cap) ∧ ∃ (g o : Nat) (cur : List Value) (fr : Nat × Nat), p = some ⟨g, o, none⟩ ∧ (cur.drop o).take (n * sz) = xs ∧ SL.blk g (.cells cur.toArray e fr) h
instance (priority := 2000) AtP.rowF (e sz : Nat) (p : Option Addr) (n cap : Nat) (xs : List Value) (F : SL) : AtP (RowF e sz p n cap xs * F) p (RowF e sz p n cap xs) F := ⟨rfl⟩
theorem RowF.open {W w : World} {F : SL} {e sz n cap : Nat} {p : Option Addr} {xs : List Value} (h : Sat W w (RowF e sz p n cap xs * F)) : (xs.length = n * sz ∧ n ≤ cap) ∧
    ∃ (g o : Nat) (cur : List Value) (fr : Nat × Nat), p = some ⟨g, o, none⟩ ∧ (cur.drop o).take (n * sz) = xs ∧ Sat W w (SL.blk g (.cells cur.toArray e fr) * F) := by
  obtain ⟨hb, x, ⟨h1, h2, ⟨hl, g, o, cur, fr, a1, a2, a3⟩, q, d, e'⟩, hx⟩ := h
  exact ⟨hl, g, o, cur, fr, a1, a2, hb, x, ⟨h1, h2, a3, q, d, e'⟩, hx⟩
theorem RowF.cell {W w : World} {F : SL} {e sz n cap : Nat} {p : Option Addr} {xs : List Value} (h : Sat W w (RowF e sz p n cap xs * F)) {i : Nat} {v : Value} (hv : xs[i]? = some v) : ∃ a, off p i = some a ∧ w.cell? a = some v := by
  obtain ⟨_, g, o, cur, fr, rfl, h2, hs⟩ := RowF.open h
  refine ⟨(⟨g, o, none⟩ : Addr).add i, rfl, ?_⟩
  rw [add_at]
  subst h2
  have hg := hs.get
  simp only [World.cell?, hg]
  simp only [List.getElem?_take, List.getElem?_drop] at hv
  split at hv
  · simpa using hv
  · cases hv
instance (priority := 900) Src.rowF (W : World) (H F : SL) (e sz n cap : Nat) (p : Option Addr) (xs : List Value) [r : AtP H p (RowF e sz p n cap xs) F] : Src W H p n xs where
  cells := fun w hs i v hv => RowF.cell (r.eq ▸ hs) hv
  nn := fun w hs hn => by
    obtain ⟨_, g, o, _, _, rfl, _⟩ := RowF.open (r.eq ▸ hs)
    simp

theorem OpDoes_bytes {x : Operand} {t u e sz by' : TypeId} {z : List Value} {s : ByteArray} {l : List UInt8} (ho : o.op = .convert t u x) (hx : ev σ x = some (.string s)) [m : StrOf s l] [u1 : TStr X.P t] [u2 : TSlice X.P u e sz by' z] [u3 : TInt X.P e .u8] :
    OpDoes X σ H o (fun q : Option Addr × Nat => .slice q.1 l.length q.2) (fun q => RowF e 1 q.1 l.length q.2 (bytesR l) * H) := by
  intro a w ha hs
  have e1 := m.eq
  subst e1
  refine ⟨(some ⟨w.heap.size, 0, none⟩, grownCap w (bs l).size 0 e), Lib.bytesWorld w e (bs l), ?_, ?_⟩
  · simp only [execOp, ho, ha.eval hx, Sem.run_bind, Lib.run_convert_string_bytes w t u e (bs l) u1.h u2.under u3.h, Result.andThen_ok, bs_size]
    rfl
  · have hn := hs.new (w' := Lib.bytesWorld w e (bs l)) (b := w.heap.size) rfl (by rw [Lib.bytesWorld_size]; omega) (by simp [Lib.bytesWorld, World.freeze, World.alloc, World.drew, -World.alloc_eq, -World.drew_eq]) (by simp [Lib.bytesWorld, World.freeze, World.alloc, World.drew, -World.alloc_eq, -World.drew_eq])
      (by simp [Lib.bytesWorld, World.freeze, World.alloc, World.drew, -World.alloc_eq, -World.drew_eq]) (fun k hk => Lib.bytesWorld_at_old w e (bs l) k hk) (Lib.bytesWorld_at_new w e (bs l))
    refine hn.left fun y hy => ⟨⟨by rw [bytesR_len, Nat.mul_one], ?_⟩, w.heap.size, 0, (Lib.bytesCells w e (bs l)).toList, _, rfl, ?_, by rw [Array.toArray_toList]; exact hy⟩
    · rw [← bs_size]; exact grownCap_ge w _ _ _
    · rw [List.drop_zero, Nat.mul_one]
      simp [Lib.bytesCells, bs, bytesR]
theorem OpVal_bytesStr {x : Operand} {t u e sz by' n n0 cap : Nat} {z xs : List Value} {p : Option Addr} {l : List UInt8} {φ : Prop} (ho : o.op = .convert t u x) (hx : ev σ x = some (.slice p n cap)) [u1 : TSlice X.P t e sz by' z] [u2 : TInt X.P e .u8] [u3 : TStr X.P u]
    [r : Src X.W H p n0 xs] [b : BytesOf xs l φ] (hφ : φ) (hn : l.length = n) : OpVal X σ H o (.string (bs l)) := by
  intro a w ha hs
  have hb := b.eq hφ
  subst hb
  subst hn
  simp only [execOp, ho, ha.eval hx]
  cases p with
  | none =>
    have h0 : l = [] := by
      cases l with
      | nil => rfl
      | cons c l =>
        obtain ⟨q, hq, _⟩ := r.cells w hs 0 (.int .u8 ((c.toNat : Nat) : Int)) (by simp [bytesR])
        simp [off] at hq
    subst h0
    simp [convert, run_underlying u1.under, run_underlying u2.h, run_underlying u3.h, Conv.bytesToString, go_sem, bs]
    rfl
  | some q =>
    simp only [Sem.run_bind, run_convert_bytes_back w t u e q cap l u1.under u2.h u3.h (fun j hj => by
      obtain ⟨a', h1, h2⟩ := r.cells w hs j (.int .u8 (((l[j]).toNat : Nat) : Int)) (by simp [bytesR, hj])
      simp only [off, Option.map_some, Option.some.injEq] at h1
      rw [h1]; exact h2), Result.andThen_ok]
    rfl

end Go.Proofs.Ytdmmahhnfnefoaa
