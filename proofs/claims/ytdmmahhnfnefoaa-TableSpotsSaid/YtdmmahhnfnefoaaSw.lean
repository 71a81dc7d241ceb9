/-
  What operations do, of the assertions: arithmetic in range, conversions, pointers against nil, new slices, append. Plain Lean: no program in sight.
-/
import Derived.Test.YtdmmahhnfnefoaaSz
namespace Go.Proofs.Ytdmmahhnfnefoaa
open Go.RowKit

variable {X : Cx} {k : List KI} {σ : Env} {H : SL} {o : Oper}

/-! ### Arithmetic -/
def InK (k : IntKind) (z : Int) : Prop := match k with
  | .i8 => -128 ≤ z ∧ z ≤ 127
  | .i16 => -32768 ≤ z ∧ z ≤ 32767
  | .i32 => -2147483648 ≤ z ∧ z ≤ 2147483647
  | .i64 => -9223372036854775808 ≤ z ∧ z ≤ 9223372036854775807
  | .u8 => 0 ≤ z ∧ z ≤ 255
  | .u16 => 0 ≤ z ∧ z ≤ 65535
  | .u32 => 0 ≤ z ∧ z ≤ 4294967295
  | .u64 => 0 ≤ z ∧ z ≤ 18446744073709551615
theorem InK.wrap {k : IntKind} {z : Int} (h : InK k z) : k.wrap z = z := by
  cases k <;> simp only [InK] at h <;> simp [IntKind.wrap, IntKind.bits, IntKind.signed] <;> first | omega | (split <;> omega)

theorem OpVal_wrapped {k : IntKind} {z z' : Int} (h : OpVal X σ H o (.int k z)) (e : z = z') : OpVal X σ H o (.int k z') := e ▸ h
theorem OpVal_add {x y : Operand} {t u : TypeId} {k : IntKind} {a b : Int} (ho : o.op = .binOp .add t x y u) (hx : ev σ x = some (.int k a)) (hy : ev σ y = some (.int k b)) (hr : InK k (a + b)) : OpVal X σ H o (.int k (a + b)) :=
  OpVal_wrapped (OpVal_pure (by rw [ho]; simp only [evPure, hx, hy]; cases k <;> rfl)) hr.wrap
theorem OpVal_sub {x y : Operand} {t u : TypeId} {k : IntKind} {a b : Int} (ho : o.op = .binOp .sub t x y u) (hx : ev σ x = some (.int k a)) (hy : ev σ y = some (.int k b)) (hr : InK k (a - b)) : OpVal X σ H o (.int k (a - b)) :=
  OpVal_wrapped (OpVal_pure (by rw [ho]; simp only [evPure, hx, hy]; cases k <;> rfl)) hr.wrap
theorem OpVal_mul {x y : Operand} {t u : TypeId} {k : IntKind} {a b : Int} (ho : o.op = .binOp .mul t x y u) (hx : ev σ x = some (.int k a)) (hy : ev σ y = some (.int k b)) (hr : InK k (a * b)) : OpVal X σ H o (.int k (a * b)) :=
  OpVal_wrapped (OpVal_pure (by rw [ho]; simp only [evPure, hx, hy]; cases k <;> rfl)) hr.wrap

theorem eqGuard_int {op : BinOp} {t : TypeId} {p q : Operand} {k k' : IntKind} {a b : Int} {P : Program} {w : World} : (eqGuard op t p q (.int k a) (.int k' b)).run P w = .ok () w := by
  unfold eqGuard
  cases op <;> rfl
theorem OpVal_bin {op : BinOp} {x y : Operand} {t u : TypeId} {k k' : IntKind} {a b : Int} {v : Value} (ho : o.op = .binOp op t x y u) (hx : ev σ x = some (.int k a)) (hy : ev σ y = some (.int k' b)) (hv : ∀ P w, (binOp op t (.int k a) (.int k' b)).run P w = .ok v w) : OpVal X σ H o v := by
  intro a' w ha hs
  simp only [execOp, ho, ha.eval hx, ha.eval hy]
  simp [Sem.run_bind, eqGuard_int, hv, go_sem]
/-- Division of numbers from nought. -/
theorem OpVal_quo {x y : Operand} {t u : TypeId} {k : IntKind} {a b : Int} (ho : o.op = .binOp .quo t x y u) (hx : ev σ x = some (.int k a)) (hy : ev σ y = some (.int k b)) (ha : 0 ≤ a) (hb : 0 < b) (hr : InK k a) : OpVal X σ H o (.int k (a / b)) := by
  refine OpVal_bin ho hx hy fun P w => ?_
  have h1 : ¬ b = 0 := by omega
  have h3 : a / b ≤ a := Int.ediv_le_self _ ha
  have h4 : 0 ≤ a / b := Int.ediv_nonneg ha (by omega)
  have h2 : k.wrap (a.tdiv b) = a / b := by
    rw [Int.tdiv_eq_ediv_of_nonneg ha]
    refine InK.wrap ?_
    cases k <;> simp only [InK] at hr ⊢ <;> omega
  simp [binOp, Op.intDiv, h1, h2, go_sem]
theorem OpVal_rem {x y : Operand} {t u : TypeId} {k : IntKind} {a b : Int} (ho : o.op = .binOp .rem t x y u) (hx : ev σ x = some (.int k a)) (hy : ev σ y = some (.int k b)) (ha : 0 ≤ a) (hb : 0 < b) : OpVal X σ H o (.int k (a % b)) := by
  refine OpVal_bin ho hx hy fun P w => ?_
  have h1 : ¬ b = 0 := by omega
  simp [binOp, Op.intDiv, h1, Int.tmod_eq_emod_of_nonneg ha, go_sem]
theorem OpVal_remT {x y : Operand} {t u : TypeId} {k : IntKind} {a b : Int} (ho : o.op = .binOp .rem t x y u) (hx : ev σ x = some (.int k a)) (hy : ev σ y = some (.int k b)) (hb : b ≠ 0) : OpVal X σ H o (.int k (a.tmod b)) := by
  refine OpVal_bin ho hx hy fun P w => ?_
  simp [binOp, Op.intDiv, hb, go_sem]
theorem OpVal_shr {x y : Operand} {t u : TypeId} {k k' : IntKind} {a b : Int} (ho : o.op = .binOp .shr t x y u) (hx : ev σ x = some (.int k a)) (hy : ev σ y = some (.int k' b)) (h0 : 0 ≤ b) (h1 : b ≤ k.bits) : OpVal X σ H o (.int k (a / 2 ^ b.toNat)) := by
  refine OpVal_bin ho hx hy fun P w => ?_
  simp [binOp, shift_shr k k' a b h0 h1, go_sem]
theorem OpVal_shl {x y : Operand} {t u : TypeId} {k k' : IntKind} {a b : Int} (ho : o.op = .binOp .shl t x y u) (hx : ev σ x = some (.int k a)) (hy : ev σ y = some (.int k' b)) (h0 : 0 ≤ b) (h1 : b ≤ k.bits) : OpVal X σ H o (.int k (k.wrap (a * 2 ^ b.toNat))) := by
  refine OpVal_bin ho hx hy fun P w => ?_
  simp [binOp, shift_shl k k' a b h0 h1, go_sem]

/-- Conversions between kinds of numbers. -/
theorem OpVal_convert {x : Operand} {s t : TypeId} {k k' k2 : IntKind} {a : Int} (ho : o.op = .convert s t x) (hx : ev σ x = some (.int k a)) [hs : TInt X.P s k2] [ht : TInt X.P t k'] : OpVal X σ H o (.int k' (k'.wrap a)) := by
  intro a' w ha _
  simp only [execOp, ho, ha.eval hx]
  simp [convert, run_underlying hs.h, run_underlying ht.h, Conv.intToInt, go_sem]
theorem OpVal_convertIn {x : Operand} {s t : TypeId} {k k' k2 : IntKind} {a : Int} (ho : o.op = .convert s t x) (hx : ev σ x = some (.int k a)) [hs : TInt X.P s k2] [ht : TInt X.P t k'] (hr : InK k' a) : OpVal X σ H o (.int k' a) :=
  OpVal_wrapped (OpVal_convert ho hx) hr.wrap

/-! ### Pointers against nil -/
theorem run_eqPtr {P : Program} {t e : TypeId} [h : TPtr P t e] (p q : Option Addr) (w : World) (hn : p = none ∨ q = none) : (Op.equal t (.pointer p) (.pointer q)).run P w = .ok (decide (p = q)) w := by
  unfold Op.equal
  obtain ⟨d, hd⟩ : ∃ d, Op.maxDepth = d + 1 := ⟨9999, rfl⟩
  rw [hd]
  clear hd
  simp only [Op.equalIn]
  rcases hn with rfl | rfl
  · cases q <;> simp [run_underlying h.h, go_sem]
  · cases p <;> simp [run_underlying h.h, go_sem]
theorem OpVal_ptrEq {x y : Operand} {t u e : TypeId} {p q : Option Addr} (ho : o.op = .binOp .eql t x y u) (hx : ev σ x = some (.pointer p)) (hy : ev σ y = some (.pointer q)) [h : TPtr X.P t e] (hn : p = none ∨ q = none) : OpVal X σ H o (.bool (decide (p = q))) := by
  intro a' w ha _
  simp only [execOp, ho, ha.eval hx, ha.eval hy]
  have hg : ∀ p' q', (eqGuard .eql t p' q' (.pointer p) (.pointer q)).run X.P w = .ok () w := fun _ _ => rfl
  simp [Sem.run_bind, hg, binOp, run_eqPtr p q w hn, go_sem]
theorem OpVal_ptrNe {x y : Operand} {t u e : TypeId} {p q : Option Addr} (ho : o.op = .binOp .neq t x y u) (hx : ev σ x = some (.pointer p)) (hy : ev σ y = some (.pointer q)) [h : TPtr X.P t e] (hn : p = none ∨ q = none) : OpVal X σ H o (.bool (!decide (p = q))) := by
  intro a' w ha _
  simp only [execOp, ho, ha.eval hx, ha.eval hy]
  have hg : ∀ p' q', (eqGuard .neq t p' q' (.pointer p) (.pointer q)).run X.P w = .ok () w := fun _ _ => rfl
  simp [Sem.run_bind, hg, binOp, run_eqPtr p q w hn, go_sem]
/-- Of what stands in memory it is known that it isn't nil. -/
theorem OpVal_isNil {x : Operand} {t u e : TypeId} {p : Option Addr} (ho : o.op = .binOp .eql t x (.const (.pointer none)) u) (hx : ev σ x = some (.pointer p)) [h : TPtr X.P t e] [n : NN H p] : OpVal X σ H o (.bool false) := by
  intro a' w ha hs
  have := OpVal_ptrEq (X := X) (σ := σ) (H := H) (q := none) ho hx rfl (.inr rfl) a' w ha hs
  rwa [decide_eq_false (n.nn _ w hs)] at this
theorem OpVal_notNil {x : Operand} {t u e : TypeId} {p : Option Addr} (ho : o.op = .binOp .neq t x (.const (.pointer none)) u) (hx : ev σ x = some (.pointer p)) [h : TPtr X.P t e] [n : NN H p] : OpVal X σ H o (.bool true) := by
  intro a' w ha hs
  have := OpVal_ptrNe (X := X) (σ := σ) (H := H) (q := none) ho hx rfl (.inr rfl) a' w ha hs
  rwa [decide_eq_false (n.nn _ w hs)] at this

/-! ### Stores into rows -/
theorem OpSkip_storeR {x y : Operand} {q p : Option Addr} {t e i sz j n cap m : Nat} {xs ys : List Value} {F : SL} {v : Value} {φ : Prop} (ho : o.op = .store t x y) (hx : ev σ x = some (.pointer q)) (hy : ev σ y = some v) [c : TSize X.P t m] [l : RLoc q p i sz j] [r : AtP H p (RowC e sz p n cap xs) F]
    {vs : List Value} (hc : cellsS v = some vs) [g : RowSet xs i sz j vs ys φ] (hφ : φ) (hm : Nat.beq (cellsL v).length m = true) (h0 : Nat.blt 0 m = true) (h1 : ones (cellsL v) = true) : OpSkip X σ H o (RowC e sz p n cap ys * F) := by
  intro a w ha hs
  obtain rfl := cellsS_spec hc
  obtain ⟨h2, rfl⟩ := g.set hφ
  have hm := Nat.eq_of_beq_eq_true hm
  subst hm
  have h0 : 0 < (cellsL v).length := Nat.le_of_ble_eq_true h0
  have hr := r.eq ▸ hs
  obtain ⟨b, w', h3, h4, h5⟩ := RowC.write (P := X.P) hr (by rw [← (RowC.len hr).1]; exact h2) h0 h1
  have hq := l.eq
  rw [h3] at hq
  subst hq
  refine ⟨w', ?_, h5⟩
  have hc : v.cells.size = (cellsL v).length := by rw [← cellsL_spec, Array.length_toList]
  simp only [execOp, ho, ha.eval hx, ha.eval hy, Instr.storeAt, Instr.sureAddr, Sem.run_bind, Sem.run_pure, Result.andThen_ok, storeVar, run_size, hc, ne_eq, not_true_eq_false, if_false, cellsL_spec, h4]

theorem OpVal_loadAggR {x : Operand} {q p : Option Addr} {t i sz n : Nat} {xs vs : List Value} {φ : Prop} (ho : o.op = .load t x) (hx : ev σ x = some (.pointer q)) [c : TAgg X.P t sz] [l : RLoc q p i sz 0] [r : Src X.W H p n xs] [g : RowAll xs i sz vs φ] (hφ : φ) (hn : 0 < n) : OpVal X σ H o (.agg vs.toArray) := by
  intro a w ha hs
  obtain ⟨hl, hall⟩ := g.all hφ
  have hp := r.nn w hs hn
  cases p with
  | none => exact absurd rfl hp
  | some b =>
    have hq := l.eq
    simp only [off, Option.map_some] at hq
    subst hq
    obtain ⟨d, h1, h2⟩ := c.agg
    obtain ⟨j, hj, hsz⟩ := map_info c.size
    have := run_loadCells_list (P := X.P) w (b.add (i * sz + 0)) vs fun j' v hv => by
      obtain ⟨b', h3, h4⟩ := r.cells w hs _ _ (hall j' v hv)
      simp only [off, Option.map_some, Option.some.injEq] at h3
      subst h3
      have e1 : (b.add (i * sz + 0)).add j' = b.add (i * sz + j') := by
        have := (@Loc.iOff (Go.Proofs.Ytdmmahhnfnefoaa.off (some b) (i * sz + 0)) (some b) (i * sz + 0) j' ⟨rfl⟩).eq
        simp only [off, Option.map_some, Option.some.injEq] at this
        rw [this]; simp
      rw [e1]; exact h4
    rw [hl] at this
    unfold loadCells at this
    simp only [execOp, ho, ha.eval hx]
    cases d <;> simp at h2 <;> simp at this <;> simp [Instr.loadAt, Instr.sureAddr, loadVar, isAgg, run_underlying h1, sizeOf, typeInfo, hj, hsz, this, go_sem]

end Go.Proofs.Ytdmmahhnfnefoaa
