/-
  A slice against nil.
-/
import Derived.Test.YtdmmahhnfnefoaaSr
namespace Go.Proofs.Ytdmmahhnfnefoaa
open Go.RowKit
variable {X : Cx} {σ : Env}
theorem run_eqSlice {P : Program} {t e : TypeId} {sz by' : Nat} {z : List Value} [h : TSlice P t e sz by' z] (p : Option Addr) (n c : Nat) (w : World) : (Op.equal t (.slice p n c) (.slice none 0 0)).run P w = .ok (decide (p = none)) w := by
  unfold Op.equal
  obtain ⟨d, hd⟩ : ∃ d, Op.maxDepth = d + 1 := ⟨9999, rfl⟩
  rw [hd]
  clear hd
  simp only [Op.equalIn]
  cases p <;> simp [run_underlying h.under, go_sem]
theorem OpVal_sliceNil {H : SL} {o : Oper} {x : Operand} {t u e : TypeId} {sz by' : Nat} {z : List Value} {p : Option Addr} {n c : Nat} (ho : o.op = .binOp .eql t x (.const (.slice none 0 0)) u) (hx : ev σ x = some (.slice p n c)) [h : TSlice X.P t e sz by' z] : OpVal X σ H o (.bool (decide (p = none))) := by
  intro a' w ha _
  simp only [execOp, ho, ha.eval hx]
  have hg : ∀ p' q', (eqGuard .eql t p' q' (.slice p n c) (.slice none 0 0)).run X.P w = .ok () w := fun _ _ => rfl
  simp [Act.eval, Sem.run_bind, hg, binOp, run_eqSlice p n c w, go_sem]
theorem EK_nilrow {k : List KI} {e sz n c : Nat} {xs : List Value} {F : SL} (h : n = 0 → EK X k σ (RowC e sz none n c xs * F)) : EK X k σ (RowC e sz none n c xs * F) := fun a w ha hs => h (by
  rcases Nat.eq_zero_or_pos n with g | g
  · exact g
  · exact absurd rfl (RowC.nn hs g)) a w ha hs
/-- All bits the other way. -/
theorem OpVal_compl {H : SL} {o : Oper} {x : Operand} {t : TypeId} {k : IntKind} {a : Int} (ho : o.op = .unOp .xor t x) (hx : ev σ x = some (.int k a)) : OpVal X σ H o (.int k (bits .xor k (if k.signed then -1 else k.max) a)) := by
  intro a' w ha _
  simp only [execOp, ho, ha.eval hx]
  simp [Op.unary, Op.intBits, bits, Sem.run, pure]
/-- A field of a struct value that is a struct (or an array) itself. -/
theorem OpVal_fieldA {H : SL} {o : Oper} {s t : TypeId} {f i n : Nat} {x : Operand} {cs : Array Value} {us : List Value} (ho : o.op = .field s x f) (hx : ev σ x = some (.agg cs)) [g : TFldT X.P s f i t] [c : TAgg X.P t n] (hv : slc cs.toList i n = some us) : OpVal X σ H o (.agg us.toArray) := by
  intro a w ha hs
  obtain ⟨fs, q, h1, h2, rfl, rfl⟩ := g.h
  obtain ⟨d, h3, h4⟩ := c.agg
  obtain ⟨j, hj, hsz⟩ := map_info c.size
  obtain ⟨hl, rfl⟩ := slc_spec hv
  have he : cs.extract q.offset (q.offset + n) = ((cs.toList.drop q.offset).take n).toArray := by
    apply Array.ext'
    rw [Array.toList_extract, List.extract_eq_take_drop, show q.offset + n - q.offset = n by omega]
  simp only [execOp, ho, ha.eval hx]
  cases d <;> simp at h4 <;> simp [Instr.field, run_underlying h1, h2, part, isAgg, run_underlying h3, asAgg, sizeOf, typeInfo, hj, hsz, he, go_sem]
/-- The contract of a call that changes nothing, of the part at p. -/
theorem Spec.keep1 {P : Program} {f : FuncId} {vs : List Value} {W : World} {H C F : SL} (p : Option Addr) [r : AtP H p C F] {α : Type} {rr : α → Value} (h : Spec P f vs W (C * F) rr (fun _ => C * F)) : Spec P f vs W H rr (fun _ => H) := fun w hs =>
  (h w (r.eq ▸ hs)).mono fun _ _ ⟨x, e, g⟩ => ⟨x, e, r.eq.symm ▸ g⟩
/-! ### A part of a row, to be read -/
theorem Src.hi {W : World} {H : SL} {p : Option Addr} {n : Nat} {xs : List Value} (s : Src W H p n xs) (sz j : Nat) (hj : j ≤ n) : Src W H p j (xs.take (j * sz)) where
  cells := fun w hs i v hv => by
    rw [List.getElem?_take] at hv
    split at hv
    · exact s.cells w hs i v hv
    · cases hv
  nn := fun w hs h => s.nn w hs (by omega)
theorem off_off (p : Option Addr) (i j : Nat) : off (off p i) j = off p (i + j) := by
  cases p with
  | none => rfl
  | some a =>
    simp only [off, Option.map_some, Addr.add]
    by_cases hi : i = 0 <;> by_cases hj : j = 0 <;> simp [hi, hj, Nat.add_assoc]
theorem Src.lo {W : World} {H F : SL} {e sz n cap : Nat} {p : Option Addr} {xs : List Value} (r : AtP H p (RowC e sz p n cap xs) F) (i : Nat) (hi : i ≤ n) : Src W H (dropP p i cap sz) (n - i) (xs.drop (i * sz)) where
  cells := fun w hs k v hv => by
    have hr := r.eq ▸ hs
    obtain ⟨hl, hc, _⟩ := RowC.len hr
    rw [List.getElem?_drop] at hv
    have hk := (List.getElem?_eq_some_iff.1 hv).1
    obtain ⟨a, h1, h2⟩ := RowC.cell hr hv
    refine ⟨a, ?_, h2⟩
    unfold dropP
    split
    · have : n = i := by omega
      subst this
      omega
    · rw [off_off]; exact h1
  nn := fun w hs h => by
    have hr := r.eq ▸ hs
    have hp := RowC.nn hr (by omega)
    obtain ⟨_, hc, _⟩ := RowC.len hr
    unfold dropP
    rw [if_neg (by omega)]
    cases p with
    | none => exact absurd rfl hp
    | some a => simp [off]
end Go.Proofs.Ytdmmahhnfnefoaa
