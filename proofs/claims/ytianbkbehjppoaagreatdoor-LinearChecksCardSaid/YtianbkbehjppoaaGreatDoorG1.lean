/-
  Sr: joined by a program (wip/bundle.py).
-/
import Derived.Laws.BitsAllLaws
import Derived.Test.YtianbkbehjppoaaGreatDoorG0
namespace Go.Proofs.YtianbkbehjppoaaGreatDoor
open Go.RowKit

variable {X : Cx} {k : List KI} {σ : Env} {H : SL} {o : Oper} {ops l : List Oper}

/-- How many cells a row of values has. -/
abbrev Slab := Option Addr × Nat
class RLen (xs : List Value) (n : Nat) : Prop where eq : xs.length = n
/-! ### Parts of rows -/
/-- Where a slice begins behind i of its elements. -/
def dropP (p : Option Addr) (i cap sz : Nat) : Option Addr := if cap = i then p else off p (i * sz)
/-- Of a slice it is known that it has room. -/
class Room (W : World) (H : SL) (p : Option Addr) (n cap : Nat) : Prop where le : ∀ w, Sat W w H → n ≤ cap
instance (priority := 900) Room.row (W : World) (H F : SL) (e sz n cap : Nat) (p : Option Addr) (xs : List Value) [r : AtP H p (RowC e sz p n cap xs) F] : Room W H p n cap := ⟨fun w hs => (RowC.len (r.eq ▸ hs : Sat W w (RowC e sz p n cap xs * F))).2.1⟩
theorem run_sliceRow {P : Program} {w : World} {t e sz by' : Nat} {z : List Value} (s : TSlice P t e sz by' z) {p : Option Addr} {n cap : Nat} {lo hi mx : Option Value} {i j m : Nat}
    (hl : lo = none ∧ i = 0 ∨ ∃ kk, lo = some (.int kk (i : Int))) (hh : hi = none ∧ mx = none ∧ j = n ∨ ∃ kk, hi = some (.int kk (j : Int))) (hm : mx = none ∧ m = cap ∨ ∃ kk, mx = some (.int kk (m : Int)))
    (h1 : i ≤ j) (h2 : j ≤ m) (h3 : m ≤ cap) : (Instr.sliceAt t (.slice p n cap) lo hi mx).run P w = .ok (.slice (if m = i then p else off p (i * sz)) (j - i) (m - i)) w := by
  obtain ⟨q, v, hi1, hz, hsz, hbs, hzc⟩ := s.parts
  have g1 : (i : Int) ≤ (j : Int) := by omega
  have g2 : (j : Int) ≤ (m : Int) := by omega
  have g3 : (m : Int) ≤ (cap : Int) := by omega
  have g0 : ∀ a : Nat, (0 : Int) ≤ (a : Int) := fun a => Int.natCast_nonneg a
  rcases hl with ⟨rfl, rfl⟩ | ⟨k1, rfl⟩ <;> rcases hh with ⟨rfl, rfl, rfl⟩ | ⟨k2, rfl⟩ <;> rcases hm with ⟨hmx, rfl⟩ | ⟨k3, hmx⟩ <;> first | (cases hmx; done) | skip
  all_goals
    (try subst hmx)
    simp [Instr.sliceAt, Instr.slice, Instr.sliceBounds, Instr.sliceBound, asIntOf, run_underlying s.under, sizeOf, typeInfo, hi1, hsz, g0, g1, g2, g3, h1, h2, h3, off, go_sem]
theorem OpVal_sliceRow {x : Operand} {lo hi mx : Option Operand} {p : Option Addr} {n cap : Nat} {t e sz by' i j m : Nat} {z : List Value} (ho : o.op = .slice t x lo hi mx) (hx : ev σ x = some (.slice p n cap)) [s : TSlice X.P t e sz by' z]
    (hl : lo = none ∧ i = 0 ∨ ∃ y kk z, lo = some y ∧ ev σ y = some (.int kk z) ∧ z = (i : Int)) (hh : hi = none ∧ mx = none ∧ j = n ∨ ∃ y kk z, hi = some y ∧ ev σ y = some (.int kk z) ∧ z = (j : Int))
    (hm : mx = none ∧ m = cap ∨ ∃ y kk z, mx = some y ∧ ev σ y = some (.int kk z) ∧ z = (m : Int)) (h1 : i ≤ j) (h2 : ∀ w, Sat X.W w H → j ≤ m) (h3 : m ≤ cap) : OpVal X σ H o (.slice (if m = i then p else off p (i * sz)) (j - i) (m - i)) := by
  intro a w ha hs
  simp only [execOp, ho, ha.eval hx]
  have e1 : lo.map a.eval = none ∧ i = 0 ∨ ∃ kk, lo.map a.eval = some (.int kk (i : Int)) := by
    rcases hl with ⟨rfl, h⟩ | ⟨y, kk, z, rfl, h, rfl⟩
    · exact .inl ⟨rfl, h⟩
    · exact .inr ⟨kk, by simp [ha.eval h]⟩
  have e2 : hi.map a.eval = none ∧ mx.map a.eval = none ∧ j = n ∨ ∃ kk, hi.map a.eval = some (.int kk (j : Int)) := by
    rcases hh with ⟨rfl, rfl, h⟩ | ⟨y, kk, z, rfl, h, rfl⟩
    · exact .inl ⟨rfl, rfl, h⟩
    · exact .inr ⟨kk, by simp [ha.eval h]⟩
  have e3 : mx.map a.eval = none ∧ m = cap ∨ ∃ kk, mx.map a.eval = some (.int kk (m : Int)) := by
    rcases hm with ⟨rfl, h⟩ | ⟨y, kk, z, rfl, h, rfl⟩
    · exact .inl ⟨rfl, h⟩
    · exact .inr ⟨kk, by simp [ha.eval h]⟩
  simp only [Sem.run_bind, run_sliceRow s e1 e2 e3 h1 (h2 w hs) h3, Result.andThen_ok]
  rfl
theorem OpVal_rowLo {x y : Operand} {p : Option Addr} {n cap : Nat} {t e sz by' i : Nat} {z : List Value} {kk : IntKind} {zi : Int} (ho : o.op = .slice t x (some y) none none) (hx : ev σ x = some (.slice p n cap)) (hy : ev σ y = some (.int kk zi)) [s : TSlice X.P t e sz by' z] [q : NatOf zi i] [r : Room X.W H p n cap] (hi : i ≤ n) :
    OpVal X σ H o (.slice (dropP p i cap sz) (n - i) (cap - i)) :=
  OpVal_sliceRow ho hx (.inr ⟨y, kk, zi, rfl, hy, q.eq⟩) (.inl ⟨rfl, rfl, rfl⟩) (.inl ⟨rfl, rfl⟩) hi (fun w hs => r.le w hs) (Nat.le_refl _)
theorem OpVal_rowHi {x y : Operand} {p : Option Addr} {n cap : Nat} {t e sz by' j : Nat} {z : List Value} {kk : IntKind} {zj : Int} (ho : o.op = .slice t x none (some y) none) (hx : ev σ x = some (.slice p n cap)) (hy : ev σ y = some (.int kk zj)) [s : TSlice X.P t e sz by' z] [q : NatOf zj j] [r : Room X.W H p n cap] (hj : j ≤ n) :
    OpVal X σ H o (.slice p j cap) := by
  have h := OpVal_sliceRow (X := X) (H := H) (i := 0) ho hx (.inl ⟨rfl, rfl⟩) (.inr ⟨y, kk, zj, rfl, hy, q.eq⟩) (.inl ⟨rfl, rfl⟩) (Nat.zero_le _) (fun w hs => Nat.le_trans hj (r.le w hs)) (Nat.le_refl _)
  have e : (if cap = 0 then p else off p (0 * sz)) = p := by
    split
    · rfl
    · rw [Nat.zero_mul]; cases p <;> simp [off, Addr.add]
  rw [e] at h
  simpa using h
/-- s[i:j]. -/
theorem OpVal_rowBoth {x y y2 : Operand} {p : Option Addr} {n cap : Nat} {t e sz by' i j : Nat} {z : List Value} {kk k2 : IntKind} {zi zj : Int} (ho : o.op = .slice t x (some y) (some y2) none) (hx : ev σ x = some (.slice p n cap)) (hy : ev σ y = some (.int kk zi)) (hy2 : ev σ y2 = some (.int k2 zj)) [s : TSlice X.P t e sz by' z] [q : NatOf zi i] [q2 : NatOf zj j] [r : Room X.W H p n cap] (hi : i ≤ j) (hj : j ≤ n) :
    OpVal X σ H o (.slice (dropP p i cap sz) (j - i) (cap - i)) :=
  OpVal_sliceRow ho hx (.inr ⟨y, kk, zi, rfl, hy, q.eq⟩) (.inr ⟨y2, k2, zj, rfl, hy2, q2.eq⟩) (.inl ⟨rfl, rfl⟩) hi (fun w hs => Nat.le_trans hj (r.le w hs)) (Nat.le_refl _)
/-- s[:0:0]. -/
theorem OpVal_rowNil {x : Operand} {p : Option Addr} {n cap : Nat} {t e sz by' : Nat} {z : List Value} {k1 k2 : IntKind} (ho : o.op = .slice t x none (some (.const (.int k1 0))) (some (.const (.int k2 0)))) (hx : ev σ x = some (.slice p n cap)) [s : TSlice X.P t e sz by' z] :
    OpVal X σ H o (.slice p 0 0) := by
  have h := OpVal_sliceRow (X := X) (H := H) (i := 0) (j := 0) (m := 0) ho hx (.inl ⟨rfl, rfl⟩) (.inr ⟨_, k1, 0, rfl, rfl, rfl⟩) (.inr ⟨_, k2, 0, rfl, rfl, rfl⟩) (Nat.le_refl _) (fun _ _ => Nat.le_refl _) (Nat.zero_le _)
  simpa using h
/-- All bits the other way. -/
theorem OpVal_compl {x : Operand} {t : TypeId} {k : IntKind} {a : Int} (ho : o.op = .unOp .xor t x) (hx : ev σ x = some (.int k a)) : OpVal X σ H o (.int k (bits .xor k (if k.signed then -1 else k.max) a)) := by
  intro a' w ha _
  simp only [execOp, ho, ha.eval hx]
  simp [Op.unary, Op.intBits, bits, Sem.run, pure]
theorem compl16 {a : Int} (h : 0 ≤ a ∧ a ≤ 65535) : bits .xor .u16 65535 a = 65535 - a := by
  obtain ⟨n, rfl⟩ : ∃ n : Nat, a = n := ⟨a.toNat, by omega⟩
  have hn : n < 65536 := by omega
  rw [show (65535 : Int) = ((65535 : Nat) : Int) from rfl, u16_xor_nat 65535 n (by decide) hn]
  have e : 65535 ^^^ n = 65535 - n := by
    apply Nat.eq_of_testBit_eq
    intro j
    have h1 : (65535 : Nat).testBit j = decide (j < 16) := Nat.testBit_two_pow_sub_one 16 j
    have h2 := Nat.testBit_two_pow_sub_succ (n := 16) (x := n) hn j
    rw [show (2 : Nat) ^ 16 - (n + 1) = 65535 - n by omega] at h2
    rw [Nat.testBit_xor, h1, h2]
    by_cases hj : j < 16
    · simp [hj]
    · have : n.testBit j = false := Nat.testBit_lt_two_pow (Nat.lt_of_lt_of_le hn (Nat.pow_le_pow_right (show 0 < 2 by decide) (show 16 ≤ j by omega)))
      simp [hj, this]
  rw [e]
  omega
theorem OpVal_compl16 {x : Operand} {t : TypeId} {a : Int} (ho : o.op = .unOp .xor t x) (hx : ev σ x = some (.int .u16 a)) (hr : 0 ≤ a ∧ a ≤ 65535) : OpVal X σ H o (.int .u16 (65535 - a)) := by
  have h := OpVal_compl (X := X) (H := H) ho hx
  rw [show (if IntKind.u16.signed = true then (-1 : Int) else IntKind.u16.max) = 65535 from rfl, compl16 hr] at h
  exact h
/-- A field of a struct value that is a struct (or an array) itself. -/
theorem OpVal_fieldA {s t : TypeId} {f i n : Nat} {x : Operand} {cs : Array Value} {us : List Value} (ho : o.op = .field s x f) (hx : ev σ x = some (.agg cs)) [g : TFldT X.P s f i t] [c : TAgg X.P t n] (hv : slc cs.toList i n = some us) : OpVal X σ H o (.agg us.toArray) := by
  intro a w ha hs
  obtain ⟨fs, q, h1, h2, rfl, rfl⟩ := g.h
  obtain ⟨d, h3, h4⟩ := c.agg
  obtain ⟨j, hj, hsz⟩ := map_info c.size
  obtain ⟨hl, rfl⟩ := slc_spec hv
  have he : cs.extract q.offset (q.offset + n) = ((cs.toList.drop q.offset).take n).toArray := by
    apply Array.ext'
    rw [Array.toList_extract, List.extract_eq_take_drop, show q.offset + n - q.offset = n by omega]
  simp only [execOp, ho, ha.eval hx]
  cases d <;> simp at h4 <;> simp [Instr.field, run_underlying h1, h2, part, isAgg, run_underlying h3, asAgg, sizeOf, typeInfo, hj, hsz, he, go_sem]
theorem Ent.zero {H G : SL} {e sz : Nat} (p : Option Addr) (k : Ent H G) : Ent H (RowC e sz p 0 0 [] * G) := by
  intro h hh
  obtain ⟨h', hg, hs⟩ := k h hh
  exact ⟨h', ⟨fun _ => Option.none, h', ⟨by simp, .inl ⟨trivial, rfl, fun _ => rfl⟩⟩, hg, fun _ => .inl rfl, fun _ => by simp⟩, hs⟩
theorem add_add (b o i : Nat) : (⟨b, o, none⟩ : Addr).add i = ⟨b, o + i, none⟩ := add_at b o i
/-- A row without its first elements. -/
theorem RowC.lo {e sz n cap i : Nat} {p : Option Addr} {xs : List Value} (hi : i ≤ n) : SL.le (RowC e sz p n cap xs) (RowC e sz (dropP p i cap sz) (n - i) (cap - i) (xs.drop (i * sz))) := by
  rintro h ⟨⟨hl, hn, hm⟩, ⟨_, hc, he⟩ | ⟨g, o, cur, rfl, a2, a3, a4⟩⟩
  · have h0 : i = 0 := by omega
    subst h0
    exact ⟨⟨by simpa using hl, by omega, by omega⟩, .inl ⟨trivial, by omega, he⟩⟩
  · have hle : i * sz ≤ n * sz := Nat.mul_le_mul_right _ hi
    have hle2 : n * sz ≤ cap * sz := Nat.mul_le_mul_right _ hn
    have hle3 : i * sz ≤ cap * sz := by omega
    refine ⟨⟨by rw [List.length_drop, hl, Nat.sub_mul], by omega, by omega⟩, .inr ⟨g, if cap = i then o else o + i * sz, cur, ?_, ?_, ?_, a4⟩⟩
    · unfold dropP
      split
      · rfl
      · simp only [off, Option.map_some, add_at]
    · split
      · rw [Nat.sub_mul]; omega
      · rw [Nat.sub_mul]; omega
    · split
      · have : n = i := by omega
        subst this
        simp [← a3]
      · rw [← a3, List.drop_take, List.drop_drop, Nat.sub_mul]
/-- Its first elements. -/
theorem RowC.hi {e sz n cap j : Nat} {p : Option Addr} {xs : List Value} (hj : j ≤ n) : SL.le (RowC e sz p n cap xs) (RowC e sz p j cap (xs.take (j * sz))) := by
  rintro h ⟨⟨hl, hn, hm⟩, ⟨_, hc, he⟩ | ⟨g, o, cur, rfl, a2, a3, a4⟩⟩
  · have h0 : j = 0 := by omega
    subst h0
    exact ⟨⟨by simp, by omega, by omega⟩, .inl ⟨trivial, by omega, he⟩⟩
  · have hle : j * sz ≤ n * sz := Nat.mul_le_mul_right _ hj
    refine ⟨⟨by rw [List.length_take, hl]; omega, by omega, by omega⟩, .inr ⟨g, o, cur, rfl, a2, ?_, a4⟩⟩
    rw [← a3, List.take_take, Nat.min_eq_left hle]
theorem Ent.rowHi {H F G : SL} {e sz n cap : Nat} {xs : List Value} (p : Option Addr) (j : Nat) [h : AtP H p (RowC e sz p n cap xs) F] (hj : j ≤ n) (k : Ent (RowC e sz p j cap (xs.take (j * sz)) * F) G) : Ent H G :=
  (Ent.of_eq h.eq).trans ((Ent.star (Ent.of_le (RowC.hi hj)) (Ent.refl F)).trans k)
instance (priority := 300) Src.there (W : World) (Q R : SL) (p : Option Addr) (n : Nat) (xs : List Value) [s : Src W R p n xs] : Src W (Q * R) p n xs where
  cells := fun w hs => s.cells w hs.drop
  nn := fun w hs => s.nn w hs.drop

/-! ### Cells of an object by a number that isn't a literal -/
class ObjGet (cs : List Value) (i : Nat) (v : outParam Value) (φ : outParam Prop) : Prop where get : φ → cs[i]? = some v
class ObjPut (cs : List Value) (i : Nat) (v : Value) (cs' : outParam (List Value)) (φ : outParam Prop) : Prop where
  put : φ → spl cs i [v] = some cs'
theorem OpVal_loadO {x : Operand} {q p : Option Addr} {t t0 : TypeId} {i : Nat} {cs : List Value} {F : SL} {v : Value} {φ : Prop} (ho : o.op = .load t x) (hx : ev σ x = some (.pointer q)) [c : TCell X.P t] [l : Loc q p i] [r : AtP H p (Obj p t0 cs) F] [g : ObjGet cs i v φ] (hφ : φ) : OpVal X σ H o v :=
  OpVal_load ho hx (g.get hφ)
theorem OpSkip_storeO {x y : Operand} {q p : Option Addr} {t t0 : TypeId} {i : Nat} {cs cs' : List Value} {F : SL} {v : Value} {φ : Prop} (ho : o.op = .store t x y) (hx : ev σ x = some (.pointer q)) (hy : ev σ y = some v) [c : TSize X.P t 1] [l : Loc q p i] [r : AtP H p (Obj p t0 cs) F] [g : ObjPut cs i v cs' φ] (hφ : φ)
    (h1 : cellsL v = [v]) (h2 : v.oneCell' = true) : OpSkip X σ H o (Obj p t0 cs' * F) :=
  OpSkip_store ho hx hy (by rw [h1]; exact g.put hφ) (by rw [h1]; rfl) (by rw [h1]; simp [ones, h2])

/-! ### Function values -/
end Go.Proofs.YtianbkbehjppoaaGreatDoor
