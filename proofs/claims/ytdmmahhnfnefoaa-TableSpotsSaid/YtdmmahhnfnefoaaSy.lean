/-
  What operations do, of the assertions: numbers, tests, objects of named cells. Plain Lean: no program in sight.
-/
import Derived.Test.YtdmmahhnfnefoaaSx
namespace Go.Proofs.Ytdmmahhnfnefoaa
open Go.RowKit

/-! ### Finding a part of an assertion -/
class Frame (H P : SL) (F : outParam SL) : Prop where eq : H = P * F
instance (priority := 2000) Frame.here (P F : SL) : Frame (P * F) P F := ⟨rfl⟩
instance (priority := 900) Frame.there (Q R P F : SL) [h : Frame R P F] : Frame (Q * R) P (Q * F) := ⟨by rw [h.eq]; ac_rfl⟩
instance (priority := 500) Frame.last (P : SL) : Frame P P 1 := ⟨(SL.sep_emp P).symm⟩

/-- The part whose root is p. -/
class AtP (H : SL) (p : Option Addr) (C : outParam SL) (F : outParam SL) : Prop where eq : H = C * F
class Root (C : SL) (p : outParam (Option Addr)) : Prop where
  nn : ∀ (W w : World) (F : SL), Sat W w (C * F) → p ≠ none
instance (priority := 900) AtP.there (Q R C F : SL) (p : Option Addr) [h : AtP R p C F] : AtP (Q * R) p C (Q * F) := ⟨by rw [h.eq]; ac_rfl⟩

def off (p : Option Addr) (i : Nat) : Option Addr := p.map (·.add i)
/-- The place q is i cells behind p. -/
class Loc (q : Option Addr) (p : outParam (Option Addr)) (i : outParam Nat) : Prop where eq : q = off p i
instance (priority := 100) Loc.base (p : Option Addr) : Loc p p 0 := ⟨by cases p <;> simp [off, Addr.add]⟩
instance (priority := 2000) Loc.iOff (q p : Option Addr) (i j : Nat) [h : Loc q p i] : Loc (off q j) p (i + j) := ⟨by
  rw [h.eq]
  cases p with
  | none => rfl
  | some a =>
    simp only [Go.Proofs.Ytdmmahhnfnefoaa.off, Option.map_some, Addr.add]
    by_cases hi : i = 0 <;> by_cases hj : j = 0 <;> simp [hi, hj, Nat.add_assoc]⟩

/-- It isn't nil. -/
class NN (H : SL) (q : Option Addr) : Prop where nn : ∀ (W w : World), Sat W w H → q ≠ none

/-! ### An object of cells -/
def Obj (p : Option Addr) (t : TypeId) (cs : List Value) : SL := SL.ex fun b : Nat => SL.pure (p = some ⟨b, 0, none⟩) * SL.blk b (.cells cs.toArray t (0, 0))
instance (priority := 2000) AtP.obj (p : Option Addr) (t : TypeId) (cs : List Value) (F : SL) : AtP (Obj p t cs * F) p (Obj p t cs) F := ⟨rfl⟩
theorem Obj.open {W w : World} {p : Option Addr} {t : TypeId} {cs : List Value} {F : SL} (h : Sat W w (Obj p t cs * F)) : ∃ b, p = some ⟨b, 0, none⟩ ∧ Sat W w (SL.blk b (.cells cs.toArray t (0, 0)) * F) := by
  obtain ⟨b, h⟩ := h.ex_out
  have h := h.ac (SL.sep_assoc _ _ _)
  exact ⟨b, h.out⟩
theorem Obj.shut {W w : World} {p : Option Addr} {t : TypeId} {cs : List Value} {F : SL} {b : Nat} (hp : p = some ⟨b, 0, none⟩) (h : Sat W w (SL.blk b (.cells cs.toArray t (0, 0)) * F)) : Sat W w (Obj p t cs * F) :=
  Sat.ex_in (P := fun b : Nat => SL.pure (p = some ⟨b, 0, none⟩) * SL.blk b (.cells cs.toArray t (0, 0))) b ((h.put hp).ac (SL.sep_assoc _ _ _).symm)
instance Obj.root (p : Option Addr) (t : TypeId) (cs : List Value) : Root (Obj p t cs) p := ⟨fun W w F h => by
  obtain ⟨b, hp, _⟩ := Obj.open h
  simp [hp]⟩
instance NN.root (H C F : SL) (q p : Option Addr) (i : Nat) [hl : Loc q p i] [h : AtP H p C F] [r : Root C p] : NN H q := ⟨fun W w hs => by
  have := r.nn W w F (h.eq ▸ hs)
  rw [hl.eq]
  cases p with
  | none => exact absurd rfl this
  | some a => simp [Go.Proofs.Ytdmmahhnfnefoaa.off]⟩
theorem Obj.cell {W w : World} {p : Option Addr} {t : TypeId} {cs : List Value} {F : SL} (h : Sat W w (Obj p t cs * F)) {i : Nat} {v : Value} (hv : cs[i]? = some v) : ∃ a, off p i = some a ∧ w.cell? a = some v := by
  obtain ⟨b, rfl, hs⟩ := Obj.open h
  refine ⟨(⟨b, 0, none⟩ : Addr).add i, rfl, ?_⟩
  have : (⟨b, 0, none⟩ : Addr).add i = ⟨b, i, none⟩ := by unfold Addr.add; split <;> simp_all
  rw [this, hs.cell]
  simpa using hv
theorem Obj.set {W w : World} {p : Option Addr} {t : TypeId} {cs : List Value} {F : SL} (h : Sat W w (Obj p t cs * F)) {i : Nat} (hi : i < cs.length) (v : Value) :
    ∃ a u, off p i = some a ∧ w.cell? a = some u ∧ w.frozen? a = false ∧ Sat W (w.setCell a v) (Obj p t (cs.set i v) * F) := by
  obtain ⟨b, rfl, hs⟩ := Obj.open h
  have hadd : (⟨b, 0, none⟩ : Addr).add i = ⟨b, i, none⟩ := by unfold Addr.add; split <;> simp_all
  refine ⟨(⟨b, 0, none⟩ : Addr).add i, cs[i], rfl, ?_, ?_, ?_⟩
  · rw [hadd, hs.cell]; simp [hi]
  · rw [hadd]; exact hs.free i
  · rw [hadd]
    have h2 := hs.set i v
    rw [List.setIfInBounds_toArray] at h2
    exact Obj.shut rfl h2
theorem Sat.newObj {W w : World} {F : SL} (h : Sat W w F) (t : TypeId) (cs : List Value) : Sat W (w.alloc (.cells cs.toArray t)) (Obj (some ⟨w.heap.size, 0, none⟩) t cs * F) := Obj.shut rfl (h.alloc _)
/-- A part that is not needed. -/
theorem Sat.forget' {W w : World} {H C F : SL} (p : Option Addr) (h : Sat W w H) [a : AtP H p C F] : Sat W w F := (h.ac a.eq).drop

/-! ### What the program's table says of types -/
class TInt (P : Program) (t : TypeId) (k : outParam IntKind) : Prop where h : P.underlying t = some (.int k)
class TUnd (P : Program) (t : TypeId) (d : outParam TypeDesc) : Prop where h : P.underlying t = some d
class TCell (P : Program) (t : TypeId) : Prop where
  agg : ∃ d, P.underlying t = some d ∧ (match d with | .struct _ => false | .array .. => false | _ => true) = true
  size : (P.info? t).map (·.size) = some 1
class TAgg (P : Program) (t : TypeId) (n : outParam Nat) : Prop where
  agg : ∃ d, P.underlying t = some d ∧ (match d with | .struct _ => true | .array .. => true | _ => false) = true
  size : (P.info? t).map (·.size) = some n
class TZero (P : Program) (t : TypeId) (cs : outParam (List Value)) : Prop where h : ∃ v, (P.info? t).map (·.zero) = some (some v) ∧ v.cells = cs.toArray
class TFld (P : Program) (s : TypeId) (f : Nat) (o : outParam Nat) (sz : outParam Nat) : Prop where
  h : ∃ fs g, P.underlying s = some (.struct fs) ∧ fs[f]? = some g ∧ g.offset = o ∧ (P.info? g.type).map (·.size) = some sz ∧ sz ≠ 0
class TSlice (P : Program) (t : TypeId) (e : outParam TypeId) (sz : outParam Nat) (by' : outParam Nat) (z : outParam (List Value)) : Prop where
  under : P.underlying t = some (.slice e)
  info : ∃ v, (P.info? e).map (fun i => (i.zero, i.size, i.bytes)) = some (some v, sz, by') ∧ v.cells = z.toArray
  pos : 0 < sz
  len : z.length = sz

variable {X : Cx} {k : List KI} {σ : Env} {H : SL}

theorem map_info {P : Program} {t : TypeId} {α : Type} {g : TypeInfo → α} {y : α} (h : (P.info? t).map g = some y) : ∃ i, P.info? t = some i ∧ g i = y := by
  cases hi : P.info? t with
  | none => rw [hi] at h; simp at h
  | some i => rw [hi] at h; exact ⟨i, rfl, by simpa using h⟩

/-! ### Numbers and tests -/
def kEq : IntKind → IntKind → Bool
  | .i8, .i8 | .i16, .i16 | .i32, .i32 | .i64, .i64 | .u8, .u8 | .u16, .u16 | .u32, .u32 | .u64, .u64 => true
  | _, _ => false
theorem kEq_spec {a b : IntKind} (h : kEq a b = true) : a = b := by cases a <;> cases b <;> first | rfl | cases h

def evInt (op : BinOp) (k : IntKind) (a b : Int) : Option Value :=
  match op with
  | .add => some (.int k (k.wrap (a + b)))
  | .sub => some (.int k (k.wrap (a - b)))
  | .mul => some (.int k (k.wrap (a * b)))
  | .and => some (.int k (bits .and k a b))
  | .or => some (.int k (bits .or k a b))
  | .xor => some (.int k (bits .xor k a b))
  | .andNot => some (.int k (bits .andNot k a b))
  | .eql => some (.bool (decide (a = b)))
  | .neq => some (.bool (!decide (a = b)))
  | .lss => some (.bool (decide (a < b)))
  | .leq => some (.bool (decide (a ≤ b)))
  | .gtr => some (.bool (decide (a > b)))
  | .geq => some (.bool (decide (a ≥ b)))
  | _ => none

/-- Of evInt, what is offered at once: no sums, no tests. -/
def evBits (op : BinOp) (k : IntKind) (a b : Int) : Option Value :=
  match op with
  | .and => some (.int k (bits .and k a b))
  | .or => some (.int k (bits .or k a b))
  | .xor => some (.int k (bits .xor k a b))
  | .andNot => some (.int k (bits .andNot k a b))
  | _ => none
def evQuick (σ : Env) : Op → Option Value
  | .move x => ev σ x
  | .assign x => ev σ x
  | .pick c a b => match ev σ c with
    | some (.bool true) => ev σ a
    | some (.bool false) => ev σ b
    | _ => none
  | .extract x i => match ev σ x with
    | some (.tuple vs) => vs.toList[i]?
    | _ => none
  | .unOp op _ x => match op with
    | .not => match ev σ x with
      | some (.bool b) => some (.bool (!b))
      | _ => none
    | _ => none
  | .binOp op _ x y _ => match op with
    | .and | .or | .xor | .andNot => match ev σ x with
      | some (.int k a) => match ev σ y with
        | some (.int k' b) => match kEq k k' with
          | true => evBits op k a b
          | false => none
        | _ => none
      | _ => none
    | _ => none
  | _ => none
def evPure (σ : Env) : Op → Option Value
  | .move x => ev σ x
  | .assign x => ev σ x
  | .pick c a b => match ev σ c with
    | some (.bool true) => ev σ a
    | some (.bool false) => ev σ b
    | _ => none
  | .extract x i => match ev σ x with
    | some (.tuple vs) => vs.toList[i]?
    | _ => none
  | .unOp op _ x => match op with
    | .not => match ev σ x with
      | some (.bool b) => some (.bool (!b))
      | _ => none
    | _ => none
  | .binOp op _ x y _ => match ev σ x with
    | some (.int k a) => match ev σ y with
      | some (.int k' b) => match kEq k k' with
        | true => evInt op k a b
        | false => none
      | _ => none
    | _ => none
  | _ => none

theorem evInt_sound {P : Program} {w : World} {op : BinOp} {k : IntKind} {a b : Int} {v : Value} (h : evInt op k a b = some v) : (binOp op 0 (.int k a) (.int k b)).run P w = .ok v w := by
  unfold evInt at h
  split at h <;> simp only [Option.some.injEq, reduceCtorEq] at h <;> subst h <;> simp [binOp, go_sem, Op.intArith, Op.intCmp, Op.intBits, Sem.run, pure, bits] <;> first | rfl | skip

theorem binOp_type {op : BinOp} {t : TypeId} {k : IntKind} {a b : Int} : binOp op t (.int k a) (.int k b) = binOp op 0 (.int k a) (.int k b) := by
  cases op <;> rfl

theorem OpVal_pure {o : Oper} {v : Value} (h : evPure σ o.op = some v) : OpVal X σ H o v := by
  intro a w ha _
  unfold execOp
  cases ho : o.op <;> rw [ho] at h <;> simp only [evPure] at h <;> first | cases h; done | skip
  case move x => simp only [ha.eval h]; rfl
  case assign x => simp only [ha.eval h]; rfl
  case pick c x y =>
    split at h
    · rename_i hc; simp only [ha.eval hc, ha.eval h]; rfl
    · rename_i hc; simp only [ha.eval hc, ha.eval h]; rfl
    · simp at h
  case extract x i =>
    split at h
    · rename_i vs hc
      have h' : vs[i]? = some v := by simpa using h
      simp only [ha.eval hc, Instr.extract, h']; rfl
    · simp at h
  case unOp op t x =>
    split at h
    · split at h
      · rename_i hc
        simp only [Option.some.injEq] at h
        subst h
        simp only [ha.eval hc]; rfl
      · simp at h
    · simp at h
  case binOp op t x y ty =>
    split at h
    · rename_i k' a' hx
      split at h
      · rename_i k2 b' hy
        split at h
        · rename_i hk
          obtain rfl := kEq_spec hk
          have := evInt_sound (P := X.P) (w := w) h
          simp only [ha.eval hx, ha.eval hy, binOp_type]
          have hg : ∀ p q, (eqGuard op t p q (.int k' a') (.int k' b')).run X.P w = .ok () w := fun p q => by
            unfold eqGuard
            cases op <;> rfl
          simp [Sem.run_bind, hg, this, go_sem]
        · simp at h
      · simp at h
    · simp at h
  all_goals simp at h

theorem evBits_sound {op : BinOp} {k : IntKind} {a b : Int} {v : Value} (h : evBits op k a b = some v) : evInt op k a b = some v := by
  unfold evBits at h
  split at h <;> first | exact h | cases h
theorem evQuick_sound {op : Op} {v : Value} (h : evQuick σ op = some v) : evPure σ op = some v := by
  cases op <;> simp only [evQuick] at h <;> first | exact h | (cases h; done) | skip
  case binOp op t x y ty =>
    simp only [evPure]
    split at h <;> first | (cases h; done) | skip
    all_goals
      split at h <;> first | (cases h; done) | skip
      split at h <;> first | (cases h; done) | skip
      split at h <;> first | (cases h; done) | skip
      exact evBits_sound h
theorem OpVal_quick {o : Oper} {v : Value} (h : evQuick σ o.op = some v) : OpVal X σ H o v := OpVal_pure (evQuick_sound h)

/-! ### Pieces of lists, reckoned to the end -/
def spl : List Value → Nat → List Value → Option (List Value)
  | cs, 0, [] => some cs
  | _ :: cs, 0, v :: vs => match spl cs 0 vs with
    | some l => some (v :: l)
    | none => none
  | c :: cs, n + 1, vs => match spl cs n vs with
    | some l => some (c :: l)
    | none => none
  | [], 0, _ :: _ => none
  | [], _ + 1, _ => none
theorem spl_spec : ∀ {cs vs cs' : List Value} {i : Nat}, spl cs i vs = some cs' → i + vs.length ≤ cs.length ∧ cs' = cs.take i ++ vs ++ cs.drop (i + vs.length)
  | cs, [], cs', 0, h => by
    have : cs = cs' := by cases cs <;> simpa [spl] using h
    subst this
    simp
  | c :: cs, v :: vs, cs', 0, h => by
    simp only [spl] at h
    split at h
    · rename_i l hl
      simp only [Option.some.injEq] at h
      subst h
      obtain ⟨h1, h2⟩ := spl_spec hl
      subst h2
      simp at h1 ⊢
      exact h1
    · simp at h
  | c :: cs, vs, cs', n + 1, h => by
    simp only [spl] at h
    split at h
    · rename_i l hl
      simp only [Option.some.injEq] at h
      subst h
      obtain ⟨h1, h2⟩ := spl_spec hl
      subst h2
      refine ⟨by simp only [List.length_cons]; omega, ?_⟩
      rw [show n + 1 + vs.length = (n + vs.length) + 1 by omega]
      simp
    · simp at h
  | [], _ :: _, _, 0, h => by simp [spl] at h
  | [], [], _, n + 1, h => by simp [spl] at h
  | [], _ :: _, _, n + 1, h => by simp [spl] at h
def slc : List Value → Nat → Nat → Option (List Value)
  | _, 0, 0 => some []
  | c :: cs, 0, n + 1 => match slc cs 0 n with
    | some l => some (c :: l)
    | none => none
  | _ :: cs, i + 1, n => slc cs i n
  | [], 0, _ + 1 => none
  | [], _ + 1, _ => none
theorem slc_spec : ∀ {cs l : List Value} {i n : Nat}, slc cs i n = some l → i + n ≤ cs.length ∧ l = (cs.drop i).take n
  | cs, l, 0, 0, h => by
    have : [] = l := by cases cs <;> simpa [slc] using h
    subst this
    simp
  | c :: cs, l, 0, n + 1, h => by
    simp only [slc] at h
    split at h
    · rename_i m hm
      simp only [Option.some.injEq] at h
      subst h
      obtain ⟨h1, h2⟩ := slc_spec hm
      subst h2
      simp at h1 ⊢
      exact h1
    · simp at h
  | c :: cs, l, i + 1, n, h => by
    have h' : slc cs i n = some l := by cases n <;> simpa [slc] using h
    obtain ⟨h1, h2⟩ := slc_spec h'
    exact ⟨by simp only [List.length_cons]; omega, by simpa using h2⟩
  | [], _, 0, n + 1, h => by simp [slc] at h
  | [], _, i + 1, n, h => by cases n <;> simp [slc] at h
def cellsL : Value → List Value
  | .agg cs => cs.toList
  | v => [v]
theorem cellsL_spec (v : Value) : v.cells.toList = cellsL v := by cases v <;> rfl
def cellsS (v : Value) : Option (List Value) := match v with
  | .agg ⟨l⟩ => some l
  | v => some [v]
theorem cellsS_spec {v : Value} {l : List Value} (h : cellsS v = some l) : cellsL v = l := by
  unfold cellsS at h
  split at h
  · simpa [cellsL] using h
  · rename_i hn
    simp only [Option.some.injEq] at h
    subst h
    cases v <;> first | rfl | exact absurd rfl (hn _)
def ones (l : List Value) : Bool := l.all Value.oneCell'
theorem ones_mem {l : List Value} (h : ones l = true) : ∀ v ∈ l, v.oneCell' = true := fun v hv => List.all_eq_true.1 h v hv

/-! ### Blocks -/
theorem add_at (b o i : Nat) : (⟨b, o, none⟩ : Addr).add i = ⟨b, o + i, none⟩ := by unfold Addr.add; split <;> simp_all
theorem blk_loads {P : Program} {W w : World} {F : SL} {b o n : Nat} {t : TypeId} {cur : List Value} (h : Sat W w (SL.blk b (.cells cur.toArray t (0, 0)) * F)) (hn : o + n ≤ cur.length) :
    (loadCells ⟨b, o, none⟩ n).run P w = .ok ((cur.drop o).take n).toArray w := by
  have hl : ((cur.drop o).take n).length = n := by simp; omega
  have := run_loadCells_list (P := P) w ⟨b, o, none⟩ ((cur.drop o).take n) fun j v hv => by
    rw [add_at, h.cell]
    rw [List.getElem?_take] at hv
    split at hv
    · rw [List.getElem?_drop] at hv
      simpa using hv
    · simp at hv
  rwa [hl] at this
theorem blk_stores {P : Program} {W w : World} {F : SL} {b o : Nat} {t : TypeId} {cur vs : List Value} (h : Sat W w (SL.blk b (.cells cur.toArray t (0, 0)) * F)) (hn : o + vs.length ≤ cur.length) (h1 : ones vs = true) :
    ∃ w', (storeCells ⟨b, o, none⟩ vs).run P w = .ok () w' ∧ Sat W w' (SL.blk b (.cells (cur.take o ++ vs ++ cur.drop (o + vs.length)).toArray t (0, 0)) * F) := by
  have hg := h.get
  refine ⟨_, run_storeCells_at P b o t vs 0 cur.toArray w hg (by simpa using hn) (ones_mem h1), ?_⟩
  simp only [Nat.add_zero]
  exact h.write (by simp) rfl rfl rfl (fun k _ hk => setRow_other w b k _ hk) (setRow_heap w b _ _ _ _ hg)

/-! ### Objects -/
class TSize (P : Program) (t : TypeId) (n : outParam Nat) : Prop where size : (P.info? t).map (·.size) = some n
variable {o : Oper}

theorem run_size {P : Program} {t : TypeId} {n : Nat} [s : TSize P t n] (w : World) : (sizeOf t).run P w = .ok n w := by
  obtain ⟨i, hi, hs⟩ := map_info s.size
  simp [sizeOf, typeInfo, hi, hs, go_sem]

theorem OpVal_nilCheck {x : Operand} {q : Option Addr} (ho : o.op = .nilCheck x) (hx : ev σ x = some (.pointer q)) [n : NN H q] : OpVal X σ H o (.pointer q) := by
  intro a w ha hs
  have := n.nn _ w hs
  cases q with
  | none => exact absurd rfl this
  | some q => simp only [execOp, ho, ha.eval hx]; rfl

theorem OpVal_fieldAddr {x : Operand} {q : Option Addr} {s : TypeId} {f i sz : Nat} (ho : o.op = .fieldAddr s x f) (hx : ev σ x = some (.pointer q)) [n : NN H q] [t : TFld X.P s f i sz] : OpVal X σ H o (.pointer (off q i)) := by
  intro a w ha hs
  have := n.nn _ w hs
  cases q with
  | none => exact absurd rfl this
  | some q =>
    obtain ⟨fs, g, h1, h2, h3, h4, h5⟩ := t.h
    obtain ⟨j, hj, hsz⟩ := map_info h4
    simp only [execOp, ho, ha.eval hx]
    simp [Instr.fieldAt, Instr.sureAddr, run_underlying h1, h2, fieldPlace, sizeOf, typeInfo, hj, hsz, h5, h3, off, go_sem]

theorem OpVal_load {x : Operand} {q p : Option Addr} {t t0 : TypeId} {i : Nat} {cs : List Value} {F : SL} {v : Value} (ho : o.op = .load t x) (hx : ev σ x = some (.pointer q)) [c : TCell X.P t] [l : Loc q p i] [r : AtP H p (Obj p t0 cs) F] (hv : cs[i]? = some v) : OpVal X σ H o v := by
  intro a w ha hs
  obtain ⟨b, hb, hc⟩ := Obj.cell (r.eq ▸ hs) hv
  rw [← l.eq] at hb
  subst hb
  obtain ⟨d, h1, h2⟩ := c.agg
  simp only [execOp, ho, ha.eval hx]
  cases d <;> simp at h2 <;> simp [Instr.loadAt, Instr.sureAddr, loadVar, isAgg, run_underlying h1, load, Sem.run, hc, go_sem]

theorem OpVal_loadAgg {x : Operand} {q p : Option Addr} {t t0 : TypeId} {i n : Nat} {cs vs : List Value} {F : SL} (ho : o.op = .load t x) (hx : ev σ x = some (.pointer q)) [c : TAgg X.P t n] [l : Loc q p i] [r : AtP H p (Obj p t0 cs) F] (hv : slc cs i n = some vs) : OpVal X σ H o (.agg vs.toArray) := by
  intro a w ha hs
  obtain ⟨b, hb, hs'⟩ := Obj.open (r.eq ▸ hs)
  have hq := l.eq
  rw [hb] at hq
  simp only [off, Option.map_some, add_at, Nat.zero_add] at hq
  subst hq
  obtain ⟨d, h1, h2⟩ := c.agg
  obtain ⟨j, hj, hsz⟩ := map_info c.size
  obtain ⟨hl, rfl⟩ := slc_spec hv
  have := blk_loads (P := X.P) hs' hl
  unfold loadCells at this
  simp only [execOp, ho, ha.eval hx]
  cases d <;> simp at h2 <;> simp [Instr.loadAt, Instr.sureAddr, loadVar, isAgg, run_underlying h1, sizeOf, typeInfo, hj, hsz, this, go_sem]

theorem run_storeVar {P : Program} {W w : World} {F : SL} {b i n : Nat} {t t0 : TypeId} {cur : List Value} {v : Value} [s : TSize P t n] (h : Sat W w (SL.blk b (.cells cur.toArray t0 (0, 0)) * F)) (hn : (cellsL v).length = n) (hi : i + n ≤ cur.length) (h1 : ones (cellsL v) = true) :
    ∃ w', (storeVar t ⟨b, i, none⟩ v).run P w = .ok () w' ∧ Sat W w' (SL.blk b (.cells (cur.take i ++ cellsL v ++ cur.drop (i + n)).toArray t0 (0, 0)) * F) := by
  subst hn
  obtain ⟨w', h2, h3⟩ := blk_stores (P := P) h hi h1
  refine ⟨w', ?_, h3⟩
  have hc : v.cells.size = (cellsL v).length := by rw [← cellsL_spec, Array.length_toList]
  simp only [storeVar, Sem.run_bind, run_size, Result.andThen_ok, hc, ne_eq, not_true_eq_false, if_false, cellsL_spec, h2]

theorem OpSkip_store {x y : Operand} {q p : Option Addr} {t t0 : TypeId} {i n : Nat} {cs cs' : List Value} {F : SL} {v : Value} (ho : o.op = .store t x y) (hx : ev σ x = some (.pointer q)) (hy : ev σ y = some v) [c : TSize X.P t n] [l : Loc q p i] [r : AtP H p (Obj p t0 cs) F]
    (hv : spl cs i (cellsL v) = some cs') (hn : Nat.beq (cellsL v).length n = true) (h1 : ones (cellsL v) = true) : OpSkip X σ H o (Obj p t0 cs' * F) := by
  intro a w ha hs
  obtain ⟨b, hb, hs'⟩ := Obj.open (r.eq ▸ hs)
  have hq := l.eq
  rw [hb] at hq
  simp only [off, Option.map_some, add_at, Nat.zero_add] at hq
  subst hq
  obtain ⟨hl, rfl⟩ := spl_spec hv
  have hn := Nat.eq_of_beq_eq_true hn
  subst hn
  obtain ⟨w', h2, h3⟩ := run_storeVar (P := X.P) (t := t) hs' rfl hl h1
  refine ⟨w', ?_, Obj.shut hb h3⟩
  simp only [execOp, ho, ha.eval hx, ha.eval hy, Instr.storeAt, Instr.sureAddr, Sem.run_bind, Sem.run_pure, Result.andThen_ok, h2]

theorem OpDoes_alloc {t : TypeId} {cs : List Value} (ho : o.op = .alloc t) [z : TZero X.P t cs] : OpDoes X σ H o (fun p : Option Addr => .pointer p) (fun p => Obj p t cs * H) := by
  intro a w ha hs
  obtain ⟨v, h1, h2⟩ := z.h
  obtain ⟨j, hj, hz⟩ := map_info h1
  refine ⟨_, _, ?_, hs.newObj t cs⟩
  simp only [execOp, ho]
  simp [Instr.alloc, zeroValue, typeInfo, hj, hz, newVar, newRow, go_sem]
  exact congrArg (fun c => w.alloc (.cells c t)) h2
theorem OpDoes_box {t : TypeId} {x : Operand} {v : Value} {cs : List Value} (ho : o.op = .box t x) (hx : ev σ x = some v) (hv : cellsS v = some cs) : OpDoes X σ H o (fun p : Option Addr => .pointer p) (fun p => Obj p t cs * H) := by
  intro a w ha hs
  obtain rfl := cellsS_spec hv
  refine ⟨_, _, ?_, hs.newObj t (cellsL v)⟩
  have hc : v.cells = (cellsL v).toArray := by rw [← cellsL_spec, Array.toArray_toList]
  simp only [execOp, ho, ha.eval hx]
  simp [Instr.box, newVar, newRow, go_sem]
  exact congrArg (fun c => w.alloc (.cells c t)) hc

end Go.Proofs.Ytdmmahhnfnefoaa
