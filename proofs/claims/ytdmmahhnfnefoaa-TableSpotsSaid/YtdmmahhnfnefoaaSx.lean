/-
  Walks over assertions: the temporaries as a list, the heap as an assertion; what each code does to the two. Plain Lean: no program in sight.
-/
import Derived.Test.YtdmmahhnfnefoaaSl
namespace Go.Proofs.Ytdmmahhnfnefoaa
open Go.RowKit

/-! ### The temporaries -/
abbrev Env := List (Nat × Value)
def Env.get : Env → Nat → Option Value
  | [], _ => none
  | (t, v) :: σ, s => match Nat.beq t s with
    | true => some v
    | false => Env.get σ s

structure Fits (N : Nat) (a : Act) (σ : Env) : Prop where
  size : a.tmps.size = N
  defers : a.defers = []
  vals : ∀ t v, σ.get t = some v → a.tmps[t]? = some v

def ev (σ : Env) : Operand → Option Value
  | .tmp t => σ.get t
  | .const v => some v
  | .global g => some (.pointer (some ⟨g, 0, none⟩))
  | .func f => some (.func (.func f) #[] #[])
def evs (σ : Env) : List Operand → Option (List Value)
  | [] => some []
  | x :: l => match ev σ x with
    | some v => match evs σ l with
      | some vs => some (v :: vs)
      | none => none
    | none => none

section env
variable {N : Nat} {a : Act} {σ σ' : Env}
theorem Fits.eval (h : Fits N a σ) {x : Operand} {v : Value} (hx : ev σ x = some v) : a.eval x = v := by
  cases x with
  | tmp t =>
    have := h.vals t v hx
    simp [Act.eval, this]
  | const u => simpa [ev, Act.eval] using hx
  | global g => simpa [ev, Act.eval] using hx
  | func f => simpa [ev, Act.eval] using hx
theorem Fits.evals (h : Fits N a σ) : ∀ {l : List Operand} {vs : List Value}, evs σ l = some vs → l.map a.eval = vs
  | [], vs, hx => by simpa [evs] using hx
  | x :: l, vs, hx => by
    simp only [evs] at hx
    split at hx
    · rename_i v hv
      split at hx
      · rename_i us hus
        simp only [Option.some.injEq] at hx
        subst hx
        rw [List.map_cons, h.eval hv, h.evals hus]
      · simp at hx
    · simp at hx
theorem Env.get_cons (σ : Env) (d s : Nat) (v : Value) : Env.get ((d, v) :: σ) s = if d = s then some v else σ.get s := by
  simp only [Env.get]
  split
  · rename_i h; rw [if_pos (Nat.eq_of_beq_eq_true h)]
  · rename_i h; rw [if_neg (Nat.ne_of_beq_eq_false h)]
theorem Fits.put (h : Fits N a σ) {d : Nat} (hd : Nat.blt d N = true) (v : Value) : Fits N (a.put (some d) v) ((d, v) :: σ) where
  size := by simpa [Act.put] using h.size
  defers := h.defers
  vals := fun t u ht => by
    have hd : d < N := Nat.le_of_ble_eq_true hd
    rw [Env.get_cons] at ht
    split at ht
    · rename_i e
      subst e
      simp only [Option.some.injEq] at ht
      subst ht
      simp [Act.put, h.size, hd]
    · rename_i e
      simp [Act.put, Array.getElem?_setIfInBounds_ne e, h.vals t u ht]
theorem Fits.put_none (h : Fits N a σ) (v : Value) : Fits N (a.put none v) σ := h
/-- Less is said. -/
theorem Fits.sub (h : Fits N a σ) (k : ∀ t v, σ'.get t = some v → σ.get t = some v) : Fits N a σ' := ⟨h.size, h.defers, fun t v ht => h.vals t v (k t v ht)⟩
theorem Fits.fact (h : Fits N a σ) {t : Nat} {v u : Value} (ht : σ.get t = some v) (e : v = u) : Fits N a ((t, u) :: σ) := h.sub fun s w hs => by
  rw [Env.get_cons] at hs
  split at hs
  · rename_i e'
    subst e' e
    rw [ht]
    exact hs
  · exact hs
/-- Every temporary of σ' is in σ. -/
def Env.within (σ : Env) : Env → Prop
  | [] => True
  | (t, v) :: σ' => σ.get t = some v ∧ Env.within σ σ'
theorem Env.within_get : ∀ {σ' : Env}, Env.within σ σ' → ∀ t v, σ'.get t = some v → σ.get t = some v
  | [], _, _, _, h => by simp [Env.get] at h
  | (s, u) :: σ', hw, t, v, h => by
    rw [Env.get_cons] at h
    split at h
    · rename_i e
      subst e
      simp only [Option.some.injEq] at h
      subst h
      exact hw.1
    · exact Env.within_get hw.2 t v h
theorem Fits.within (h : Fits N a σ) (k : Env.within σ σ') : Fits N a σ' := h.sub (Env.within_get k)
end env

/-! ### What is left to do -/
inductive KI where
  | code (c : Code)
  | block (id : Nat)
  | till (J : Act → World → Prop)

def run (P : Program) (R : Exit → Act → World → Prop) : List KI → Exit → Act → World → Prop
  | [] => R
  | .code c :: k => Exit.then (fun a w => c.wp P (run P R k) a w) (run P R k)
  | .block id :: k => Exit.inBlock id (run P R k)
  | .till J :: k => Exit.then J (run P R k)

structure Cx where
  P : Program
  N : Nat
  W : World
  R : Exit → Act → World → Prop

variable {X : Cx} {k : List KI} {σ : Env} {H : SL}

def EK (X : Cx) (k : List KI) (σ : Env) (H : SL) : Prop := ∀ a w, Fits X.N a σ → Sat X.W w H → run X.P X.R k .normal a w
def EX (X : Cx) (id : Nat) (k : List KI) (σ : Env) (H : SL) : Prop := ∀ a w, Fits X.N a σ → Sat X.W w H → run X.P X.R k (.exit id) a w
def ER (X : Cx) (σ : Env) (H : SL) : Prop := ∀ a w, Fits X.N a σ → Sat X.W w H → X.R .ret a w
def EN (X : Cx) (σ : Env) (H : SL) : Prop := ∀ a w, Fits X.N a σ → Sat X.W w H → X.R .normal a w
def EL (X : Cx) (k : List KI) (ops : List Oper) (l : List Oper) (σ : Env) (H : SL) : Prop := ∀ a w, Fits X.N a σ → Sat X.W w H → wpList X.P ops.toArray (run X.P X.R k) l a w

theorem run_ret (P : Program) (R : Exit → Act → World → Prop) (a : Act) (w : World) : ∀ k, run P R k .ret a w = R .ret a w
  | [] => rfl
  | .code c :: k => run_ret P R a w k
  | .block id :: k => run_ret P R a w k
  | .till J :: k => run_ret P R a w k

theorem EK_seq {x y : Code} (h : EK X (.code x :: .code y :: k) σ H) : EK X (.code (.seq x y) :: k) σ H := fun a w ha hs => wp_seq (h a w ha hs)
theorem EK_skip (h : EK X k σ H) : EK X (.code .skip :: k) σ H := fun a w ha hs => wp_skip (h a w ha hs)
theorem EK_block {id : Nat} {c : Code} (h : EK X (.code c :: .block id :: k) σ H) : EK X (.code (.block id c) :: k) σ H := fun a w ha hs => wp_block (h a w ha hs)
theorem EK_unblock {id : Nat} (h : EK X k σ H) : EK X (.block id :: k) σ H := fun a w ha hs => h a w ha hs
theorem EK_exit {id : Nat} (h : EX X id k σ H) : EK X (.code (.exit id) :: k) σ H := fun a w ha hs => wp_exit (h a w ha hs)
theorem EX_code {id : Nat} {c : Code} (h : EX X id k σ H) : EX X id (.code c :: k) σ H := fun a w ha hs => h a w ha hs
theorem EX_till {id : Nat} {J : Act → World → Prop} (h : EX X id k σ H) : EX X id (.till J :: k) σ H := fun a w ha hs => h a w ha hs
theorem EX_here {id : Nat} (h : EK X k σ H) : EX X id (.block id :: k) σ H := fun a w ha hs => by
  show Exit.inBlock id _ _ _ _
  simp only [Exit.inBlock, if_true]
  exact h a w ha hs
theorem EX_past {id id' : Nat} (hn : Nat.beq id id' = false) (h : EX X id k σ H) : EX X id (.block id' :: k) σ H := fun a w ha hs => by
  show Exit.inBlock id' _ _ _ _
  simp only [Exit.inBlock, if_neg (Nat.ne_of_beq_eq_false hn)]
  exact h a w ha hs
theorem EK_ret (h : ER X σ H) : EK X (.code .ret :: k) σ H := fun a w ha hs => wp_ret (by
  show run X.P X.R k .ret a w
  rw [run_ret]
  exact h a w ha hs)
theorem EK_end (h : EN X σ H) : EK X [] σ H := h
theorem EK_till {J : Act → World → Prop} (h : ∀ a w, Fits X.N a σ → Sat X.W w H → J a w) : EK X (.till J :: k) σ H := h
theorem EK_scope {c : Code} (h : EK X (.code c :: k) σ H) (hn : ∀ e a w, run X.P X.R k e a w → Exit.noGoto (run X.P X.R k) e a w) : EK X (.code (.scope c) :: k) σ H :=
  fun a w ha hs => wp_scope_straight (wp_mono (h a w ha hs) hn)

/-! tests -/
theorem EK_cond {c : Operand} {x y : Code} {b : Bool} (hc : ev σ c = some (.bool b)) (h1 : b = true → EK X (.code x :: k) σ H) (h2 : b = false → EK X (.code y :: k) σ H) : EK X (.code (.cond c x y) :: k) σ H := by
  intro a w ha hs
  refine wp_cond (ha.eval hc) ?_
  cases b with
  | true => exact h1 rfl a w ha hs
  | false => exact h2 rfl a w ha hs
theorem EK_cond_true {c : Operand} {x y : Code} (hc : ev σ c = some (.bool true)) (h : EK X (.code x :: k) σ H) : EK X (.code (.cond c x y) :: k) σ H := EK_cond hc (fun _ => h) (fun e => by cases e)
theorem EK_cond_false {c : Operand} {x y : Code} (hc : ev σ c = some (.bool false)) (h : EK X (.code y :: k) σ H) : EK X (.code (.cond c x y) :: k) σ H := EK_cond hc (fun e => by cases e) (fun _ => h)
theorem EK_cond_dec {c : Operand} {x y : Code} {p : Prop} [Decidable p] (hc : ev σ c = some (.bool (decide p))) (h1 : p → EK X (.code x :: k) σ H) (h2 : ¬ p → EK X (.code y :: k) σ H) : EK X (.code (.cond c x y) :: k) σ H :=
  EK_cond hc (fun e => h1 (of_decide_eq_true e)) (fun e => h2 (of_decide_eq_false e))
theorem EK_cond_ndec {c : Operand} {x y : Code} {p : Prop} [Decidable p] (hc : ev σ c = some (.bool (!decide p))) (h1 : ¬ p → EK X (.code x :: k) σ H) (h2 : p → EK X (.code y :: k) σ H) : EK X (.code (.cond c x y) :: k) σ H :=
  EK_cond hc (fun e => h1 (by simpa using e)) (fun e => h2 (by simpa using e))
theorem EK_cond_not {c : Operand} {x y : Code} {b : Bool} (hc : ev σ c = some (.bool (!b))) (h1 : b = false → EK X (.code x :: k) σ H) (h2 : b = true → EK X (.code y :: k) σ H) : EK X (.code (.cond c x y) :: k) σ H :=
  EK_cond hc (fun e => h1 (by simpa using e)) (fun e => h2 (by simpa using e))

/-! regions -/
theorem EK_region {id : Nat} {ops : List Oper} (h : EL X k ops ops σ H) : EK X (.code (.region id ops.toArray false) :: k) σ H := fun a w ha hs => wp_region_lit (h a w ha hs)
theorem EL_nil {ops : List Oper} (h : EK X k σ H) : EL X k ops [] σ H := h

/-- What an operation yields, the world as it was. -/
def OpVal (X : Cx) (σ : Env) (H : SL) (o : Oper) (v : Value) : Prop := ∀ a w, Fits X.N a σ → Sat X.W w H → (execOp a.eval o).run X.P w = .ok (.value v) w
/-- What an operation does, of which the assertion speaks. -/
def OpDoes (X : Cx) (σ : Env) (H : SL) (o : Oper) {α : Type} (r : α → Value) (H' : α → SL) : Prop :=
  ∀ a w, Fits X.N a σ → Sat X.W w H → ∃ x w', (execOp a.eval o).run X.P w = .ok (.value (r x)) w' ∧ Sat X.W w' (H' x)
/-- A store. -/
def OpSkip (X : Cx) (σ : Env) (H : SL) (o : Oper) (H' : SL) : Prop := ∀ a w, Fits X.N a σ → Sat X.W w H → ∃ w', (execOp a.eval o).run X.P w = .ok .skip w' ∧ Sat X.W w' H'

variable {ops l : List Oper} {o : Oper}

theorem EL_val {d : Nat} {v : Value} {op : Op} {ty : TypeId} {pos : String} {aft : Array Edge} (hv : OpVal X σ H ⟨some d, op, ty, pos, aft, none⟩ v) (hd : Nat.blt d X.N = true) (h : EL X k ops l ((d, v) :: σ) H) :
    EL X k ops (⟨some d, op, ty, pos, aft, none⟩ :: l) σ H := by
  intro a w ha hs
  refine wpList_plain rfl fun K hK => ?_
  unfold Oper.wp
  rw [hv a w ha hs]
  exact hK _ _ (h _ _ (ha.put hd v) hs)
theorem EL_val0 {v : Value} {op : Op} {ty : TypeId} {pos : String} {aft : Array Edge} (hv : OpVal X σ H ⟨none, op, ty, pos, aft, none⟩ v) (h : EL X k ops l σ H) :
    EL X k ops (⟨none, op, ty, pos, aft, none⟩ :: l) σ H := by
  intro a w ha hs
  refine wpList_plain rfl fun K hK => ?_
  unfold Oper.wp
  rw [hv a w ha hs]
  exact hK _ _ (h _ _ ha hs)
theorem EL_does {α : Type} {r : α → Value} {H' : α → SL} {d : Nat} {op : Op} {ty : TypeId} {pos : String} {aft : Array Edge} (hv : OpDoes X σ H ⟨some d, op, ty, pos, aft, none⟩ r H') (hd : Nat.blt d X.N = true) (h : ∀ x, EL X k ops l ((d, r x) :: σ) (H' x)) :
    EL X k ops (⟨some d, op, ty, pos, aft, none⟩ :: l) σ H := by
  intro a w ha hs
  refine wpList_plain rfl fun K hK => ?_
  unfold Oper.wp
  obtain ⟨x, w', hr, hs'⟩ := hv a w ha hs
  rw [hr]
  exact hK _ _ (h x _ _ (ha.put hd _) hs')
theorem EL_skip {H' : SL} {op : Op} {ty : TypeId} {pos : String} {aft : Array Edge} (hv : OpSkip X σ H ⟨none, op, ty, pos, aft, none⟩ H') (h : EL X k ops l σ H') :
    EL X k ops (⟨none, op, ty, pos, aft, none⟩ :: l) σ H := by
  intro a w ha hs
  refine wpList_plain rfl fun K hK => ?_
  unfold Oper.wp
  obtain ⟨w', hr, hs'⟩ := hv a w ha hs
  rw [hr]
  exact hK _ _ (h _ _ ha hs')

/-! guards -/
theorem wanted_of {a : Act} (ha : Fits X.N a σ) {gj t : Nat} {b want : Bool} (hj : (ops[gj]?).bind (·.dst) = some t) (ht : σ.get t = some (.bool b)) (hg : o.guard = some (gj, want)) : Region.wanted o (yielded ops.toArray a.tmps) = (b == want) := by
  simp only [Region.wanted, hg, yielded, List.getElem?_toArray, hj, Option.bind_some, ha.vals t _ ht]
  cases b <;> cases want <;> rfl
theorem EL_guard_yes {d : Option Nat} {op : Op} {ty : TypeId} {pos : String} {aft : Array Edge} {gj t : Nat} {want : Bool} (hj : (ops[gj]?).bind (·.dst) = some t) (ht : σ.get t = some (.bool want))
    (h : EL X k ops (⟨d, op, ty, pos, aft, none⟩ :: l) σ H) : EL X k ops (⟨d, op, ty, pos, aft, some (gj, want)⟩ :: l) σ H := by
  intro a w ha hs
  have h1 := h a w ha hs
  unfold wpList at h1 ⊢
  rw [wanted_of (o := ⟨d, op, ty, pos, aft, some (gj, want)⟩) ha hj ht rfl, if_pos (by simp)]
  rw [if_pos (by simp [Region.wanted])] at h1
  exact h1
theorem EL_guard_no {d : Nat} {op : Op} {ty : TypeId} {pos : String} {aft : Array Edge} {gj t : Nat} {want : Bool} (hj : (ops[gj]?).bind (·.dst) = some t) (ht : σ.get t = some (.bool !want)) (hd : Nat.blt d X.N = true)
    (h : EL X k ops l ((d, undef) :: σ) H) : EL X k ops (⟨some d, op, ty, pos, aft, some (gj, want)⟩ :: l) σ H := by
  intro a w ha hs
  unfold wpList
  rw [wanted_of (o := ⟨some d, op, ty, pos, aft, some (gj, want)⟩) ha hj ht rfl, if_neg (by cases want <;> simp)]
  exact h _ _ (ha.put hd _) hs
theorem EL_guard_undef {d : Nat} {op : Op} {ty : TypeId} {pos : String} {aft : Array Edge} {gj t : Nat} {want : Bool} (hj : (ops[gj]?).bind (·.dst) = some t) (ht : σ.get t = some undef) (hd : Nat.blt d X.N = true)
    (h : EL X k ops l ((d, undef) :: σ) H) : EL X k ops (⟨some d, op, ty, pos, aft, some (gj, want)⟩ :: l) σ H := by
  intro a w ha hs
  unfold wpList
  have hw : Region.wanted (⟨some d, op, ty, pos, aft, some (gj, want)⟩ : Oper) (yielded ops.toArray a.tmps) = false := by
    simp only [Region.wanted, yielded, List.getElem?_toArray, hj, Option.bind_some, ha.vals t _ ht]
    rfl
  rw [hw, if_neg (by simp)]
  exact h _ _ (ha.put hd _) hs
/-- A guard is parted on. -/
theorem EL_guard_split {d : Option Nat} {op : Op} {ty : TypeId} {pos : String} {aft : Array Edge} {gj t : Nat} {b want : Bool} (hj : (ops[gj]?).bind (·.dst) = some t) (ht : σ.get t = some (.bool b))
    (h1 : b = true → EL X k ops (⟨d, op, ty, pos, aft, some (gj, want)⟩ :: l) ((t, .bool true) :: σ) H) (h2 : b = false → EL X k ops (⟨d, op, ty, pos, aft, some (gj, want)⟩ :: l) ((t, .bool false) :: σ) H) :
    EL X k ops (⟨d, op, ty, pos, aft, some (gj, want)⟩ :: l) σ H := by
  intro a w ha hs
  cases hb : b with
  | true => exact h1 hb a w (ha.fact ht (by rw [hb])) hs
  | false => exact h2 hb a w (ha.fact ht (by rw [hb])) hs

/-! calls -/
def Post (W : World) {α : Type} (r : α → Value) (H' : α → SL) : Ending → World → Prop := fun e w' => ∃ x, e = .returned (r x) ∧ Sat W w' (H' x)
/-- The contract of a function at these arguments. -/
def Spec (P : Program) (f : FuncId) (vs : List Value) (W : World) (H : SL) {α : Type} (r : α → Value) (H' : α → SL) : Prop := ∀ w, Sat W w H → Calls P f vs.toArray w (Post W r H')

class IsFn (P : Program) (f : FuncId) : Prop where
  runs : ∀ args w, (callFunc f args).run P w = .ok (.enter f args) w

theorem run_call {f : FuncId} [IsFn X.P f] {args : Array Operand} {ats : Array TypeId} {vs : List Value} {d : Option Nat} {ty : TypeId} {pos : String} {aft : Array Edge} {a : Act} {w : World} (ha : Fits X.N a σ) (hargs : evs σ args.toList = some vs) :
    (execOp a.eval ⟨d, .call { callee := .value (.func f), args := args, argTypes := ats }, ty, pos, aft, none⟩).run X.P w = .ok (.enter f vs.toArray) w := by
  have e1 : args.map a.eval = vs.toArray := by
    have := ha.evals hargs
    rw [← this, ← List.map_toArray, Array.toArray_toList]
  simp only [execOp, resolve, e1, Act.eval, Deferred.ofValue, Sem.run_bind, Sem.run_pure, Result.andThen_ok, invoke, Array.empty_append, Array.append_empty]
  exact IsFn.runs _ _
theorem EL_call {α : Type} {r : α → Value} {H' : α → SL} {f : FuncId} [IsFn X.P f] {args : Array Operand} {ats : Array TypeId} {vs : List Value} {d : Nat} {ty : TypeId} {pos : String} {aft : Array Edge}
    (hargs : evs σ args.toList = some vs) (hc : Spec X.P f vs X.W H r H') (h : ∀ x, EL X k ops l ((d, r x) :: σ) (H' x)) (hd : Nat.blt d X.N = true := by rfl) :
    EL X k ops (⟨some d, .call { callee := .value (.func f), args := args, argTypes := ats }, ty, pos, aft, none⟩ :: l) σ H := by
  intro a w ha hs
  refine wpList_plain rfl fun K hK => ?_
  unfold Oper.wp
  rw [run_call ha hargs, Oper.upon_enter]
  refine (hc w hs).mono ?_
  rintro e w' ⟨x, rfl, hs'⟩
  exact hK _ _ (h x _ _ (ha.put hd _) hs')
theorem EL_call0 {α : Type} {r : α → Value} {H' : α → SL} {f : FuncId} [IsFn X.P f] {args : Array Operand} {ats : Array TypeId} {vs : List Value} {ty : TypeId} {pos : String} {aft : Array Edge}
    (hargs : evs σ args.toList = some vs) (hc : Spec X.P f vs X.W H r H') (h : ∀ x, EL X k ops l σ (H' x)) :
    EL X k ops (⟨none, .call { callee := .value (.func f), args := args, argTypes := ats }, ty, pos, aft, none⟩ :: l) σ H := by
  intro a w ha hs
  refine wpList_plain rfl fun K hK => ?_
  unfold Oper.wp
  rw [run_call ha hargs, Oper.upon_enter]
  refine (hc w hs).mono ?_
  rintro e w' ⟨x, rfl, hs'⟩
  exact hK _ _ (h x _ _ ha hs')

/-! entering, leaving -/
def argsEnv : Nat → List Value → Env
  | _, [] => []
  | i, v :: l => (i, v) :: argsEnv (i + 1) l
theorem argsEnv_get : ∀ (l : List Value) (i t : Nat) (v : Value), (argsEnv i l).get t = some v → i ≤ t ∧ l[t - i]? = some v
  | [], _, _, _, h => by simp [argsEnv, Env.get] at h
  | u :: l, i, t, v, h => by
    rw [argsEnv, Env.get_cons] at h
    split at h
    · rename_i e
      subst e
      simp only [Option.some.injEq] at h
      subst h
      simp
    · have := argsEnv_get l (i + 1) t v h
      refine ⟨by omega, ?_⟩
      rw [show t - i = (t - (i + 1)) + 1 by omega, List.getElem?_cons_succ]
      exact this.2

theorem Spec.of {P : Program} {f : FuncId} {fn : Func} {c : Code} {N : Nat} {W : World} {α : Type} {r : α → Value} {H' : α → SL} {vs : List Value} (hf : P.funcs[f]? = some fn) (hb : fn.body = some c) (hn : fn.ntmps = N) (hl : Nat.ble vs.length N = true)
    (h : EK ⟨P, N, W, bodyPost P fn (Post W r H')⟩ [.code c] (argsEnv 0 vs) H) : Spec P f vs W H r H' := by
  intro w hs
  subst hn
  have hl := Nat.le_of_ble_eq_true hl
  refine calls_of_wp hf hb ?_
  refine wp_mono (h _ w ⟨?_, rfl, fun t v ht => ?_⟩ hs) (fun e a w q => q)
  · simp; omega
  · obtain ⟨_, h2⟩ := argsEnv_get _ _ _ _ ht
    rw [Nat.sub_zero] at h2
    have ht : t < vs.length := (List.getElem?_eq_some_iff.1 h2).1
    rw [Array.getElem?_append_left (by simpa using ht)]
    simpa using h2

theorem run_results (P : Program) (fn : Func) (tmps : Array Value) (w : World) {v : Value} (h : (results fn tmps).run P w = .ok v w) : (results fn tmps).run P w = .ok v w := h
section leave
variable {P : Program} {N : Nat} {W : World} {fn : Func} {α : Type} {r : α → Value} {H' : α → SL}
theorem leaves {a : Act} {w : World} {e : Exit} (he : e = .normal ∨ e = .ret) (ha : Fits N a σ) {v : Value} (hr : (results fn a.tmps).run P w = .ok v w) (x : α) (hx : v = r x) (hs : Sat W w (H' x)) : bodyPost P fn (Post W r H') e a w := by
  subst hx
  rcases he with rfl | rfl <;> exact ⟨ha.defers, _, hr, x, rfl, hs⟩
theorem res0 {a : Act} {w : World} (hf : fn.results = #[]) : (results fn a.tmps).run P w = .ok (.tuple #[]) w := by
  simp [results, hf, go_sem]
theorem res1 {a : Act} {w : World} {t : Nat} {v : Value} (ha : Fits N a σ) (hf : fn.results = #[.tmp t]) (ht : σ.get t = some v) : (results fn a.tmps).run P w = .ok v w := by
  have := ha.vals t v ht
  simp [results, hf, go_sem, this]
theorem res2 {a : Act} {w : World} {t s : Nat} {v u : Value} (ha : Fits N a σ) (hf : fn.results = #[.tmp t, .tmp s]) (ht : σ.get t = some v) (hs : σ.get s = some u) : (results fn a.tmps).run P w = .ok (.tuple #[v, u]) w := by
  have h1 := ha.vals t v ht
  have h2 := ha.vals s u hs
  simp [results, hf, go_sem, h1, h2]
theorem res3 {a : Act} {w : World} {t s q : Nat} {v u z : Value} (ha : Fits N a σ) (hf : fn.results = #[.tmp t, .tmp s, .tmp q]) (ht : σ.get t = some v) (hs : σ.get s = some u) (hq : σ.get q = some z) : (results fn a.tmps).run P w = .ok (.tuple #[v, u, z]) w := by
  have h1 := ha.vals t v ht
  have h2 := ha.vals s u hs
  have h3 := ha.vals q z hq
  simp [results, hf, go_sem, h1, h2, h3]

theorem ER_0 (hf : fn.results = #[]) (x : α) (hx : .tuple #[] = r x) (hs : ∀ w, Sat W w H → Sat W w (H' x)) : ER ⟨P, N, W, bodyPost P fn (Post W r H')⟩ σ H := fun _ w ha h => leaves (.inr rfl) ha (res0 hf) x hx (hs w h)
theorem ER_1 {t : Nat} {v : Value} (hf : fn.results = #[.tmp t]) (ht : σ.get t = some v) (x : α) (hx : v = r x) (hs : ∀ w, Sat W w H → Sat W w (H' x)) : ER ⟨P, N, W, bodyPost P fn (Post W r H')⟩ σ H := fun _ w ha h => leaves (.inr rfl) ha (res1 ha hf ht) x hx (hs w h)
theorem ER_2 {t s : Nat} {v u : Value} (hf : fn.results = #[.tmp t, .tmp s]) (ht : σ.get t = some v) (ht' : σ.get s = some u) (x : α) (hx : .tuple #[v, u] = r x) (hs : ∀ w, Sat W w H → Sat W w (H' x)) : ER ⟨P, N, W, bodyPost P fn (Post W r H')⟩ σ H := fun _ w ha h => leaves (.inr rfl) ha (res2 ha hf ht ht') x hx (hs w h)
theorem ER_3 {t s q : Nat} {v u z : Value} (hf : fn.results = #[.tmp t, .tmp s, .tmp q]) (ht : σ.get t = some v) (ht' : σ.get s = some u) (hq : σ.get q = some z) (x : α) (hx : .tuple #[v, u, z] = r x) (hs : ∀ w, Sat W w H → Sat W w (H' x)) : ER ⟨P, N, W, bodyPost P fn (Post W r H')⟩ σ H := fun _ w ha h => leaves (.inr rfl) ha (res3 ha hf ht ht' hq) x hx (hs w h)
theorem EN_1 {t : Nat} {v : Value} (hf : fn.results = #[.tmp t]) (ht : σ.get t = some v) (x : α) (hx : v = r x) (hs : ∀ w, Sat W w H → Sat W w (H' x)) : EN ⟨P, N, W, bodyPost P fn (Post W r H')⟩ σ H := fun _ w ha h => leaves (.inl rfl) ha (res1 ha hf ht) x hx (hs w h)
theorem EN_0 (hf : fn.results = #[]) (x : α) (hx : .tuple #[] = r x) (hs : ∀ w, Sat W w H → Sat W w (H' x)) : EN ⟨P, N, W, bodyPost P fn (Post W r H')⟩ σ H := fun _ w ha h => leaves (.inl rfl) ha (res0 hf) x hx (hs w h)
end leave

/-! loops -/
theorem least_of {p : Nat → Prop} : ∀ n, p n → ∃ m, p m ∧ ∀ j, p j → m ≤ j := by
  intro n
  induction n using Nat.strongRecOn with
  | _ n ih =>
    intro hn
    by_cases h : ∃ j, j < n ∧ p j
    · obtain ⟨j, hj, hp⟩ := h
      exact ih j hj hp
    · exact ⟨n, hn, fun j hj => Nat.le_of_not_lt fun hlt => h ⟨j, hlt, hj⟩⟩

theorem EK_loop {c : Code} {γ : Type} (φ : γ → Prop) (E : γ → Env) (G : γ → SL) (μ : γ → Nat) (g0 : γ) (h0 : φ g0) (he : Env.within σ (E g0)) (hh : ∀ w, Sat X.W w H → Sat X.W w (G g0))
    (round : ∀ g, φ g → EK X (.code c :: .till (fun a w => ∃ g', φ g' ∧ μ g' < μ g ∧ Fits X.N a (E g') ∧ Sat X.W w (G g')) :: k) (E g) (G g)) : EK X (.code (.loop c) :: k) σ H := by
  intro a w ha hs
  let q : Act → World → Nat → Prop := fun a w m => ∃ g, μ g = m ∧ φ g ∧ Fits X.N a (E g) ∧ Sat X.W w (G g)
  let I : Act → World → Prop := fun a w => ∃ m, q a w m
  have hleast : ∀ a w, ∃ m, I a w → q a w m ∧ ∀ j, q a w j → m ≤ j := fun a w => by
    by_cases h : I a w
    · obtain ⟨n, hn⟩ := h
      obtain ⟨m, h1, h2⟩ := least_of (p := q a w) n hn
      exact ⟨m, fun _ => ⟨h1, h2⟩⟩
    · exact ⟨0, fun h' => absurd h' h⟩
  let M : Act → World → Nat := fun a w => Classical.choose (hleast a w)
  have hM : ∀ a w, I a w → q a w (M a w) ∧ ∀ j, q a w j → M a w ≤ j := fun a w => Classical.choose_spec (hleast a w)
  refine wp_loop I M ⟨_, g0, rfl, h0, ha.within he, hh w hs⟩ ?_
  intro a w hI
  obtain ⟨⟨g, h1, h2, h3, h4⟩, _⟩ := hM a w hI
  refine wp_mono (round g h2 a w h3 h4) ?_
  intro e a' w' hq
  cases e with
  | normal =>
    obtain ⟨g', k1, k2, k3, k4⟩ := hq
    have hI' : I a' w' := ⟨_, g', rfl, k1, k3, k4⟩
    have hle := (hM a' w' hI').2 (μ g') ⟨g', rfl, k1, k3, k4⟩
    exact ⟨hI', by omega⟩
  | exit id => exact hq
  | goto l => exact hq
  | ret => exact hq
  | panic ch => exact hq
  | outgrown => exact hq
/-- A round's end. -/
theorem EK_round {γ : Type} {φ : γ → Prop} {E : γ → Env} {G : γ → SL} {μ : γ → Nat} {m : Nat} (g' : γ) (h0 : φ g') (hm : μ g' < m) (he : Env.within σ (E g')) (hh : ∀ w, Sat X.W w H → Sat X.W w (G g')) :
    EK X (.till (fun a w => ∃ g', φ g' ∧ μ g' < m ∧ Fits X.N a (E g') ∧ Sat X.W w (G g')) :: k) σ H :=
  EK_till fun a w ha hs => ⟨g', h0, hm, ha.within he, hh w hs⟩
/-- Where ways meet. -/
theorem EK_join {c : Code} {γ : Type} (φ : γ → Prop) (E : γ → Env) (G : γ → SL) (first : EK X (.code c :: .till (fun a w => ∃ g, φ g ∧ Fits X.N a (E g) ∧ Sat X.W w (G g)) :: k) σ H) (rest : ∀ g, φ g → EK X k (E g) (G g)) : EK X (.code c :: k) σ H := by
  intro a w ha hs
  refine wp_mono (first a w ha hs) ?_
  intro e a' w' q
  cases e with
  | normal =>
    obtain ⟨g, h1, h2, h3⟩ := q
    exact rest g h1 a' w' h2 h3
  | exit id => exact q
  | goto l => exact q
  | ret => exact q
  | panic ch => exact q
  | outgrown => exact q
theorem EK_meet {γ : Type} {φ : γ → Prop} {E : γ → Env} {G : γ → SL} (g' : γ) (h0 : φ g') (he : Env.within σ (E g')) (hh : ∀ w, Sat X.W w H → Sat X.W w (G g')) :
    EK X (.till (fun a w => ∃ g', φ g' ∧ Fits X.N a (E g') ∧ Sat X.W w (G g')) :: k) σ H :=
  EK_till fun a w ha hs => ⟨g', h0, ha.within he, hh w hs⟩
/-- The assertion, said otherwise. -/
theorem EK_le {H1 : SL} (hh : ∀ w, Sat X.W w H → Sat X.W w H1) (h : EK X k σ H1) : EK X k σ H := fun a w ha hs => h a w ha (hh w hs)
theorem EL_le {H1 : SL} (hh : ∀ w, Sat X.W w H → Sat X.W w H1) (h : EL X k ops l σ H1) : EL X k ops l σ H := fun a w ha hs => h a w ha (hh w hs)

end Go.Proofs.Ytdmmahhnfnefoaa
