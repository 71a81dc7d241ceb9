/-
  Sl, Sx, Sy, Sz, Sw, Sv, Su, Sa, Ss, St: joined by a program (wip/bundle.py).
-/
import Derived.WalkKit
import Derived.Deep.Draws
import Derived.StillTail
import Derived.StillTailTactics
import Derived.Lib.ConvBytes
import Derived.Laws.IdiomStrings
import Derived.Laws.StructEq
import Derived.ChangeKeysEq
namespace Go.Proofs.YtianbkbehjppoaaGreatDoor
open Go.RowKit

/-- An assertion on a part of the heap. -/
def SL : Type := (Nat → Option Obj) → Prop

namespace SL
/-- Two parts that share no block. -/
def sep (P Q : SL) : SL := fun h => ∃ h1 h2, P h1 ∧ Q h2 ∧ (∀ b, h1 b = none ∨ h2 b = none) ∧ (∀ b, h b = (h1 b).or (h2 b))
instance : Mul SL := ⟨sep⟩
/-- Nothing. -/
def emp : SL := fun h => ∀ b, h b = none
instance : One SL := ⟨emp⟩
theorem or_comm' {a b : Option Obj} (h : a = none ∨ b = none) : a.or b = b.or a := by
  rcases h with rfl | rfl <;> simp

theorem sep_comm (P Q : SL) : P * Q = Q * P := by
  have aux : ∀ (P Q : SL) h, sep P Q h → sep Q P h := by
    rintro P Q h ⟨h1, h2, p, q, d, e⟩
    exact ⟨h2, h1, q, p, fun b => (d b).symm, fun b => by rw [e b, or_comm' (d b)]⟩
  exact funext fun h => propext ⟨aux P Q h, aux Q P h⟩

theorem sep_assoc (P Q R : SL) : P * Q * R = P * (Q * R) := by
  refine funext fun h => propext ⟨?_, ?_⟩
  · rintro ⟨h12, h3, ⟨h1, h2, p, q, d, e⟩, r, d', e'⟩
    refine ⟨h1, fun b => (h2 b).or (h3 b), p, ⟨h2, h3, q, r, fun b => ?_, fun b => rfl⟩, fun b => ?_, fun b => ?_⟩
    · have := d' b; rw [e b] at this; cases hh : h1 b <;> simp_all
    · have := d' b; rw [e b] at this; have := d b; cases hh : h1 b <;> simp_all
    · rw [e' b, e b, Option.or_assoc]
  · rintro ⟨h1, h23, p, ⟨h2, h3, q, r, d, e⟩, d', e'⟩
    refine ⟨fun b => (h1 b).or (h2 b), h3, ⟨h1, h2, p, q, fun b => ?_, fun b => rfl⟩, r, fun b => ?_, fun b => ?_⟩
    · have := d' b; rw [e b] at this; cases hh : h1 b <;> simp_all
    · have := d' b; rw [e b] at this; have := d b; cases hh : h1 b <;> simp_all
    · rw [e' b, e b, Option.or_assoc]

theorem sep_emp (P : SL) : P * (1 : SL) = P := by
  refine funext fun h => propext ⟨?_, fun p => ⟨h, fun _ => none, p, fun _ => rfl, fun _ => .inr rfl, fun _ => by simp⟩⟩
  rintro ⟨h1, h2, p, q, d, e⟩
  obtain rfl : h = h1 := funext fun b => by rw [e b, q b]; simp
  exact p
theorem emp_sep (P : SL) : (1 : SL) * P = P := by rw [sep_comm, sep_emp]

instance : Std.Associative (α := SL) (· * ·) := ⟨sep_assoc⟩
instance : Std.Commutative (α := SL) (· * ·) := ⟨sep_comm⟩
instance : Std.LawfulIdentity (α := SL) (· * ·) (1 : SL) where
  left_id := emp_sep
  right_id := sep_emp

/-- A block with what it holds. -/
def blk (b : Nat) (o : Obj) : SL := fun h => ∀ k, h k = if k = b then some o else none
/-- A fact beside. -/
def pure (p : Prop) : SL := fun h => p ∧ emp h
/-- There is one such. -/
def ex {α : Sort _} (P : α → SL) : SL := fun h => ∃ a, P a h
/-- Stronger. -/
def le (P Q : SL) : Prop := ∀ h, P h → Q h

/-- Whatever bears P bears the block b. -/
def Has (P : SL) (b : Nat) : Prop := ∀ h, P h → ∃ o, h b = some o
theorem Has.blk (b : Nat) (o : Obj) : Has (SL.blk b o) b := fun h p => ⟨o, by rw [p b]; simp⟩
theorem Has.left {P : SL} {b : Nat} (h : Has P b) (Q : SL) : Has (P * Q) b := by
  rintro x ⟨h1, h2, p, q, d, e⟩
  obtain ⟨o, ho⟩ := h h1 p
  exact ⟨o, by rw [e b, ho]; simp⟩
theorem Has.right {Q : SL} {b : Nat} (h : Has Q b) (P : SL) : Has (P * Q) b := by
  rw [sep_comm]
  exact h.left P

theorem le_refl (P : SL) : le P P := fun _ h => h
theorem le_trans {P Q R : SL} (h : le P Q) (k : le Q R) : le P R := fun x p => k x (h x p)
theorem sep_mono {P P' Q Q' : SL} (h : le P P') (k : le Q Q') : le (P * Q) (P' * Q') :=
  fun _ ⟨h1, h2, p, q, d, e⟩ => ⟨h1, h2, h h1 p, k h2 q, d, e⟩
theorem le_ex {α : Sort _} (P : α → SL) (a : α) : le (P a) (ex P) := fun _ p => ⟨a, p⟩
theorem sep_ex {α : Sort _} (P : α → SL) (F : SL) : ex P * F = ex fun a => P a * F := by
  refine funext fun h => propext ⟨?_, ?_⟩
  · rintro ⟨h1, h2, ⟨a, p⟩, q, d, e⟩; exact ⟨a, h1, h2, p, q, d, e⟩
  · rintro ⟨a, h1, h2, p, q, d, e⟩; exact ⟨h1, h2, ⟨a, p⟩, q, d, e⟩
end SL

/-- The world w: below W's size as W; and its newer blocks bear P (and maybe more). -/
structure Sat (W w : World) (P : SL) : Prop where
  below : Below W.heap.size W w
  has : ∃ h, P h ∧ ∀ b o, h b = some o → W.heap.size ≤ b ∧ w.heap[b]? = some o

namespace Sat
variable {W w w' : World} {P Q R F : SL}

theorem start (W : World) : Sat W W 1 := ⟨Below.refl _ _, fun _ => none, fun _ => rfl, fun _ _ h => by simp at h⟩

theorem ac (h : Sat W w P) (e : P = Q) : Sat W w Q := e ▸ h
theorem mono (h : Sat W w P) (k : SL.le P Q) : Sat W w Q := ⟨h.below, let ⟨x, p, q⟩ := h.has; ⟨x, k x p, q⟩⟩
theorem left (h : Sat W w (P * F)) (k : SL.le P Q) : Sat W w (Q * F) := h.mono (SL.sep_mono k (SL.le_refl _))

theorem swap (h : Sat W w (P * (Q * F))) : Sat W w (Q * (P * F)) := h.ac (by ac_rfl)

/-- Something of it is forgotten. -/
theorem drop (h : Sat W w (P * F)) : Sat W w F := by
  obtain ⟨hb, x, ⟨h1, h2, p, q, d, e⟩, hx⟩ := h
  refine ⟨hb, h2, q, fun b o ho => hx b o ?_⟩
  have := d b
  rw [e b]
  cases hh : h1 b <;> simp_all

/-- A fact comes out. -/
theorem out {p : Prop} (h : Sat W w (SL.pure p * F)) : p ∧ Sat W w F := by
  refine ⟨?_, h.drop⟩
  obtain ⟨_, x, ⟨h1, h2, p, q, d, e⟩, hx⟩ := h
  exact p.1
theorem put {p : Prop} (hp : p) (h : Sat W w F) : Sat W w (SL.pure p * F) := by
  obtain ⟨hb, x, q, hx⟩ := h
  exact ⟨hb, x, ⟨fun _ => none, x, ⟨hp, fun _ => rfl⟩, q, fun _ => .inl rfl, fun _ => by simp⟩, hx⟩

theorem ex_out {α : Sort _} {P : α → SL} (h : Sat W w (SL.ex P * F)) : ∃ a, Sat W w (P a * F) := by
  rw [SL.sep_ex] at h
  obtain ⟨hb, x, ⟨a, p⟩, hx⟩ := h
  exact ⟨a, hb, x, p, hx⟩
theorem ex_in {α : Sort _} {P : α → SL} (a : α) (h : Sat W w (P a * F)) : Sat W w (SL.ex P * F) := h.left (SL.le_ex P a)

/-- What a block holds. -/
theorem get {b : Nat} {o : Obj} (h : Sat W w (SL.blk b o * F)) : w.heap[b]? = some o := by
  obtain ⟨_, x, ⟨h1, h2, p, q, d, e⟩, hx⟩ := h
  exact (hx b o (by rw [e b, p b]; simp)).2
theorem ge {b : Nat} {o : Obj} (h : Sat W w (SL.blk b o * F)) : W.heap.size ≤ b := by
  obtain ⟨_, x, ⟨h1, h2, p, q, d, e⟩, hx⟩ := h
  exact (hx b o (by rw [e b, p b]; simp)).1
theorem lt {b : Nat} {o : Obj} (h : Sat W w (SL.blk b o * F)) : b < w.heap.size := lt_of_block h.get
/-- The same blocks stand in another world. -/
theorem keep (h : Sat W w F) (hs : w.heap.size ≤ w'.heap.size) (ho : w'.os = w.os) (ht : w'.tape = w.tape) (hu : w'.output = w.output) (hb : ∀ k, k < w.heap.size → w'.heap[k]? = w.heap[k]?) : Sat W w' F := by
  obtain ⟨hbe, x, q, hx⟩ := h
  refine ⟨hbe.trans ⟨ho, ht, hu, hs, fun k hk => hb k (by have := hbe.size; omega)⟩, x, q, fun b o h => ?_⟩
  have := hx b o h
  exact ⟨this.1, by rw [hb b (lt_of_block this.2)]; exact this.2⟩

/-- One block is written. -/
theorem write {b : Nat} {o o' : Obj} (h : Sat W w (SL.blk b o * F)) (hs : w.heap.size ≤ w'.heap.size) (ho : w'.os = w.os) (ht : w'.tape = w.tape) (hu : w'.output = w.output)
    (hb : ∀ k, k < w.heap.size → k ≠ b → w'.heap[k]? = w.heap[k]?) (hn : w'.heap[b]? = some o') : Sat W w' (SL.blk b o' * F) := by
  have hge := h.ge
  obtain ⟨hbe, x, ⟨h1, h2, p, q, d, e⟩, hx⟩ := h
  refine ⟨hbe.trans ⟨ho, ht, hu, hs, fun k hk => hb k (by have := hbe.size; omega) (by omega)⟩, fun k => (if k = b then some o' else none : Option Obj).or (h2 k), ⟨fun k => if k = b then some o' else none, h2, fun _ => rfl, q, fun k => ?_, fun k => rfl⟩, fun k u hk => ?_⟩
  · have := d k
    rw [p k] at this
    by_cases hkb : k = b <;> simp_all
  · by_cases hkb : k = b
    · subst hkb
      simp at hk
      exact ⟨hge, by rw [hn, hk]⟩
    · simp [hkb] at hk
      have := hx k u (by rw [e k, p k]; simp [hkb, hk])
      exact ⟨this.1, by rw [hb k (lt_of_block this.2) hkb]; exact this.2⟩

/-- A new block. -/
theorem new (h : Sat W w F) {o : Obj} {b : Nat} (hbw : b = w.heap.size) (hs : w.heap.size < w'.heap.size) (ho : w'.os = w.os) (ht : w'.tape = w.tape) (hu : w'.output = w.output)
    (hb : ∀ k, k < w.heap.size → w'.heap[k]? = w.heap[k]?) (hn : w'.heap[b]? = some o) : Sat W w' (SL.blk b o * F) := by
  subst hbw
  obtain ⟨hbe, x, q, hx⟩ := h
  refine ⟨hbe.trans ⟨ho, ht, hu, by omega, fun k hk => hb k (by have := hbe.size; omega)⟩, fun k => (if k = w.heap.size then some o else none : Option Obj).or (x k), ⟨fun k => if k = w.heap.size then some o else none, x, fun _ => rfl, q, fun k => ?_, fun _ => rfl⟩, fun k u hk => ?_⟩
  · by_cases hk : k = w.heap.size
    · right
      cases hxk : x k with
      | none => rfl
      | some u => have := lt_of_block (hx k u hxk).2; omega
    · simp [hk]
  · by_cases hkb : k = w.heap.size
    · simp [hkb] at hk
      exact ⟨by have := hbe.size; omega, by rw [hkb, hn, hk]⟩
    · simp [hkb] at hk
      have := hx k u hk
      exact ⟨this.1, by rw [hb k (lt_of_block this.2)]; exact this.2⟩

theorem set {b : Nat} {c : Array Value} {t : TypeId} (h : Sat W w (SL.blk b (.cells c t (0, 0)) * F)) (i : Nat) (v : Value) :
    Sat W (w.setCell ⟨b, i, none⟩ v) (SL.blk b (.cells (c.setIfInBounds i v) t (0, 0)) * F) := by
  have hg := h.get
  refine h.write (by simp [World.setCell]) rfl rfl rfl (fun k _ hk => Below.heap_setCell _ _ _ _ hk) ?_
  simp only [World.setCell, Array.getElem?_modify, ↓reduceIte, hg, Option.map_some]
  simp
theorem alloc (h : Sat W w F) (o : Obj) : Sat W (w.alloc o) (SL.blk w.heap.size o * F) :=
  h.new rfl (by simp) rfl rfl rfl (fun k hk => Below.heap_alloc _ _ _ hk) (heap_alloc_new w o)
theorem drew (h : Sat W w F) : Sat W w.drew F := h.keep (Nat.le_refl _) rfl rfl rfl (fun _ _ => rfl)
theorem drewN (h : Sat W w F) (n : Nat) : Sat W (w.drewN n) F := h.keep (Nat.le_refl _) rfl rfl rfl (fun _ _ => rfl)
theorem size (h : Sat W w F) : W.heap.size ≤ w.heap.size := h.below.size

/-- The cells of a block. -/
theorem cell {b : Nat} {c : Array Value} {t : TypeId} (h : Sat W w (SL.blk b (.cells c t (0, 0)) * F)) (i : Nat) : w.cell? ⟨b, i, none⟩ = c[i]? := by
  simp [World.cell?, h.get]
theorem free {b : Nat} {c : Array Value} {t : TypeId} (h : Sat W w (SL.blk b (.cells c t (0, 0)) * F)) (i : Nat) : w.frozen? ⟨b, i, none⟩ = false := by
  simp [World.frozen?, h.get]
end Sat

/-! ### make -/
end Go.Proofs.YtianbkbehjppoaaGreatDoor

namespace Go.Proofs.YtianbkbehjppoaaGreatDoor
open Go.RowKit

/-! ### The temporaries -/
abbrev Env := List (Nat × Value)
def Env.get : Env → Nat → Option Value
  | [], _ => none
  | (t, v) :: σ, s => match Nat.beq t s with
    | true => some v
    | false => Env.get σ s

structure Fits (N : Nat) (a : Act) (σ : Env) : Prop where
  size : a.tmps.size = N
  defers : a.defers = []
  vals : ∀ t v, σ.get t = some v → a.tmps[t]? = some v

def ev (σ : Env) : Operand → Option Value
  | .tmp t => σ.get t
  | .const v => some v
  | .global g => some (.pointer (some ⟨g, 0, none⟩))
  | .func f => some (.func (.func f) #[] #[])
def evs (σ : Env) : List Operand → Option (List Value)
  | [] => some []
  | x :: l => match ev σ x with
    | some v => match evs σ l with
      | some vs => some (v :: vs)
      | none => none
    | none => none

section env
variable {N : Nat} {a : Act} {σ σ' : Env}
theorem Fits.eval (h : Fits N a σ) {x : Operand} {v : Value} (hx : ev σ x = some v) : a.eval x = v := by
  cases x with
  | tmp t =>
    have := h.vals t v hx
    simp [Act.eval, this]
  | const u => simpa [ev, Act.eval] using hx
  | global g => simpa [ev, Act.eval] using hx
  | func f => simpa [ev, Act.eval] using hx
theorem Fits.evals (h : Fits N a σ) : ∀ {l : List Operand} {vs : List Value}, evs σ l = some vs → l.map a.eval = vs
  | [], vs, hx => by simpa [evs] using hx
  | x :: l, vs, hx => by
    simp only [evs] at hx
    split at hx
    · rename_i v hv
      split at hx
      · rename_i us hus
        simp only [Option.some.injEq] at hx
        subst hx
        rw [List.map_cons, h.eval hv, h.evals hus]
      · simp at hx
    · simp at hx
theorem Env.get_cons (σ : Env) (d s : Nat) (v : Value) : Env.get ((d, v) :: σ) s = if d = s then some v else σ.get s := by
  simp only [Env.get]
  split
  · rename_i h; rw [if_pos (Nat.eq_of_beq_eq_true h)]
  · rename_i h; rw [if_neg (Nat.ne_of_beq_eq_false h)]
theorem Fits.put (h : Fits N a σ) {d : Nat} (hd : Nat.blt d N = true) (v : Value) : Fits N (a.put (some d) v) ((d, v) :: σ) where
  size := by simpa [Act.put] using h.size
  defers := h.defers
  vals := fun t u ht => by
    have hd : d < N := Nat.le_of_ble_eq_true hd
    rw [Env.get_cons] at ht
    split at ht
    · rename_i e
      subst e
      simp only [Option.some.injEq] at ht
      subst ht
      simp [Act.put, h.size, hd]
    · rename_i e
      simp [Act.put, Array.getElem?_setIfInBounds_ne e, h.vals t u ht]
theorem Fits.put_none (h : Fits N a σ) (v : Value) : Fits N (a.put none v) σ := h
/-- Less is said. -/
theorem Fits.sub (h : Fits N a σ) (k : ∀ t v, σ'.get t = some v → σ.get t = some v) : Fits N a σ' := ⟨h.size, h.defers, fun t v ht => h.vals t v (k t v ht)⟩
theorem Fits.fact (h : Fits N a σ) {t : Nat} {v u : Value} (ht : σ.get t = some v) (e : v = u) : Fits N a ((t, u) :: σ) := h.sub fun s w hs => by
  rw [Env.get_cons] at hs
  split at hs
  · rename_i e'
    subst e' e
    rw [ht]
    exact hs
  · exact hs
/-- Every temporary of σ' is in σ. -/
def Env.within (σ : Env) : Env → Prop
  | [] => True
  | (t, v) :: σ' => σ.get t = some v ∧ Env.within σ σ'
theorem Env.within_get : ∀ {σ' : Env}, Env.within σ σ' → ∀ t v, σ'.get t = some v → σ.get t = some v
  | [], _, _, _, h => by simp [Env.get] at h
  | (s, u) :: σ', hw, t, v, h => by
    rw [Env.get_cons] at h
    split at h
    · rename_i e
      subst e
      simp only [Option.some.injEq] at h
      subst h
      exact hw.1
    · exact Env.within_get hw.2 t v h
theorem Fits.within (h : Fits N a σ) (k : Env.within σ σ') : Fits N a σ' := h.sub (Env.within_get k)
end env

/-! ### What is left to do -/
inductive KI where
  | code (c : Code)
  | block (id : Nat)
  | till (J : Act → World → Prop)

def run (P : Program) (R : Exit → Act → World → Prop) : List KI → Exit → Act → World → Prop
  | [] => R
  | .code c :: k => Exit.then (fun a w => c.wp P (run P R k) a w) (run P R k)
  | .block id :: k => Exit.inBlock id (run P R k)
  | .till J :: k => Exit.then J (run P R k)

structure Cx where
  P : Program
  N : Nat
  W : World
  R : Exit → Act → World → Prop

variable {X : Cx} {k : List KI} {σ : Env} {H : SL}

def EK (X : Cx) (k : List KI) (σ : Env) (H : SL) : Prop := ∀ a w, Fits X.N a σ → Sat X.W w H → run X.P X.R k .normal a w
def EX (X : Cx) (id : Nat) (k : List KI) (σ : Env) (H : SL) : Prop := ∀ a w, Fits X.N a σ → Sat X.W w H → run X.P X.R k (.exit id) a w
def ER (X : Cx) (σ : Env) (H : SL) : Prop := ∀ a w, Fits X.N a σ → Sat X.W w H → X.R .ret a w
def EN (X : Cx) (σ : Env) (H : SL) : Prop := ∀ a w, Fits X.N a σ → Sat X.W w H → X.R .normal a w
def EL (X : Cx) (k : List KI) (ops : List Oper) (l : List Oper) (σ : Env) (H : SL) : Prop := ∀ a w, Fits X.N a σ → Sat X.W w H → wpList X.P ops.toArray (run X.P X.R k) l a w

theorem run_ret (P : Program) (R : Exit → Act → World → Prop) (a : Act) (w : World) : ∀ k, run P R k .ret a w = R .ret a w
  | [] => rfl
  | .code c :: k => run_ret P R a w k
  | .block id :: k => run_ret P R a w k
  | .till J :: k => run_ret P R a w k

theorem EK_seq {x y : Code} (h : EK X (.code x :: .code y :: k) σ H) : EK X (.code (.seq x y) :: k) σ H := fun a w ha hs => wp_seq (h a w ha hs)
theorem EK_skip (h : EK X k σ H) : EK X (.code .skip :: k) σ H := fun a w ha hs => wp_skip (h a w ha hs)
theorem EK_block {id : Nat} {c : Code} (h : EK X (.code c :: .block id :: k) σ H) : EK X (.code (.block id c) :: k) σ H := fun a w ha hs => wp_block (h a w ha hs)
theorem EK_unblock {id : Nat} (h : EK X k σ H) : EK X (.block id :: k) σ H := fun a w ha hs => h a w ha hs
theorem EK_exit {id : Nat} (h : EX X id k σ H) : EK X (.code (.exit id) :: k) σ H := fun a w ha hs => wp_exit (h a w ha hs)
theorem EX_code {id : Nat} {c : Code} (h : EX X id k σ H) : EX X id (.code c :: k) σ H := fun a w ha hs => h a w ha hs
theorem EX_till {id : Nat} {J : Act → World → Prop} (h : EX X id k σ H) : EX X id (.till J :: k) σ H := fun a w ha hs => h a w ha hs
theorem EX_here {id : Nat} (h : EK X k σ H) : EX X id (.block id :: k) σ H := fun a w ha hs => by
  show Exit.inBlock id _ _ _ _
  simp only [Exit.inBlock, if_true]
  exact h a w ha hs
theorem EX_past {id id' : Nat} (hn : Nat.beq id id' = false) (h : EX X id k σ H) : EX X id (.block id' :: k) σ H := fun a w ha hs => by
  show Exit.inBlock id' _ _ _ _
  simp only [Exit.inBlock, if_neg (Nat.ne_of_beq_eq_false hn)]
  exact h a w ha hs
theorem EK_ret (h : ER X σ H) : EK X (.code .ret :: k) σ H := fun a w ha hs => wp_ret (by
  show run X.P X.R k .ret a w
  rw [run_ret]
  exact h a w ha hs)
theorem EK_end (h : EN X σ H) : EK X [] σ H := h
theorem EK_till {J : Act → World → Prop} (h : ∀ a w, Fits X.N a σ → Sat X.W w H → J a w) : EK X (.till J :: k) σ H := h
/-! tests -/
theorem EK_cond {c : Operand} {x y : Code} {b : Bool} (hc : ev σ c = some (.bool b)) (h1 : b = true → EK X (.code x :: k) σ H) (h2 : b = false → EK X (.code y :: k) σ H) : EK X (.code (.cond c x y) :: k) σ H := by
  intro a w ha hs
  refine wp_cond (ha.eval hc) ?_
  cases b with
  | true => exact h1 rfl a w ha hs
  | false => exact h2 rfl a w ha hs
theorem EK_cond_true {c : Operand} {x y : Code} (hc : ev σ c = some (.bool true)) (h : EK X (.code x :: k) σ H) : EK X (.code (.cond c x y) :: k) σ H := EK_cond hc (fun _ => h) (fun e => by cases e)
theorem EK_cond_false {c : Operand} {x y : Code} (hc : ev σ c = some (.bool false)) (h : EK X (.code y :: k) σ H) : EK X (.code (.cond c x y) :: k) σ H := EK_cond hc (fun e => by cases e) (fun _ => h)
theorem EK_cond_dec {c : Operand} {x y : Code} {p : Prop} [Decidable p] (hc : ev σ c = some (.bool (decide p))) (h1 : p → EK X (.code x :: k) σ H) (h2 : ¬ p → EK X (.code y :: k) σ H) : EK X (.code (.cond c x y) :: k) σ H :=
  EK_cond hc (fun e => h1 (of_decide_eq_true e)) (fun e => h2 (of_decide_eq_false e))
theorem EK_cond_ndec {c : Operand} {x y : Code} {p : Prop} [Decidable p] (hc : ev σ c = some (.bool (!decide p))) (h1 : ¬ p → EK X (.code x :: k) σ H) (h2 : p → EK X (.code y :: k) σ H) : EK X (.code (.cond c x y) :: k) σ H :=
  EK_cond hc (fun e => h1 (by simpa using e)) (fun e => h2 (by simpa using e))
/-! regions -/
theorem EK_region {id : Nat} {ops : List Oper} (h : EL X k ops ops σ H) : EK X (.code (.region id ops.toArray false) :: k) σ H := fun a w ha hs => wp_region_lit (h a w ha hs)
theorem EL_nil {ops : List Oper} (h : EK X k σ H) : EL X k ops [] σ H := h

/-- What an operation yields, the world as it was. -/
def OpVal (X : Cx) (σ : Env) (H : SL) (o : Oper) (v : Value) : Prop := ∀ a w, Fits X.N a σ → Sat X.W w H → (execOp a.eval o).run X.P w = .ok (.value v) w
/-- What an operation does, of which the assertion speaks. -/
def OpDoes (X : Cx) (σ : Env) (H : SL) (o : Oper) {α : Type} (r : α → Value) (H' : α → SL) : Prop :=
  ∀ a w, Fits X.N a σ → Sat X.W w H → ∃ x w', (execOp a.eval o).run X.P w = .ok (.value (r x)) w' ∧ Sat X.W w' (H' x)
/-- A store. -/
def OpSkip (X : Cx) (σ : Env) (H : SL) (o : Oper) (H' : SL) : Prop := ∀ a w, Fits X.N a σ → Sat X.W w H → ∃ w', (execOp a.eval o).run X.P w = .ok .skip w' ∧ Sat X.W w' H'

variable {ops l : List Oper} {o : Oper}

theorem EL_val {d : Nat} {v : Value} {op : Op} {ty : TypeId} {pos : String} {aft : Array Edge} (hv : OpVal X σ H ⟨some d, op, ty, pos, aft, none⟩ v) (hd : Nat.blt d X.N = true) (h : EL X k ops l ((d, v) :: σ) H) :
    EL X k ops (⟨some d, op, ty, pos, aft, none⟩ :: l) σ H := by
  intro a w ha hs
  refine wpList_plain rfl fun K hK => ?_
  unfold Oper.wp
  rw [hv a w ha hs]
  exact hK _ _ (h _ _ (ha.put hd v) hs)
theorem EL_does {α : Type} {r : α → Value} {H' : α → SL} {d : Nat} {op : Op} {ty : TypeId} {pos : String} {aft : Array Edge} (hv : OpDoes X σ H ⟨some d, op, ty, pos, aft, none⟩ r H') (hd : Nat.blt d X.N = true) (h : ∀ x, EL X k ops l ((d, r x) :: σ) (H' x)) :
    EL X k ops (⟨some d, op, ty, pos, aft, none⟩ :: l) σ H := by
  intro a w ha hs
  refine wpList_plain rfl fun K hK => ?_
  unfold Oper.wp
  obtain ⟨x, w', hr, hs'⟩ := hv a w ha hs
  rw [hr]
  exact hK _ _ (h x _ _ (ha.put hd _) hs')
theorem EL_skip {H' : SL} {op : Op} {ty : TypeId} {pos : String} {aft : Array Edge} (hv : OpSkip X σ H ⟨none, op, ty, pos, aft, none⟩ H') (h : EL X k ops l σ H') :
    EL X k ops (⟨none, op, ty, pos, aft, none⟩ :: l) σ H := by
  intro a w ha hs
  refine wpList_plain rfl fun K hK => ?_
  unfold Oper.wp
  obtain ⟨w', hr, hs'⟩ := hv a w ha hs
  rw [hr]
  exact hK _ _ (h _ _ ha hs')

/-! guards -/
theorem wanted_of {a : Act} (ha : Fits X.N a σ) {gj t : Nat} {b want : Bool} (hj : (ops[gj]?).bind (·.dst) = some t) (ht : σ.get t = some (.bool b)) (hg : o.guard = some (gj, want)) : Region.wanted o (yielded ops.toArray a.tmps) = (b == want) := by
  simp only [Region.wanted, hg, yielded, List.getElem?_toArray, hj, Option.bind_some, ha.vals t _ ht]
  cases b <;> cases want <;> rfl
theorem EL_guard_yes {d : Option Nat} {op : Op} {ty : TypeId} {pos : String} {aft : Array Edge} {gj t : Nat} {want : Bool} (hj : (ops[gj]?).bind (·.dst) = some t) (ht : σ.get t = some (.bool want))
    (h : EL X k ops (⟨d, op, ty, pos, aft, none⟩ :: l) σ H) : EL X k ops (⟨d, op, ty, pos, aft, some (gj, want)⟩ :: l) σ H := by
  intro a w ha hs
  have h1 := h a w ha hs
  unfold wpList at h1 ⊢
  rw [wanted_of (o := ⟨d, op, ty, pos, aft, some (gj, want)⟩) ha hj ht rfl, if_pos (by simp)]
  rw [if_pos (by simp [Region.wanted])] at h1
  exact h1
theorem EL_guard_no {d : Nat} {op : Op} {ty : TypeId} {pos : String} {aft : Array Edge} {gj t : Nat} {want : Bool} (hj : (ops[gj]?).bind (·.dst) = some t) (ht : σ.get t = some (.bool !want)) (hd : Nat.blt d X.N = true)
    (h : EL X k ops l ((d, undef) :: σ) H) : EL X k ops (⟨some d, op, ty, pos, aft, some (gj, want)⟩ :: l) σ H := by
  intro a w ha hs
  unfold wpList
  rw [wanted_of (o := ⟨some d, op, ty, pos, aft, some (gj, want)⟩) ha hj ht rfl, if_neg (by cases want <;> simp)]
  exact h _ _ (ha.put hd _) hs
theorem EL_guard_undef {d : Nat} {op : Op} {ty : TypeId} {pos : String} {aft : Array Edge} {gj t : Nat} {want : Bool} (hj : (ops[gj]?).bind (·.dst) = some t) (ht : σ.get t = some undef) (hd : Nat.blt d X.N = true)
    (h : EL X k ops l ((d, undef) :: σ) H) : EL X k ops (⟨some d, op, ty, pos, aft, some (gj, want)⟩ :: l) σ H := by
  intro a w ha hs
  unfold wpList
  have hw : Region.wanted (⟨some d, op, ty, pos, aft, some (gj, want)⟩ : Oper) (yielded ops.toArray a.tmps) = false := by
    simp only [Region.wanted, yielded, List.getElem?_toArray, hj, Option.bind_some, ha.vals t _ ht]
    rfl
  rw [hw, if_neg (by simp)]
  exact h _ _ (ha.put hd _) hs
/-- A guard is parted on. -/
theorem EL_guard_split {d : Option Nat} {op : Op} {ty : TypeId} {pos : String} {aft : Array Edge} {gj t : Nat} {b want : Bool} (hj : (ops[gj]?).bind (·.dst) = some t) (ht : σ.get t = some (.bool b))
    (h1 : b = true → EL X k ops (⟨d, op, ty, pos, aft, some (gj, want)⟩ :: l) ((t, .bool true) :: σ) H) (h2 : b = false → EL X k ops (⟨d, op, ty, pos, aft, some (gj, want)⟩ :: l) ((t, .bool false) :: σ) H) :
    EL X k ops (⟨d, op, ty, pos, aft, some (gj, want)⟩ :: l) σ H := by
  intro a w ha hs
  cases hb : b with
  | true => exact h1 hb a w (ha.fact ht (by rw [hb])) hs
  | false => exact h2 hb a w (ha.fact ht (by rw [hb])) hs

/-! calls -/
def Post (W : World) {α : Type} (r : α → Value) (H' : α → SL) : Ending → World → Prop := fun e w' => ∃ x, e = .returned (r x) ∧ Sat W w' (H' x)
/-- The contract of a function at these arguments. -/
def Spec (P : Program) (f : FuncId) (vs : List Value) (W : World) (H : SL) {α : Type} (r : α → Value) (H' : α → SL) : Prop := ∀ w, Sat W w H → Calls P f vs.toArray w (Post W r H')

class IsFn (P : Program) (f : FuncId) : Prop where
  runs : ∀ args w, (callFunc f args).run P w = .ok (.enter f args) w

theorem run_call {f : FuncId} [IsFn X.P f] {args : Array Operand} {ats : Array TypeId} {vs : List Value} {d : Option Nat} {ty : TypeId} {pos : String} {aft : Array Edge} {a : Act} {w : World} (ha : Fits X.N a σ) (hargs : evs σ args.toList = some vs) :
    (execOp a.eval ⟨d, .call { callee := .value (.func f), args := args, argTypes := ats }, ty, pos, aft, none⟩).run X.P w = .ok (.enter f vs.toArray) w := by
  have e1 : args.map a.eval = vs.toArray := by
    have := ha.evals hargs
    rw [← this, ← List.map_toArray, Array.toArray_toList]
  simp only [execOp, resolve, e1, Act.eval, Deferred.ofValue, Sem.run_bind, Sem.run_pure, Result.andThen_ok, invoke, Array.empty_append, Array.append_empty]
  exact IsFn.runs _ _
theorem EL_call {α : Type} {r : α → Value} {H' : α → SL} {f : FuncId} [IsFn X.P f] {args : Array Operand} {ats : Array TypeId} {vs : List Value} {d : Nat} {ty : TypeId} {pos : String} {aft : Array Edge}
    (hargs : evs σ args.toList = some vs) (hc : Spec X.P f vs X.W H r H') (h : ∀ x, EL X k ops l ((d, r x) :: σ) (H' x)) (hd : Nat.blt d X.N = true := by rfl) :
    EL X k ops (⟨some d, .call { callee := .value (.func f), args := args, argTypes := ats }, ty, pos, aft, none⟩ :: l) σ H := by
  intro a w ha hs
  refine wpList_plain rfl fun K hK => ?_
  unfold Oper.wp
  rw [run_call ha hargs, Oper.upon_enter]
  refine (hc w hs).mono ?_
  rintro e w' ⟨x, rfl, hs'⟩
  exact hK _ _ (h x _ _ (ha.put hd _) hs')
/-! entering, leaving -/
def argsEnv : Nat → List Value → Env
  | _, [] => []
  | i, v :: l => (i, v) :: argsEnv (i + 1) l
theorem argsEnv_get : ∀ (l : List Value) (i t : Nat) (v : Value), (argsEnv i l).get t = some v → i ≤ t ∧ l[t - i]? = some v
  | [], _, _, _, h => by simp [argsEnv, Env.get] at h
  | u :: l, i, t, v, h => by
    rw [argsEnv, Env.get_cons] at h
    split at h
    · rename_i e
      subst e
      simp only [Option.some.injEq] at h
      subst h
      simp
    · have := argsEnv_get l (i + 1) t v h
      refine ⟨by omega, ?_⟩
      rw [show t - i = (t - (i + 1)) + 1 by omega, List.getElem?_cons_succ]
      exact this.2

theorem Spec.of {P : Program} {f : FuncId} {fn : Func} {c : Code} {N : Nat} {W : World} {α : Type} {r : α → Value} {H' : α → SL} {vs : List Value} (hf : P.funcs[f]? = some fn) (hb : fn.body = some c) (hn : fn.ntmps = N) (hl : Nat.ble vs.length N = true)
    (h : EK ⟨P, N, W, bodyPost P fn (Post W r H')⟩ [.code c] (argsEnv 0 vs) H) : Spec P f vs W H r H' := by
  intro w hs
  subst hn
  have hl := Nat.le_of_ble_eq_true hl
  refine calls_of_wp hf hb ?_
  refine wp_mono (h _ w ⟨?_, rfl, fun t v ht => ?_⟩ hs) (fun e a w q => q)
  · simp; omega
  · obtain ⟨_, h2⟩ := argsEnv_get _ _ _ _ ht
    rw [Nat.sub_zero] at h2
    have ht : t < vs.length := (List.getElem?_eq_some_iff.1 h2).1
    rw [Array.getElem?_append_left (by simpa using ht)]
    simpa using h2

section leave
variable {P : Program} {N : Nat} {W : World} {fn : Func} {α : Type} {r : α → Value} {H' : α → SL}
theorem leaves {a : Act} {w : World} {e : Exit} (he : e = .normal ∨ e = .ret) (ha : Fits N a σ) {v : Value} (hr : (results fn a.tmps).run P w = .ok v w) (x : α) (hx : v = r x) (hs : Sat W w (H' x)) : bodyPost P fn (Post W r H') e a w := by
  subst hx
  rcases he with rfl | rfl <;> exact ⟨ha.defers, _, hr, x, rfl, hs⟩
theorem res0 {a : Act} {w : World} (hf : fn.results = #[]) : (results fn a.tmps).run P w = .ok (.tuple #[]) w := by
  simp [results, hf, go_sem]
theorem res1 {a : Act} {w : World} {t : Nat} {v : Value} (ha : Fits N a σ) (hf : fn.results = #[.tmp t]) (ht : σ.get t = some v) : (results fn a.tmps).run P w = .ok v w := by
  have := ha.vals t v ht
  simp [results, hf, go_sem, this]
theorem res2 {a : Act} {w : World} {t s : Nat} {v u : Value} (ha : Fits N a σ) (hf : fn.results = #[.tmp t, .tmp s]) (ht : σ.get t = some v) (hs : σ.get s = some u) : (results fn a.tmps).run P w = .ok (.tuple #[v, u]) w := by
  have h1 := ha.vals t v ht
  have h2 := ha.vals s u hs
  simp [results, hf, go_sem, h1, h2]
theorem ER_0 (hf : fn.results = #[]) (x : α) (hx : .tuple #[] = r x) (hs : ∀ w, Sat W w H → Sat W w (H' x)) : ER ⟨P, N, W, bodyPost P fn (Post W r H')⟩ σ H := fun _ w ha h => leaves (.inr rfl) ha (res0 hf) x hx (hs w h)
theorem ER_1 {t : Nat} {v : Value} (hf : fn.results = #[.tmp t]) (ht : σ.get t = some v) (x : α) (hx : v = r x) (hs : ∀ w, Sat W w H → Sat W w (H' x)) : ER ⟨P, N, W, bodyPost P fn (Post W r H')⟩ σ H := fun _ w ha h => leaves (.inr rfl) ha (res1 ha hf ht) x hx (hs w h)
theorem ER_2 {t s : Nat} {v u : Value} (hf : fn.results = #[.tmp t, .tmp s]) (ht : σ.get t = some v) (ht' : σ.get s = some u) (x : α) (hx : .tuple #[v, u] = r x) (hs : ∀ w, Sat W w H → Sat W w (H' x)) : ER ⟨P, N, W, bodyPost P fn (Post W r H')⟩ σ H := fun _ w ha h => leaves (.inr rfl) ha (res2 ha hf ht ht') x hx (hs w h)
theorem EN_0 (hf : fn.results = #[]) (x : α) (hx : .tuple #[] = r x) (hs : ∀ w, Sat W w H → Sat W w (H' x)) : EN ⟨P, N, W, bodyPost P fn (Post W r H')⟩ σ H := fun _ w ha h => leaves (.inl rfl) ha (res0 hf) x hx (hs w h)
end leave

/-! loops -/
theorem least_of {p : Nat → Prop} : ∀ n, p n → ∃ m, p m ∧ ∀ j, p j → m ≤ j := by
  intro n
  induction n using Nat.strongRecOn with
  | _ n ih =>
    intro hn
    by_cases h : ∃ j, j < n ∧ p j
    · obtain ⟨j, hj, hp⟩ := h
      exact ih j hj hp
    · exact ⟨n, hn, fun j hj => Nat.le_of_not_lt fun hlt => h ⟨j, hlt, hj⟩⟩

theorem EK_loop {c : Code} {γ : Type} (φ : γ → Prop) (E : γ → Env) (G : γ → SL) (μ : γ → Nat) (g0 : γ) (h0 : φ g0) (he : Env.within σ (E g0)) (hh : ∀ w, Sat X.W w H → Sat X.W w (G g0))
    (round : ∀ g, φ g → EK X (.code c :: .till (fun a w => ∃ g', φ g' ∧ μ g' < μ g ∧ Fits X.N a (E g') ∧ Sat X.W w (G g')) :: k) (E g) (G g)) : EK X (.code (.loop c) :: k) σ H := by
  intro a w ha hs
  let q : Act → World → Nat → Prop := fun a w m => ∃ g, μ g = m ∧ φ g ∧ Fits X.N a (E g) ∧ Sat X.W w (G g)
  let I : Act → World → Prop := fun a w => ∃ m, q a w m
  have hleast : ∀ a w, ∃ m, I a w → q a w m ∧ ∀ j, q a w j → m ≤ j := fun a w => by
    by_cases h : I a w
    · obtain ⟨n, hn⟩ := h
      obtain ⟨m, h1, h2⟩ := least_of (p := q a w) n hn
      exact ⟨m, fun _ => ⟨h1, h2⟩⟩
    · exact ⟨0, fun h' => absurd h' h⟩
  let M : Act → World → Nat := fun a w => Classical.choose (hleast a w)
  have hM : ∀ a w, I a w → q a w (M a w) ∧ ∀ j, q a w j → M a w ≤ j := fun a w => Classical.choose_spec (hleast a w)
  refine wp_loop I M ⟨_, g0, rfl, h0, ha.within he, hh w hs⟩ ?_
  intro a w hI
  obtain ⟨⟨g, h1, h2, h3, h4⟩, _⟩ := hM a w hI
  refine wp_mono (round g h2 a w h3 h4) ?_
  intro e a' w' hq
  cases e with
  | normal =>
    obtain ⟨g', k1, k2, k3, k4⟩ := hq
    have hI' : I a' w' := ⟨_, g', rfl, k1, k3, k4⟩
    have hle := (hM a' w' hI').2 (μ g') ⟨g', rfl, k1, k3, k4⟩
    exact ⟨hI', by omega⟩
  | exit id => exact hq
  | goto l => exact hq
  | ret => exact hq
  | panic ch => exact hq
  | outgrown => exact hq
/-- A round's end. -/
theorem EK_round {γ : Type} {φ : γ → Prop} {E : γ → Env} {G : γ → SL} {μ : γ → Nat} {m : Nat} (g' : γ) (h0 : φ g') (hm : μ g' < m) (he : Env.within σ (E g')) (hh : ∀ w, Sat X.W w H → Sat X.W w (G g')) :
    EK X (.till (fun a w => ∃ g', φ g' ∧ μ g' < m ∧ Fits X.N a (E g') ∧ Sat X.W w (G g')) :: k) σ H :=
  EK_till fun a w ha hs => ⟨g', h0, hm, ha.within he, hh w hs⟩
/-- Where ways meet. -/
theorem EK_join {c : Code} {γ : Type} (φ : γ → Prop) (E : γ → Env) (G : γ → SL) (first : EK X (.code c :: .till (fun a w => ∃ g, φ g ∧ Fits X.N a (E g) ∧ Sat X.W w (G g)) :: k) σ H) (rest : ∀ g, φ g → EK X k (E g) (G g)) : EK X (.code c :: k) σ H := by
  intro a w ha hs
  refine wp_mono (first a w ha hs) ?_
  intro e a' w' q
  cases e with
  | normal =>
    obtain ⟨g, h1, h2, h3⟩ := q
    exact rest g h1 a' w' h2 h3
  | exit id => exact q
  | goto l => exact q
  | ret => exact q
  | panic ch => exact q
  | outgrown => exact q
theorem EK_meet {γ : Type} {φ : γ → Prop} {E : γ → Env} {G : γ → SL} (g' : γ) (h0 : φ g') (he : Env.within σ (E g')) (hh : ∀ w, Sat X.W w H → Sat X.W w (G g')) :
    EK X (.till (fun a w => ∃ g', φ g' ∧ Fits X.N a (E g') ∧ Sat X.W w (G g')) :: k) σ H :=
  EK_till fun a w ha hs => ⟨g', h0, ha.within he, hh w hs⟩
/-- The assertion, said otherwise. -/
theorem EK_le {H1 : SL} (hh : ∀ w, Sat X.W w H → Sat X.W w H1) (h : EK X k σ H1) : EK X k σ H := fun a w ha hs => h a w ha (hh w hs)
theorem EL_le {H1 : SL} (hh : ∀ w, Sat X.W w H → Sat X.W w H1) (h : EL X k ops l σ H1) : EL X k ops l σ H := fun a w ha hs => h a w ha (hh w hs)

end Go.Proofs.YtianbkbehjppoaaGreatDoor

namespace Go.Proofs.YtianbkbehjppoaaGreatDoor
open Go.RowKit

/-! ### Finding a part of an assertion -/
class Frame (H P : SL) (F : outParam SL) : Prop where eq : H = P * F
instance (priority := 2000) Frame.here (P F : SL) : Frame (P * F) P F := ⟨rfl⟩
instance (priority := 900) Frame.there (Q R P F : SL) [h : Frame R P F] : Frame (Q * R) P (Q * F) := ⟨by rw [h.eq]; ac_rfl⟩
instance (priority := 500) Frame.last (P : SL) : Frame P P 1 := ⟨(SL.sep_emp P).symm⟩

/-- The part whose root is p. -/
class AtP (H : SL) (p : Option Addr) (C : outParam SL) (F : outParam SL) : Prop where eq : H = C * F
class Root (C : SL) (p : outParam (Option Addr)) : Prop where
  nn : ∀ (W w : World) (F : SL), Sat W w (C * F) → p ≠ none
instance (priority := 900) AtP.there (Q R C F : SL) (p : Option Addr) [h : AtP R p C F] : AtP (Q * R) p C (Q * F) := ⟨by rw [h.eq]; ac_rfl⟩

def off (p : Option Addr) (i : Nat) : Option Addr := p.map (·.add i)
/-- The place q is i cells behind p. -/
class Loc (q : Option Addr) (p : outParam (Option Addr)) (i : outParam Nat) : Prop where eq : q = off p i
instance (priority := 100) Loc.base (p : Option Addr) : Loc p p 0 := ⟨by cases p <;> simp [off, Addr.add]⟩
instance (priority := 2000) Loc.iOff (q p : Option Addr) (i j : Nat) [h : Loc q p i] : Loc (off q j) p (i + j) := ⟨by
  rw [h.eq]
  cases p with
  | none => rfl
  | some a =>
    simp only [Go.Proofs.YtianbkbehjppoaaGreatDoor.off, Option.map_some, Addr.add]
    by_cases hi : i = 0 <;> by_cases hj : j = 0 <;> simp [hi, hj, Nat.add_assoc]⟩

/-- It isn't nil. -/
class NN (H : SL) (q : Option Addr) : Prop where nn : ∀ (W w : World), Sat W w H → q ≠ none

/-! ### An object of cells -/
def Obj (p : Option Addr) (t : TypeId) (cs : List Value) : SL := SL.ex fun b : Nat => SL.pure (p = some ⟨b, 0, none⟩) * SL.blk b (.cells cs.toArray t (0, 0))
instance (priority := 2000) AtP.obj (p : Option Addr) (t : TypeId) (cs : List Value) (F : SL) : AtP (Obj p t cs * F) p (Obj p t cs) F := ⟨rfl⟩
theorem Obj.open {W w : World} {p : Option Addr} {t : TypeId} {cs : List Value} {F : SL} (h : Sat W w (Obj p t cs * F)) : ∃ b, p = some ⟨b, 0, none⟩ ∧ Sat W w (SL.blk b (.cells cs.toArray t (0, 0)) * F) := by
  obtain ⟨b, h⟩ := h.ex_out
  have h := h.ac (SL.sep_assoc _ _ _)
  exact ⟨b, h.out⟩
theorem Obj.shut {W w : World} {p : Option Addr} {t : TypeId} {cs : List Value} {F : SL} {b : Nat} (hp : p = some ⟨b, 0, none⟩) (h : Sat W w (SL.blk b (.cells cs.toArray t (0, 0)) * F)) : Sat W w (Obj p t cs * F) :=
  Sat.ex_in (P := fun b : Nat => SL.pure (p = some ⟨b, 0, none⟩) * SL.blk b (.cells cs.toArray t (0, 0))) b ((h.put hp).ac (SL.sep_assoc _ _ _).symm)
instance Obj.root (p : Option Addr) (t : TypeId) (cs : List Value) : Root (Obj p t cs) p := ⟨fun W w F h => by
  obtain ⟨b, hp, _⟩ := Obj.open h
  simp [hp]⟩
instance NN.root (H C F : SL) (q p : Option Addr) (i : Nat) [hl : Loc q p i] [h : AtP H p C F] [r : Root C p] : NN H q := ⟨fun W w hs => by
  have := r.nn W w F (h.eq ▸ hs)
  rw [hl.eq]
  cases p with
  | none => exact absurd rfl this
  | some a => simp [Go.Proofs.YtianbkbehjppoaaGreatDoor.off]⟩
theorem Obj.cell {W w : World} {p : Option Addr} {t : TypeId} {cs : List Value} {F : SL} (h : Sat W w (Obj p t cs * F)) {i : Nat} {v : Value} (hv : cs[i]? = some v) : ∃ a, off p i = some a ∧ w.cell? a = some v := by
  obtain ⟨b, rfl, hs⟩ := Obj.open h
  refine ⟨(⟨b, 0, none⟩ : Addr).add i, rfl, ?_⟩
  have : (⟨b, 0, none⟩ : Addr).add i = ⟨b, i, none⟩ := by unfold Addr.add; split <;> simp_all
  rw [this, hs.cell]
  simpa using hv
theorem Obj.set {W w : World} {p : Option Addr} {t : TypeId} {cs : List Value} {F : SL} (h : Sat W w (Obj p t cs * F)) {i : Nat} (hi : i < cs.length) (v : Value) :
    ∃ a u, off p i = some a ∧ w.cell? a = some u ∧ w.frozen? a = false ∧ Sat W (w.setCell a v) (Obj p t (cs.set i v) * F) := by
  obtain ⟨b, rfl, hs⟩ := Obj.open h
  have hadd : (⟨b, 0, none⟩ : Addr).add i = ⟨b, i, none⟩ := by unfold Addr.add; split <;> simp_all
  refine ⟨(⟨b, 0, none⟩ : Addr).add i, cs[i], rfl, ?_, ?_, ?_⟩
  · rw [hadd, hs.cell]; simp [hi]
  · rw [hadd]; exact hs.free i
  · rw [hadd]
    have h2 := hs.set i v
    rw [List.setIfInBounds_toArray] at h2
    exact Obj.shut rfl h2
theorem Sat.newObj {W w : World} {F : SL} (h : Sat W w F) (t : TypeId) (cs : List Value) : Sat W (w.alloc (.cells cs.toArray t)) (Obj (some ⟨w.heap.size, 0, none⟩) t cs * F) := Obj.shut rfl (h.alloc _)
/-! ### What the program's table says of types -/
class TInt (P : Program) (t : TypeId) (k : outParam IntKind) : Prop where h : P.underlying t = some (.int k)
class TUnd (P : Program) (t : TypeId) (d : outParam TypeDesc) : Prop where h : P.underlying t = some d
class TCell (P : Program) (t : TypeId) : Prop where
  agg : ∃ d, P.underlying t = some d ∧ (match d with | .struct _ => false | .array .. => false | _ => true) = true
  size : (P.info? t).map (·.size) = some 1
class TAgg (P : Program) (t : TypeId) (n : outParam Nat) : Prop where
  agg : ∃ d, P.underlying t = some d ∧ (match d with | .struct _ => true | .array .. => true | _ => false) = true
  size : (P.info? t).map (·.size) = some n
class TZero (P : Program) (t : TypeId) (cs : outParam (List Value)) : Prop where h : ∃ v, (P.info? t).map (·.zero) = some (some v) ∧ v.cells = cs.toArray
class TFld (P : Program) (s : TypeId) (f : Nat) (o : outParam Nat) (sz : outParam Nat) : Prop where
  h : ∃ fs g, P.underlying s = some (.struct fs) ∧ fs[f]? = some g ∧ g.offset = o ∧ (P.info? g.type).map (·.size) = some sz ∧ sz ≠ 0
class TSlice (P : Program) (t : TypeId) (e : outParam TypeId) (sz : outParam Nat) (by' : outParam Nat) (z : outParam (List Value)) : Prop where
  under : P.underlying t = some (.slice e)
  info : ∃ v, (P.info? e).map (fun i => (i.zero, i.size, i.bytes)) = some (some v, sz, by') ∧ v.cells = z.toArray
  pos : 0 < sz
  len : z.length = sz

variable {X : Cx} {k : List KI} {σ : Env} {H : SL}

theorem map_info {P : Program} {t : TypeId} {α : Type} {g : TypeInfo → α} {y : α} (h : (P.info? t).map g = some y) : ∃ i, P.info? t = some i ∧ g i = y := by
  cases hi : P.info? t with
  | none => rw [hi] at h; simp at h
  | some i => rw [hi] at h; exact ⟨i, rfl, by simpa using h⟩

/-! ### Numbers and tests -/
def kEq : IntKind → IntKind → Bool
  | .i8, .i8 | .i16, .i16 | .i32, .i32 | .i64, .i64 | .u8, .u8 | .u16, .u16 | .u32, .u32 | .u64, .u64 => true
  | _, _ => false
theorem kEq_spec {a b : IntKind} (h : kEq a b = true) : a = b := by cases a <;> cases b <;> first | rfl | cases h

def evInt (op : BinOp) (k : IntKind) (a b : Int) : Option Value :=
  match op with
  | .add => some (.int k (k.wrap (a + b)))
  | .sub => some (.int k (k.wrap (a - b)))
  | .mul => some (.int k (k.wrap (a * b)))
  | .and => some (.int k (bits .and k a b))
  | .or => some (.int k (bits .or k a b))
  | .xor => some (.int k (bits .xor k a b))
  | .andNot => some (.int k (bits .andNot k a b))
  | .eql => some (.bool (decide (a = b)))
  | .neq => some (.bool (!decide (a = b)))
  | .lss => some (.bool (decide (a < b)))
  | .leq => some (.bool (decide (a ≤ b)))
  | .gtr => some (.bool (decide (a > b)))
  | .geq => some (.bool (decide (a ≥ b)))
  | _ => none

/-- Of evInt, what is offered at once: no sums, no tests. -/
def evBits (op : BinOp) (k : IntKind) (a b : Int) : Option Value :=
  match op with
  | .and => some (.int k (bits .and k a b))
  | .or => some (.int k (bits .or k a b))
  | .xor => some (.int k (bits .xor k a b))
  | .andNot => some (.int k (bits .andNot k a b))
  | _ => none
def evQuick (σ : Env) : Op → Option Value
  | .move x => ev σ x
  | .assign x => ev σ x
  | .pick c a b => match ev σ c with
    | some (.bool true) => ev σ a
    | some (.bool false) => ev σ b
    | _ => none
  | .extract x i => match ev σ x with
    | some (.tuple vs) => vs.toList[i]?
    | _ => none
  | .unOp op _ x => match op with
    | .not => match ev σ x with
      | some (.bool b) => some (.bool (!b))
      | _ => none
    | _ => none
  | .binOp op _ x y _ => match op with
    | .and | .or | .xor | .andNot => match ev σ x with
      | some (.int k a) => match ev σ y with
        | some (.int k' b) => match kEq k k' with
          | true => evBits op k a b
          | false => none
        | _ => none
      | _ => none
    | _ => none
  | _ => none
def evPure (σ : Env) : Op → Option Value
  | .move x => ev σ x
  | .assign x => ev σ x
  | .pick c a b => match ev σ c with
    | some (.bool true) => ev σ a
    | some (.bool false) => ev σ b
    | _ => none
  | .extract x i => match ev σ x with
    | some (.tuple vs) => vs.toList[i]?
    | _ => none
  | .unOp op _ x => match op with
    | .not => match ev σ x with
      | some (.bool b) => some (.bool (!b))
      | _ => none
    | _ => none
  | .binOp op _ x y _ => match ev σ x with
    | some (.int k a) => match ev σ y with
      | some (.int k' b) => match kEq k k' with
        | true => evInt op k a b
        | false => none
      | _ => none
    | _ => none
  | _ => none

theorem evInt_sound {P : Program} {w : World} {op : BinOp} {k : IntKind} {a b : Int} {v : Value} (h : evInt op k a b = some v) : (binOp op 0 (.int k a) (.int k b)).run P w = .ok v w := by
  unfold evInt at h
  split at h <;> simp only [Option.some.injEq, reduceCtorEq] at h <;> subst h <;> simp [binOp, go_sem, Op.intArith, Op.intCmp, Op.intBits, Sem.run, pure, bits] <;> first | rfl | skip

theorem binOp_type {op : BinOp} {t : TypeId} {k : IntKind} {a b : Int} : binOp op t (.int k a) (.int k b) = binOp op 0 (.int k a) (.int k b) := by
  cases op <;> rfl

theorem OpVal_pure {o : Oper} {v : Value} (h : evPure σ o.op = some v) : OpVal X σ H o v := by
  intro a w ha _
  unfold execOp
  cases ho : o.op <;> rw [ho] at h <;> simp only [evPure] at h <;> first | cases h; done | skip
  case move x => simp only [ha.eval h]; rfl
  case assign x => simp only [ha.eval h]; rfl
  case pick c x y =>
    split at h
    · rename_i hc; simp only [ha.eval hc, ha.eval h]; rfl
    · rename_i hc; simp only [ha.eval hc, ha.eval h]; rfl
    · simp at h
  case extract x i =>
    split at h
    · rename_i vs hc
      have h' : vs[i]? = some v := by simpa using h
      simp only [ha.eval hc, Instr.extract, h']; rfl
    · simp at h
  case unOp op t x =>
    split at h
    · split at h
      · rename_i hc
        simp only [Option.some.injEq] at h
        subst h
        simp only [ha.eval hc]; rfl
      · simp at h
    · simp at h
  case binOp op t x y ty =>
    split at h
    · rename_i k' a' hx
      split at h
      · rename_i k2 b' hy
        split at h
        · rename_i hk
          obtain rfl := kEq_spec hk
          have := evInt_sound (P := X.P) (w := w) h
          simp only [ha.eval hx, ha.eval hy, binOp_type]
          have hg : ∀ p q, (eqGuard op t p q (.int k' a') (.int k' b')).run X.P w = .ok () w := fun p q => by
            unfold eqGuard
            cases op <;> rfl
          simp [Sem.run_bind, hg, this, go_sem]
        · simp at h
      · simp at h
    · simp at h
  all_goals simp at h

theorem evBits_sound {op : BinOp} {k : IntKind} {a b : Int} {v : Value} (h : evBits op k a b = some v) : evInt op k a b = some v := by
  unfold evBits at h
  split at h <;> first | exact h | cases h
theorem evQuick_sound {op : Op} {v : Value} (h : evQuick σ op = some v) : evPure σ op = some v := by
  cases op <;> simp only [evQuick] at h <;> first | exact h | (cases h; done) | skip
  case binOp op t x y ty =>
    simp only [evPure]
    split at h <;> first | (cases h; done) | skip
    all_goals
      split at h <;> first | (cases h; done) | skip
      split at h <;> first | (cases h; done) | skip
      split at h <;> first | (cases h; done) | skip
      exact evBits_sound h
theorem OpVal_quick {o : Oper} {v : Value} (h : evQuick σ o.op = some v) : OpVal X σ H o v := OpVal_pure (evQuick_sound h)

/-! ### Pieces of lists, reckoned to the end -/
def spl : List Value → Nat → List Value → Option (List Value)
  | cs, 0, [] => some cs
  | _ :: cs, 0, v :: vs => match spl cs 0 vs with
    | some l => some (v :: l)
    | none => none
  | c :: cs, n + 1, vs => match spl cs n vs with
    | some l => some (c :: l)
    | none => none
  | [], 0, _ :: _ => none
  | [], _ + 1, _ => none
theorem spl_spec : ∀ {cs vs cs' : List Value} {i : Nat}, spl cs i vs = some cs' → i + vs.length ≤ cs.length ∧ cs' = cs.take i ++ vs ++ cs.drop (i + vs.length)
  | cs, [], cs', 0, h => by
    have : cs = cs' := by cases cs <;> simpa [spl] using h
    subst this
    simp
  | c :: cs, v :: vs, cs', 0, h => by
    simp only [spl] at h
    split at h
    · rename_i l hl
      simp only [Option.some.injEq] at h
      subst h
      obtain ⟨h1, h2⟩ := spl_spec hl
      subst h2
      simp at h1 ⊢
      exact h1
    · simp at h
  | c :: cs, vs, cs', n + 1, h => by
    simp only [spl] at h
    split at h
    · rename_i l hl
      simp only [Option.some.injEq] at h
      subst h
      obtain ⟨h1, h2⟩ := spl_spec hl
      subst h2
      refine ⟨by simp only [List.length_cons]; omega, ?_⟩
      rw [show n + 1 + vs.length = (n + vs.length) + 1 by omega]
      simp
    · simp at h
  | [], _ :: _, _, 0, h => by simp [spl] at h
  | [], [], _, n + 1, h => by simp [spl] at h
  | [], _ :: _, _, n + 1, h => by simp [spl] at h
def slc : List Value → Nat → Nat → Option (List Value)
  | _, 0, 0 => some []
  | c :: cs, 0, n + 1 => match slc cs 0 n with
    | some l => some (c :: l)
    | none => none
  | _ :: cs, i + 1, n => slc cs i n
  | [], 0, _ + 1 => none
  | [], _ + 1, _ => none
theorem slc_spec : ∀ {cs l : List Value} {i n : Nat}, slc cs i n = some l → i + n ≤ cs.length ∧ l = (cs.drop i).take n
  | cs, l, 0, 0, h => by
    have : [] = l := by cases cs <;> simpa [slc] using h
    subst this
    simp
  | c :: cs, l, 0, n + 1, h => by
    simp only [slc] at h
    split at h
    · rename_i m hm
      simp only [Option.some.injEq] at h
      subst h
      obtain ⟨h1, h2⟩ := slc_spec hm
      subst h2
      simp at h1 ⊢
      exact h1
    · simp at h
  | c :: cs, l, i + 1, n, h => by
    have h' : slc cs i n = some l := by cases n <;> simpa [slc] using h
    obtain ⟨h1, h2⟩ := slc_spec h'
    exact ⟨by simp only [List.length_cons]; omega, by simpa using h2⟩
  | [], _, 0, n + 1, h => by simp [slc] at h
  | [], _, i + 1, n, h => by cases n <;> simp [slc] at h
def cellsL : Value → List Value
  | .agg cs => cs.toList
  | v => [v]
theorem cellsL_spec (v : Value) : v.cells.toList = cellsL v := by cases v <;> rfl
def cellsS (v : Value) : Option (List Value) := match v with
  | .agg ⟨l⟩ => some l
  | v => some [v]
theorem cellsS_spec {v : Value} {l : List Value} (h : cellsS v = some l) : cellsL v = l := by
  unfold cellsS at h
  split at h
  · simpa [cellsL] using h
  · rename_i hn
    simp only [Option.some.injEq] at h
    subst h
    cases v <;> first | rfl | exact absurd rfl (hn _)
def ones (l : List Value) : Bool := l.all Value.oneCell'
theorem ones_mem {l : List Value} (h : ones l = true) : ∀ v ∈ l, v.oneCell' = true := fun v hv => List.all_eq_true.1 h v hv

/-! ### Blocks -/
theorem add_at (b o i : Nat) : (⟨b, o, none⟩ : Addr).add i = ⟨b, o + i, none⟩ := by unfold Addr.add; split <;> simp_all
theorem blk_loads {P : Program} {W w : World} {F : SL} {b o n : Nat} {t : TypeId} {cur : List Value} (h : Sat W w (SL.blk b (.cells cur.toArray t (0, 0)) * F)) (hn : o + n ≤ cur.length) :
    (loadCells ⟨b, o, none⟩ n).run P w = .ok ((cur.drop o).take n).toArray w := by
  have hl : ((cur.drop o).take n).length = n := by simp; omega
  have := run_loadCells_list (P := P) w ⟨b, o, none⟩ ((cur.drop o).take n) fun j v hv => by
    rw [add_at, h.cell]
    rw [List.getElem?_take] at hv
    split at hv
    · rw [List.getElem?_drop] at hv
      simpa using hv
    · simp at hv
  rwa [hl] at this
theorem blk_stores {P : Program} {W w : World} {F : SL} {b o : Nat} {t : TypeId} {cur vs : List Value} (h : Sat W w (SL.blk b (.cells cur.toArray t (0, 0)) * F)) (hn : o + vs.length ≤ cur.length) (h1 : ones vs = true) :
    ∃ w', (storeCells ⟨b, o, none⟩ vs).run P w = .ok () w' ∧ Sat W w' (SL.blk b (.cells (cur.take o ++ vs ++ cur.drop (o + vs.length)).toArray t (0, 0)) * F) := by
  have hg := h.get
  refine ⟨_, run_storeCells_at P b o t vs 0 cur.toArray w hg (by simpa using hn) (ones_mem h1), ?_⟩
  simp only [Nat.add_zero]
  exact h.write (by simp) rfl rfl rfl (fun k _ hk => setRow_other w b k _ hk) (setRow_heap w b _ _ _ _ hg)

/-! ### Objects -/
class TSize (P : Program) (t : TypeId) (n : outParam Nat) : Prop where size : (P.info? t).map (·.size) = some n
variable {o : Oper}

theorem run_size {P : Program} {t : TypeId} {n : Nat} [s : TSize P t n] (w : World) : (sizeOf t).run P w = .ok n w := by
  obtain ⟨i, hi, hs⟩ := map_info s.size
  simp [sizeOf, typeInfo, hi, hs, go_sem]

theorem OpVal_nilCheck {x : Operand} {q : Option Addr} (ho : o.op = .nilCheck x) (hx : ev σ x = some (.pointer q)) [n : NN H q] : OpVal X σ H o (.pointer q) := by
  intro a w ha hs
  have := n.nn _ w hs
  cases q with
  | none => exact absurd rfl this
  | some q => simp only [execOp, ho, ha.eval hx]; rfl

theorem OpVal_fieldAddr {x : Operand} {q : Option Addr} {s : TypeId} {f i sz : Nat} (ho : o.op = .fieldAddr s x f) (hx : ev σ x = some (.pointer q)) [n : NN H q] [t : TFld X.P s f i sz] : OpVal X σ H o (.pointer (off q i)) := by
  intro a w ha hs
  have := n.nn _ w hs
  cases q with
  | none => exact absurd rfl this
  | some q =>
    obtain ⟨fs, g, h1, h2, h3, h4, h5⟩ := t.h
    obtain ⟨j, hj, hsz⟩ := map_info h4
    simp only [execOp, ho, ha.eval hx]
    simp [Instr.fieldAt, Instr.sureAddr, run_underlying h1, h2, fieldPlace, sizeOf, typeInfo, hj, hsz, h5, h3, off, go_sem]

theorem OpVal_load {x : Operand} {q p : Option Addr} {t t0 : TypeId} {i : Nat} {cs : List Value} {F : SL} {v : Value} (ho : o.op = .load t x) (hx : ev σ x = some (.pointer q)) [c : TCell X.P t] [l : Loc q p i] [r : AtP H p (Obj p t0 cs) F] (hv : cs[i]? = some v) : OpVal X σ H o v := by
  intro a w ha hs
  obtain ⟨b, hb, hc⟩ := Obj.cell (r.eq ▸ hs) hv
  rw [← l.eq] at hb
  subst hb
  obtain ⟨d, h1, h2⟩ := c.agg
  simp only [execOp, ho, ha.eval hx]
  cases d <;> simp at h2 <;> simp [Instr.loadAt, Instr.sureAddr, loadVar, isAgg, run_underlying h1, load, Sem.run, hc, go_sem]

theorem OpVal_loadAgg {x : Operand} {q p : Option Addr} {t t0 : TypeId} {i n : Nat} {cs vs : List Value} {F : SL} (ho : o.op = .load t x) (hx : ev σ x = some (.pointer q)) [c : TAgg X.P t n] [l : Loc q p i] [r : AtP H p (Obj p t0 cs) F] (hv : slc cs i n = some vs) : OpVal X σ H o (.agg vs.toArray) := by
  intro a w ha hs
  obtain ⟨b, hb, hs'⟩ := Obj.open (r.eq ▸ hs)
  have hq := l.eq
  rw [hb] at hq
  simp only [off, Option.map_some, add_at, Nat.zero_add] at hq
  subst hq
  obtain ⟨d, h1, h2⟩ := c.agg
  obtain ⟨j, hj, hsz⟩ := map_info c.size
  obtain ⟨hl, rfl⟩ := slc_spec hv
  have := blk_loads (P := X.P) hs' hl
  unfold loadCells at this
  simp only [execOp, ho, ha.eval hx]
  cases d <;> simp at h2 <;> simp [Instr.loadAt, Instr.sureAddr, loadVar, isAgg, run_underlying h1, sizeOf, typeInfo, hj, hsz, this, go_sem]

theorem run_storeVar {P : Program} {W w : World} {F : SL} {b i n : Nat} {t t0 : TypeId} {cur : List Value} {v : Value} [s : TSize P t n] (h : Sat W w (SL.blk b (.cells cur.toArray t0 (0, 0)) * F)) (hn : (cellsL v).length = n) (hi : i + n ≤ cur.length) (h1 : ones (cellsL v) = true) :
    ∃ w', (storeVar t ⟨b, i, none⟩ v).run P w = .ok () w' ∧ Sat W w' (SL.blk b (.cells (cur.take i ++ cellsL v ++ cur.drop (i + n)).toArray t0 (0, 0)) * F) := by
  subst hn
  obtain ⟨w', h2, h3⟩ := blk_stores (P := P) h hi h1
  refine ⟨w', ?_, h3⟩
  have hc : v.cells.size = (cellsL v).length := by rw [← cellsL_spec, Array.length_toList]
  simp only [storeVar, Sem.run_bind, run_size, Result.andThen_ok, hc, ne_eq, not_true_eq_false, if_false, cellsL_spec, h2]

theorem OpSkip_store {x y : Operand} {q p : Option Addr} {t t0 : TypeId} {i n : Nat} {cs cs' : List Value} {F : SL} {v : Value} (ho : o.op = .store t x y) (hx : ev σ x = some (.pointer q)) (hy : ev σ y = some v) [c : TSize X.P t n] [l : Loc q p i] [r : AtP H p (Obj p t0 cs) F]
    (hv : spl cs i (cellsL v) = some cs') (hn : Nat.beq (cellsL v).length n = true) (h1 : ones (cellsL v) = true) : OpSkip X σ H o (Obj p t0 cs' * F) := by
  intro a w ha hs
  obtain ⟨b, hb, hs'⟩ := Obj.open (r.eq ▸ hs)
  have hq := l.eq
  rw [hb] at hq
  simp only [off, Option.map_some, add_at, Nat.zero_add] at hq
  subst hq
  obtain ⟨hl, rfl⟩ := spl_spec hv
  have hn := Nat.eq_of_beq_eq_true hn
  subst hn
  obtain ⟨w', h2, h3⟩ := run_storeVar (P := X.P) (t := t) hs' rfl hl h1
  refine ⟨w', ?_, Obj.shut hb h3⟩
  simp only [execOp, ho, ha.eval hx, ha.eval hy, Instr.storeAt, Instr.sureAddr, Sem.run_bind, Sem.run_pure, Result.andThen_ok, h2]

theorem OpDoes_alloc {t : TypeId} {cs : List Value} (ho : o.op = .alloc t) [z : TZero X.P t cs] : OpDoes X σ H o (fun p : Option Addr => .pointer p) (fun p => Obj p t cs * H) := by
  intro a w ha hs
  obtain ⟨v, h1, h2⟩ := z.h
  obtain ⟨j, hj, hz⟩ := map_info h1
  refine ⟨_, _, ?_, hs.newObj t cs⟩
  simp only [execOp, ho]
  simp [Instr.alloc, zeroValue, typeInfo, hj, hz, newVar, newRow, go_sem]
  exact congrArg (fun c => w.alloc (.cells c t)) h2
theorem OpDoes_box {t : TypeId} {x : Operand} {v : Value} {cs : List Value} (ho : o.op = .box t x) (hx : ev σ x = some v) (hv : cellsS v = some cs) : OpDoes X σ H o (fun p : Option Addr => .pointer p) (fun p => Obj p t cs * H) := by
  intro a w ha hs
  obtain rfl := cellsS_spec hv
  refine ⟨_, _, ?_, hs.newObj t (cellsL v)⟩
  have hc : v.cells = (cellsL v).toArray := by rw [← cellsL_spec, Array.toArray_toList]
  simp only [execOp, ho, ha.eval hx]
  simp [Instr.box, newVar, newRow, go_sem]
  exact congrArg (fun c => w.alloc (.cells c t)) hc

end Go.Proofs.YtianbkbehjppoaaGreatDoor

namespace Go.Proofs.YtianbkbehjppoaaGreatDoor
open Go.RowKit

class TStr (P : Program) (t : TypeId) : Prop where h : P.underlying t = some .string
class TBool (P : Program) (t : TypeId) : Prop where h : P.underlying t = some .bool
class TPtr (P : Program) (t : TypeId) (e : outParam TypeId) : Prop where h : P.underlying t = some (.pointer e)
class TArr (P : Program) (t : TypeId) (n : outParam Nat) (sz : outParam Nat) : Prop where
  h : ∃ e, P.underlying t = some (.array n e) ∧ (P.info? e).map (·.size) = some sz
  pos : 0 < sz

/-- z is a number from nought. -/
class NatOf (z : Int) (i : outParam Nat) : Prop where eq : z = (i : Int)
instance (priority := 1500) NatOf.cast (i : Nat) : NatOf (i : Int) i := ⟨rfl⟩
instance NatOf.add (a b : Int) (i j : Nat) [h : NatOf a i] [g : NatOf b j] : NatOf (a + b) (i + j) := ⟨by rw [h.eq, g.eq, Int.natCast_add]⟩
instance NatOf.mul (a b : Int) (i j : Nat) [h : NatOf a i] [g : NatOf b j] : NatOf (a * b) (i * j) := ⟨by rw [h.eq, g.eq, Int.natCast_mul]⟩
instance NatOf.div (a b : Int) (i j : Nat) [h : NatOf a i] [g : NatOf b j] : NatOf (a / b) (i / j) := ⟨by rw [h.eq, g.eq, Int.natCast_ediv]⟩
instance NatOf.mod (a b : Int) (i j : Nat) [h : NatOf a i] [g : NatOf b j] : NatOf (a % b) (i % j) := ⟨by rw [h.eq, g.eq, Int.natCast_emod]⟩
instance (priority := 1400) NatOf.lit (n : Nat) : NatOf (@OfNat.ofNat Int n instOfNat) (@OfNat.ofNat Nat n (instOfNatNat n)) := ⟨rfl⟩
instance (priority := 1600) NatOf.l0 : NatOf 0 0 := ⟨rfl⟩
instance (priority := 1600) NatOf.l1 : NatOf 1 1 := ⟨rfl⟩
instance (priority := 1600) NatOf.l2 : NatOf 2 2 := ⟨rfl⟩
instance (priority := 1600) NatOf.l3 : NatOf 3 3 := ⟨rfl⟩
instance (priority := 1600) NatOf.l4 : NatOf 4 4 := ⟨rfl⟩
instance (priority := 1600) NatOf.l5 : NatOf 5 5 := ⟨rfl⟩
instance (priority := 1600) NatOf.l6 : NatOf 6 6 := ⟨rfl⟩
instance (priority := 1600) NatOf.l7 : NatOf 7 7 := ⟨rfl⟩
instance (priority := 1600) NatOf.l8 : NatOf 8 8 := ⟨rfl⟩
instance (priority := 1600) NatOf.l9 : NatOf 9 9 := ⟨rfl⟩
instance (priority := 1600) NatOf.l10 : NatOf 10 10 := ⟨rfl⟩
instance (priority := 1600) NatOf.l11 : NatOf 11 11 := ⟨rfl⟩
instance (priority := 1600) NatOf.l12 : NatOf 12 12 := ⟨rfl⟩
instance (priority := 1600) NatOf.l13 : NatOf 13 13 := ⟨rfl⟩
instance (priority := 1600) NatOf.l14 : NatOf 14 14 := ⟨rfl⟩
instance (priority := 1600) NatOf.l15 : NatOf 15 15 := ⟨rfl⟩
instance (priority := 1600) NatOf.l16 : NatOf 16 16 := ⟨rfl⟩
instance (priority := 1600) NatOf.l17 : NatOf 17 17 := ⟨rfl⟩
instance (priority := 1600) NatOf.l18 : NatOf 18 18 := ⟨rfl⟩
instance (priority := 1600) NatOf.l19 : NatOf 19 19 := ⟨rfl⟩
instance (priority := 1600) NatOf.l20 : NatOf 20 20 := ⟨rfl⟩
instance (priority := 1600) NatOf.l21 : NatOf 21 21 := ⟨rfl⟩
instance (priority := 1600) NatOf.l22 : NatOf 22 22 := ⟨rfl⟩
instance (priority := 1600) NatOf.l23 : NatOf 23 23 := ⟨rfl⟩
instance (priority := 1600) NatOf.l24 : NatOf 24 24 := ⟨rfl⟩
instance (priority := 1600) NatOf.l25 : NatOf 25 25 := ⟨rfl⟩
instance (priority := 1600) NatOf.l26 : NatOf 26 26 := ⟨rfl⟩
instance (priority := 1600) NatOf.l27 : NatOf 27 27 := ⟨rfl⟩
instance (priority := 1600) NatOf.l28 : NatOf 28 28 := ⟨rfl⟩
instance (priority := 1600) NatOf.l29 : NatOf 29 29 := ⟨rfl⟩
instance (priority := 1600) NatOf.l30 : NatOf 30 30 := ⟨rfl⟩
instance (priority := 1600) NatOf.l31 : NatOf 31 31 := ⟨rfl⟩
instance (priority := 1600) NatOf.l32 : NatOf 32 32 := ⟨rfl⟩
instance (priority := 1600) NatOf.l40 : NatOf 40 40 := ⟨rfl⟩
instance (priority := 1600) NatOf.l48 : NatOf 48 48 := ⟨rfl⟩
instance (priority := 1600) NatOf.l63 : NatOf 63 63 := ⟨rfl⟩
instance (priority := 1600) NatOf.l64 : NatOf 64 64 := ⟨rfl⟩
instance (priority := 1600) NatOf.l100 : NatOf 100 100 := ⟨rfl⟩
instance (priority := 1600) NatOf.l127 : NatOf 127 127 := ⟨rfl⟩
instance (priority := 1600) NatOf.l128 : NatOf 128 128 := ⟨rfl⟩
instance (priority := 1600) NatOf.l255 : NatOf 255 255 := ⟨rfl⟩
instance (priority := 1600) NatOf.l256 : NatOf 256 256 := ⟨rfl⟩
instance (priority := 1600) NatOf.l512 : NatOf 512 512 := ⟨rfl⟩
instance (priority := 1600) NatOf.l1023 : NatOf 1023 1023 := ⟨rfl⟩
instance (priority := 1600) NatOf.l1024 : NatOf 1024 1024 := ⟨rfl⟩

/-! ### Rows -/
/-- A slice of n elements of e (sz cells each) in a block of the call's own, with room for cap: its cells are xs. -/
def RowC (e sz : Nat) (p : Option Addr) (n cap : Nat) (xs : List Value) : SL := fun h =>
  (xs.length = n * sz ∧ n ≤ cap ∧ cap ≤ maxLen) ∧ ((True ∧ cap = 0 ∧ SL.emp h) ∨
    ∃ (g o : Nat) (cur : List Value), p = some ⟨g, o, none⟩ ∧ o + cap * sz ≤ cur.length ∧ (cur.drop o).take (n * sz) = xs ∧ SL.blk g (.cells cur.toArray e (0, 0)) h)
instance (priority := 2000) AtP.row (e sz : Nat) (p : Option Addr) (n cap : Nat) (xs : List Value) (F : SL) : AtP (RowC e sz p n cap xs * F) p (RowC e sz p n cap xs) F := ⟨rfl⟩

section rows
variable {W w : World} {F : SL} {e sz n cap : Nat} {p : Option Addr} {xs : List Value}
theorem RowC.open (h : Sat W w (RowC e sz p n cap xs * F)) : (xs.length = n * sz ∧ n ≤ cap ∧ cap ≤ maxLen) ∧ ((True ∧ cap = 0 ∧ Sat W w F) ∨
    ∃ (g o : Nat) (cur : List Value), p = some ⟨g, o, none⟩ ∧ o + cap * sz ≤ cur.length ∧ (cur.drop o).take (n * sz) = xs ∧ Sat W w (SL.blk g (.cells cur.toArray e (0, 0)) * F)) := by
  have hd := h.drop
  obtain ⟨hb, x, ⟨h1, h2, ⟨hl, ⟨hp, hc, he⟩ | ⟨g, o, cur, a1, a2, a3, a4⟩⟩, q, d, e'⟩, hx⟩ := h
  · exact ⟨hl, .inl ⟨hp, hc, hd⟩⟩
  · exact ⟨hl, .inr ⟨g, o, cur, a1, a2, a3, hb, x, ⟨h1, h2, a4, q, d, e'⟩, hx⟩⟩
theorem RowC.len (h : Sat W w (RowC e sz p n cap xs * F)) : xs.length = n * sz ∧ n ≤ cap ∧ cap ≤ maxLen := (RowC.open h).1
theorem RowC.zero_in (e sz : Nat) (p : Option Addr) (h : Sat W w F) : Sat W w (RowC e sz p 0 0 [] * F) := by
  obtain ⟨hb, x, q, hx⟩ := h
  exact ⟨hb, x, ⟨fun _ => none, x, ⟨by simp, .inl ⟨trivial, rfl, fun _ => rfl⟩⟩, q, fun _ => .inl rfl, fun _ => by simp⟩, hx⟩
theorem RowC.none_in (e sz : Nat) (h : Sat W w F) : Sat W w (RowC e sz none 0 0 [] * F) := RowC.zero_in e sz none h
theorem RowC.shut {g o : Nat} {cur : List Value} (hl : n ≤ cap) (hm : cap ≤ maxLen) (h1 : o + cap * sz ≤ cur.length) (h2 : (cur.drop o).take (n * sz) = xs) (h : Sat W w (SL.blk g (.cells cur.toArray e (0, 0)) * F)) : Sat W w (RowC e sz (some ⟨g, o, none⟩) n cap xs * F) := by
  refine h.left fun x hx => ⟨⟨?_, hl, hm⟩, .inr ⟨g, o, cur, rfl, h1, h2, hx⟩⟩
  rw [← h2, List.length_take, List.length_drop]
  have := Nat.mul_le_mul_right sz hl
  omega
theorem RowC.cell (h : Sat W w (RowC e sz p n cap xs * F)) {i : Nat} {v : Value} (hv : xs[i]? = some v) : ∃ a, off p i = some a ∧ w.cell? a = some v := by
  obtain ⟨⟨hl, hn, hm⟩, ⟨_, hc, _⟩ | ⟨g, o, cur, rfl, h1, h2, hs⟩⟩ := RowC.open h
  · have h0 : n = 0 := by omega
    subst h0
    have : xs = [] := List.eq_nil_of_length_eq_zero (by simpa using hl)
    subst this
    simp at hv
  · refine ⟨(⟨g, o, none⟩ : Addr).add i, rfl, ?_⟩
    rw [add_at, hs.cell]
    rw [← h2, List.getElem?_take] at hv
    split at hv
    · rw [List.getElem?_drop] at hv
      simpa using hv
    · simp at hv
theorem RowC.nn (h : Sat W w (RowC e sz p n cap xs * F)) (hn : 0 < n) : p ≠ none := by
  obtain ⟨⟨_, hn', _⟩, ⟨_, hc, _⟩ | ⟨g, o, cur, rfl, _⟩⟩ := RowC.open h
  · omega
  · simp
/-- Cells of it are written. -/
theorem RowC.write {P : Program} (h : Sat W w (RowC e sz p n cap xs * F)) {i : Nat} {vs : List Value} (hi : i + vs.length ≤ n * sz) (hv : 0 < vs.length) (h1 : ones vs = true) :
    ∃ a w', off p i = some a ∧ (storeCells a vs).run P w = .ok () w' ∧ Sat W w' (RowC e sz p n cap (xs.take i ++ vs ++ xs.drop (i + vs.length)) * F) := by
  obtain ⟨⟨hl, hn, hm⟩, ⟨_, hc, _⟩ | ⟨g, o, cur, rfl, h2, h3, hs⟩⟩ := RowC.open h
  · have h0 : n = 0 := by omega
    subst h0
    omega
  · have hle := Nat.mul_le_mul_right sz hn
    obtain ⟨w', h4, h5⟩ := blk_stores (P := P) (o := o + i) hs (by omega) h1
    refine ⟨(⟨g, o, none⟩ : Addr).add i, w', rfl, by rw [add_at]; exact h4, RowC.shut hn hm ?_ ?_ h5⟩
    · simp; omega
    · subst h3
      apply List.ext_getElem?
      intro j
      simp only [List.getElem?_take, List.getElem?_drop, List.getElem?_append, List.length_append, List.length_take, List.length_drop]
      repeat' split
      all_goals first
        | rfl
        | omega
        | (congr 1; omega)
        | skip
end rows

def el (p : Option Addr) (i sz : Nat) : Option Addr := off p (i * sz)
class RLoc (q : Option Addr) (p : outParam (Option Addr)) (i sz j : outParam Nat) : Prop where eq : q = off p (i * sz + j)
instance (priority := 2000) RLoc.iEl (p : Option Addr) (i sz : Nat) : RLoc (el p i sz) p i sz 0 := ⟨rfl⟩
instance (priority := 3000) RLoc.iElOff (p : Option Addr) (i sz k : Nat) : RLoc (off (el p i sz) k) p i sz k := ⟨(@Loc.eq _ _ _ (@Loc.iOff (Go.Proofs.YtianbkbehjppoaaGreatDoor.off p (i * sz)) p (i * sz) k ⟨rfl⟩))⟩
instance (priority := 1000) RLoc.iOff (q p : Option Addr) (i sz j k : Nat) [h : RLoc q p i sz j] : RLoc (off q k) p i sz (j + k) := ⟨by
  rw [h.eq]
  have := @Loc.eq _ _ _ (@Loc.iOff (Go.Proofs.YtianbkbehjppoaaGreatDoor.off p (i * sz + j)) p (i * sz + j) k ⟨rfl⟩)
  rw [this, Nat.add_assoc]⟩

/-- What stands at element i, cell j; what stands there behind a store; an element whole. -/
class RowGet (xs : List Value) (i sz j : Nat) (v : outParam Value) (φ : outParam Prop) : Prop where get : φ → xs[i * sz + j]? = some v
class RowSet (xs : List Value) (i sz j : Nat) (vs : List Value) (ys : outParam (List Value)) (φ : outParam Prop) : Prop where
  set : φ → i * sz + j + vs.length ≤ xs.length ∧ ys = xs.take (i * sz + j) ++ vs ++ xs.drop (i * sz + j + vs.length)
class RowAll (xs : List Value) (i sz : Nat) (vs : outParam (List Value)) (φ : outParam Prop) : Prop where all : φ → vs.length = sz ∧ ∀ j v, vs[j]? = some v → xs[i * sz + j]? = some v
class Ones (xs : List Value) : Prop where ones : ones xs = true
instance Ones.nil : Ones [] := ⟨rfl⟩
instance Ones.int (k : IntKind) (z : Int) (l : List Value) [h : Ones l] : Ones (.int k z :: l) := ⟨by have := h.ones; simpa [Go.Proofs.YtianbkbehjppoaaGreatDoor.ones, Value.oneCell'] using this⟩
instance Ones.bool (z : Bool) (l : List Value) [h : Ones l] : Ones (.bool z :: l) := ⟨by have := h.ones; simpa [Go.Proofs.YtianbkbehjppoaaGreatDoor.ones, Value.oneCell'] using this⟩
instance Ones.str (z : ByteArray) (l : List Value) [h : Ones l] : Ones (.string z :: l) := ⟨by have := h.ones; simpa [Go.Proofs.YtianbkbehjppoaaGreatDoor.ones, Value.oneCell'] using this⟩
instance Ones.ptr (z : Option Addr) (l : List Value) [h : Ones l] : Ones (.pointer z :: l) := ⟨by have := h.ones; simpa [Go.Proofs.YtianbkbehjppoaaGreatDoor.ones, Value.oneCell'] using this⟩
instance Ones.slice (z : Option Addr) (n c : Nat) (l : List Value) [h : Ones l] : Ones (.slice z n c :: l) := ⟨by have := h.ones; simpa [Go.Proofs.YtianbkbehjppoaaGreatDoor.ones, Value.oneCell'] using this⟩

/-- The cells xs stand at p, n elements: to be read. -/
class Src (W : World) (H : SL) (p : Option Addr) (n : outParam Nat) (xs : outParam (List Value)) : Prop where
  cells : ∀ w, Sat W w H → ∀ i v, xs[i]? = some v → ∃ a, off p i = some a ∧ w.cell? a = some v
  nn : ∀ w, Sat W w H → 0 < n → p ≠ none
instance (priority := 900) Src.row (W : World) (H F : SL) (e sz n cap : Nat) (p : Option Addr) (xs : List Value) [r : AtP H p (RowC e sz p n cap xs) F] : Src W H p n xs where
  cells := fun w hs i v hv => RowC.cell (r.eq ▸ hs) hv
  nn := fun w hs hn => RowC.nn (r.eq ▸ hs) hn
/-- A slice in the arguments' memory. -/
class Ro (W : World) (p : Option Addr) (n : outParam Nat) (xs : outParam (List Value)) : Prop where
  cells : ∀ i v, xs[i]? = some v → ∃ a, off p i = some a ∧ a.block < W.heap.size ∧ W.cell? a = some v
  nn : 0 < n → p ≠ none
instance (priority := 2000) Src.ro (W : World) (H : SL) (n : Nat) (p : Option Addr) (xs : List Value) [r : Ro W p n xs] : Src W H p n xs where
  cells := fun w hs i v hv => by
    obtain ⟨a, h1, h2, h3⟩ := r.cells i v hv
    exact ⟨a, h1, by rw [hs.below.cell h2]; exact h3⟩
  nn := fun _ _ hn => r.nn hn

variable {X : Cx} {k : List KI} {σ : Env} {H : SL} {o : Oper}

theorem OpVal_len {x : Operand} {p : Option Addr} {n cap : Nat} {t e sz by' : Nat} {z : List Value} (ho : o.op = .call { callee := .builtin .len, args := #[x], argTypes := #[t] }) (hx : ev σ x = some (.slice p n cap)) [s : TSlice X.P t e sz by' z] : OpVal X σ H o (.int .i64 (n : Int)) := by
  intro a w ha hs
  simp only [execOp, ho, resolve, invoke, builtin, Sem.run_bind, Sem.run_pure, Result.andThen_ok, List.map_toArray, List.map_cons, List.map_nil, ha.eval hx]
  simp [Builtin.len_, run_underlying s.under, go_sem]

theorem OpVal_indexAddr {x y : Operand} {p : Option Addr} {n cap i : Nat} {zi : Int} {ik : IntKind} {t e sz by' : Nat} {z xs : List Value} (ho : o.op = .indexAddr t x y) (hx : ev σ x = some (.slice p n cap)) (hy : ev σ y = some (.int ik zi)) [s : TSlice X.P t e sz by' z] [m : NatOf zi i]
    {n0 : Nat} [r : Src X.W H p n0 xs] (hi : i < n) (hi' : i < n0) : OpVal X σ H o (.pointer (el p i sz)) := by
  intro a w ha hs
  have hp := r.nn w hs (by omega)
  have hz := m.eq
  subst hz
  obtain ⟨v, h1, h2⟩ := s.info
  obtain ⟨j, hj, hsz⟩ := map_info h1
  have hj2 : j.size = sz := by
    have := congrArg (fun q => q.2.1) hsz
    simpa using this
  cases p with
  | none => exact absurd rfl hp
  | some g =>
    simp only [execOp, ho, ha.eval hx, ha.eval hy]
    have e1 : (0 : Int) ≤ (i : Int) ∧ (i : Int) < (n : Int) := by omega
    simp [Instr.indexAt, asIntOf, run_underlying s.under, sizeOf, typeInfo, hj, hj2, e1, el, off, go_sem]
    intro; omega

theorem OpVal_loadR {x : Operand} {q p : Option Addr} {t i sz j n : Nat} {xs : List Value} {v : Value} {φ : Prop} (ho : o.op = .load t x) (hx : ev σ x = some (.pointer q)) [c : TCell X.P t] [l : RLoc q p i sz j] [r : Src X.W H p n xs] [g : RowGet xs i sz j v φ] (hφ : φ) : OpVal X σ H o v := by
  intro a w ha hs
  obtain ⟨b, hb, hc⟩ := r.cells w hs _ _ (g.get hφ)
  rw [← l.eq] at hb
  subst hb
  obtain ⟨d, h1, h2⟩ := c.agg
  simp only [execOp, ho, ha.eval hx]
  cases d <;> simp at h2 <;> simp [Instr.loadAt, Instr.sureAddr, loadVar, isAgg, run_underlying h1, load, Sem.run, hc, go_sem]

end Go.Proofs.YtianbkbehjppoaaGreatDoor

namespace Go.Proofs.YtianbkbehjppoaaGreatDoor
open Go.RowKit

variable {X : Cx} {k : List KI} {σ : Env} {H : SL} {o : Oper}

/-! ### Arithmetic -/
def InK (k : IntKind) (z : Int) : Prop := match k with
  | .i8 => -128 ≤ z ∧ z ≤ 127
  | .i16 => -32768 ≤ z ∧ z ≤ 32767
  | .i32 => -2147483648 ≤ z ∧ z ≤ 2147483647
  | .i64 => -9223372036854775808 ≤ z ∧ z ≤ 9223372036854775807
  | .u8 => 0 ≤ z ∧ z ≤ 255
  | .u16 => 0 ≤ z ∧ z ≤ 65535
  | .u32 => 0 ≤ z ∧ z ≤ 4294967295
  | .u64 => 0 ≤ z ∧ z ≤ 18446744073709551615
theorem InK.wrap {k : IntKind} {z : Int} (h : InK k z) : k.wrap z = z := by
  cases k <;> simp only [InK] at h <;> simp [IntKind.wrap, IntKind.bits, IntKind.signed] <;> first | omega | (split <;> omega)

theorem OpVal_wrapped {k : IntKind} {z z' : Int} (h : OpVal X σ H o (.int k z)) (e : z = z') : OpVal X σ H o (.int k z') := e ▸ h
theorem OpVal_add {x y : Operand} {t u : TypeId} {k : IntKind} {a b : Int} (ho : o.op = .binOp .add t x y u) (hx : ev σ x = some (.int k a)) (hy : ev σ y = some (.int k b)) (hr : InK k (a + b)) : OpVal X σ H o (.int k (a + b)) :=
  OpVal_wrapped (OpVal_pure (by rw [ho]; simp only [evPure, hx, hy]; cases k <;> rfl)) hr.wrap
theorem OpVal_sub {x y : Operand} {t u : TypeId} {k : IntKind} {a b : Int} (ho : o.op = .binOp .sub t x y u) (hx : ev σ x = some (.int k a)) (hy : ev σ y = some (.int k b)) (hr : InK k (a - b)) : OpVal X σ H o (.int k (a - b)) :=
  OpVal_wrapped (OpVal_pure (by rw [ho]; simp only [evPure, hx, hy]; cases k <;> rfl)) hr.wrap
theorem OpVal_mul {x y : Operand} {t u : TypeId} {k : IntKind} {a b : Int} (ho : o.op = .binOp .mul t x y u) (hx : ev σ x = some (.int k a)) (hy : ev σ y = some (.int k b)) (hr : InK k (a * b)) : OpVal X σ H o (.int k (a * b)) :=
  OpVal_wrapped (OpVal_pure (by rw [ho]; simp only [evPure, hx, hy]; cases k <;> rfl)) hr.wrap

theorem eqGuard_int {op : BinOp} {t : TypeId} {p q : Operand} {k k' : IntKind} {a b : Int} {P : Program} {w : World} : (eqGuard op t p q (.int k a) (.int k' b)).run P w = .ok () w := by
  unfold eqGuard
  cases op <;> rfl
theorem OpVal_bin {op : BinOp} {x y : Operand} {t u : TypeId} {k k' : IntKind} {a b : Int} {v : Value} (ho : o.op = .binOp op t x y u) (hx : ev σ x = some (.int k a)) (hy : ev σ y = some (.int k' b)) (hv : ∀ P w, (binOp op t (.int k a) (.int k' b)).run P w = .ok v w) : OpVal X σ H o v := by
  intro a' w ha hs
  simp only [execOp, ho, ha.eval hx, ha.eval hy]
  simp [Sem.run_bind, eqGuard_int, hv, go_sem]
/-- Division of numbers from nought. -/
theorem OpVal_quo {x y : Operand} {t u : TypeId} {k : IntKind} {a b : Int} (ho : o.op = .binOp .quo t x y u) (hx : ev σ x = some (.int k a)) (hy : ev σ y = some (.int k b)) (ha : 0 ≤ a) (hb : 0 < b) (hr : InK k a) : OpVal X σ H o (.int k (a / b)) := by
  refine OpVal_bin ho hx hy fun P w => ?_
  have h1 : ¬ b = 0 := by omega
  have h3 : a / b ≤ a := Int.ediv_le_self _ ha
  have h4 : 0 ≤ a / b := Int.ediv_nonneg ha (by omega)
  have h2 : k.wrap (a.tdiv b) = a / b := by
    rw [Int.tdiv_eq_ediv_of_nonneg ha]
    refine InK.wrap ?_
    cases k <;> simp only [InK] at hr ⊢ <;> omega
  simp [binOp, Op.intDiv, h1, h2, go_sem]
theorem OpVal_rem {x y : Operand} {t u : TypeId} {k : IntKind} {a b : Int} (ho : o.op = .binOp .rem t x y u) (hx : ev σ x = some (.int k a)) (hy : ev σ y = some (.int k b)) (ha : 0 ≤ a) (hb : 0 < b) : OpVal X σ H o (.int k (a % b)) := by
  refine OpVal_bin ho hx hy fun P w => ?_
  have h1 : ¬ b = 0 := by omega
  simp [binOp, Op.intDiv, h1, Int.tmod_eq_emod_of_nonneg ha, go_sem]
theorem OpVal_remT {x y : Operand} {t u : TypeId} {k : IntKind} {a b : Int} (ho : o.op = .binOp .rem t x y u) (hx : ev σ x = some (.int k a)) (hy : ev σ y = some (.int k b)) (hb : b ≠ 0) : OpVal X σ H o (.int k (a.tmod b)) := by
  refine OpVal_bin ho hx hy fun P w => ?_
  simp [binOp, Op.intDiv, hb, go_sem]
theorem OpVal_shr {x y : Operand} {t u : TypeId} {k k' : IntKind} {a b : Int} (ho : o.op = .binOp .shr t x y u) (hx : ev σ x = some (.int k a)) (hy : ev σ y = some (.int k' b)) (h0 : 0 ≤ b) (h1 : b ≤ k.bits) : OpVal X σ H o (.int k (a / 2 ^ b.toNat)) := by
  refine OpVal_bin ho hx hy fun P w => ?_
  simp [binOp, shift_shr k k' a b h0 h1, go_sem]
theorem OpVal_shl {x y : Operand} {t u : TypeId} {k k' : IntKind} {a b : Int} (ho : o.op = .binOp .shl t x y u) (hx : ev σ x = some (.int k a)) (hy : ev σ y = some (.int k' b)) (h0 : 0 ≤ b) (h1 : b ≤ k.bits) : OpVal X σ H o (.int k (k.wrap (a * 2 ^ b.toNat))) := by
  refine OpVal_bin ho hx hy fun P w => ?_
  simp [binOp, shift_shl k k' a b h0 h1, go_sem]

/-- Conversions between kinds of numbers. -/
theorem OpVal_convert {x : Operand} {s t : TypeId} {k k' k2 : IntKind} {a : Int} (ho : o.op = .convert s t x) (hx : ev σ x = some (.int k a)) [hs : TInt X.P s k2] [ht : TInt X.P t k'] : OpVal X σ H o (.int k' (k'.wrap a)) := by
  intro a' w ha _
  simp only [execOp, ho, ha.eval hx]
  simp [convert, run_underlying hs.h, run_underlying ht.h, Conv.intToInt, go_sem]
theorem OpVal_convertIn {x : Operand} {s t : TypeId} {k k' k2 : IntKind} {a : Int} (ho : o.op = .convert s t x) (hx : ev σ x = some (.int k a)) [hs : TInt X.P s k2] [ht : TInt X.P t k'] (hr : InK k' a) : OpVal X σ H o (.int k' a) :=
  OpVal_wrapped (OpVal_convert ho hx) hr.wrap

/-! ### Pointers against nil -/
theorem run_eqPtr {P : Program} {t e : TypeId} [h : TPtr P t e] (p q : Option Addr) (w : World) (hn : p = none ∨ q = none) : (Op.equal t (.pointer p) (.pointer q)).run P w = .ok (decide (p = q)) w := by
  unfold Op.equal
  obtain ⟨d, hd⟩ : ∃ d, Op.maxDepth = d + 1 := ⟨9999, rfl⟩
  rw [hd]
  clear hd
  simp only [Op.equalIn]
  rcases hn with rfl | rfl
  · cases q <;> simp [run_underlying h.h, go_sem]
  · cases p <;> simp [run_underlying h.h, go_sem]
theorem OpVal_ptrEq {x y : Operand} {t u e : TypeId} {p q : Option Addr} (ho : o.op = .binOp .eql t x y u) (hx : ev σ x = some (.pointer p)) (hy : ev σ y = some (.pointer q)) [h : TPtr X.P t e] (hn : p = none ∨ q = none) : OpVal X σ H o (.bool (decide (p = q))) := by
  intro a' w ha _
  simp only [execOp, ho, ha.eval hx, ha.eval hy]
  have hg : ∀ p' q', (eqGuard .eql t p' q' (.pointer p) (.pointer q)).run X.P w = .ok () w := fun _ _ => rfl
  simp [Sem.run_bind, hg, binOp, run_eqPtr p q w hn, go_sem]
theorem OpVal_ptrNe {x y : Operand} {t u e : TypeId} {p q : Option Addr} (ho : o.op = .binOp .neq t x y u) (hx : ev σ x = some (.pointer p)) (hy : ev σ y = some (.pointer q)) [h : TPtr X.P t e] (hn : p = none ∨ q = none) : OpVal X σ H o (.bool (!decide (p = q))) := by
  intro a' w ha _
  simp only [execOp, ho, ha.eval hx, ha.eval hy]
  have hg : ∀ p' q', (eqGuard .neq t p' q' (.pointer p) (.pointer q)).run X.P w = .ok () w := fun _ _ => rfl
  simp [Sem.run_bind, hg, binOp, run_eqPtr p q w hn, go_sem]
/-- Of what stands in memory it is known that it isn't nil. -/
theorem OpVal_isNil {x : Operand} {t u e : TypeId} {p : Option Addr} (ho : o.op = .binOp .eql t x (.const (.pointer none)) u) (hx : ev σ x = some (.pointer p)) [h : TPtr X.P t e] [n : NN H p] : OpVal X σ H o (.bool false) := by
  intro a' w ha hs
  have := OpVal_ptrEq (X := X) (σ := σ) (H := H) (q := none) ho hx rfl (.inr rfl) a' w ha hs
  rwa [decide_eq_false (n.nn _ w hs)] at this
theorem OpVal_notNil {x : Operand} {t u e : TypeId} {p : Option Addr} (ho : o.op = .binOp .neq t x (.const (.pointer none)) u) (hx : ev σ x = some (.pointer p)) [h : TPtr X.P t e] [n : NN H p] : OpVal X σ H o (.bool true) := by
  intro a' w ha hs
  have := OpVal_ptrNe (X := X) (σ := σ) (H := H) (q := none) ho hx rfl (.inr rfl) a' w ha hs
  rwa [decide_eq_false (n.nn _ w hs)] at this

/-! ### Stores into rows -/
theorem OpSkip_storeR {x y : Operand} {q p : Option Addr} {t e i sz j n cap m : Nat} {xs ys : List Value} {F : SL} {v : Value} {φ : Prop} (ho : o.op = .store t x y) (hx : ev σ x = some (.pointer q)) (hy : ev σ y = some v) [c : TSize X.P t m] [l : RLoc q p i sz j] [r : AtP H p (RowC e sz p n cap xs) F]
    {vs : List Value} (hc : cellsS v = some vs) [g : RowSet xs i sz j vs ys φ] (hφ : φ) (hm : Nat.beq (cellsL v).length m = true) (h0 : Nat.blt 0 m = true) (h1 : ones (cellsL v) = true) : OpSkip X σ H o (RowC e sz p n cap ys * F) := by
  intro a w ha hs
  obtain rfl := cellsS_spec hc
  obtain ⟨h2, rfl⟩ := g.set hφ
  have hm := Nat.eq_of_beq_eq_true hm
  subst hm
  have h0 : 0 < (cellsL v).length := Nat.le_of_ble_eq_true h0
  have hr := r.eq ▸ hs
  obtain ⟨b, w', h3, h4, h5⟩ := RowC.write (P := X.P) hr (by rw [← (RowC.len hr).1]; exact h2) h0 h1
  have hq := l.eq
  rw [h3] at hq
  subst hq
  refine ⟨w', ?_, h5⟩
  have hc : v.cells.size = (cellsL v).length := by rw [← cellsL_spec, Array.length_toList]
  simp only [execOp, ho, ha.eval hx, ha.eval hy, Instr.storeAt, Instr.sureAddr, Sem.run_bind, Sem.run_pure, Result.andThen_ok, storeVar, run_size, hc, ne_eq, not_true_eq_false, if_false, cellsL_spec, h4]

theorem OpVal_loadAggR {x : Operand} {q p : Option Addr} {t i sz n : Nat} {xs vs : List Value} {φ : Prop} (ho : o.op = .load t x) (hx : ev σ x = some (.pointer q)) [c : TAgg X.P t sz] [l : RLoc q p i sz 0] [r : Src X.W H p n xs] [g : RowAll xs i sz vs φ] (hφ : φ) (hn : 0 < n) : OpVal X σ H o (.agg vs.toArray) := by
  intro a w ha hs
  obtain ⟨hl, hall⟩ := g.all hφ
  have hp := r.nn w hs hn
  cases p with
  | none => exact absurd rfl hp
  | some b =>
    have hq := l.eq
    simp only [off, Option.map_some] at hq
    subst hq
    obtain ⟨d, h1, h2⟩ := c.agg
    obtain ⟨j, hj, hsz⟩ := map_info c.size
    have := run_loadCells_list (P := X.P) w (b.add (i * sz + 0)) vs fun j' v hv => by
      obtain ⟨b', h3, h4⟩ := r.cells w hs _ _ (hall j' v hv)
      simp only [off, Option.map_some, Option.some.injEq] at h3
      subst h3
      have e1 : (b.add (i * sz + 0)).add j' = b.add (i * sz + j') := by
        have := (@Loc.iOff (Go.Proofs.YtianbkbehjppoaaGreatDoor.off (some b) (i * sz + 0)) (some b) (i * sz + 0) j' ⟨rfl⟩).eq
        simp only [off, Option.map_some, Option.some.injEq] at this
        rw [this]; simp
      rw [e1]; exact h4
    rw [hl] at this
    unfold loadCells at this
    simp only [execOp, ho, ha.eval hx]
    cases d <;> simp at h2 <;> simp at this <;> simp [Instr.loadAt, Instr.sureAddr, loadVar, isAgg, run_underlying h1, sizeOf, typeInfo, hj, hsz, this, go_sem]

end Go.Proofs.YtianbkbehjppoaaGreatDoor

namespace Go.Proofs.YtianbkbehjppoaaGreatDoor
open Go.RowKit

variable {X : Cx} {k : List KI} {σ : Env} {H : SL} {o : Oper}

theorem TSlice.parts {P : Program} {t e sz by' : Nat} {z : List Value} (s : TSlice P t e sz by' z) : ∃ i v, P.info? e = some i ∧ i.zero = some v ∧ i.size = sz ∧ i.bytes = by' ∧ v.cells = z.toArray := by
  obtain ⟨v, h1, h2⟩ := s.info
  obtain ⟨i, hi, h3⟩ := map_info h1
  simp only [Prod.mk.injEq] at h3
  exact ⟨i, v, hi, h3.1, h3.2.1, h3.2.2, h2⟩

/-! ### append -/
theorem append_rowC {P : Program} {W w : World} {F : SL} {t ty e sz by' n cap m c : Nat} {z xs news : List Value} {p q : Option Addr} (s : TSlice P t e sz by' z) (h : Sat W w (RowC e sz p n cap xs * F))
    (hq : 0 < m → q ≠ none) (hnews : ∀ i v, news[i]? = some v → ∃ a, off q i = some a ∧ w.cell? a = some v) (hl : news.length = m * sz) (h1 : ones news = true) (h63 : n + m ≤ maxLen) (hby : (n + m) * by' ≤ 140737488355328) :
    ∃ p' c' w', (Builtin.append_ #[t, t] ty #[.slice p n cap, .slice q m c]).run P w = .ok (.slice p' (n + m) c') w' ∧ Sat W w' (RowC e sz p' (n + m) c' (xs ++ news) * F) := by
  obtain ⟨i, v, hi, hz, hsz, hbs, hzc⟩ := s.parts
  have hpos := s.pos
  have hzl : v.cells.size = sz := by rw [hzc]; simpa using s.len
  subst hsz
  subst hbs
  have hsmall : n + m ≤ 9223372036854775807 := by simp only [maxLen] at h63; omega
  by_cases hm : m = 0
  · subst hm
    have hn0 : news = [] := List.eq_nil_of_length_eq_zero (by simpa using hl)
    subst hn0
    obtain ⟨_, hnc, _⟩ := RowC.len h
    refine ⟨p, cap, w, ?_, by simpa using h⟩
    cases q <;> cases p <;> simp [Builtin.append_, run_underlying s.under, sizeOf, typeInfo, hi, Builtin.lenOf, hnc, Builtin.firstCells, loadCells, loadCellsFrom, storeCells]
  have hmp : 0 < m := by omega
  have hqn := hq hmp
  cases q with
  | none => exact absurd rfl hqn
  | some a =>
    have hnews' : ∀ j u, news[j]? = some u → w.cell? (a.add j) = some u := fun j u hu => by
      obtain ⟨b, h2, h3⟩ := hnews j u hu
      simp only [off, Option.map_some, Option.some.injEq] at h2
      rw [h2]; exact h3
    obtain ⟨⟨hxl, hnc, hcm⟩, ⟨_, hcz, hs⟩ | ⟨g, o, cur, rfl, h2, h3, hs⟩⟩ := RowC.open h
    · have hn0 : n = 0 := by omega
      subst hn0
      have hx0 : xs = [] := List.eq_nil_of_length_eq_zero (by simpa using hxl)
      subst hx0
      subst hcz
      cases p with
      | some a0 =>
        have hr := run_append_grow (P := P) w t ty e i v s.under hi hz a0 0 0 [] (by simp) (by simp) a m c news hl hnews' (by omega) (by omega) (growslice_fits (by omega) hby)
        have hge := grownCap_ge w (0 + m) 0 e
        have hcm' := grownCap_le_maxLen w (0 + m) 0 e h63
        refine ⟨_, _, _, hr, ?_⟩
        have hn := hs.drew.alloc (.cells ((([] : List Value).toArray) ++ news.toArray ++ Builtin.zeroCells v.cells (grownCap w (0 + m) 0 e - (0 + m))) e)
        have hc : (([] : List Value).toArray) ++ news.toArray ++ Builtin.zeroCells v.cells (grownCap w (0 + m) 0 e - (0 + m)) = (([] ++ news) ++ (Builtin.zeroCells v.cells (grownCap w (0 + m) 0 e - (0 + m))).toList).toArray := by simp
        rw [hc] at hn ⊢
        have hsz2 : (Builtin.zeroCells v.cells (grownCap w (0 + m) 0 e - (0 + m))).toList.length = (grownCap w (0 + m) 0 e - (0 + m)) * i.size := by simp [size_zeroCells, hzl]
        have hxn : (([] : List Value) ++ news).length = (0 + m) * i.size := by rw [List.length_append, hl]; simp
        exact RowC.shut (o := 0) hge hcm' (by rw [List.length_append, hsz2, hxn, ← Nat.add_mul]; exact Nat.le_of_eq (by rw [Nat.zero_add]; congr 1; omega)) (by rw [List.drop_zero, ← hxn, List.take_left]) hn
      | none =>
      have hr := run_append_nil (P := P) w t ty e i v s.under hi hz a m c news hl hnews' hmp (by omega) (by have := hby; simp only [Nat.zero_add] at this; omega)
      have hge := grownCap_ge w m 0 e
      have hcm := grownCap_le_maxLen w m 0 e (by omega)
      refine ⟨_, _, _, by rw [Nat.zero_add]; exact hr, ?_⟩
      have hn := hs.drew.alloc (.cells (news.toArray ++ Builtin.zeroCells v.cells (grownCap w m 0 e - m)) e)
      have hc : news.toArray ++ Builtin.zeroCells v.cells (grownCap w m 0 e - m) = (news ++ (Builtin.zeroCells v.cells (grownCap w m 0 e - m)).toList).toArray := by simp
      rw [hc] at hn ⊢
      have hsz2 : (Builtin.zeroCells v.cells (grownCap w m 0 e - m)).toList.length = (grownCap w m 0 e - m) * i.size := by simp [size_zeroCells, hzl]
      have := RowC.shut (e := e) (sz := i.size) (o := 0) (n := m) (cap := grownCap w m 0 e) (xs := news) hge hcm (by
        rw [List.length_append, hsz2, hl, ← Nat.add_mul]; exact Nat.le_of_eq (by rw [Nat.zero_add]; congr 1; omega)) (by rw [List.drop_zero, ← hl, List.take_left]) hn
      simpa using this
    · by_cases hroom : n + m ≤ cap
      · have hle : (n + m) * i.size ≤ cap * i.size := Nat.mul_le_mul_right _ hroom
        rw [Nat.add_mul] at hle
        obtain ⟨w', h4, h5⟩ := blk_stores (P := P) (o := o + n * i.size) (vs := news) hs (by rw [hl]; omega) h1
        have hf := run_firstCells_some (P := P) w i.size m a m c news hl hnews'
        refine ⟨some ⟨g, o, none⟩, cap, w', ?_, RowC.shut hroom hcm ?_ ?_ h5⟩
        · simp [Builtin.append_, run_underlying s.under, sizeOf, typeInfo, hi, Builtin.lenOf, hroom, hf, add_at, h4]
        · simp; omega
        · rw [Nat.add_mul, ← h3, List.drop_append_of_le_length (by simp; omega), List.drop_append_of_le_length (by simp; omega), List.drop_take, show o + n * i.size - o = n * i.size by omega]
          have e1 : ((List.take (n * i.size) (List.drop o cur)) ++ news).length = n * i.size + m * i.size := by simp; omega
          rw [← e1, List.take_left]
      · have holds : ∀ j u, xs[j]? = some u → w.cell? ((⟨g, o, none⟩ : Addr).add j) = some u := fun j u hu => by
          obtain ⟨b, h4, h5⟩ := RowC.cell h hu
          simp only [off, Option.map_some, Option.some.injEq] at h4
          rw [h4]; exact h5
        have hr := run_append_grow (P := P) w t ty e i v s.under hi hz ⟨g, o, none⟩ n cap xs hxl holds a m c news hl hnews' (by omega) (by omega) (growslice_fits (by omega) hby)
        have hge := grownCap_ge w (n + m) cap e
        have hcm' := grownCap_le_maxLen w (n + m) cap e h63
        refine ⟨_, _, _, hr, ?_⟩
        have hn := hs.drop.drew.alloc (.cells (xs.toArray ++ news.toArray ++ Builtin.zeroCells v.cells (grownCap w (n + m) cap e - (n + m))) e)
        have hc : xs.toArray ++ news.toArray ++ Builtin.zeroCells v.cells (grownCap w (n + m) cap e - (n + m)) = ((xs ++ news) ++ (Builtin.zeroCells v.cells (grownCap w (n + m) cap e - (n + m))).toList).toArray := by simp
        rw [hc] at hn ⊢
        have hsz2 : (Builtin.zeroCells v.cells (grownCap w (n + m) cap e - (n + m))).toList.length = (grownCap w (n + m) cap e - (n + m)) * i.size := by simp [size_zeroCells, hzl]
        have hxn : (xs ++ news).length = (n + m) * i.size := by rw [List.length_append, hxl, hl, Nat.add_mul]
        exact RowC.shut (o := 0) hge hcm' (by rw [List.length_append, hsz2, hxn, ← Nat.add_mul]; exact Nat.le_of_eq (by rw [Nat.zero_add]; congr 1; omega)) (by rw [List.drop_zero, ← hxn, List.take_left]) hn

theorem OpDoes_append {x y : Operand} {t e sz by' n cap m c : Nat} {z xs news : List Value} {p q : Option Addr} {F : SL} (ho : o.op = .call { callee := .builtin .append, args := #[x, y], argTypes := #[t, t] }) (hx : ev σ x = some (.slice p n cap)) (hy : ev σ y = some (.slice q m c))
    [s : TSlice X.P t e sz by' z] [r : AtP H p (RowC e sz p n cap xs) F] [r2 : Src X.W H q m news] [h1 : Ones news] (hl : news.length = m * sz) (hb : n + m ≤ 4294967296) (hby : by' ≤ 32768) :
    OpDoes X σ H o (fun q : Option Addr × Nat => .slice q.1 (n + m) q.2) (fun q => RowC e sz q.1 (n + m) q.2 (xs ++ news) * F) := by
  intro a w ha hs
  have hmul : (n + m) * by' ≤ 4294967296 * 32768 := Nat.mul_le_mul hb hby
  obtain ⟨p', c', w', h2, h3⟩ := append_rowC (ty := o.type) (c := c) s (r.eq ▸ hs) (fun h => r2.nn w hs h) (r2.cells w hs) hl h1.ones (by unfold maxLen; omega) (by omega)
  refine ⟨(p', c'), w', ?_, h3⟩
  simp only [execOp, ho, resolve, invoke, builtin, Sem.run_bind, Sem.run_pure, Result.andThen_ok, List.map_toArray, List.map_cons, List.map_nil, ha.eval hx, ha.eval hy, h2]
/-- .. of a slice that was made for it. -/
theorem OpDoes_append1 {x y : Operand} {t e sz by' n cap : Nat} {z xs news : List Value} {p q : Option Addr} {F F0 : SL} (ho : o.op = .call { callee := .builtin .append, args := #[x, y], argTypes := #[t, t] }) (hx : ev σ x = some (.slice p n cap)) (hy : ev σ y = some (.slice q 1 1))
    [s : TSlice X.P t e sz by' z] [r0 : AtP H q (RowC e sz q 1 1 news) F0] [r : AtP F0 p (RowC e sz p n cap xs) F] [h1 : Ones news] (hb : n ≤ 4294967295) (hby : by' ≤ 32768) :
    OpDoes X σ H o (fun q : Option Addr × Nat => .slice q.1 (n + 1) q.2) (fun q => RowC e sz q.1 (n + 1) q.2 (xs ++ news) * F) := by
  intro a w ha hs
  have hmul : (n + 1) * by' ≤ 4294967296 * 32768 := Nat.mul_le_mul (by omega) hby
  have hs0 := r0.eq ▸ hs
  obtain ⟨p', c', w', h2, h3⟩ := append_rowC (ty := o.type) (c := 1) (m := 1) s (r.eq ▸ hs0.drop) (fun h => RowC.nn hs0 h) (fun i v => RowC.cell hs0) (RowC.len hs0).1 h1.ones (by unfold maxLen; omega) (by omega)
  refine ⟨(p', c'), w', ?_, h3⟩
  simp only [execOp, ho, resolve, invoke, builtin, Sem.run_bind, Sem.run_pure, Result.andThen_ok, List.map_toArray, List.map_cons, List.map_nil, ha.eval hx, ha.eval hy, h2]

/-! ### make -/
def reps (n : Nat) (z : List Value) : List Value := (List.replicate n z).flatten
theorem reps_one (n : Nat) (v : Value) : reps n [v] = List.replicate n v := by
  induction n with
  | zero => rfl
  | succ n ih => simp only [reps, List.replicate_succ, List.flatten_cons] at ih ⊢; rw [ih]; rfl
theorem reps_len (n : Nat) (z : List Value) : (reps n z).length = n * z.length := by
  induction n with
  | zero => simp [reps]
  | succ n ih => simp only [reps, List.replicate_succ, List.flatten_cons, List.length_append] at ih ⊢; rw [ih, Nat.succ_mul, Nat.add_comm]
theorem made_reps (n : Nat) (z : List Value) (hz : 0 < z.length) : (madeCells z.toArray (n * z.length)).toList = reps n z := by
  have key : ∀ n, (List.range (n * z.length)).map (fun i => z[i % z.length]!) = reps n z := by
    intro n
    induction n with
    | zero => simp [reps]
    | succ n ih =>
      have e1 : reps (n + 1) z = reps n z ++ z := by
        simp only [reps, List.replicate_succ', List.flatten_append, List.flatten_cons, List.flatten_nil, List.append_nil]
      rw [e1, ← ih, Nat.succ_mul, List.range_add, List.map_append, List.map_map]
      congr 1
      apply List.ext_getElem (by simp)
      intro i h1 h2
      have hi : i < z.length := h2
      simp only [List.getElem_map, List.getElem_range, Function.comp, Nat.mul_add_mod_self_right, Nat.mod_eq_of_lt hi]
      exact (getElem!_pos z i hi)
  rw [← key]
  simp [madeCells]

theorem OpDoes_make {x y : Operand} {t e sz by' n : Nat} {k1 k2 : IntKind} {a b : Int} {z : List Value} (ho : o.op = .makeSlice t x y) (hx : ev σ x = some (.int k1 a)) (hy : ev σ y = some (.int k2 b)) [s : TSlice X.P t e sz by' z] [h1 : NatOf a n] [h2 : NatOf b n] (hb : n ≤ 4294967296) (hby : by' ≤ 32768) :
    OpDoes X σ H o (fun p : Option Addr => .slice p n n) (fun p => RowC e sz p n n (reps n z) * H) := by
  intro a' w ha hs
  obtain ⟨i, v, hi, hz, hsz, hbs, hzc⟩ := s.parts
  have e1 := h1.eq
  have e2 := h2.eq
  subst e1
  subst e2
  have hmul : by' * n ≤ 32768 * 4294967296 := Nat.mul_le_mul hby hb
  have h3 := run_make (P := X.P) w t e i v s.under hi hz k1 k2 (n : Int) (n : Int) (by omega) (by omega) (by rw [hbs]; omega) (by omega)
  refine ⟨some ⟨w.heap.size, 0, none⟩, w.alloc (.cells (madeCells v.cells (n * i.size)) e), ?_, ?_⟩
  · simp only [execOp, ho, ha.eval hx, ha.eval hy, Sem.run_bind, h3, Result.andThen_ok, Sem.run_pure, Int.toNat_natCast]
  · have hc : madeCells v.cells (n * i.size) = (reps n z).toArray := by
      rw [hzc, hsz, ← s.len, ← made_reps n z (by rw [s.len]; exact s.pos), Array.toArray_toList]
    rw [hc]
    have hlen : (reps n z).length = n * sz := by rw [reps_len, s.len]
    exact RowC.shut (o := 0) (Nat.le_refl _) (by unfold maxLen; omega) (by omega) (by rw [List.drop_zero, ← hlen, List.take_length]) (hs.alloc _)

/-! ### Literals -/
def appO : List Value → List Value → Option (List Value)
  | [], vs => some vs
  | c :: cs, vs => match appO cs vs with
    | some l => some (c :: l)
    | none => none
theorem appO_spec : ∀ {cs vs l : List Value}, appO cs vs = some l → l = cs ++ vs
  | [], vs, l, h => by simpa [appO] using h.symm
  | c :: cs, vs, l, h => by
    simp only [appO] at h
    split at h
    · rename_i m hm
      simp only [Option.some.injEq] at h
      subst h
      rw [appO_spec hm]; rfl
    · simp at h
def bsl (σ : Env) (sz : Nat) : Nat → List (Nat × Operand) → Option (List Value)
  | _, [] => some []
  | i, (j, x) :: l => match Nat.beq i j with
    | true => match ev σ x with
      | some v => match cellsS v with
        | some cs => match Nat.beq cs.length sz with
          | true => match bsl σ sz (i + 1) l with
            | some vs => appO cs vs
            | none => none
          | false => none
        | none => none
      | none => none
    | false => none

theorem foldl_set : ∀ (vs : List Value) (j o : Nat) (cs : List Value), o + j + vs.length ≤ cs.length → (vs.zipIdx j).foldl (fun (a : Array Value) (p : Value × Nat) => a.setIfInBounds (o + p.2) p.1) cs.toArray = (cs.take (o + j) ++ vs ++ cs.drop (o + j + vs.length)).toArray
  | [], j, o, cs, _ => by simp
  | v :: vs, j, o, cs, h => by
    simp only [List.length_cons] at h
    simp only [List.zipIdx_cons, List.foldl_cons, List.setIfInBounds_toArray]
    rw [foldl_set vs (j + 1) o (cs.set (o + j) v) (by simp; omega)]
    congr 1
    apply List.ext_getElem?
    intro q
    simp only [List.getElem?_append, List.getElem?_take, List.getElem?_drop, List.length_append, List.length_take, List.length_set, List.getElem?_set, List.length_cons, List.getElem?_cons]
    repeat' split
    all_goals first
      | rfl
      | omega
      | (congr 1; omega)
      | skip

theorem fill_bsl {P : Nat → Option (Nat × Nat)} {sz : Nat} {ρ : Operand → Value} (hP : ∀ i, P i = some (i * sz, sz)) {N : Nat} {a : Act} (ha : Fits N a σ) (hρ : ρ = a.eval) : ∀ (l : List (Nat × Operand)) (i : Nat) (vs pre suf : List Value), bsl σ sz i l = some vs → pre.length = i * sz → suf.length = vs.length →
    Instr.fill P (pre ++ suf).toArray (l.map fun (q : Nat × Operand) => (q.1, ρ q.2)) = some (pre ++ vs).toArray
  | [], i, vs, pre, suf, h, hp, hs => by
    simp only [bsl, Option.some.injEq] at h
    subst h
    have : suf = [] := List.eq_nil_of_length_eq_zero (by simpa using hs)
    subst this
    simp [Instr.fill]
  | (j, x) :: l, i, vs, pre, suf, h, hp, hs => by
    simp only [bsl] at h
    split at h
    · rename_i hj
      have hj := Nat.eq_of_beq_eq_true hj
      subst hj
      split at h
      · rename_i v hv
        split at h
        · rename_i cs0 hc0
          obtain rfl := cellsS_spec hc0
          split at h
          · rename_i hc
            have hc := Nat.eq_of_beq_eq_true hc
            split at h
            rotate_left
            · simp at h
            rename_i us hus
            obtain rfl := appO_spec h
            simp only [List.length_append] at hs
            have e1 : v.cells.size = sz := by rw [← hc, ← cellsL_spec, Array.length_toList]
            subst hρ
            simp only [List.map_cons, Instr.fill, hP, ha.eval hv, e1, ne_eq, not_true_eq_false, decide_false, Bool.false_or, decide_eq_true_eq, List.size_toArray, List.length_append]
            rw [if_neg (by omega)]
            have e2 : v.cells = (cellsL v).toArray := by rw [← cellsL_spec, Array.toArray_toList]
            have e3 := foldl_set (cellsL v) 0 (i * sz) (pre ++ suf) (by simp; omega)
            have e4 : (v.cells.zipIdx.foldl (fun (cs : Array Value) (x : Value × Nat) => cs.setIfInBounds (i * sz + x.2) x.1) (pre ++ suf).toArray) = (pre ++ cellsL v ++ suf.drop sz).toArray := by
              rw [e2, ← Array.foldl_toList, Array.toList_zipIdx]
              simp only [Nat.add_zero] at e3
              rw [e3, ← hp, List.take_left]
              congr 2
              rw [List.drop_append, List.drop_eq_nil_of_le (by omega), List.nil_append, hc]
              congr 1
              omega
            have e5 := fill_bsl hP ha rfl l (i + 1) us (pre ++ cellsL v) (suf.drop sz) hus (by rw [List.length_append, hp, hc, Nat.succ_mul]) (by rw [List.length_drop]; omega)
            rw [List.append_assoc] at e5
            rw [← List.append_assoc]
            refine Eq.trans (congrArg (fun c => Instr.fill P c _) e4) ?_
            rw [← List.append_assoc] at e5
            simpa using e5
          · simp at h
        · simp at h
      · simp at h
    · simp at h

theorem OpDoes_buildSlice {t e sz by' n : Nat} {z vs : List Value} {parts : Array (Nat × Operand)} (ho : o.op = .buildSlice t n parts) [s : TSlice X.P t e sz by' z] (hv : bsl σ sz 0 parts.toList = some vs) (hn : Nat.beq vs.length (n * sz) = true) (hn' : n ≤ 65536) (hsz : sz ≤ 256) :
    OpDoes X σ H o (fun p : Option Addr => .slice p n n) (fun p => RowC e sz p n n vs * H) := by
  intro a w ha hs
  obtain ⟨i, v, hi, hz, hs1, hbs, hzc⟩ := s.parts
  have hn := Nat.eq_of_beq_eq_true hn
  have hmul : n * sz ≤ 65536 * 256 := Nat.mul_le_mul hn' hsz
  have key : ∀ cs : Array Value, cs.size = n * sz → Instr.fill (fun i => some (i * sz, sz)) cs (parts.toList.map fun (q : Nat × Operand) => (q.1, a.eval q.2)) = some vs.toArray := fun cs hcs => by
    have := fill_bsl (P := fun i => some (i * sz, sz)) (fun _ => rfl) ha rfl parts.toList 0 vs [] cs.toList hv (by simp) (by rw [Array.length_toList]; omega)
    simpa using this
  refine ⟨some ⟨w.heap.size, 0, none⟩, w.alloc (.cells vs.toArray e), ?_, ?_⟩
  · have hlim : ¬ (16777216 < n * sz) := by omega
    have hz2 : (zeroValue e).run X.P w = .ok v w := by simp [zeroValue, typeInfo, hi, hz, go_sem]
    have hs2 : (sizeOf e).run X.P w = .ok sz w := by simp [sizeOf, typeInfo, hi, hs1, go_sem]
    simp only [execOp, ho]
    generalize a.eval = ρ at key ⊢
    by_cases h0 : n * sz = 0
    · simp [Instr.buildSlice, run_underlying s.under, hs2, h0, newRow, go_sem]
      rw [key #[] (by simp [h0])]
      simp [go_sem]
    · simp [Instr.buildSlice, run_underlying s.under, hs2, h0, hlim, newRow, hz2, go_sem]
      rw [key _ (by simp)]
      simp [go_sem]
  · exact RowC.shut (o := 0) (Nat.le_refl _) (by unfold maxLen; omega) (by rw [Nat.zero_add]; omega) (by rw [List.drop_zero, ← hn, List.take_length]) (hs.alloc _)

/-! ### Values of structs -/
class TStruct (P : Program) (t : TypeId) (pl : outParam (List (Nat × Nat))) : Prop where
  h : ∃ fs, P.underlying t = some (.struct fs) ∧ fs.toList.map (fun f => (f.offset, (P.info? f.type).map (·.size))) = pl.map fun q => (q.1, some q.2)
def bld (σ : Env) (pl : List (Nat × Nat)) : List Value → List (Nat × Operand) → Option (List Value)
  | cs, [] => some cs
  | cs, (f, x) :: l => match pl[f]? with
    | some (o, s) => match ev σ x with
      | some v => match Nat.beq (cellsL v).length s with
        | true => match spl cs o (cellsL v) with
          | some cs' => bld σ pl cs' l
          | none => none
        | false => none
      | none => none
    | none => none
theorem fill_bld {pl : List (Nat × Nat)} {N : Nat} {a : Act} (ha : Fits N a σ) : ∀ (l : List (Nat × Operand)) (cs vs : List Value), bld σ pl cs l = some vs → Instr.fill (fun i => pl[i]?) cs.toArray (l.map fun (q : Nat × Operand) => (q.1, a.eval q.2)) = some vs.toArray
  | [], cs, vs, h => by
    simp only [bld, Option.some.injEq] at h
    subst h
    simp [Instr.fill]
  | (f, x) :: l, cs, vs, h => by
    simp only [bld] at h
    split at h
    · rename_i o s hf
      split at h
      · rename_i v hv
        split at h
        · rename_i hc
          have hc := Nat.eq_of_beq_eq_true hc
          split at h
          · rename_i cs' hs
            obtain ⟨h1, h2⟩ := spl_spec hs
            have e1 : v.cells.size = s := by rw [← hc, ← cellsL_spec, Array.length_toList]
            simp only [List.map_cons, Instr.fill, hf, ha.eval hv, e1, ne_eq, not_true_eq_false, decide_false, Bool.false_or, decide_eq_true_eq, List.size_toArray]
            rw [if_neg (by omega)]
            have e2 : v.cells = (cellsL v).toArray := by rw [← cellsL_spec, Array.toArray_toList]
            have e3 := foldl_set (cellsL v) 0 o cs (by omega)
            have e4 : (v.cells.zipIdx.foldl (fun (c : Array Value) (q : Value × Nat) => c.setIfInBounds (o + q.2) q.1) cs.toArray) = cs'.toArray := by
              rw [e2, ← Array.foldl_toList, Array.toList_zipIdx]
              simp only [Nat.add_zero] at e3
              rw [e3, h2]
            exact (congrArg (fun c => Instr.fill (fun i => pl[i]?) c _) e4).trans (fill_bld ha l cs' vs h)
          · simp at h
        · simp at h
      · simp at h
    · simp at h
theorem run_places {P : Program} (w : World) : ∀ (fs : List Field) (pl : List (Nat × Nat)), fs.map (fun f => (f.offset, (P.info? f.type).map (·.size))) = pl.map (fun q => (q.1, some q.2)) → (fs.mapM fun f => do pure (f.offset, ← sizeOf f.type) : Sem (List (Nat × Nat))).run P w = .ok pl w
  | [], [], _ => by simp [go_sem]
  | [], _ :: _, h => by simp at h
  | _ :: _, [], h => by simp at h
  | f :: fs, q :: pl, h => by
    simp only [List.map_cons, List.cons.injEq, Prod.mk.injEq] at h
    obtain ⟨⟨h1, h2⟩, h3⟩ := h
    obtain ⟨i, hi, hs⟩ := map_info h2
    have ih := run_places w fs pl h3
    simp [List.mapM_cons, sizeOf, typeInfo, hi, hs, h1, go_sem] at ih ⊢
    simp [ih, go_sem]
theorem OpVal_build {t : TypeId} {parts : Array (Nat × Operand)} {pl : List (Nat × Nat)} {cs vs : List Value} (ho : o.op = .build t parts) [s : TStruct X.P t pl] [z : TZero X.P t cs] (hv : bld σ pl cs parts.toList = some vs) : OpVal X σ H o (.agg vs.toArray) := by
  intro a w ha hs
  obtain ⟨v, h1, h2⟩ := z.h
  obtain ⟨j, hj, hz⟩ := map_info h1
  obtain ⟨fs, h3, h4⟩ := s.h
  have h5 := run_places (P := X.P) w fs.toList pl h4
  have h6 := fill_bld ha parts.toList cs vs hv
  have h7 : (fs.mapM fun f => do pure (f.offset, ← sizeOf f.type) : Sem (Array (Nat × Nat))).run X.P w = .ok pl.toArray w := by
    rw [Array.mapM_eq_mapM_toList]
    show (Bind.bind (fs.toList.mapM fun f => do pure (f.offset, ← sizeOf f.type) : Sem (List (Nat × Nat))) (fun l => pure l.toArray)).run X.P w = _
    rw [Sem.run_bind, h5]
    rfl
  have hz2 : (zeroValue t).run X.P w = .ok v w := by simp [zeroValue, typeInfo, hj, hz, go_sem]
  have h8 : Instr.fill (pl.toArray[·]?) v.cells (parts.map fun (q : Nat × Operand) => (q.1, a.eval q.2)).toList = some vs.toArray := by
    rw [h2, Array.toList_map]
    simpa using h6
  simp only [execOp, ho, Instr.build, Sem.run_bind, hz2, Result.andThen_ok, run_underlying h3]
  simp only [Sem.run_bind, h7, Result.andThen_ok]
  rw [h8]
  rfl
/-- A field of a struct that lies in no variable. -/
class TFldT (P : Program) (s : TypeId) (f : Nat) (o : outParam Nat) (t : outParam TypeId) : Prop where
  h : ∃ fs g, P.underlying s = some (.struct fs) ∧ fs[f]? = some g ∧ g.offset = o ∧ g.type = t
theorem OpVal_field {s t : TypeId} {f i : Nat} {x : Operand} {cs : Array Value} {v : Value} (ho : o.op = .field s x f) (hx : ev σ x = some (.agg cs)) [g : TFldT X.P s f i t] [c : TCell X.P t] (hv : cs.toList[i]? = some v) : OpVal X σ H o v := by
  intro a w ha hs
  obtain ⟨fs, q, h1, h2, rfl, rfl⟩ := g.h
  obtain ⟨d, h3, h4⟩ := c.agg
  have hv' : cs[q.offset]? = some v := by simpa using hv
  simp only [execOp, ho, ha.eval hx]
  cases d <;> simp at h4 <;> simp [Instr.field, run_underlying h1, h2, part, isAgg, run_underlying h3, asAgg, hv', go_sem]
/-- A function value. -/
theorem OpVal_makeFunc {fn : Fn} {first cap : Array Operand} {vs us : List Value} (ho : o.op = .makeFunc fn first cap) (h1 : evs σ first.toList = some vs) (h2 : evs σ cap.toList = some us) : OpVal X σ H o (.func fn vs.toArray us.toArray) := by
  intro a w ha hs
  have e1 : first.map a.eval = vs.toArray := by
    have := ha.evals h1
    rw [← this, ← List.map_toArray, Array.toArray_toList]
  have e2 : cap.map a.eval = us.toArray := by
    have := ha.evals h2
    rw [← this, ← List.map_toArray, Array.toArray_toList]
  simp only [execOp, ho, e1, e2]
  rfl
theorem OpVal_min {x y : Operand} {ats : Array TypeId} {k k' : IntKind} {a b : Int} (ho : o.op = .call { callee := .builtin .min, args := #[x, y], argTypes := ats }) (hx : ev σ x = some (.int k a)) (hy : ev σ y = some (.int k' b)) : OpVal X σ H o (.int k (min a b)) := by
  intro a' w ha hs
  simp only [execOp, ho, resolve, invoke, builtin, Sem.run_bind, Sem.run_pure, Result.andThen_ok, List.map_toArray, List.map_cons, List.map_nil, ha.eval hx, ha.eval hy]
  have e : (if b < a then b else a) = min a b := by omega
  simp [Builtin.min_, Builtin.min2, e, go_sem]
theorem OpVal_max {x y : Operand} {ats : Array TypeId} {k k' : IntKind} {a b : Int} (ho : o.op = .call { callee := .builtin .max, args := #[x, y], argTypes := ats }) (hx : ev σ x = some (.int k a)) (hy : ev σ y = some (.int k' b)) : OpVal X σ H o (.int k (max a b)) := by
  intro a' w ha hs
  simp only [execOp, ho, resolve, invoke, builtin, Sem.run_bind, Sem.run_pure, Result.andThen_ok, List.map_toArray, List.map_cons, List.map_nil, ha.eval hx, ha.eval hy]
  have e : (if b > a then b else a) = max a b := by omega
  simp [Builtin.max_, Builtin.max2, e, go_sem]

end Go.Proofs.YtianbkbehjppoaaGreatDoor

namespace Go.Proofs.YtianbkbehjppoaaGreatDoor
open Go.RowKit

section
variable {P : Program} {ops : Array Oper} {md : Region.Mode} {S : World → Prop} {Q : Exit → Act → World → Prop}

/-- In state a, in every world that meets S: the operation leaves v, and S. -/
def Steady (P : Program) (ops : Array Oper) (S : World → Prop) (o : Oper) (v : Value) (a : Act) : Prop :=
  (Region.wanted o (yielded ops a.tmps) = true ∧ ∀ w, S w → (∃ w', (execOp a.eval o).run P w = .ok (.value v) w' ∧ S w') ∨ (v = undef ∧ ∃ w', (execOp a.eval o).run P w = .ok .skip w' ∧ S w') ∨
    ∃ f args w', (execOp a.eval o).run P w = .ok (.enter f args) w' ∧ Calls P f args w' (fun e w'' => e = .returned v ∧ S w'')) ∨
  (Region.wanted o (yielded ops a.tmps) = false ∧ v = undef)

theorem Steady.same {o : Oper} {v : Value} {a a' : Act} (hy : Steady P ops S o v a) (he : execOp a'.eval o = execOp a.eval o)
    (hw : Region.wanted o (yielded ops a'.tmps) = Region.wanted o (yielded ops a.tmps)) : Steady P ops S o v a' := by
  unfold Steady at *
  rw [he, hw]
  exact hy

theorem Steady.wpOp {i : Nat} {o : Oper} {v : Value} {a : Act} {w : World} {K : Act → World → Prop} (hi : ops[i]? = some o) (hy : Steady P ops S o v a) (hS : S w) (h : ∀ w', S w' → K (a.put o.dst v) w') : wpOp P ops Q i K a w := by
  unfold Go.wpOp
  simp only [hi]
  rcases hy with ⟨hw, hv⟩ | ⟨hw, rfl⟩
  · rw [if_pos hw]
    refine .inl ?_
    unfold Oper.wp
    rcases hv w hS with ⟨w', hr, hS'⟩ | ⟨rfl, w', hr, hS'⟩ | ⟨f, args, w', hr, hc⟩
    · rw [hr]; exact h _ hS'
    · rw [hr]; exact h _ hS'
    · rw [hr, Oper.upon_enter]
      refine hc.mono ?_
      rintro e w'' ⟨rfl, hS'⟩
      exact h _ hS'
  · rw [if_neg (by simp [hw])]
    exact h _ hS

/-- Operation i, whatever world meets S. -/
def stS (P : Program) (ops : Array Oper) (S : World → Prop) (i : Nat) (K : Act → Prop) (a : Act) : Prop :=
  match ops[i]? with
  | none => K a
  | some o => ∃ v, Steady P ops S o v a ∧ K (a.put o.dst v)
theorem stS.wpOp {i : Nat} {a : Act} {w : World} {K : Act → Prop} {K' : Act → World → Prop} (h : stS P ops S i K a) (hS : S w) (hK : ∀ a w, K a → S w → K' a w) : wpOp P ops Q i K' a w := by
  unfold stS at h
  cases hi : ops[i]? with
  | none =>
    rw [hi] at h
    unfold Go.wpOp
    simp only [hi]
    exact hK _ _ h hS
  | some o =>
    rw [hi] at h
    obtain ⟨v, h1, h2⟩ := h
    exact h1.wpOp hi hS fun w' hS' => hK _ _ h2 hS'
theorem stS.mono {i : Nat} {a : Act} {K K' : Act → Prop} (h : stS P ops S i K a) (hK : ∀ a, K a → K' a) : stS P ops S i K' a := by
  unfold stS at *
  split
  · rename_i hi; rw [hi] at h; exact hK _ h
  · rename_i o hi; rw [hi] at h; obtain ⟨v, h1, h2⟩ := h; exact ⟨v, h1, hK _ h2⟩
theorem stS.put {j : Nat} {oi oj : Oper} {v : Value} (hj : ops[j]? = some oj) (hap : oi.apart ops oj = true) (hsi : ∀ cs b, oi.op ≠ .select cs b) (hsj : ∀ cs b, oj.op ≠ .select cs b) {K : Act → Prop} {a : Act}
    (hy : Steady P ops S oi v a) (h : stS P ops S j K (a.put oi.dst v)) : stS P ops S j (fun a' => Steady P ops S oi v a' ∧ K (a'.put oi.dst v)) a := by
  obtain ⟨h1, h2, h3⟩ := Oper.apart_spec hap
  unfold stS at *
  simp only [hj] at *
  obtain ⟨u, k1, k2⟩ := h
  refine ⟨u, k1.same (execOp_put oj hsj a oi.dst v h1).symm (wanted_put oj a oi.dst v h1).symm, hy.same (execOp_put oi hsi a oj.dst u h3) (wanted_put oi a oj.dst u h3), ?_⟩
  rw [← Act.put_comm a v u h2]
  exact k2

/-- A row of operations, in the order of the text. -/
def wpSt (P : Program) (ops : Array Oper) (S : World → Prop) (Q : Act → Prop) : List Oper → Act → Prop
  | [], a => Q a
  | o :: rest, a => ∃ v, Steady P ops S o v a ∧ wpSt P ops S Q rest (a.put o.dst v)

/-! all operations steady -/
def wpAnyF (P : Program) (md : Region.Mode) (ops : Array Oper) (S : World → Prop) (Q : Act → Prop) : Nat → Array Bool → Act → Prop
  | 0, listed, a => Region.ready md ops listed = [] ∧ Q a
  | f + 1, listed, a => (Region.ready md ops listed = [] → Q a) ∧ ∀ i ∈ Region.ready md ops listed, stS P ops S i (wpAnyF P md ops S Q f (listed.setIfInBounds i true)) a
theorem wpAny_of_F {Q' : Act → Prop} (hQ : ∀ a w, Q' a → S w → Q .normal a w) : ∀ (f : Nat) (listed : Array Bool) (a : Act) (w : World), wpAnyF P md ops S Q' f listed a → S w → wpAny P md ops Q f listed a w
  | 0, _, _, _, h, hS => ⟨h.1, hQ _ _ h.2 hS⟩
  | f + 1, _, _, _, h, hS => ⟨fun h0 => hQ _ _ (h.1 h0) hS, fun i hi => (h.2 i hi).wpOp hS fun a w h' hS' => wpAny_of_F hQ f _ a w h' hS'⟩
theorem wpAnyF_first {Q' : Act → Prop} {i : Nat} {oi : Oper} {v : Value} (hi : ops[i]? = some oi) (hsel : ∀ (j : Nat) (o : Oper) cs b, ops[j]? = some o → o.op ≠ .select cs b) :
    ∀ (f : Nat) (listed : Array Bool) (a : Act),
      (∀ j oj, ops[j]? = some oj → j ≠ i → listed.getD j true = false → (∀ e ∈ oj.after, Region.binds md e = true → e.on ≠ i) → oi.apart ops oj = true) →
      i ∈ Region.ready md ops listed → Steady P ops S oi v a →
      wpAnyF P md ops S Q' f (listed.setIfInBounds i true) (a.put oi.dst v) → wpAnyF P md ops S Q' (f + 1) listed a := by
  intro f
  induction f with
  | zero =>
    intro listed a _ hr hy H
    refine ⟨fun h => (by rw [h] at hr; cases hr), fun j hj => ?_⟩
    by_cases hji : j = i
    · subst hji; unfold stS; simp only [hi]; exact ⟨v, hy, H⟩
    · have := ready_mono hj hji
      rw [H.1] at this
      cases this
  | succ f ih =>
    intro listed a hfree hr hy H
    refine ⟨fun h => (by rw [h] at hr; cases hr), fun j hj => ?_⟩
    by_cases hji : j = i
    · subst hji; unfold stS; simp only [hi]; exact ⟨v, hy, H⟩
    · have h1 := H.2 j (ready_mono hj hji)
      obtain ⟨hjun, oj, hoj, hall⟩ := mem_ready.1 hj
      have hun := (mem_ready.1 hr).1
      have hnot : ∀ e ∈ oj.after, Region.binds md e = true → e.on ≠ i := fun e he hb heq => by
        have h2 := hall e he hb
        rw [heq, getD_both hun] at h2
        cases h2
      have h2 := stS.put hoj (hfree j oj hoj hji hjun hnot) (fun cs b => hsel i oi cs b hi) (fun cs b => hsel j oj cs b hoj) hy h1
      have hfree' : ∀ k ok, ops[k]? = some ok → k ≠ i → (listed.setIfInBounds j true).getD k true = false →
          (∀ e ∈ ok.after, Region.binds md e = true → e.on ≠ i) → oi.apart ops ok = true := fun k ok hk hki hun hno => by
        refine hfree k ok hk hki ?_ hno
        by_cases hjk : j = k
        · subst hjk; exact hjun
        · rw [getD_set_ne true hjk] at hun; exact hun
      refine h2.mono fun a' h3 => ih (listed.setIfInBounds j true) a' hfree' (ready_mono hr (Ne.symm hji)) h3.1 ?_
      rw [Array.setIfInBounds_comm _ _ hji]
      exact h3.2
theorem wpAnyF_lex {Q' : Act → Prop} (hs : Region.noSelect ops = true) : ∀ (l : List Oper) (k : Nat) (listed : Array Bool) (a : Act), (∀ j, l[j]? = ops[k + j]?) →
    Region.lexFrom md ops l.length k listed = true → wpSt P ops S Q' l a → wpAnyF P md ops S Q' l.length listed a
  | [], k, listed, a, _, hB, h => ⟨by simpa [Region.lexFrom] using hB, h⟩
  | o :: l, k, listed, a, hl, hB, h => by
    have h0 : ops[k]? = some o := by simpa using (hl 0).symm
    simp only [List.length_cons, Region.lexFrom, Bool.and_eq_true] at hB
    obtain ⟨⟨hr, hf⟩, hB'⟩ := hB
    obtain ⟨v, hy, hK⟩ := h
    exact wpAnyF_first h0 (Region.noSelect_spec hs) l.length listed a (Region.free_spec h0 hf) (by simpa using hr) hy
      (wpAnyF_lex hs l (k + 1) _ _ (fun j => by have := hl (j + 1); simpa [Nat.add_assoc, Nat.add_comm 1 j] using this) hB' hK)

theorem wp_region_steady {id : Nat} {a : Act} {w : World} {l : List Oper} (hm : P.follows .mixedOrders = true) (hB : Region.lexB .any l.toArray = true) (hd : ∀ w, S w → S w.drew) (hS : S w)
    (h : wpSt P l.toArray S (fun a' => ∀ w', S w' → Q .normal a' w') l a) : (Code.region id l.toArray true).wp P Q a w := by
  simp only [Region.lexB, Bool.and_eq_true] at hB
  refine wp_region_any hm (wpAny_of_F (Q' := fun a' => ∀ w', S w' → Q .normal a' w') (fun a w h hS => h w hS) _ _ _ _ ?_ (hd w hS))
  have := wpAnyF_lex (md := .any) hB.1 l 0 (Array.replicate l.toArray.size false) a (by simp) (by simpa using hB.2) h
  simpa using this

/-! the last few in their order -/
end

/-! ### The same, over assertions -/
variable {X : Cx} {k : List KI} {σ : Env} {H : SL}

/-- The steady part of a region: the operations l; then what Z says. -/
def ES (X : Cx) (ops : List Oper) (l : List Oper) (σ : Env) (H : SL) (Z : Act → Prop) : Prop := ∀ a, Fits X.N a σ → wpSt X.P ops.toArray (fun w => Sat X.W w H) Z l a

theorem EK_drawn {id : Nat} {ops : List Oper} (hm : X.P.follows .mixedOrders = true) (hB : Region.lexB .any ops.toArray = true) (h : ES X ops ops σ H (fun a => ∀ w, Sat X.W w H → run X.P X.R k .normal a w)) : EK X (.code (.region id ops.toArray true) :: k) σ H :=
  fun a w ha hs => wp_region_steady (S := fun w => Sat X.W w H) hm hB (fun _ h => h.drew) hs (h a ha)
theorem ES_nil {ops : List Oper} (h : EK X k σ H) : ES X ops [] σ H (fun a => ∀ w, Sat X.W w H → run X.P X.R k .normal a w) := fun a ha w hs => h a w ha hs
theorem ES_tail {ops suf : List Oper} (h : EL X k ops suf σ H) : ES X ops [] σ H (fun a => ∀ w, Sat X.W w H → wpList X.P ops.toArray (run X.P X.R k) suf a w) := fun a ha w hs => h a w ha hs

variable {ops l : List Oper} {Z : Act → Prop}
theorem ES_val {d : Nat} {v : Value} {op : Op} {ty : TypeId} {pos : String} {aft : Array Edge} (hv : OpVal X σ H ⟨some d, op, ty, pos, aft, none⟩ v) (hd : Nat.blt d X.N = true) (h : ES X ops l ((d, v) :: σ) H Z) :
    ES X ops (⟨some d, op, ty, pos, aft, none⟩ :: l) σ H Z :=
  fun a ha => ⟨v, .inl ⟨rfl, fun w hs => .inl ⟨w, hv a w ha hs, hs⟩⟩, h _ (ha.put hd v)⟩
theorem ES_guard_yes {d : Option Nat} {op : Op} {ty : TypeId} {pos : String} {aft : Array Edge} {gj t : Nat} {want : Bool} (hj : (ops[gj]?).bind (·.dst) = some t) (ht : σ.get t = some (.bool want))
    (h : ES X ops (⟨d, op, ty, pos, aft, none⟩ :: l) σ H Z) : ES X ops (⟨d, op, ty, pos, aft, some (gj, want)⟩ :: l) σ H Z := by
  intro a ha
  obtain ⟨v, h1, h2⟩ := h a ha
  refine ⟨v, ?_, h2⟩
  rcases h1 with ⟨_, h1⟩ | ⟨h1, _⟩
  · exact .inl ⟨by rw [wanted_of (o := ⟨d, op, ty, pos, aft, some (gj, want)⟩) ha hj ht rfl]; simp, h1⟩
  · simp [Region.wanted] at h1
theorem ES_guard_no {d : Nat} {op : Op} {ty : TypeId} {pos : String} {aft : Array Edge} {gj t : Nat} {want : Bool} (hj : (ops[gj]?).bind (·.dst) = some t) (ht : σ.get t = some (.bool !want)) (hd : Nat.blt d X.N = true)
    (h : ES X ops l ((d, undef) :: σ) H Z) : ES X ops (⟨some d, op, ty, pos, aft, some (gj, want)⟩ :: l) σ H Z :=
  fun a ha => ⟨undef, .inr ⟨by rw [wanted_of (o := ⟨some d, op, ty, pos, aft, some (gj, want)⟩) ha hj ht rfl]; cases want <;> rfl, rfl⟩, h _ (ha.put hd _)⟩
theorem ES_guard_undef {d : Nat} {op : Op} {ty : TypeId} {pos : String} {aft : Array Edge} {gj t : Nat} {want : Bool} (hj : (ops[gj]?).bind (·.dst) = some t) (ht : σ.get t = some undef) (hd : Nat.blt d X.N = true)
    (h : ES X ops l ((d, undef) :: σ) H Z) : ES X ops (⟨some d, op, ty, pos, aft, some (gj, want)⟩ :: l) σ H Z :=
  fun a ha => ⟨undef, .inr ⟨by simp only [Region.wanted, yielded, List.getElem?_toArray, hj, Option.bind_some, ha.vals t _ ht]; rfl, rfl⟩, h _ (ha.put hd _)⟩
/-- A guard that is a test. -/
theorem EL_guard_dec {d : Option Nat} {op : Op} {ty : TypeId} {pos : String} {aft : Array Edge} {gj t : Nat} {want : Bool} {p : Prop} [Decidable p] (hj : (ops[gj]?).bind (·.dst) = some t) (ht : σ.get t = some (.bool (decide p)))
    (h1 : p → EL X k ops (⟨d, op, ty, pos, aft, some (gj, want)⟩ :: l) ((t, .bool true) :: σ) H) (h2 : ¬ p → EL X k ops (⟨d, op, ty, pos, aft, some (gj, want)⟩ :: l) ((t, .bool false) :: σ) H) :
    EL X k ops (⟨d, op, ty, pos, aft, some (gj, want)⟩ :: l) σ H := EL_guard_split hj ht (fun h => h1 (of_decide_eq_true h)) (fun h => h2 (of_decide_eq_false h))
theorem EL_guard_ndec {d : Option Nat} {op : Op} {ty : TypeId} {pos : String} {aft : Array Edge} {gj t : Nat} {want : Bool} {p : Prop} [Decidable p] (hj : (ops[gj]?).bind (·.dst) = some t) (ht : σ.get t = some (.bool (!decide p)))
    (h1 : ¬ p → EL X k ops (⟨d, op, ty, pos, aft, some (gj, want)⟩ :: l) ((t, .bool true) :: σ) H) (h2 : p → EL X k ops (⟨d, op, ty, pos, aft, some (gj, want)⟩ :: l) ((t, .bool false) :: σ) H) :
    EL X k ops (⟨d, op, ty, pos, aft, some (gj, want)⟩ :: l) σ H := EL_guard_split hj ht (fun h => h1 (by simpa using h)) (fun h => h2 (by simpa using h))
/-- A call that leaves the assertion as it is, and tells a value that is known. -/
theorem ES_call {v : Value} {f : FuncId} [IsFn X.P f] {args : Array Operand} {ats : Array TypeId} {vs : List Value} {d : Nat} {ty : TypeId} {pos : String} {aft : Array Edge}
    (hargs : evs σ args.toList = some vs) (hc : Spec X.P f vs X.W H (fun _ : Unit => v) (fun _ => H)) (h : ES X ops l ((d, v) :: σ) H Z) (hd : Nat.blt d X.N = true := by rfl) :
    ES X ops (⟨some d, .call { callee := .value (.func f), args := args, argTypes := ats }, ty, pos, aft, none⟩ :: l) σ H Z := by
  intro a ha
  refine ⟨v, .inl ⟨rfl, fun w hs => .inr (.inr ⟨f, vs.toArray, w, run_call ha hargs, ?_⟩)⟩, h _ (ha.put hd _)⟩
  refine (hc w hs).mono ?_
  rintro e w' ⟨x, rfl, hs'⟩
  exact ⟨rfl, hs'⟩

/-! ### Tests whose outcome is known -/
theorem OpVal_decT {o : Oper} {p : Prop} {d : Decidable p} (h : evPure σ o.op = some (.bool (@decide p d))) (hp : p) : OpVal X σ H o (.bool true) := by
  have := OpVal_pure (X := X) (H := H) h
  rwa [decide_eq_true hp] at this
theorem OpVal_decF {o : Oper} {p : Prop} {d : Decidable p} (h : evPure σ o.op = some (.bool (@decide p d))) (hp : ¬ p) : OpVal X σ H o (.bool false) := by
  have := OpVal_pure (X := X) (H := H) h
  rwa [decide_eq_false hp] at this
theorem OpVal_ndecT {o : Oper} {p : Prop} {d : Decidable p} (h : evPure σ o.op = some (.bool (!(@decide p d)))) (hp : ¬ p) : OpVal X σ H o (.bool true) := by
  have := OpVal_pure (X := X) (H := H) h
  rwa [decide_eq_false hp] at this
theorem OpVal_ndecF {o : Oper} {p : Prop} {d : Decidable p} (h : evPure σ o.op = some (.bool (!(@decide p d)))) (hp : p) : OpVal X σ H o (.bool false) := by
  have := OpVal_pure (X := X) (H := H) h
  rwa [decide_eq_true hp] at this

/-! ### What follows, of assertions -/
/-- H bears G (and maybe more). -/
def Ent (H G : SL) : Prop := ∀ h, H h → ∃ h', G h' ∧ ∀ b o, h' b = some o → h b = some o
theorem Ent.sat {H G : SL} (k : Ent H G) {W : World} : ∀ w, Sat W w H → Sat W w G := fun w ⟨hb, x, p, hx⟩ =>
  let ⟨y, q, hy⟩ := k x p
  ⟨hb, y, q, fun b o ho => hx b o (hy b o ho)⟩
theorem Ent.refl (H : SL) : Ent H H := fun h p => ⟨h, p, fun _ _ h => h⟩
theorem Ent.trans {A B C : SL} (h : Ent A B) (k : Ent B C) : Ent A C := fun x p =>
  let ⟨y, q, hy⟩ := h x p
  let ⟨z, r, hz⟩ := k y q
  ⟨z, r, fun b o ho => hy b o (hz b o ho)⟩
theorem Ent.of_eq {A B : SL} (h : A = B) : Ent A B := h ▸ Ent.refl A
theorem Ent.of_le {A B : SL} (h : SL.le A B) : Ent A B := fun x p => ⟨x, h x p, fun _ _ h => h⟩
theorem Ent.star {A B F G : SL} (h : Ent A B) (k : Ent F G) : Ent (A * F) (B * G) := by
  rintro x ⟨h1, h2, p, q, d, e⟩
  obtain ⟨y1, p', k1⟩ := h h1 p
  obtain ⟨y2, q', k2⟩ := k h2 q
  have e1 : ∀ b, h1 b = none → y1 b = none := fun b hb => by
    cases hy : y1 b with
    | none => rfl
    | some o => rw [k1 b o hy] at hb; cases hb
  have e2 : ∀ b, h2 b = none → y2 b = none := fun b hb => by
    cases hy : y2 b with
    | none => rfl
    | some o => rw [k2 b o hy] at hb; cases hb
  refine ⟨fun b => (y1 b).or (y2 b), ⟨y1, y2, p', q', fun b => ?_, fun _ => rfl⟩, fun b o ho => ?_⟩
  · rcases d b with hb | hb
    · exact .inl (e1 b hb)
    · exact .inr (e2 b hb)
  · replace ho : (y1 b).or (y2 b) = some o := ho
    rw [e b]
    cases hy : y1 b with
    | some o' =>
      rw [k1 b o' hy]
      rw [hy] at ho
      exact ho
    | none =>
      rw [hy] at ho
      have h2b := k2 b o (by simpa using ho)
      rcases d b with hb | hb
      · rw [hb, h2b]; rfl
      · rw [h2b] at hb; cases hb
theorem Ent.drop {A F : SL} : Ent (A * F) F := by
  rintro x ⟨h1, h2, p, q, d, e⟩
  refine ⟨h2, q, fun b o ho => ?_⟩
  have := d b
  rw [e b]
  cases hh : h1 b <;> simp_all
theorem Ent.any {H : SL} : Ent H 1 := fun _ _ => ⟨fun _ => none, fun _ => rfl, fun _ _ h => by cases h⟩
theorem Ent.last {H F R : SL} [h : Frame H F R] : Ent H F := (Ent.of_eq (h.eq.trans (SL.sep_comm F R))).trans Ent.drop
theorem Ent.cons {H P F G : SL} [h : Frame H P F] (k : Ent F G) : Ent H (P * G) := (Ent.of_eq h.eq).trans (Ent.star (Ent.refl P) k)
theorem Ent.at {H C C' F G : SL} (p : Option Addr) [h : AtP H p C F] (hc : C = C') (k : Ent F G) : Ent H (C' * G) := hc ▸ (Ent.of_eq h.eq).trans (Ent.star (Ent.refl C) k)
theorem Ent.obj {H F G : SL} {t : TypeId} {cs cs' : List Value} (p : Option Addr) [h : AtP H p (Obj p t cs) F] (hc : cs = cs') (k : Ent F G) : Ent H (Obj p t cs' * G) := hc ▸ (Ent.of_eq h.eq).trans (Ent.star (Ent.refl _) k)
/-- An object of which it is told only that it is there. -/
def ObjX (p : Option Addr) (t : TypeId) : SL := SL.ex (Obj p t)
instance (priority := 2000) AtP.objX (p : Option Addr) (t : TypeId) (F : SL) : AtP (ObjX p t * F) p (ObjX p t) F := ⟨rfl⟩
instance ObjX.root (p : Option Addr) (t : TypeId) : Root (ObjX p t) p := ⟨fun W w F h => by
  obtain ⟨cs, h⟩ := h.ex_out
  exact (Obj.root p t cs).nn W w F h⟩
theorem Ent.objX {H F G : SL} {p : Option Addr} {t : TypeId} {cs : List Value} [h : AtP H p (Obj p t cs) F] (k : Ent F G) : Ent H (ObjX p t * G) := (Ent.of_eq h.eq).trans (Ent.star (Ent.of_le (SL.le_ex (Obj p t) cs)) k)
/-- A row of which it is told only that it is there. -/
def RowX (e sz : Nat) (p : Option Addr) (n cap : Nat) : SL := SL.ex (RowC e sz p n cap)
instance (priority := 2000) AtP.rowX (e sz : Nat) (p : Option Addr) (n cap : Nat) (F : SL) : AtP (RowX e sz p n cap * F) p (RowX e sz p n cap) F := ⟨rfl⟩
instance (priority := 800) Src.rowX (W : World) (H F : SL) (e sz n cap : Nat) (p : Option Addr) [r : AtP H p (RowX e sz p n cap) F] : Src W H p n [] where
  cells := fun w hs i v hv => by simp at hv
  nn := fun w hs hn => by
    have h := r.eq ▸ hs
    obtain ⟨xs, h⟩ := Sat.ex_out (P := RowC e sz p n cap) h
    exact RowC.nn h hn
theorem Ent.rowX {H F G : SL} {e sz : Nat} {p : Option Addr} {n cap : Nat} {xs : List Value} [h : AtP H p (RowC e sz p n cap xs) F] (k : Ent F G) : Ent H (RowX e sz p n cap * G) := (Ent.of_eq h.eq).trans (Ent.star (Ent.of_le (SL.le_ex (RowC e sz p n cap) xs)) k)
theorem Ent.row {H F G : SL} {e sz n n' c : Nat} {xs xs' : List Value} (p : Option Addr) [h : AtP H p (RowC e sz p n c xs) F] (hn : n = n') (hc : xs = xs') (k : Ent F G) : Ent H (RowC e sz p n' c xs' * G) := by
  subst hn
  subst hc
  exact (Ent.of_eq h.eq).trans (Ent.star (Ent.refl _) k)
theorem Ent.none {H G : SL} {e sz : Nat} (k : Ent H G) : Ent H (RowC e sz none 0 0 [] * G) := by
  intro x p
  obtain ⟨y, q, hy⟩ := k x p
  exact ⟨y, ⟨fun _ => .none, y, ⟨by simp, .inl ⟨trivial, rfl, fun _ => rfl⟩⟩, q, fun _ => .inl rfl, fun _ => by simp⟩, hy⟩
theorem Ent.ex {α : Sort _} {H G : SL} {P : α → SL} (a : α) (k : Ent H (P a * G)) : Ent H (SL.ex P * G) := k.trans (Ent.star (Ent.of_le (SL.le_ex P a)) (Ent.refl G))
theorem Ent.ex_out {α : Sort _} {H G : SL} {P : α → SL} (k : ∀ a, Ent (P a * H) G) : Ent (SL.ex P * H) G := by
  rw [SL.sep_ex]
  rintro x ⟨a, p⟩
  exact k a x p
theorem Ent.pure {H G : SL} {p : Prop} (hp : p) (k : Ent H G) : Ent H (SL.pure p * G) := by
  intro x q
  obtain ⟨y, r, hy⟩ := k x q
  exact ⟨y, ⟨fun _ => .none, y, ⟨hp, fun _ => rfl⟩, r, fun _ => .inl rfl, fun _ => by simp⟩, hy⟩

/-- An assertion of which something exists, opened. -/
theorem EK_ex {α : Sort _} {F : SL} {P : α → SL} (h : ∀ a, EK X k σ (P a * F)) : EK X k σ (SL.ex P * F) := fun a w ha hs =>
  let ⟨x, hx⟩ := hs.ex_out
  h x a w ha hx
theorem EK_pure {F : SL} {p : Prop} (h : p → EK X k σ F) : EK X k σ (SL.pure p * F) := fun a w ha hs => h hs.out.1 a w ha hs.out.2
/-! ### Contracts, framed -/
theorem Spec.mono {P : Program} {f : FuncId} {vs : List Value} {W : World} {H : SL} {α β : Type} {r : α → Value} {H' : α → SL} {r2 : β → Value} {H2 : β → SL} (h : Spec P f vs W H r H') (k : ∀ x, ∃ y, r x = r2 y ∧ Ent (H' x) (H2 y)) : Spec P f vs W H r2 H2 := fun w hs =>
  (h w hs).mono fun e w' ⟨x, he, hx⟩ =>
    let ⟨y, e1, e2⟩ := k x
    ⟨y, by rw [he, e1], e2.sat _ hx⟩
theorem Spec.pre {P : Program} {f : FuncId} {vs : List Value} {W : World} {H G : SL} {α : Type} {r : α → Value} {H' : α → SL} (h : Spec P f vs W G r H') (k : Ent H G) : Spec P f vs W H r H' := fun w hs => h w (k.sat w hs)
/-- The contract wants the parts at p, q, ..: they are brought to the front. -/
theorem Spec.at1 {P : Program} {f : FuncId} {vs : List Value} {W : World} {H C F : SL} (p : Option Addr) [r : AtP H p C F] {α : Type} {rr : α → Value} {H' : α → SL} (h : Spec P f vs W (C * F) rr H') : Spec P f vs W H rr H' := r.eq ▸ h
theorem Spec.at2 {P : Program} {f : FuncId} {vs : List Value} {W : World} {H C F D G : SL} (p q : Option Addr) [r : AtP H p C F] [r2 : AtP F q D G] {α : Type} {rr : α → Value} {H' : α → SL} (h : Spec P f vs W (C * (D * G)) rr H') : Spec P f vs W H rr H' := by
  rw [r.eq, r2.eq]; exact h
end Go.Proofs.YtianbkbehjppoaaGreatDoor

namespace Go.Proofs.YtianbkbehjppoaaGreatDoor
open Go.RowKit

class IsLoad (P : Program) (f : FuncId) (k : IntKind) : Prop where
  h : ∃ fn, P.funcs[f]? = some fn ∧ (fn.name == "runtime.NumGoroutine") = false ∧ fn.body.isNone = true ∧ Extern.findNext fn = none ∧ Extern.find fn = some (Extern.Atomic.loadT (.int k))
class IsStore (P : Program) (f : FuncId) : Prop where
  h : ∃ fn, P.funcs[f]? = some fn ∧ (fn.name == "runtime.NumGoroutine") = false ∧ fn.body.isNone = true ∧ Extern.findNext fn = none ∧ Extern.find fn = some Extern.Atomic.storeT
class IsCas (P : Program) (f : FuncId) (k : IntKind) : Prop where
  h : ∃ fn, P.funcs[f]? = some fn ∧ (fn.name == "runtime.NumGoroutine") = false ∧ fn.body.isNone = true ∧ Extern.findNext fn = none ∧ Extern.find fn = some (Extern.Atomic.casT (.int k))
class IsAdd (P : Program) (f : FuncId) (k : IntKind) : Prop where
  h : ∃ fn, P.funcs[f]? = some fn ∧ (fn.name == "runtime.NumGoroutine") = false ∧ fn.body.isNone = true ∧ Extern.findNext fn = none ∧ Extern.find fn = some (Extern.Atomic.update (Op.intArith .add) k true)

theorem getD_get {α : Type} {l : List α} {i : Nat} (d : α) (h : i < l.length) : l[i]? = some (l.getD i d) := by simp [List.getD_eq_getElem?_getD, h]
class Pos (n : Nat) : Prop where pos : 0 < n
instance NN.iElem (H F : SL) (q p : Option Addr) (i s j e sz n c : Nat) (xs : List Value) [l : RLoc q p i s j] [r : AtP H p (RowC e sz p n c xs) F] [h : Pos n] : NN H q := ⟨fun W w hs => by
  have := RowC.nn (r.eq ▸ hs) h.pos
  rw [l.eq]
  cases p with
  | none => exact absurd rfl this
  | some a => simp [Go.Proofs.YtianbkbehjppoaaGreatDoor.off]⟩

/-- A cell that may be written: what it holds, and the assertion when it holds something else. -/
class CellAt (H : SL) (q : Option Addr) (v : outParam Value) (φ : outParam Prop) : Prop where
  get : φ → ∀ W w, Sat W w H → ∃ a, q = some a ∧ w.cell? a = some v ∧ w.frozen? a = false
class CellPut (H : SL) (q : Option Addr) (u : Value) (H' : outParam SL) (φ : outParam Prop) : Prop where
  put : φ → ∀ W w a, Sat W w H → q = some a → Sat W (w.setCell a u) H'

theorem RowC.setCell {W w : World} {F : SL} {e sz n cap : Nat} {p : Option Addr} {xs : List Value} (h : Sat W w (RowC e sz p n cap xs * F)) {i : Nat} (hi : i < n * sz) (u : Value) :
    ∃ a v, off p i = some a ∧ xs[i]? = some v ∧ w.cell? a = some v ∧ w.frozen? a = false ∧ Sat W (w.setCell a u) (RowC e sz p n cap (xs.set i u) * F) := by
  obtain ⟨⟨hl, hn, hm⟩, ⟨_, hc, _⟩ | ⟨g, o, cur, rfl, h2, h3, hs⟩⟩ := RowC.open h
  · have h0 : n = 0 := by omega
    subst h0
    omega
  · have hle := Nat.mul_le_mul_right sz hn
    have hx : i < xs.length := by omega
    refine ⟨(⟨g, o, none⟩ : Addr).add i, xs[i], rfl, List.getElem?_eq_getElem hx, ?_, ?_, ?_⟩
    · obtain ⟨a, h4, h5⟩ := RowC.cell h (List.getElem?_eq_getElem hx)
      simp only [off, Option.map_some, Option.some.injEq] at h4
      rw [h4]; exact h5
    · rw [add_at]; exact hs.free _
    · rw [add_at]
      have h6 := hs.set (o + i) u
      rw [List.setIfInBounds_toArray] at h6
      refine RowC.shut hn hm (by simpa using h2) ?_ h6
      subst h3
      apply List.ext_getElem?
      intro j
      simp only [List.getElem?_take, List.getElem?_drop, List.getElem?_set, List.length_take, List.length_drop, List.length_set]
      repeat' split
      all_goals first
        | rfl
        | omega
        | (congr 1; omega)
        | skip

instance CellAt.row (H F : SL) (q p : Option Addr) (i s j e sz n c : Nat) (xs : List Value) (v : Value) (φ : Prop) [l : RLoc q p i s j] [r : AtP H p (RowC e sz p n c xs) F] [g : RowGet xs i s j v φ] : CellAt H q v φ := ⟨fun hφ W w hs => by
  have hg := g.get hφ
  have hr := r.eq ▸ hs
  have hi : i * s + j < n * sz := by rw [← (RowC.len hr).1]; exact (List.getElem?_eq_some_iff.1 hg).1
  obtain ⟨a, u, h1, h2, h3, h4, _⟩ := RowC.setCell hr hi v
  rw [hg] at h2
  cases h2
  exact ⟨a, by rw [l.eq, h1], h3, h4⟩⟩
instance CellPut.row (H F : SL) (q p : Option Addr) (i s j e sz n c : Nat) (xs ys : List Value) (u : Value) (φ : Prop) [l : RLoc q p i s j] [r : AtP H p (RowC e sz p n c xs) F] [g : RowSet xs i s j [u] ys φ] : CellPut H q u (RowC e sz p n c ys * F) φ := ⟨fun hφ W w a hs hq => by
  obtain ⟨h1, rfl⟩ := g.set hφ
  have hr := r.eq ▸ hs
  simp only [List.length_cons, List.length_nil] at h1
  have hi : i * s + j < n * sz := by rw [← (RowC.len hr).1]; omega
  obtain ⟨b, v, h2, _, _, _, h5⟩ := RowC.setCell hr hi u
  rw [l.eq, h2] at hq
  simp only [Option.some.injEq] at hq
  subst hq
  rw [List.set_eq_take_append_cons_drop, if_pos (by omega)] at h5
  simpa using h5⟩
instance CellAt.obj (H F : SL) (q p : Option Addr) (i t : Nat) (cs : List Value) [l : Loc q p i] [r : AtP H p (Obj p t cs) F] : CellAt H q (cs.getD i undef) (i < cs.length) := ⟨fun hφ W w hs => by
  have hr := r.eq ▸ hs
  have hφ := getD_get undef hφ
  obtain ⟨hi, hv⟩ := List.getElem?_eq_some_iff.1 hφ
  obtain ⟨a, u, h1, h2, h3, _⟩ := Obj.set hr hi undef
  obtain ⟨a', h4, h5⟩ := Obj.cell hr hφ
  rw [h1] at h4
  cases h4
  exact ⟨a, by rw [l.eq, h1], h5, h3⟩⟩
instance CellPut.obj (H F : SL) (q p : Option Addr) (i t : Nat) (cs : List Value) (u : Value) [l : Loc q p i] [r : AtP H p (Obj p t cs) F] : CellPut H q u (Obj p t (cs.set i u) * F) (i < cs.length) := ⟨fun hi W w a hs hq => by
  have hr := r.eq ▸ hs
  obtain ⟨b, v, h1, _, _, h4⟩ := Obj.set hr hi u
  rw [l.eq, h1] at hq
  cases hq
  exact h4⟩

variable {X : Cx} {k : List KI} {σ : Env} {H : SL} {o : Oper}

theorem OpVal_aload {x : Operand} {ats : Array TypeId} {f : FuncId} {kk : IntKind} [I : IsLoad X.P f kk] {q : Option Addr} {z : Int} {φ : Prop} (ho : o.op = .call { callee := .value (.func f), args := #[x], argTypes := ats }) (hx : ev σ x = some (.pointer q)) [c : CellAt H q (.int kk z) φ] (hφ : φ) : OpVal X σ H o (.int kk z) := by
  intro a w ha hs
  obtain ⟨fn, h1, h2, h3, h4, h5⟩ := I.h
  obtain ⟨b, rfl, hc, _⟩ := c.get hφ _ w hs
  simp only [execOp, ho, resolve, Act.eval, Deferred.ofValue, Sem.run_bind, Sem.run_pure, Result.andThen_ok, invoke, Array.empty_append, Array.append_empty]
  have : Array.map a.eval #[x] = #[.pointer (some b)] := by simp [ha.eval hx]
  rw [this]
  exact run_call_load h1 h2 h3 h4 kk h5 hc
theorem OpDoes_astore {x y : Operand} {ats : Array TypeId} {f : FuncId} {kk : IntKind} [I : IsStore X.P f] {q : Option Addr} {z : Int} {v : Value} {φ ψ : Prop} {H' : SL} (ho : o.op = .call { callee := .value (.func f), args := #[x, y], argTypes := ats }) (hx : ev σ x = some (.pointer q)) (hy : ev σ y = some (.int kk z)) [c : CellAt H q v φ] [d : CellPut H q (.int kk z) H' ψ] (hφ : φ) (hψ : ψ) :
    OpDoes X σ H o (fun _ : Unit => .tuple #[]) (fun _ => H') := by
  intro a w ha hs
  obtain ⟨fn, h1, h2, h3, h4, h5⟩ := I.h
  obtain ⟨b, rfl, hc, hf⟩ := c.get hφ _ w hs
  refine ⟨(), _, ?_, d.put hψ _ w b hs rfl⟩
  simp only [execOp, ho, resolve, Act.eval, Deferred.ofValue, Sem.run_bind, Sem.run_pure, Result.andThen_ok, invoke, Array.empty_append, Array.append_empty]
  have : Array.map a.eval #[x, y] = #[.pointer (some b), .int kk z] := by simp [ha.eval hx, ha.eval hy]
  rw [this]
  exact run_call_store h1 h2 h3 h4 h5 hc hf
theorem OpDoes_acas {x y y' : Operand} {ats : Array TypeId} {f : FuncId} {kk : IntKind} [I : IsCas X.P f kk] {q : Option Addr} {z u u' : Int} {φ ψ : Prop} {H' : SL} (ho : o.op = .call { callee := .value (.func f), args := #[x, y, y'], argTypes := ats }) (hx : ev σ x = some (.pointer q)) (hy : ev σ y = some (.int kk u)) (hy' : ev σ y' = some (.int kk u')) [c : CellAt H q (.int kk z) φ] [d : CellPut H q (.int kk u') H' ψ] (hφ : φ) (hψ : ψ) (he : z = u) :
    OpDoes X σ H o (fun _ : Unit => .bool true) (fun _ => H') := by
  intro a w ha hs
  subst he
  obtain ⟨fn, h1, h2, h3, h4, h5⟩ := I.h
  obtain ⟨b, rfl, hc, hf⟩ := c.get hφ _ w hs
  refine ⟨(), _, ?_, d.put hψ _ w b hs rfl⟩
  simp only [execOp, ho, resolve, Act.eval, Deferred.ofValue, Sem.run_bind, Sem.run_pure, Result.andThen_ok, invoke, Array.empty_append, Array.append_empty]
  have : Array.map a.eval #[x, y, y'] = #[.pointer (some b), .int kk z, .int kk u'] := by simp [ha.eval hx, ha.eval hy, ha.eval hy']
  rw [this]
  exact run_call_cas_hit h1 h2 h3 h4 kk h5 hc hf
theorem OpVal_acas {x y y' : Operand} {ats : Array TypeId} {f : FuncId} {kk : IntKind} [I : IsCas X.P f kk] {q : Option Addr} {z u u' : Int} {φ : Prop} (ho : o.op = .call { callee := .value (.func f), args := #[x, y, y'], argTypes := ats }) (hx : ev σ x = some (.pointer q)) (hy : ev σ y = some (.int kk u)) (hy' : ev σ y' = some (.int kk u')) [c : CellAt H q (.int kk z) φ] (hφ : φ) (he : ¬ z = u) :
    OpVal X σ H o (.bool false) := by
  intro a w ha hs
  obtain ⟨fn, h1, h2, h3, h4, h5⟩ := I.h
  obtain ⟨b, rfl, hc, hf⟩ := c.get hφ _ w hs
  simp only [execOp, ho, resolve, Act.eval, Deferred.ofValue, Sem.run_bind, Sem.run_pure, Result.andThen_ok, invoke, Array.empty_append, Array.append_empty]
  have : Array.map a.eval #[x, y, y'] = #[.pointer (some b), .int kk u, .int kk u'] := by simp [ha.eval hx, ha.eval hy, ha.eval hy']
  rw [this]
  exact run_call_cas_miss h1 h2 h3 h4 kk h5 hc hf he

/-! ### Lists of numbers in rows -/
def natsR (k : IntKind) (l : List Nat) : List Value := l.map fun (n : Nat) => .int k (n : Int)
def intsR (k : IntKind) (l : List Int) : List Value := l.map fun n => .int k n
theorem intsR_len (k : IntKind) (l : List Int) : (intsR k l).length = l.length := by simp [intsR]
instance RowGet.nats (k : IntKind) (l : List Nat) (i : Nat) : RowGet (natsR k l) i 1 0 (.int k ((l.getD i 0 : Nat) : Int)) (i < l.length) := ⟨fun h => by
  simp only [natsR, List.getElem?_map, Nat.mul_one, Nat.add_zero, getD_get 0 h, Option.map_some]⟩
instance RowGet.ints (k : IntKind) (l : List Int) (i : Nat) : RowGet (intsR k l) i 1 0 (.int k (l.getD i 0)) (i < l.length) := ⟨fun h => by
  simp only [intsR, List.getElem?_map, Nat.mul_one, Nat.add_zero, getD_get 0 h, Option.map_some]⟩
theorem set_split {l : List Value} {i : Nat} {v : Value} (h : i < l.length) : l.set i v = l.take i ++ [v] ++ l.drop (i + 1) := by
  rw [List.set_eq_take_append_cons_drop, if_pos h]; simp
instance RowSet.nats (k : IntKind) (l : List Nat) (i n : Nat) (z : Int) [m : NatOf z n] : RowSet (natsR k l) i 1 0 [.int k z] (natsR k (l.set i n)) (i < l.length) := ⟨fun h => by
  rw [m.eq]
  refine ⟨by simp [natsR]; omega, ?_⟩
  simp only [Nat.mul_one, Nat.add_zero, List.length_cons, List.length_nil, Nat.zero_add]
  rw [← set_split (by simpa [natsR] using h)]
  simp [natsR, List.map_set]⟩
instance RowSet.ints (k : IntKind) (l : List Int) (i : Nat) (z : Int) : RowSet (intsR k l) i 1 0 [.int k z] (intsR k (l.set i z)) (i < l.length) := ⟨fun h => by
  refine ⟨by simp [intsR]; omega, ?_⟩
  simp only [Nat.mul_one, Nat.add_zero, List.length_cons, List.length_nil, Nat.zero_add]
  rw [← set_split (by simpa [intsR] using h)]
  simp [intsR, List.map_set]⟩
instance Ones.iNats (k : IntKind) (l : List Nat) : Ones (natsR k l) := ⟨by simp [Go.Proofs.YtianbkbehjppoaaGreatDoor.ones, natsR, Value.oneCell']⟩
instance Ones.iInts (k : IntKind) (l : List Int) : Ones (intsR k l) := ⟨by simp [Go.Proofs.YtianbkbehjppoaaGreatDoor.ones, intsR, Value.oneCell']⟩
theorem take_snocD {α : Type} {l : List α} {i : Nat} {d : α} (h : i < l.length) : l.take i ++ [l.getD i d] = l.take (i + 1) := by
  rw [List.take_add_one, getD_get d h]; rfl
theorem natsR_snoc (k : IntKind) (l : List Nat) (n : Nat) : natsR k l ++ [.int k (n : Int)] = natsR k (l ++ [n]) := by simp [natsR]
end Go.Proofs.YtianbkbehjppoaaGreatDoor

namespace Go.Proofs.YtianbkbehjppoaaGreatDoor
open Go.RowKit

def bs (l : List UInt8) : ByteArray := ⟨l.toArray⟩
class StrOf (s : ByteArray) (l : outParam (List UInt8)) : Prop where eq : s = bs l
instance (priority := 2000) StrOf.iBs (l : List UInt8) : StrOf (bs l) l := ⟨rfl⟩
instance (priority := 1900) StrOf.iMk (l : List UInt8) : StrOf ⟨l.toArray⟩ l := ⟨rfl⟩
instance (priority := 1800) StrOf.iEmpty : StrOf ByteArray.empty [] := ⟨rfl⟩
theorem bs_size (l : List UInt8) : (bs l).size = l.length := by simp [bs, ByteArray.size]
theorem bs_toList (l : List UInt8) : (bs l).toList = l := by
  simp [bs, ByteArray.toList_eq]
theorem bs_inj {a b : List UInt8} : bs a = bs b ↔ a = b := by
  constructor
  · intro h
    have := congrArg (fun s => s.data.toList) h
    simpa [bs] using this
  · rintro rfl; rfl
theorem bs_append (a b : List UInt8) : bs a ++ bs b = bs (a ++ b) := by
  apply ByteArray.ext
  simp [bs, ByteArray.data_append]
theorem bs_extract (l : List UInt8) (i j : Nat) : (bs l).extract i j = bs ((l.take j).drop i) := by
  apply ByteArray.ext
  simp [bs, ByteArray.data_extract, List.drop_take]
theorem bs_get {l : List UInt8} {i : Nat} (h : i < l.length) : (bs l)[i]? = some (l.getD i 0) := by
  have : i < (bs l).size := by rw [bs_size]; exact h
  rw [getElem?_pos (bs l) i this]
  simp [bs, ByteArray.getElem_eq_getElem_data, List.getD_eq_getElem?_getD, h]
variable {X : Cx} {k : List KI} {σ : Env} {H : SL} {o : Oper}

theorem OpVal_lenStr {x : Operand} {s : ByteArray} {l : List UInt8} {t : TypeId} (ho : o.op = .call { callee := .builtin .len, args := #[x], argTypes := #[t] }) (hx : ev σ x = some (.string s)) [m : StrOf s l] [u : TStr X.P t] : OpVal X σ H o (.int .i64 (l.length : Int)) := by
  intro a w ha hs
  have e := m.eq
  subst e
  simp only [execOp, ho, resolve, invoke, builtin, Sem.run_bind, Sem.run_pure, Result.andThen_ok, List.map_toArray, List.map_cons, List.map_nil, ha.eval hx]
  simp [Builtin.len_, run_underlying u.h, bs_size, go_sem]
theorem OpVal_indexStr {x y : Operand} {s : ByteArray} {l : List UInt8} {t : TypeId} {kk : IntKind} {z : Int} {i : Nat} (ho : o.op = .index t x y) (hx : ev σ x = some (.string s)) (hy : ev σ y = some (.int kk z)) [m : StrOf s l] [q : NatOf z i] [u : TStr X.P t] (hi : i < l.length) : OpVal X σ H o (.int .u8 (((l.getD i 0).toNat : Nat) : Int)) := by
  intro a w ha hs
  have e := m.eq
  subst e
  have e := q.eq
  subst e
  simp only [execOp, ho, ha.eval hx, ha.eval hy]
  simp [Instr.index, asIntOf, run_underlying u.h, bs_get hi, go_sem]
theorem run_eqStr {P : Program} {w : World} {op : BinOp} {t : TypeId} {p q : Operand} {a b : ByteArray} : (eqGuard op t p q (.string a) (.string b)).run P w = .ok () w := by
  unfold eqGuard
  cases op <;> rfl
theorem OpVal_strEq {x y : Operand} {t u : TypeId} {s r : ByteArray} {l m : List UInt8} (ho : o.op = .binOp .eql t x y u) (hx : ev σ x = some (.string s)) (hy : ev σ y = some (.string r)) [e1 : StrOf s l] [e2 : StrOf r m] : OpVal X σ H o (.bool (decide (l = m))) := by
  intro a w ha hs
  have e := e1.eq
  subst e
  have e := e2.eq
  subst e
  simp only [execOp, ho, ha.eval hx, ha.eval hy]
  have : (l == m) = decide (l = m) := by rw [Bool.eq_iff_iff]; simp
  simp [Sem.run_bind, run_eqStr, binOp, Op.stringOp, bs_toList, this, go_sem]
theorem OpVal_strNe {x y : Operand} {t u : TypeId} {s r : ByteArray} {l m : List UInt8} (ho : o.op = .binOp .neq t x y u) (hx : ev σ x = some (.string s)) (hy : ev σ y = some (.string r)) [e1 : StrOf s l] [e2 : StrOf r m] : OpVal X σ H o (.bool (!decide (l = m))) := by
  intro a w ha hs
  have e := e1.eq
  subst e
  have e := e2.eq
  subst e
  simp only [execOp, ho, ha.eval hx, ha.eval hy]
  have : (l == m) = decide (l = m) := by rw [Bool.eq_iff_iff]; simp
  simp [Sem.run_bind, run_eqStr, binOp, Op.stringOp, bs_toList, this, go_sem]
theorem OpVal_strAdd {x y : Operand} {t u : TypeId} {s r : ByteArray} {l m : List UInt8} (ho : o.op = .binOp .add t x y u) (hx : ev σ x = some (.string s)) (hy : ev σ y = some (.string r)) [e1 : StrOf s l] [e2 : StrOf r m] (hb : l.length + m.length ≤ 9223372036854775807) : OpVal X σ H o (.string (bs (l ++ m))) := by
  intro a w ha hs
  have e := e1.eq
  subst e
  have e := e2.eq
  subst e
  simp only [execOp, ho, ha.eval hx, ha.eval hy]
  have hn : ¬ (((bs l).size + (bs m).size : Nat) : Int) > IntKind.i64.max := by
    rw [bs_size, bs_size]
    have : IntKind.i64.max = 9223372036854775807 := rfl
    omega
  simp only [Sem.run_bind, run_eqStr, binOp, Op.stringOp, Result.andThen_ok, if_neg hn, bs_append]
  rfl
/-- A part of a string. -/
theorem run_sliceStr {P : Program} {w : World} {t : TypeId} [u : TStr P t] {l : List UInt8} {lo hi : Option Value} {i j : Nat} (hl : lo = none ∧ i = 0 ∨ ∃ kk, lo = some (.int kk (i : Int))) (hh : hi = none ∧ j = l.length ∨ ∃ kk, hi = some (.int kk (j : Int))) (hij : i ≤ j) (hj : j ≤ l.length) :
    (Instr.sliceAt t (.string (bs l)) lo hi none).run P w = .ok (.string (bs ((l.take j).drop i))) w := by
  have h2 : (i : Int) ≤ (j : Int) := by omega
  have h3 : (j : Int) ≤ (l.length : Int) := by omega
  rcases hl with ⟨rfl, rfl⟩ | ⟨k1, rfl⟩ <;> rcases hh with ⟨rfl, rfl⟩ | ⟨k2, rfl⟩ <;>
    simp [Instr.sliceAt, Instr.slice, Instr.sliceBounds, Instr.sliceBound, asIntOf, run_underlying u.h, bs_size, bs_extract, h2, h3, hij, hj, go_sem]
  all_goals first | done | (intro; omega)
theorem OpVal_sliceStr {x : Operand} {lo hi : Option Operand} {s : ByteArray} {l : List UInt8} {t : TypeId} {i j : Nat} (ho : o.op = .slice t x lo hi none) (hx : ev σ x = some (.string s)) [m : StrOf s l] [u : TStr X.P t]
    (hl : lo = none ∧ i = 0 ∨ ∃ y kk z, lo = some y ∧ ev σ y = some (.int kk z) ∧ z = (i : Int)) (hh : hi = none ∧ j = l.length ∨ ∃ y kk z, hi = some y ∧ ev σ y = some (.int kk z) ∧ z = (j : Int)) (hij : i ≤ j) (hj : j ≤ l.length) : OpVal X σ H o (.string (bs ((l.take j).drop i))) := by
  intro a w ha hs
  have e := m.eq
  subst e
  simp only [execOp, ho, ha.eval hx]
  have h1 : lo.map a.eval = none ∧ i = 0 ∨ ∃ kk, lo.map a.eval = some (.int kk (i : Int)) := by
    rcases hl with ⟨rfl, h⟩ | ⟨y, kk, z, rfl, h, rfl⟩
    · exact .inl ⟨rfl, h⟩
    · exact .inr ⟨kk, by simp [ha.eval h]⟩
  have h2 : hi.map a.eval = none ∧ j = l.length ∨ ∃ kk, hi.map a.eval = some (.int kk (j : Int)) := by
    rcases hh with ⟨rfl, h⟩ | ⟨y, kk, z, rfl, h, rfl⟩
    · exact .inl ⟨rfl, h⟩
    · exact .inr ⟨kk, by simp [ha.eval h]⟩
  simp only [Sem.run_bind, Option.map_none, run_sliceStr h1 h2 hij hj, Result.andThen_ok]
  rfl
theorem OpVal_sliceLo {x y : Operand} {s : ByteArray} {l : List UInt8} {t : TypeId} {kk : IntKind} {z : Int} {i : Nat} (ho : o.op = .slice t x (some y) none none) (hx : ev σ x = some (.string s)) (hy : ev σ y = some (.int kk z)) [m : StrOf s l] [u : TStr X.P t] [q : NatOf z i] (hi : i ≤ l.length) : OpVal X σ H o (.string (bs (l.drop i))) := by
  have := OpVal_sliceStr (X := X) (H := H) (j := l.length) ho hx (.inr ⟨y, kk, z, rfl, hy, q.eq⟩) (.inl ⟨rfl, rfl⟩) hi (Nat.le_refl _)
  rwa [List.take_length] at this
theorem OpVal_sliceHi {x y : Operand} {s : ByteArray} {l : List UInt8} {t : TypeId} {kk : IntKind} {z : Int} {j : Nat} (ho : o.op = .slice t x none (some y) none) (hx : ev σ x = some (.string s)) (hy : ev σ y = some (.int kk z)) [m : StrOf s l] [u : TStr X.P t] [q : NatOf z j] (hi : j ≤ l.length) : OpVal X σ H o (.string (bs (l.take j))) := by
  have := OpVal_sliceStr (X := X) (H := H) (i := 0) ho hx (.inl ⟨rfl, rfl⟩) (.inr ⟨y, kk, z, rfl, hy, q.eq⟩) (Nat.zero_le _) hi
  rwa [List.drop_zero] at this

/-! ### Bytes of a string, a string of bytes -/
def bytesR (l : List UInt8) : List Value := l.map fun b => .int .u8 ((b.toNat : Nat) : Int)
theorem bytesR_len (l : List UInt8) : (bytesR l).length = l.length := by simp [bytesR]
instance RowGet.bytes (l : List UInt8) (i : Nat) : RowGet (bytesR l) i 1 0 (.int .u8 (((l.getD i 0).toNat : Nat) : Int)) (i < l.length) := ⟨fun h => by
  simp only [bytesR, List.getElem?_map, Nat.mul_one, Nat.add_zero, getD_get 0 h, Option.map_some]⟩
instance Ones.iBytes (l : List UInt8) : Ones (bytesR l) := ⟨by simp [Go.Proofs.YtianbkbehjppoaaGreatDoor.ones, bytesR, Value.oneCell']⟩
class BytesOf (xs : List Value) (l : outParam (List UInt8)) (φ : outParam Prop) : Prop where eq : φ → xs = bytesR l
instance (priority := 2000) BytesOf.iR (l : List UInt8) : BytesOf (bytesR l) l ((0 : Int) ≤ 0) := ⟨fun _ => rfl⟩
instance BytesOf.iNil : BytesOf [] [] ((0 : Int) ≤ 0) := ⟨fun _ => rfl⟩
instance BytesOf.iCons (z : Int) (xs : List Value) (l : List UInt8) (φ : Prop) [h : BytesOf xs l φ] : BytesOf (.int .u8 z :: xs) (UInt8.ofNat z.toNat :: l) ((0 ≤ z ∧ z < 256) ∧ φ) := ⟨fun g => by
  rw [h.eq g.2]
  simp only [bytesR, List.map_cons, List.cons.injEq, Value.int.injEq, true_and, and_true]
  have : (UInt8.ofNat z.toNat).toNat = z.toNat := by
    rw [UInt8.toNat_ofNat']
    exact Nat.mod_eq_of_lt (by omega)
  rw [this]
  omega⟩

/-- A row that is only read (its block may bear a mark). -/
def RowF (e sz : Nat) (p : Option Addr) (n cap : Nat) (xs : List Value) : SL := fun h =>
  (xs.length = n * sz ∧ n ≤ cap) ∧ ∃ (g o : Nat) (cur : List Value) (fr : Nat × Nat), p = some ⟨g, o, none⟩ ∧ (cur.drop o).take (n * sz) = xs ∧ SL.blk g (.cells cur.toArray e fr) h
instance (priority := 2000) AtP.rowF (e sz : Nat) (p : Option Addr) (n cap : Nat) (xs : List Value) (F : SL) : AtP (RowF e sz p n cap xs * F) p (RowF e sz p n cap xs) F := ⟨rfl⟩
theorem RowF.open {W w : World} {F : SL} {e sz n cap : Nat} {p : Option Addr} {xs : List Value} (h : Sat W w (RowF e sz p n cap xs * F)) : (xs.length = n * sz ∧ n ≤ cap) ∧
    ∃ (g o : Nat) (cur : List Value) (fr : Nat × Nat), p = some ⟨g, o, none⟩ ∧ (cur.drop o).take (n * sz) = xs ∧ Sat W w (SL.blk g (.cells cur.toArray e fr) * F) := by
  obtain ⟨hb, x, ⟨h1, h2, ⟨hl, g, o, cur, fr, a1, a2, a3⟩, q, d, e'⟩, hx⟩ := h
  exact ⟨hl, g, o, cur, fr, a1, a2, hb, x, ⟨h1, h2, a3, q, d, e'⟩, hx⟩
theorem RowF.cell {W w : World} {F : SL} {e sz n cap : Nat} {p : Option Addr} {xs : List Value} (h : Sat W w (RowF e sz p n cap xs * F)) {i : Nat} {v : Value} (hv : xs[i]? = some v) : ∃ a, off p i = some a ∧ w.cell? a = some v := by
  obtain ⟨_, g, o, cur, fr, rfl, h2, hs⟩ := RowF.open h
  refine ⟨(⟨g, o, none⟩ : Addr).add i, rfl, ?_⟩
  rw [add_at]
  subst h2
  have hg := hs.get
  simp only [World.cell?, hg]
  simp only [List.getElem?_take, List.getElem?_drop] at hv
  split at hv
  · simpa using hv
  · cases hv
instance (priority := 900) Src.rowF (W : World) (H F : SL) (e sz n cap : Nat) (p : Option Addr) (xs : List Value) [r : AtP H p (RowF e sz p n cap xs) F] : Src W H p n xs where
  cells := fun w hs i v hv => RowF.cell (r.eq ▸ hs) hv
  nn := fun w hs hn => by
    obtain ⟨_, g, o, _, _, rfl, _⟩ := RowF.open (r.eq ▸ hs)
    simp

theorem OpDoes_bytes {x : Operand} {t u e sz by' : TypeId} {z : List Value} {s : ByteArray} {l : List UInt8} (ho : o.op = .convert t u x) (hx : ev σ x = some (.string s)) [m : StrOf s l] [u1 : TStr X.P t] [u2 : TSlice X.P u e sz by' z] [u3 : TInt X.P e .u8] :
    OpDoes X σ H o (fun q : Option Addr × Nat => .slice q.1 l.length q.2) (fun q => RowF e 1 q.1 l.length q.2 (bytesR l) * H) := by
  intro a w ha hs
  have e1 := m.eq
  subst e1
  refine ⟨(some ⟨w.heap.size, 0, none⟩, grownCap w (bs l).size 0 e), Lib.bytesWorld w e (bs l), ?_, ?_⟩
  · simp only [execOp, ho, ha.eval hx, Sem.run_bind, Lib.run_convert_string_bytes w t u e (bs l) u1.h u2.under u3.h, Result.andThen_ok, bs_size]
    rfl
  · have hn := hs.new (w' := Lib.bytesWorld w e (bs l)) (b := w.heap.size) rfl (by rw [Lib.bytesWorld_size]; omega) (by simp [Lib.bytesWorld, World.freeze, World.alloc, World.drew, -World.alloc_eq, -World.drew_eq]) (by simp [Lib.bytesWorld, World.freeze, World.alloc, World.drew, -World.alloc_eq, -World.drew_eq])
      (by simp [Lib.bytesWorld, World.freeze, World.alloc, World.drew, -World.alloc_eq, -World.drew_eq]) (fun k hk => Lib.bytesWorld_at_old w e (bs l) k hk) (Lib.bytesWorld_at_new w e (bs l))
    refine hn.left fun y hy => ⟨⟨by rw [bytesR_len, Nat.mul_one], ?_⟩, w.heap.size, 0, (Lib.bytesCells w e (bs l)).toList, _, rfl, ?_, by rw [Array.toArray_toList]; exact hy⟩
    · rw [← bs_size]; exact grownCap_ge w _ _ _
    · rw [List.drop_zero, Nat.mul_one]
      simp [Lib.bytesCells, bs, bytesR]
theorem OpVal_bytesStr {x : Operand} {t u e sz by' n n0 cap : Nat} {z xs : List Value} {p : Option Addr} {l : List UInt8} {φ : Prop} (ho : o.op = .convert t u x) (hx : ev σ x = some (.slice p n cap)) [u1 : TSlice X.P t e sz by' z] [u2 : TInt X.P e .u8] [u3 : TStr X.P u]
    [r : Src X.W H p n0 xs] [b : BytesOf xs l φ] (hφ : φ) (hn : l.length = n) : OpVal X σ H o (.string (bs l)) := by
  intro a w ha hs
  have hb := b.eq hφ
  subst hb
  subst hn
  simp only [execOp, ho, ha.eval hx]
  cases p with
  | none =>
    have h0 : l = [] := by
      cases l with
      | nil => rfl
      | cons c l =>
        obtain ⟨q, hq, _⟩ := r.cells w hs 0 (.int .u8 ((c.toNat : Nat) : Int)) (by simp [bytesR])
        simp [off] at hq
    subst h0
    simp [convert, run_underlying u1.under, run_underlying u2.h, run_underlying u3.h, Conv.bytesToString, go_sem, bs]
    rfl
  | some q =>
    simp only [Sem.run_bind, run_convert_bytes_back w t u e q cap l u1.under u2.h u3.h (fun j hj => by
      obtain ⟨a', h1, h2⟩ := r.cells w hs j (.int .u8 (((l[j]).toNat : Nat) : Int)) (by simp [bytesR, hj])
      simp only [off, Option.map_some, Option.some.injEq] at h1
      rw [h1]; exact h2), Result.andThen_ok]
    rfl

end Go.Proofs.YtianbkbehjppoaaGreatDoor

namespace Go.Proofs.YtianbkbehjppoaaGreatDoor
open Go.RowKit

variable {X : Cx} {k : List KI} {σ : Env} {H : SL} {o : Oper}

/-! ### Truths -/
theorem run_eqBool {P : Program} {t : TypeId} [h : TBool P t] (p q : Bool) (w : World) : (Op.equal t (.bool p) (.bool q)).run P w = .ok (p == q) w := by
  unfold Op.equal
  obtain ⟨d, hd⟩ : ∃ d, Op.maxDepth = d + 1 := ⟨9999, rfl⟩
  rw [hd]
  exact run_equalIn_bool' w d t p q h.h
theorem OpVal_boolEq {x y : Operand} {t u : TypeId} {p q : Bool} (ho : o.op = .binOp .eql t x y u) (hx : ev σ x = some (.bool p)) (hy : ev σ y = some (.bool q)) [h : TBool X.P t] : OpVal X σ H o (.bool (p == q)) := by
  intro a' w ha _
  simp only [execOp, ho, ha.eval hx, ha.eval hy]
  have hg : ∀ p' q', (eqGuard .eql t p' q' (.bool p) (.bool q)).run X.P w = .ok () w := fun _ _ => rfl
  simp [Sem.run_bind, hg, binOp, run_eqBool p q w, go_sem]
theorem OpVal_boolNe {x y : Operand} {t u : TypeId} {p q : Bool} (ho : o.op = .binOp .neq t x y u) (hx : ev σ x = some (.bool p)) (hy : ev σ y = some (.bool q)) [h : TBool X.P t] : OpVal X σ H o (.bool (!(p == q))) := by
  intro a' w ha _
  simp only [execOp, ho, ha.eval hx, ha.eval hy]
  have hg : ∀ p' q', (eqGuard .neq t p' q' (.bool p) (.bool q)).run X.P w = .ok () w := fun _ _ => rfl
  simp [Sem.run_bind, hg, binOp, run_eqBool p q w, go_sem]
instance NatOf.iMin (a b : Int) (i j : Nat) [h : NatOf a i] [g : NatOf b j] : NatOf (min a b) (min i j) := ⟨by rw [h.eq, g.eq]; omega⟩
instance NatOf.iMax (a b : Int) (i j : Nat) [h : NatOf a i] [g : NatOf b j] : NatOf (max a b) (max i j) := ⟨by rw [h.eq, g.eq]; omega⟩
instance (priority := 1600) NatOf.l200 : NatOf 200 200 := ⟨rfl⟩

/-! ### Arrays -/
class TArrT (P : Program) (t : TypeId) (n : outParam Nat) (e : outParam TypeId) : Prop where h : P.underlying t = some (.array n e)
theorem OpVal_indexArrAddr {x y : Operand} {t : TypeId} {q : Option Addr} {z : Int} {kk : IntKind} {i n sz : Nat} (ho : o.op = .indexAddr t x y) (hx : ev σ x = some (.pointer q)) (hy : ev σ y = some (.int kk z)) [a : TArr X.P t n sz] [m : NatOf z i] [nn : NN H q] (hi : i < n) : OpVal X σ H o (.pointer (off q (i * sz))) := by
  intro b w hb hs
  have e := m.eq
  subst e
  obtain ⟨e, h1, h2⟩ := a.h
  obtain ⟨j, hj, hsz⟩ := map_info h2
  have hq := nn.nn X.W w hs
  cases q with
  | none => exact absurd rfl hq
  | some q =>
    have h3 : (i : Int) < (n : Int) := by omega
    simp only [execOp, ho, hb.eval hx, hb.eval hy]
    simp [Instr.indexAt, asIntOf, Instr.sureAddr, run_underlying h1, sizeOf, typeInfo, hj, hsz, hi, off, go_sem]
theorem OpVal_indexArr {x y : Operand} {t e : TypeId} {cs : List Value} {z : Int} {kk : IntKind} {i n : Nat} {v : Value} {φ : Prop} (ho : o.op = .index t x y) (hx : ev σ x = some (.agg cs.toArray)) (hy : ev σ y = some (.int kk z)) [a : TArrT X.P t n e] [b : TArr X.P t n 1] [c : TCell X.P e] [m : NatOf z i] [g : RowGet cs i 1 0 v φ] (hφ : φ) (hi : i < n) : OpVal X σ H o v := by
  intro d w hd hs
  have e1 := m.eq
  subst e1
  obtain ⟨e', h1, h2⟩ := b.h
  have h0 := a.h
  rw [h1] at h0
  cases h0
  obtain ⟨j, hj, hsz⟩ := map_info h2
  obtain ⟨dd, h3, h4⟩ := c.agg
  have hv := g.get hφ
  simp only [Nat.mul_one, Nat.add_zero] at hv
  have h5 : (i : Int) < (n : Int) := by omega
  simp only [execOp, ho, hd.eval hx, hd.eval hy]
  cases dd <;> simp at h4 <;> simp [Instr.index, asIntOf, run_underlying h1, sizeOf, typeInfo, hj, hsz, hi, part, isAgg, run_underlying h3, asAgg, hv, go_sem]
theorem fill_le {f g : Nat → Option (Nat × Nat)} (hfg : ∀ i q, f i = some q → g i = some q) : ∀ (l : List (Nat × Value)) (cs vs : Array Value), Instr.fill f cs l = some vs → Instr.fill g cs l = some vs
  | [], cs, vs, h => by simpa [Instr.fill] using h
  | (i, v) :: l, cs, vs, h => by
    simp only [Instr.fill] at h ⊢
    cases hf : f i with
    | none => simp [hf] at h
    | some q =>
      rw [hfg i q hf]
      simp only [hf] at h ⊢
      split at h
      · cases h
      · rename_i hc
        rw [if_neg hc]
        exact fill_le hfg l _ _ h
theorem OpVal_buildArr {t : TypeId} {parts : Array (Nat × Operand)} {n sz : Nat} {cs vs : List Value} (ho : o.op = .build t parts) [s : TArr X.P t n sz] [z : TZero X.P t cs] (hv : bld σ ((List.range n).map fun i => (i * sz, sz)) cs parts.toList = some vs) : OpVal X σ H o (.agg vs.toArray) := by
  intro a w ha hs
  obtain ⟨v, h1, h2⟩ := z.h
  obtain ⟨j, hj, hz⟩ := map_info h1
  obtain ⟨e, h3, h4⟩ := s.h
  obtain ⟨j', hj', hsz⟩ := map_info h4
  have h6 := fill_bld ha parts.toList cs vs hv
  have h7 := fill_le (g := fun i => some (i * sz, sz)) (fun i q hq => by
    simp only [List.getElem?_map, Option.map_eq_some_iff] at hq
    obtain ⟨i', hi', rfl⟩ := hq
    have : i' = i := by
      rw [List.getElem?_eq_some_iff] at hi'
      obtain ⟨_, h⟩ := hi'
      simpa using h.symm
    rw [this]) _ _ _ h6
  have hz2 : (zeroValue t).run X.P w = .ok v w := by simp [zeroValue, typeInfo, hj, hz, go_sem]
  have hs2 : (sizeOf e).run X.P w = .ok sz w := by simp [sizeOf, typeInfo, hj', hsz, go_sem]
  have h8 : Instr.fill (fun i => some (i * sz, sz)) v.cells (parts.map fun (q : Nat × Operand) => (q.1, a.eval q.2)).toList = some vs.toArray := by
    rw [h2, Array.toList_map]
    exact h7
  simp only [execOp, ho, Instr.build, Sem.run_bind, hz2, Result.andThen_ok, run_underlying h3]
  simp only [Sem.run_bind, hs2, Result.andThen_ok]
  rw [h8]
  rfl

/-! ### Results, some of them in cells -/
def LoadsV (P : Program) (W : World) (H : SL) (q : Option Addr) (t : TypeId) (v : Value) : Prop := ∀ w, Sat W w H → ∃ b, q = some b ∧ (loadVar t b).run P w = .ok v w
theorem LoadsV.agg {P : Program} {W : World} {q p : Option Addr} {t t0 : TypeId} {i n : Nat} {cs vs : List Value} {F : SL} [c : TAgg P t n] [l : Loc q p i] [r : AtP H p (Obj p t0 cs) F] (hv : slc cs i n = some vs) : LoadsV P W H q t (.agg vs.toArray) := by
  intro w hs
  obtain ⟨b, hb, hs'⟩ := Obj.open (r.eq ▸ hs)
  have hq := l.eq
  rw [hb] at hq
  simp only [off, Option.map_some, add_at, Nat.zero_add] at hq
  obtain ⟨d, h1, h2⟩ := c.agg
  obtain ⟨j, hj, hsz⟩ := map_info c.size
  obtain ⟨hl, rfl⟩ := slc_spec hv
  have := blk_loads (P := P) hs' hl
  unfold loadCells at this
  refine ⟨_, hq, ?_⟩
  cases d <;> simp at h2 <;> simp [loadVar, isAgg, run_underlying h1, sizeOf, typeInfo, hj, hsz, this, go_sem]
theorem LoadsV.cell {P : Program} {W : World} {q p : Option Addr} {t t0 : TypeId} {i : Nat} {cs : List Value} {F : SL} {v : Value} [c : TCell P t] [l : Loc q p i] [r : AtP H p (Obj p t0 cs) F] (hv : cs[i]? = some v) : LoadsV P W H q t v := by
  intro w hs
  obtain ⟨b, hb, hc⟩ := Obj.cell (r.eq ▸ hs) hv
  rw [← l.eq] at hb
  obtain ⟨d, h1, h2⟩ := c.agg
  refine ⟨b, hb, ?_⟩
  cases d <;> simp at h2 <;> simp [loadVar, isAgg, run_underlying h1, load, Sem.run, hc, go_sem]
def ResV (P : Program) (W : World) (σ : Env) (H : SL) : ResultVar → Value → Prop
  | .tmp t, v => σ.get t = some v
  | .cell a t, v => ∃ q, σ.get a = some (.pointer q) ∧ LoadsV P W H q t v
def ResVs (P : Program) (W : World) (σ : Env) (H : SL) : List ResultVar → List Value → Prop
  | [], [] => True
  | r :: rs, v :: vs => ResV P W σ H r v ∧ ResVs P W σ H rs vs
  | _, _ => False
def resOne (tmps : Array Value) : ResultVar → Sem Value
  | .tmp t => pure (tmps.getD t undef)
  | .cell b t => do loadVar t (← asAddr (tmps.getD b undef))
theorem getD_tmp {a : Array Value} {t : Nat} {v : Value} (h : a[t]? = some v) : a.getD t undef = v := by rw [Array.getD_eq_getD_getElem?, h]; rfl
theorem run_resVs {P : Program} {W w : World} {N : Nat} {a : Act} (ha : Fits N a σ) (hs : Sat W w H) : ∀ (rs : List ResultVar) (vs : List Value), ResVs P W σ H rs vs →
    (rs.mapM (resOne a.tmps)).run P w = .ok vs w
  | [], [], _ => by simp [go_sem]
  | [], _ :: _, h => h.elim
  | _ :: _, [], h => h.elim
  | r :: rs, v :: vs, ⟨h1, h2⟩ => by
    have ih := run_resVs ha hs rs vs h2
    cases r with
    | tmp t =>
      have := getD_tmp (ha.vals t v h1)
      simp only [List.mapM_cons, resOne, Sem.run_bind, this, Sem.run_pure, Result.andThen_ok, ih]
    | cell b t =>
      obtain ⟨q, h3, h4⟩ := h1
      have := getD_tmp (ha.vals b _ h3)
      obtain ⟨c, rfl, h5⟩ := h4 w hs
      have h6 : (asAddr (.pointer (some c))).run P w = .ok c w := by simp [asAddr, go_sem]
      simp only [List.mapM_cons, resOne, Sem.run_bind, this, h6, h5, Sem.run_pure, Result.andThen_ok, ih]
section leave
variable {P : Program} {N : Nat} {W : World} {fn : Func} {α : Type} {r : α → Value} {H' : α → SL}
theorem run_resAll {w : World} {a : Act} (ha : Fits N a σ) (hs : Sat W w H) {rs : List ResultVar} {vs : List Value} (hf : fn.results = rs.toArray) (h : ResVs P W σ H rs vs) :
    (results fn a.tmps).run P w = .ok (if h : vs.toArray.size = 1 then vs.toArray[0] else .tuple vs.toArray) w := by
  have h1 := run_resVs (P := P) ha hs rs vs h
  have e : results fn a.tmps = (do
      let vs ← fn.results.mapM (resOne a.tmps)
      pure (if h : vs.size = 1 then vs[0] else .tuple vs)) := by
    unfold results
    congr
  have h2 : (rs.toArray.mapM (resOne a.tmps)).run P w = .ok vs.toArray w := by
    rw [Array.mapM_eq_mapM_toList]
    show (Bind.bind (List.mapM (resOne a.tmps) rs) (fun l => (pure l.toArray : Sem (Array Value)))).run P w = _
    rw [Sem.run_bind, h1]
    rfl
  rw [e, hf, Sem.run_bind, h2]
  rfl
theorem ER_c1 {v : Value} {rv : ResultVar} (hf : fn.results = #[rv]) (h : ResV P W σ H rv v) (x : α) (hx : v = r x) (hs : ∀ w, Sat W w H → Sat W w (H' x)) : ER ⟨P, N, W, bodyPost P fn (Post W r H')⟩ σ H := fun _ w ha hw =>
  leaves (.inr rfl) ha (run_resAll (rs := [rv]) (vs := [v]) ha hw hf ⟨h, trivial⟩) x hx (hs w hw)
theorem ER_cn {v u : Value} {vs : List Value} {rs : List ResultVar} (hf : fn.results = rs.toArray) (h : ResVs P W σ H rs (v :: u :: vs)) (x : α) (hx : .tuple (v :: u :: vs).toArray = r x) (hs : ∀ w, Sat W w H → Sat W w (H' x)) : ER ⟨P, N, W, bodyPost P fn (Post W r H')⟩ σ H := fun _ w ha hw =>
  leaves (.inr rfl) ha (run_resAll ha hw hf h) x (by rw [← hx]; simp) (hs w hw)
end leave

/-! ### Equality of flat values -/
inductive KTag | i (k : IntKind) | b | s
def tagD : TypeDesc → Option KTag
  | .int k => some (.i k)
  | .bool => some .b
  | .string => some .s
  | _ => none
def tagOf (P : Program) (t : TypeId) : Option KTag := (P.underlying t).bind tagD
def fit1 : KTag → Value → Bool
  | .i k, .int k' _ => k == k'
  | .b, .bool _ => true
  | .s, .string _ => true
  | _, _ => false
def fits : List KTag → List Value → Bool
  | [], [] => true
  | t :: ts, v :: vs => fit1 t v && fits ts vs
  | _, _ => false
theorem fits_len : ∀ {ts : List KTag} {vs : List Value}, fits ts vs = true → vs.length = ts.length
  | [], [], _ => rfl
  | _ :: ts, _ :: vs, h => by
    simp only [fits, Bool.and_eq_true] at h
    simp [fits_len h.2]
  | [], _ :: _, h => by simp [fits] at h
  | _ :: _, [], h => by simp [fits] at h
theorem fits_get : ∀ {ts : List KTag} {vs : List Value} (_ : fits ts vs = true) {i : Nat} {t : KTag} (_ : ts[i]? = some t), ∃ v, vs[i]? = some v ∧ fit1 t v = true
  | t :: ts, v :: vs, h, 0, t', ht => by
    simp only [fits, Bool.and_eq_true] at h
    simp only [List.getElem?_cons_zero, Option.some.injEq] at ht
    subst ht
    exact ⟨v, rfl, h.1⟩
  | t :: ts, v :: vs, h, i + 1, t', ht => by
    simp only [fits, Bool.and_eq_true] at h
    simp only [List.getElem?_cons_succ] at ht ⊢
    exact fits_get h.2 ht
  | [], _, _, i, t', ht => by simp at ht
  | _ :: _, [], h, _, _, _ => by simp [fits] at h
theorem run_equal_cell {P : Program} (w : World) (d : Nat) {e : TypeId} {t : KTag} (ht : tagOf P e = some t) {a b : Value} (ha : fit1 t a = true) (hb : fit1 t b = true) :
    ∃ r : Bool, (Op.equalIn (d + 1) e a b).run P w = .ok r w ∧ (r = true ↔ a = b) := by
  unfold tagOf at ht
  cases hu : P.underlying e with
  | none => simp [hu] at ht
  | some dd =>
    rw [hu] at ht
    cases dd <;> simp only [Option.bind_some, tagD, Option.some.injEq, reduceCtorEq] at ht
    all_goals subst ht
    case int k =>
      cases a <;> simp only [fit1, beq_iff_eq, Bool.false_eq_true] at ha
      cases b <;> simp only [fit1, beq_iff_eq, Bool.false_eq_true] at hb
      subst ha; subst hb
      exact ⟨_, run_equalIn_int w d e _ _ _ _ hu, by simp⟩
    case bool =>
      cases a <;> simp only [fit1, Bool.false_eq_true] at ha
      cases b <;> simp only [fit1, Bool.false_eq_true] at hb
      exact ⟨_, run_equalIn_bool' w d e _ _ hu, by simp⟩
    case string =>
      cases a <;> simp only [fit1, Bool.false_eq_true] at ha
      cases b <;> simp only [fit1, Bool.false_eq_true] at hb
      rename_i x y
      refine ⟨_, run_equalIn_string w d e _ _ hu, ?_⟩
      rw [beq_iff_eq, ByteArray.toList_eq, ByteArray.toList_eq]
      constructor
      · intro h
        have : x.data = y.data := by rw [← Array.toArray_toList (xs := x.data), h, Array.toArray_toList]
        rw [ByteArray.ext this]
      · intro h
        cases h
        rfl
theorem run_part_tag {P : Program} (w : World) {e : TypeId} {t : KTag} (ht : tagOf P e = some t) {xs : Array Value} {off : Nat} {v : Value} (hx : xs[off]? = some v) : (part e xs off).run P w = .ok v w := by
  unfold tagOf at ht
  cases hu : P.underlying e with
  | none => simp [hu] at ht
  | some d => cases d <;> simp [hu, tagD] at ht <;> simp [part, isAgg, run_underlying hu, hx]
/-- A type whose parts are flat. -/
class TFlat (P : Program) (t : TypeId) (ks : outParam (List KTag)) : Prop where
  h : (∃ fs, P.underlying t = some (.struct fs) ∧ P.stoodInHeld t = false ∧ fs.toList.map (fun f => (f.name == "_", f.offset, tagOf P f.type)) = ks.zipIdx.map fun q => (false, q.2, some q.1)) ∨
    (∃ n e kk, P.underlying t = some (.array n e) ∧ (P.info? e).map (·.size) = some 1 ∧ tagOf P e = some kk ∧ ks = List.replicate n kk)
  g : P.eqGuardType P.depth t = false
theorem run_eqFields_flat {P : Program} (w : World) (d : Nat) (xs ys : List Value) (KS : List KTag) (hx : fits KS xs = true) (hy : fits KS ys = true) : ∀ (fs : List Field) (ks : List KTag) (i : Nat), KS.drop i = ks →
    fs.map (fun f => (f.name == "_", f.offset, tagOf P f.type)) = (ks.zipIdx i).map (fun q => (false, q.2, some q.1)) → ∃ r : Bool, (Op.eqFields (d + 1) xs.toArray ys.toArray fs).run P w = .ok r w ∧ (r = true ↔ xs.drop i = ys.drop i)
  | [], [], i, hd, _ => by
    have hl : KS.length ≤ i := by simpa using hd
    have h1 : xs.drop i = [] := List.drop_eq_nil_of_le (by rw [fits_len hx]; exact hl)
    have h2 : ys.drop i = [] := List.drop_eq_nil_of_le (by rw [fits_len hy]; exact hl)
    exact ⟨true, by simp [Op.eqFields], by rw [h1, h2]; simp⟩
  | [], _ :: _, _, _, h => by simp at h
  | _ :: _, [], _, _, h => by simp at h
  | f :: fs, t :: ks, i, hd, h => by
    simp only [List.map_cons, List.zipIdx_cons, List.cons.injEq, Prod.mk.injEq] at h
    obtain ⟨⟨hn, ho, ht⟩, hr⟩ := h
    have hi : KS[i]? = some t := by
      have := congrArg (fun l => l[0]?) hd
      simpa using this
    obtain ⟨a, ha, fa⟩ := fits_get hx hi
    obtain ⟨b, hb, fb⟩ := fits_get hy hi
    obtain ⟨r, h1, h2⟩ := run_equal_cell w d ht fa fb
    have hd' : KS.drop (i + 1) = ks := by
      have := congrArg List.tail hd
      simpa [List.tail_drop] using this
    obtain ⟨r', h3, h4⟩ := run_eqFields_flat w d xs ys KS hx hy fs ks (i + 1) hd' hr
    have hn' : f.name ≠ "_" := by simpa using hn
    have e1 : xs.drop i = a :: xs.drop (i + 1) := by
      obtain ⟨hl, rfl⟩ := List.getElem?_eq_some_iff.1 ha
      exact List.drop_eq_getElem_cons hl
    have e2 : ys.drop i = b :: ys.drop (i + 1) := by
      obtain ⟨hl, rfl⟩ := List.getElem?_eq_some_iff.1 hb
      exact List.drop_eq_getElem_cons hl
    have p1 := run_part_tag (P := P) w ht (xs := xs.toArray) (off := f.offset) (v := a) (by rw [ho]; simpa using ha)
    have p2 := run_part_tag (P := P) w ht (xs := ys.toArray) (off := f.offset) (v := b) (by rw [ho]; simpa using hb)
    simp only [Op.eqFields, if_pos hn', Sem.run_bind, p1, p2, h1, Result.andThen_ok]
    rw [e1, e2, List.cons.injEq]
    cases r with
    | false => exact ⟨false, by simp, by simp; intro g; exact absurd (h2.2 g) (by simp)⟩
    | true => exact ⟨r', by simpa using h3, by rw [h4]; simp [h2.1 rfl]⟩
theorem run_eqItems_flat {P : Program} (w : World) (d : Nat) {e : TypeId} {t : KTag} (ht : tagOf P e = some t) (hc : P.cellsOf e = 1) (xs ys : List Value) (n : Nat) (hx : fits (List.replicate n t) xs = true) (hy : fits (List.replicate n t) ys = true) : ∀ (m i : Nat), i + m = n →
    ∃ r : Bool, (Op.eqItems (d + 1) e (P.cellsOf e) xs.toArray ys.toArray (List.range' i m)).run P w = .ok r w ∧ (r = true ↔ xs.drop i = ys.drop i)
  | 0, i, h => by
    have h1 : xs.drop i = [] := List.drop_eq_nil_of_le (by rw [fits_len hx]; simp; omega)
    have h2 : ys.drop i = [] := List.drop_eq_nil_of_le (by rw [fits_len hy]; simp; omega)
    exact ⟨true, by simp [Op.eqItems], by rw [h1, h2]; simp⟩
  | m + 1, i, h => by
    have hi : (List.replicate n t)[i]? = some t := by rw [List.getElem?_replicate, if_pos (by omega)]
    obtain ⟨a, ha, fa⟩ := fits_get hx hi
    obtain ⟨b, hb, fb⟩ := fits_get hy hi
    obtain ⟨r, h1, h2⟩ := run_equal_cell w d ht fa fb
    obtain ⟨r', h3, h4⟩ := run_eqItems_flat w d ht hc xs ys n hx hy m (i + 1) (by omega)
    have e1 : xs.drop i = a :: xs.drop (i + 1) := by
      obtain ⟨hl, rfl⟩ := List.getElem?_eq_some_iff.1 ha
      exact List.drop_eq_getElem_cons hl
    have e2 : ys.drop i = b :: ys.drop (i + 1) := by
      obtain ⟨hl, rfl⟩ := List.getElem?_eq_some_iff.1 hb
      exact List.drop_eq_getElem_cons hl
    have p1 := run_part_tag (P := P) w ht (xs := xs.toArray) (off := i * 1) (v := a) (by simpa using ha)
    have p2 := run_part_tag (P := P) w ht (xs := ys.toArray) (off := i * 1) (v := b) (by simpa using hb)
    rw [hc] at h3 ⊢
    simp only [List.range'_succ, Op.eqItems, Sem.run_bind, p1, p2, h1, Result.andThen_ok]
    rw [e1, e2, List.cons.injEq]
    cases r with
    | false => exact ⟨false, by simp, by simp; intro g; exact absurd (h2.2 g) (by simp)⟩
    | true => exact ⟨r', by simpa using h3, by rw [h4]; simp [h2.1 rfl]⟩
theorem run_equal_flat {P : Program} (w : World) {t : TypeId} {ks : List KTag} [f : TFlat P t ks] {xs ys : List Value} (hx : fits ks xs = true) (hy : fits ks ys = true) :
    ∃ r : Bool, (Op.equalIn 10000 t (.agg xs.toArray) (.agg ys.toArray)).run P w = .ok r w ∧ (r = true ↔ xs = ys) := by
  rcases f.h with ⟨fs, h1, h2, h3⟩ | ⟨n, e, kk, h1, h2, h3, rfl⟩
  · have hfs : P.fieldsOf t = fs := by simp [Program.fieldsOf, h1]
    obtain ⟨r, h4, h5⟩ := run_eqFields_flat (P := P) w 9998 xs ys ks hx hy fs.toList ks 0 rfl h3
    refine ⟨r, ?_, by simpa using h5⟩
    have := run_equalIn_struct (P := P) w 9999 t xs.toArray ys.toArray (by rw [hfs]; exact h1) h2
    rw [hfs] at this
    exact this.trans h4
  · obtain ⟨i, hi, hsz⟩ := map_info h2
    have hc : P.cellsOf e = 1 := by simp [Program.cellsOf, hi, hsz]
    obtain ⟨r, h4, h5⟩ := run_eqItems_flat (P := P) w 9998 h3 hc xs ys n hx hy n 0 (by omega)
    refine ⟨r, ?_, by simpa using h5⟩
    have := run_equalIn_array (P := P) w 9999 xs.toArray ys.toArray h1 hi
    rw [List.range_eq_range'] at this
    exact this.trans h4
theorem OpVal_aggEq {x y : Operand} {t u : TypeId} {ks : List KTag} {xs ys : List Value} (ho : o.op = .binOp .eql t x y u) (hx : ev σ x = some (.agg xs.toArray)) (hy : ev σ y = some (.agg ys.toArray)) [f : TFlat X.P t ks] (h1 : fits ks xs = true) (h2 : fits ks ys = true) : OpVal X σ H o (.bool (@decide (xs = ys) (Classical.propDecidable _))) := by
  intro a w ha hs
  obtain ⟨r, h3, h4⟩ := run_equal_flat (P := X.P) w (t := t) h1 h2
  have e : @decide (xs = ys) (Classical.propDecidable _) = r := by
    by_cases g : xs = ys
    · rw [@decide_eq_true _ (Classical.propDecidable _) g]; exact (h4.2 g).symm
    · rw [@decide_eq_false _ (Classical.propDecidable _) g]
      cases r
      · rfl
      · exact absurd (h4.1 rfl) g
  simp only [execOp, ho, ha.eval hx, ha.eval hy, Sem.run_bind, run_eqGuard_agg w _ t x y _ _ f.g, Result.andThen_ok, run_eql_struct, h3, Sem.run_pure, e]
theorem OpVal_aggNe {x y : Operand} {t u : TypeId} {ks : List KTag} {xs ys : List Value} (ho : o.op = .binOp .neq t x y u) (hx : ev σ x = some (.agg xs.toArray)) (hy : ev σ y = some (.agg ys.toArray)) [f : TFlat X.P t ks] (h1 : fits ks xs = true) (h2 : fits ks ys = true) : OpVal X σ H o (.bool (!@decide (xs = ys) (Classical.propDecidable _))) := by
  intro a w ha hs
  obtain ⟨r, h3, h4⟩ := run_equal_flat (P := X.P) w (t := t) h1 h2
  have e : @decide (xs = ys) (Classical.propDecidable _) = r := by
    by_cases g : xs = ys
    · rw [@decide_eq_true _ (Classical.propDecidable _) g]; exact (h4.2 g).symm
    · rw [@decide_eq_false _ (Classical.propDecidable _) g]
      cases r
      · rfl
      · exact absurd (h4.1 rfl) g
  simp only [execOp, ho, ha.eval hx, ha.eval hy, Sem.run_bind, run_eqGuard_agg w _ t x y _ _ f.g, Result.andThen_ok, run_neq_struct, h3, Sem.run_pure, e]

end Go.Proofs.YtianbkbehjppoaaGreatDoor
