/-
  A small separation logic over the model's heap: assertions on blocks, and what stores, new blocks and draws do to them. Plain Lean: no program in sight.
-/
import Derived.WalkKit
import Derived.Deep.Draws
namespace Go.Proofs.Ytdmmahhnfnefoaa
open Go.RowKit

/-- An assertion on a part of the heap. -/
def SL : Type := (Nat → Option Obj) → Prop

namespace SL
/-- Two parts that share no block. -/
def sep (P Q : SL) : SL := fun h => ∃ h1 h2, P h1 ∧ Q h2 ∧ (∀ b, h1 b = none ∨ h2 b = none) ∧ (∀ b, h b = (h1 b).or (h2 b))
instance : Mul SL := ⟨sep⟩
/-- Nothing. -/
def emp : SL := fun h => ∀ b, h b = none
instance : One SL := ⟨emp⟩
theorem mul_def (P Q : SL) : P * Q = sep P Q := rfl
theorem one_def : (1 : SL) = emp := rfl

theorem or_comm' {a b : Option Obj} (h : a = none ∨ b = none) : a.or b = b.or a := by
  rcases h with rfl | rfl <;> simp

theorem sep_comm (P Q : SL) : P * Q = Q * P := by
  have aux : ∀ (P Q : SL) h, sep P Q h → sep Q P h := by
    rintro P Q h ⟨h1, h2, p, q, d, e⟩
    exact ⟨h2, h1, q, p, fun b => (d b).symm, fun b => by rw [e b, or_comm' (d b)]⟩
  exact funext fun h => propext ⟨aux P Q h, aux Q P h⟩

theorem sep_assoc (P Q R : SL) : P * Q * R = P * (Q * R) := by
  refine funext fun h => propext ⟨?_, ?_⟩
  · rintro ⟨h12, h3, ⟨h1, h2, p, q, d, e⟩, r, d', e'⟩
    refine ⟨h1, fun b => (h2 b).or (h3 b), p, ⟨h2, h3, q, r, fun b => ?_, fun b => rfl⟩, fun b => ?_, fun b => ?_⟩
    · have := d' b; rw [e b] at this; cases hh : h1 b <;> simp_all
    · have := d' b; rw [e b] at this; have := d b; cases hh : h1 b <;> simp_all
    · rw [e' b, e b, Option.or_assoc]
  · rintro ⟨h1, h23, p, ⟨h2, h3, q, r, d, e⟩, d', e'⟩
    refine ⟨fun b => (h1 b).or (h2 b), h3, ⟨h1, h2, p, q, fun b => ?_, fun b => rfl⟩, r, fun b => ?_, fun b => ?_⟩
    · have := d' b; rw [e b] at this; cases hh : h1 b <;> simp_all
    · have := d' b; rw [e b] at this; have := d b; cases hh : h1 b <;> simp_all
    · rw [e' b, e b, Option.or_assoc]

theorem sep_emp (P : SL) : P * (1 : SL) = P := by
  refine funext fun h => propext ⟨?_, fun p => ⟨h, fun _ => none, p, fun _ => rfl, fun _ => .inr rfl, fun _ => by simp⟩⟩
  rintro ⟨h1, h2, p, q, d, e⟩
  obtain rfl : h = h1 := funext fun b => by rw [e b, q b]; simp
  exact p
theorem emp_sep (P : SL) : (1 : SL) * P = P := by rw [sep_comm, sep_emp]

instance : Std.Associative (α := SL) (· * ·) := ⟨sep_assoc⟩
instance : Std.Commutative (α := SL) (· * ·) := ⟨sep_comm⟩
instance : Std.LawfulIdentity (α := SL) (· * ·) (1 : SL) where
  left_id := emp_sep
  right_id := sep_emp

/-- A block with what it holds. -/
def blk (b : Nat) (o : Obj) : SL := fun h => ∀ k, h k = if k = b then some o else none
/-- A fact beside. -/
def pure (p : Prop) : SL := fun h => p ∧ emp h
/-- There is one such. -/
def ex {α : Sort _} (P : α → SL) : SL := fun h => ∃ a, P a h
/-- All of a list, side by side. -/
def big : List SL → SL
  | [] => 1
  | P :: l => P * big l
/-- Stronger. -/
def le (P Q : SL) : Prop := ∀ h, P h → Q h

theorem big_cons (P : SL) (l : List SL) : big (P :: l) = P * big l := rfl
theorem big_nil : big [] = 1 := rfl
theorem big_append (l m : List SL) : big (l ++ m) = big l * big m := by
  induction l with
  | nil => simp [big, emp_sep]
  | cons P l ih => simp [big, ih, sep_assoc]
theorem big_split (l : List SL) (k : Nat) (h : k < l.length) : big l = l[k] * big (l.eraseIdx k) := by
  induction l generalizing k with
  | nil => simp at h
  | cons P l ih =>
    cases k with
    | zero => simp [big]
    | succ k =>
      have hk : k < l.length := by simpa using h
      simp only [big, List.getElem_cons_succ, List.eraseIdx_cons_succ]
      rw [ih k hk]
      ac_rfl
theorem big_set (l : List SL) (k : Nat) (h : k < l.length) (P : SL) : big (l.set k P) = P * big (l.eraseIdx k) := by
  induction l generalizing k with
  | nil => simp at h
  | cons Q l ih =>
    cases k with
    | zero => simp [big]
    | succ k =>
      have hk : k < l.length := by simpa using h
      simp only [big, List.set_cons_succ, List.eraseIdx_cons_succ]
      rw [ih k hk]
      ac_rfl

/-- Whatever bears P bears the block b. -/
def Has (P : SL) (b : Nat) : Prop := ∀ h, P h → ∃ o, h b = some o
theorem Has.blk (b : Nat) (o : Obj) : Has (SL.blk b o) b := fun h p => ⟨o, by rw [p b]; simp⟩
theorem Has.left {P : SL} {b : Nat} (h : Has P b) (Q : SL) : Has (P * Q) b := by
  rintro x ⟨h1, h2, p, q, d, e⟩
  obtain ⟨o, ho⟩ := h h1 p
  exact ⟨o, by rw [e b, ho]; simp⟩
theorem Has.right {Q : SL} {b : Nat} (h : Has Q b) (P : SL) : Has (P * Q) b := by
  rw [sep_comm]
  exact h.left P

theorem sep_comm4 (A B C D E : SL) : A * (B * (C * (D * E))) = C * (D * (A * (B * E))) := by ac_rfl

theorem le_refl (P : SL) : le P P := fun _ h => h
theorem le_trans {P Q R : SL} (h : le P Q) (k : le Q R) : le P R := fun x p => k x (h x p)
theorem sep_mono {P P' Q Q' : SL} (h : le P P') (k : le Q Q') : le (P * Q) (P' * Q') :=
  fun _ ⟨h1, h2, p, q, d, e⟩ => ⟨h1, h2, h h1 p, k h2 q, d, e⟩
theorem le_ex {α : Sort _} (P : α → SL) (a : α) : le (P a) (ex P) := fun _ p => ⟨a, p⟩
theorem sep_ex {α : Sort _} (P : α → SL) (F : SL) : ex P * F = ex fun a => P a * F := by
  refine funext fun h => propext ⟨?_, ?_⟩
  · rintro ⟨h1, h2, ⟨a, p⟩, q, d, e⟩; exact ⟨a, h1, h2, p, q, d, e⟩
  · rintro ⟨a, h1, h2, p, q, d, e⟩; exact ⟨h1, h2, ⟨a, p⟩, q, d, e⟩
end SL

/-- The world w: below W's size as W; and its newer blocks bear P (and maybe more). -/
structure Sat (W w : World) (P : SL) : Prop where
  below : Below W.heap.size W w
  has : ∃ h, P h ∧ ∀ b o, h b = some o → W.heap.size ≤ b ∧ w.heap[b]? = some o

namespace Sat
variable {W w w' : World} {P Q R F : SL}

theorem start (W : World) : Sat W W 1 := ⟨Below.refl _ _, fun _ => none, fun _ => rfl, fun _ _ h => by simp at h⟩

theorem ac (h : Sat W w P) (e : P = Q) : Sat W w Q := e ▸ h
theorem mono (h : Sat W w P) (k : SL.le P Q) : Sat W w Q := ⟨h.below, let ⟨x, p, q⟩ := h.has; ⟨x, k x p, q⟩⟩
theorem left (h : Sat W w (P * F)) (k : SL.le P Q) : Sat W w (Q * F) := h.mono (SL.sep_mono k (SL.le_refl _))

theorem swap (h : Sat W w (P * (Q * F))) : Sat W w (Q * (P * F)) := h.ac (by ac_rfl)

/-- Something of it is forgotten. -/
theorem drop (h : Sat W w (P * F)) : Sat W w F := by
  obtain ⟨hb, x, ⟨h1, h2, p, q, d, e⟩, hx⟩ := h
  refine ⟨hb, h2, q, fun b o ho => hx b o ?_⟩
  have := d b
  rw [e b]
  cases hh : h1 b <;> simp_all

/-- A fact comes out. -/
theorem out {p : Prop} (h : Sat W w (SL.pure p * F)) : p ∧ Sat W w F := by
  refine ⟨?_, h.drop⟩
  obtain ⟨_, x, ⟨h1, h2, p, q, d, e⟩, hx⟩ := h
  exact p.1
theorem put {p : Prop} (hp : p) (h : Sat W w F) : Sat W w (SL.pure p * F) := by
  obtain ⟨hb, x, q, hx⟩ := h
  exact ⟨hb, x, ⟨fun _ => none, x, ⟨hp, fun _ => rfl⟩, q, fun _ => .inl rfl, fun _ => by simp⟩, hx⟩

theorem ex_out {α : Sort _} {P : α → SL} (h : Sat W w (SL.ex P * F)) : ∃ a, Sat W w (P a * F) := by
  rw [SL.sep_ex] at h
  obtain ⟨hb, x, ⟨a, p⟩, hx⟩ := h
  exact ⟨a, hb, x, p, hx⟩
theorem ex_in {α : Sort _} {P : α → SL} (a : α) (h : Sat W w (P a * F)) : Sat W w (SL.ex P * F) := h.left (SL.le_ex P a)

/-- What a block holds. -/
theorem get {b : Nat} {o : Obj} (h : Sat W w (SL.blk b o * F)) : w.heap[b]? = some o := by
  obtain ⟨_, x, ⟨h1, h2, p, q, d, e⟩, hx⟩ := h
  exact (hx b o (by rw [e b, p b]; simp)).2
theorem ge {b : Nat} {o : Obj} (h : Sat W w (SL.blk b o * F)) : W.heap.size ≤ b := by
  obtain ⟨_, x, ⟨h1, h2, p, q, d, e⟩, hx⟩ := h
  exact (hx b o (by rw [e b, p b]; simp)).1
theorem lt {b : Nat} {o : Obj} (h : Sat W w (SL.blk b o * F)) : b < w.heap.size := lt_of_block h.get
theorem ne {b b' : Nat} {o o' : Obj} (h : Sat W w (SL.blk b o * (SL.blk b' o' * F))) : b ≠ b' := by
  obtain ⟨_, x, ⟨h1, h2, p, ⟨h3, h4, q, r, d', e'⟩, d, e⟩, hx⟩ := h
  intro hb
  subst hb
  have := d b
  rw [p b, e' b, q b] at this
  simp at this

/-- It bears a block b. -/
theorem ne_of {b b' : Nat} (h : Sat W w (P * (Q * F))) (hp : SL.Has P b) (hq : SL.Has Q b') : b ≠ b' := by
  obtain ⟨_, x, ⟨h1, h2, p, ⟨h3, h4, q, r, d', e'⟩, d, e⟩, hx⟩ := h
  intro hb
  subst hb
  obtain ⟨o, ho⟩ := hp h1 p
  obtain ⟨o', ho'⟩ := hq h3 q
  have := d b
  rw [ho, e' b, ho'] at this
  simp at this
theorem has_ge {b : Nat} (h : Sat W w (P * F)) (hp : SL.Has P b) : W.heap.size ≤ b ∧ b < w.heap.size := by
  obtain ⟨_, x, ⟨h1, h2, p, q, d, e⟩, hx⟩ := h
  obtain ⟨o, ho⟩ := hp h1 p
  have := hx b o (by rw [e b, ho]; simp)
  exact ⟨this.1, lt_of_block this.2⟩

/-- The same blocks stand in another world. -/
theorem keep (h : Sat W w F) (hs : w.heap.size ≤ w'.heap.size) (ho : w'.os = w.os) (ht : w'.tape = w.tape) (hu : w'.output = w.output) (hb : ∀ k, k < w.heap.size → w'.heap[k]? = w.heap[k]?) : Sat W w' F := by
  obtain ⟨hbe, x, q, hx⟩ := h
  refine ⟨hbe.trans ⟨ho, ht, hu, hs, fun k hk => hb k (by have := hbe.size; omega)⟩, x, q, fun b o h => ?_⟩
  have := hx b o h
  exact ⟨this.1, by rw [hb b (lt_of_block this.2)]; exact this.2⟩

/-- One block is written. -/
theorem write {b : Nat} {o o' : Obj} (h : Sat W w (SL.blk b o * F)) (hs : w.heap.size ≤ w'.heap.size) (ho : w'.os = w.os) (ht : w'.tape = w.tape) (hu : w'.output = w.output)
    (hb : ∀ k, k < w.heap.size → k ≠ b → w'.heap[k]? = w.heap[k]?) (hn : w'.heap[b]? = some o') : Sat W w' (SL.blk b o' * F) := by
  have hge := h.ge
  obtain ⟨hbe, x, ⟨h1, h2, p, q, d, e⟩, hx⟩ := h
  refine ⟨hbe.trans ⟨ho, ht, hu, hs, fun k hk => hb k (by have := hbe.size; omega) (by omega)⟩, fun k => (if k = b then some o' else none : Option Obj).or (h2 k), ⟨fun k => if k = b then some o' else none, h2, fun _ => rfl, q, fun k => ?_, fun k => rfl⟩, fun k u hk => ?_⟩
  · have := d k
    rw [p k] at this
    by_cases hkb : k = b <;> simp_all
  · by_cases hkb : k = b
    · subst hkb
      simp at hk
      exact ⟨hge, by rw [hn, hk]⟩
    · simp [hkb] at hk
      have := hx k u (by rw [e k, p k]; simp [hkb, hk])
      exact ⟨this.1, by rw [hb k (lt_of_block this.2) hkb]; exact this.2⟩

/-- A new block. -/
theorem new (h : Sat W w F) {o : Obj} {b : Nat} (hbw : b = w.heap.size) (hs : w.heap.size < w'.heap.size) (ho : w'.os = w.os) (ht : w'.tape = w.tape) (hu : w'.output = w.output)
    (hb : ∀ k, k < w.heap.size → w'.heap[k]? = w.heap[k]?) (hn : w'.heap[b]? = some o) : Sat W w' (SL.blk b o * F) := by
  subst hbw
  obtain ⟨hbe, x, q, hx⟩ := h
  refine ⟨hbe.trans ⟨ho, ht, hu, by omega, fun k hk => hb k (by have := hbe.size; omega)⟩, fun k => (if k = w.heap.size then some o else none : Option Obj).or (x k), ⟨fun k => if k = w.heap.size then some o else none, x, fun _ => rfl, q, fun k => ?_, fun _ => rfl⟩, fun k u hk => ?_⟩
  · by_cases hk : k = w.heap.size
    · right
      cases hxk : x k with
      | none => rfl
      | some u => have := lt_of_block (hx k u hxk).2; omega
    · simp [hk]
  · by_cases hkb : k = w.heap.size
    · simp [hkb] at hk
      exact ⟨by have := hbe.size; omega, by rw [hkb, hn, hk]⟩
    · simp [hkb] at hk
      have := hx k u hk
      exact ⟨this.1, by rw [hb k (lt_of_block this.2)]; exact this.2⟩

theorem set {b : Nat} {c : Array Value} {t : TypeId} (h : Sat W w (SL.blk b (.cells c t (0, 0)) * F)) (i : Nat) (v : Value) :
    Sat W (w.setCell ⟨b, i, none⟩ v) (SL.blk b (.cells (c.setIfInBounds i v) t (0, 0)) * F) := by
  have hg := h.get
  refine h.write (by simp [World.setCell]) rfl rfl rfl (fun k _ hk => Below.heap_setCell _ _ _ _ hk) ?_
  simp only [World.setCell, Array.getElem?_modify, ↓reduceIte, hg, Option.map_some]
  simp
theorem alloc (h : Sat W w F) (o : Obj) : Sat W (w.alloc o) (SL.blk w.heap.size o * F) :=
  h.new rfl (by simp) rfl rfl rfl (fun k hk => Below.heap_alloc _ _ _ hk) (heap_alloc_new w o)
theorem forget (h : Sat W w F) (o : Obj) : Sat W (w.alloc o) F := (h.alloc o).drop
theorem drew (h : Sat W w F) : Sat W w.drew F := h.keep (Nat.le_refl _) rfl rfl rfl (fun _ _ => rfl)
theorem drewN (h : Sat W w F) (n : Nat) : Sat W (w.drewN n) F := h.keep (Nat.le_refl _) rfl rfl rfl (fun _ _ => rfl)
theorem size (h : Sat W w F) : W.heap.size ≤ w.heap.size := h.below.size

/-- The cells of a block. -/
theorem cell {b : Nat} {c : Array Value} {t : TypeId} (h : Sat W w (SL.blk b (.cells c t (0, 0)) * F)) (i : Nat) : w.cell? ⟨b, i, none⟩ = c[i]? := by
  simp [World.cell?, h.get]
theorem free {b : Nat} {c : Array Value} {t : TypeId} (h : Sat W w (SL.blk b (.cells c t (0, 0)) * F)) (i : Nat) : w.frozen? ⟨b, i, none⟩ = false := by
  simp [World.frozen?, h.get]
end Sat

/-! ### make -/
theorem replicate_of_made (z : Value) (n : Nat) : madeCells #[z] n = Array.replicate n z := by
  apply Array.ext (by simp [madeCells])
  intro i h1 h2
  simp [madeCells, Nat.mod_one]

/-- 'make([]T, n)' of a T of one cell. -/
theorem make_one {P : Program} {t e : TypeId} {z c : Value} (bs : Nat) (ht : P.underlying t = some (.slice e)) (hi : (P.info? e).map (fun i => (i.zero, i.size, i.bytes)) = some (some z, 1, bs)) (hz : z.cells = #[c])
    (n : Nat) (hn : n ≤ 4294967296) (hb : bs ≤ 16) (w : World) :
    (Instr.makeSlice t (.int .i64 n) (.int .i64 n)).run P w = .ok (.slice (some ⟨w.heap.size, 0, none⟩) n n) (w.alloc (.cells (Array.replicate n c) e)) := by
  obtain ⟨i0, hi, hz0, hz1, hz2⟩ := info_parts hi
  have h := run_make (P := P) w t e i0 z ht hi hz0 .i64 .i64 n n (by omega) (by omega) (by
    rw [hz2]
    have : bs * n ≤ 16 * 4294967296 := Nat.mul_le_mul hb hn
    omega) (by omega)
  simpa [hz1, hz, replicate_of_made] using h

end Go.Proofs.Ytdmmahhnfnefoaa
