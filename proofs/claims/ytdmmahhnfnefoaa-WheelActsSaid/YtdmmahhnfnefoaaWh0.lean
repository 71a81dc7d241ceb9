/-
  The wheel, plain: where entries stand, what a Due takes. No program in sight.
-/
import Derived.Test.YtdmmahhnfnefoaaSl
import Derived.Lib.ItoaNum
namespace Go.Proofs.Ytdmmahhnfnefoaa
open Go.RowKit

/-- An entry: an Item, and the how manieth it is. -/
structure Wen where
  id : Int
  at_ : Nat
  turn : Nat

/-! ### Levels -/
theorem xor_zero {a b : Nat} (h : a ^^^ b = 0) : a = b := by
  apply Nat.eq_of_testBit_eq
  intro i
  have := congrArg (fun z => Nat.testBit z i) h
  simp only [Nat.testBit_xor, Nat.zero_testBit] at this
  cases ha : a.testBit i <;> cases hb : b.testBit i <;> simp_all
def lev (a b : Nat) : Nat := (Lib.bitLen (a ^^^ b) - 1) / 6
theorem p64 (l : Nat) : 64 ^ l = 2 ^ (6 * l) := by rw [Nat.pow_mul]
theorem lev_spec {a b : Nat} (ha : a < 4294967296) (hb : b < 4294967296) (h : a ≠ b) : lev a b ≤ 5 ∧ a / 64 ^ (lev a b + 1) = b / 64 ^ (lev a b + 1) ∧ a / 64 ^ lev a b ≠ b / 64 ^ lev a b := by
  have hv : a ^^^ b < 2 ^ 32 := Nat.xor_lt_two_pow (by omega) (by omega)
  have hv0 : a ^^^ b ≠ 0 := fun e => h (xor_zero e)
  obtain ⟨h1, h2, h3⟩ := Lib.bitLenAux_bounds 64 (a ^^^ b) (by omega) hv0
  have hl : Lib.bitLen (a ^^^ b) ≤ 32 := Lib.bitLen_le _ 32 (by decide) hv
  have e : Lib.bitLen (a ^^^ b) = Lib.bitLenAux 64 (a ^^^ b) := rfl
  rw [← e] at h1 h2 h3
  unfold lev
  generalize Lib.bitLen (a ^^^ b) = n at *
  refine ⟨by omega, ?_, ?_⟩
  · apply xor_zero
    rw [p64, ← Nat.xor_div_two_pow]
    refine Nat.div_eq_of_lt (Nat.lt_of_lt_of_le h3 (Nat.pow_le_pow_right (by decide) (by omega)))
  · intro g
    have : (a ^^^ b) / 2 ^ (6 * ((n - 1) / 6)) = 0 := by
      rw [Nat.xor_div_two_pow, ← p64, g, Nat.xor_self]
    have h4 : 2 ^ (6 * ((n - 1) / 6)) ≤ a ^^^ b := Nat.le_trans (Nat.pow_le_pow_right (by decide) (by omega)) h2
    have h5 := Nat.div_pos h4 (Nat.pow_pos (by decide))
    omega
theorem div_same {a b m n : Nat} (h : a / 64 ^ m = b / 64 ^ m) (hm : m ≤ n) : a / 64 ^ n = b / 64 ^ n := by
  obtain ⟨k, rfl⟩ : ∃ k, n = m + k := ⟨n - m, by omega⟩
  rw [Nat.pow_add, ← Nat.div_div_eq_div_mul, ← Nat.div_div_eq_div_mul, h]
theorem lev_eq {a b l : Nat} (ha : a < 4294967296) (hb : b < 4294967296) (h1 : a / 64 ^ (l + 1) = b / 64 ^ (l + 1)) (h2 : a / 64 ^ l ≠ b / 64 ^ l) : lev a b = l := by
  have hne : a ≠ b := fun e => h2 (by rw [e])
  obtain ⟨_, k1, k2⟩ := lev_spec ha hb hne
  rcases Nat.lt_trichotomy (lev a b) l with g | g | g
  · exact absurd (div_same k1 g) h2
  · exact g
  · exact absurd (div_same h1 g) k2
def dg (x l : Nat) : Nat := x / 64 ^ l % 64
theorem div_succ (x l : Nat) : x / 64 ^ (l + 1) = x / 64 ^ l / 64 := by rw [Nat.pow_succ, ← Nat.div_div_eq_div_mul]
/-- Behind the tick: a greater digit on the level on which they differ. -/
theorem dg_gt {x f l : Nat} (h : f < x) (h1 : x / 64 ^ (l + 1) = f / 64 ^ (l + 1)) (h2 : x / 64 ^ l ≠ f / 64 ^ l) : dg f l < dg x l := by
  have h3 : f / 64 ^ l ≤ x / 64 ^ l := Nat.div_le_div_right (by omega)
  rw [div_succ, div_succ] at h1
  unfold dg
  omega
theorem gt_of_dg {x t l : Nat} (h1 : x / 64 ^ (l + 1) = t / 64 ^ (l + 1)) (h2 : dg t l < dg x l) : t < x ∧ x / 64 ^ l ≠ t / 64 ^ l := by
  rw [div_succ, div_succ] at h1
  unfold dg at h2
  have h3 : t / 64 ^ l < x / 64 ^ l := by omega
  refine ⟨?_, by omega⟩
  rcases Nat.lt_or_ge t x with g | g
  · exact g
  · have : x / 64 ^ l ≤ t / 64 ^ l := Nat.div_le_div_right g
    omega
/-- What a level passes from one tick to another. -/
def pIdx (l f t : Nat) : List Nat := if f / 64 ^ (l + 1) = t / 64 ^ (l + 1) then List.range' (dg f l + 1) (dg t l - dg f l) else List.range' 0 64
theorem pIdx_lt {l f t i : Nat} (h : i ∈ pIdx l f t) : i < 64 := by
  unfold pIdx at h
  split at h
  · have h3 : dg t l < 64 := Nat.mod_lt _ (by decide)
    obtain ⟨j, hj, rfl⟩ := List.mem_range'.1 h
    omega
  · obtain ⟨j, hj, rfl⟩ := List.mem_range'.1 h
    omega
/-- What isn't passed stands where it should. -/
theorem stays {x f t : Nat} (hx : x < 4294967296) (ht : t < 4294967296) (hf : f < x) (hn : dg x (lev x f) ∉ pIdx (lev x f) f t) : t < x ∧ lev x t = lev x f := by
  obtain ⟨_, h1, h2⟩ := lev_spec hx (by omega) (show x ≠ f by omega)
  have h3 := dg_gt hf h1 h2
  have h4 : dg x (lev x f) < 64 := Nat.mod_lt _ (by decide)
  generalize lev x f = l at *
  unfold pIdx at hn
  split at hn
  · rename_i e
    have h5 : dg t l < dg x l := by
      rcases Nat.lt_or_ge (dg t l) (dg x l) with g | g
      · exact g
      · refine absurd (List.mem_range'.2 ⟨dg x l - (dg f l + 1), by omega, by omega⟩) hn
    obtain ⟨h6, h7⟩ := gt_of_dg (h1.trans e) h5
    exact ⟨h6, lev_eq hx ht (h1.trans e) h7⟩
  · exact absurd (List.mem_range'.2 ⟨dg x l, by omega, by omega⟩) hn

/-! ### The state -/
structure WSt where
  now : Nat
  turn : Nat
  ready : List Wen
  sl : Nat → List Wen
def upd {α : Type} (f : Nat → α) (k : Nat) (v : α) : Nat → α := fun i => if i = k then v else f i
theorem upd_at {α : Type} (f : Nat → α) (k : Nat) (v : α) : upd f k v k = v := if_pos rfl
theorem upd_ne {α : Type} (f : Nat → α) {k i : Nat} (v : α) (h : i ≠ k) : upd f k v i = f i := if_neg h
def spot (now a : Nat) : Nat := lev a now * 64 + dg a (lev a now)
theorem spot_lt {now a : Nat} (ha : a < 4294967296) (h : now < a) : spot now a < 384 := by
  have h1 := (lev_spec ha (show now < 4294967296 by omega) (show a ≠ now by omega)).1
  have h2 : dg a (lev a now) < 64 := Nat.mod_lt _ (by decide)
  unfold spot
  omega
def flatS (sl : Nat → List Wen) : List Wen := (List.range 384).flatMap sl
def WSt.all (s : WSt) : List Wen := s.ready ++ flatS s.sl
def putS (s : WSt) (x : Wen) : WSt := if x.at_ ≤ s.now then { s with ready := s.ready ++ [x] } else { s with sl := upd s.sl (spot s.now x.at_) (s.sl (spot s.now x.at_) ++ [x]) }
structure WPos (s : WSt) : Prop where
  now : s.now < 4294967296
  ready : ∀ x ∈ s.ready, x.at_ ≤ s.now
  sl : ∀ k, k < 384 → ∀ x ∈ s.sl k, s.now < x.at_ ∧ x.at_ < 4294967296 ∧ spot s.now x.at_ = k
theorem put_now (s : WSt) (x : Wen) : (putS s x).now = s.now ∧ (putS s x).turn = s.turn := by unfold putS; split <;> exact ⟨rfl, rfl⟩
theorem put_pos {s : WSt} {x : Wen} (h : WPos s) (hx : x.at_ < 4294967296) : WPos (putS s x) := by
  unfold putS
  split
  · rename_i g
    refine ⟨h.now, fun y hy => ?_, h.sl⟩
    rcases List.mem_append.1 hy with hy | hy
    · exact h.ready y hy
    · simp only [List.mem_singleton] at hy
      subst hy; exact g
  · rename_i g
    refine ⟨h.now, h.ready, fun k hk y hy => ?_⟩
    dsimp only at hy ⊢
    unfold upd at hy
    split at hy
    · rename_i e
      subst e
      rcases List.mem_append.1 hy with hy | hy
      · exact h.sl _ hk y hy
      · simp only [List.mem_singleton] at hy
        subst hy
        exact ⟨by omega, hx, rfl⟩
    · exact h.sl k hk y hy
open List in
theorem flat_upd (f : Nat → List Wen) (k : Nat) (v : List Wen) : ∀ n, k < n → ((List.range n).flatMap (upd f k v) ++ f k) ~ ((List.range n).flatMap f ++ v)
  | 0, h => absurd h (by omega)
  | n + 1, h => by
    rw [List.range_succ, List.flatMap_append, List.flatMap_append]
    simp only [List.flatMap_cons, List.flatMap_nil, List.append_nil]
    rcases Nat.lt_or_ge k n with g | g
    · have ih := flat_upd f k v n g
      rw [upd_ne f v (show n ≠ k by omega)]
      have e1 : ((List.range n).flatMap (upd f k v) ++ f n ++ f k) ~ (((List.range n).flatMap (upd f k v) ++ f k) ++ f n) := by
        rw [List.append_assoc, List.append_assoc]
        exact List.Perm.append_left _ List.perm_append_comm
      have e2 : ((List.range n).flatMap f ++ v ++ f n) ~ ((List.range n).flatMap f ++ f n ++ v) := by
        rw [List.append_assoc, List.append_assoc]
        exact List.Perm.append_left _ List.perm_append_comm
      exact e1.trans ((ih.append_right _).trans e2)
    · obtain rfl : k = n := by omega
      rw [upd_at]
      have e3 : (List.range k).flatMap (upd f k v) = (List.range k).flatMap f := by
        have hc : ∀ x ∈ List.range k, upd f k v x = f x := fun x hx => upd_ne f v (by have := List.mem_range.1 hx; omega)
        rw [List.flatMap_def, List.flatMap_def, List.map_congr_left hc]
      rw [e3, List.append_assoc, List.append_assoc]
      exact List.Perm.append_left _ List.perm_append_comm
open List in
theorem put_all {s : WSt} {x : Wen} (hx : x.at_ < 4294967296) : (putS s x).all ~ (x :: s.all) := by
  unfold putS WSt.all
  split
  · dsimp only
    rw [List.append_assoc]
    exact List.perm_middle
  · rename_i g
    dsimp only
    have h := flat_upd s.sl (spot s.now x.at_) (s.sl (spot s.now x.at_) ++ [x]) 384 (spot_lt hx (by omega))
    have h2 : (flatS (upd s.sl (spot s.now x.at_) (s.sl (spot s.now x.at_) ++ [x]))) ~ (flatS s.sl ++ [x]) := by
      have h3 : (flatS (upd s.sl (spot s.now x.at_) (s.sl (spot s.now x.at_) ++ [x])) ++ s.sl (spot s.now x.at_)) ~ ((flatS s.sl ++ [x]) ++ s.sl (spot s.now x.at_)) := by
        refine h.trans ?_
        rw [← List.append_assoc, List.append_assoc, List.append_assoc]
        exact List.Perm.append_left _ List.perm_append_comm
      exact (List.perm_append_right_iff _).1 h3
    refine (List.Perm.append_left _ h2).trans ?_
    rw [← List.append_assoc]
    exact List.perm_append_singleton _ _
open List in
theorem puts_ok : ∀ (l : List Wen) (s : WSt), WPos s → (∀ x ∈ l, x.at_ < 4294967296) → WPos (l.foldl putS s) ∧ (l.foldl putS s).now = s.now ∧ (l.foldl putS s).turn = s.turn ∧ (l.foldl putS s).all ~ (l ++ s.all)
  | [], s, h, _ => ⟨h, rfl, rfl, .refl _⟩
  | x :: l, s, h, hx => by
    obtain ⟨h1, h2, h3, h4⟩ := puts_ok l (putS s x) (put_pos h (hx x (by simp))) fun y hy => hx y (by simp [hy])
    obtain ⟨e1, e2⟩ := put_now s x
    refine ⟨h1, h2.trans e1, h3.trans e2, h4.trans ?_⟩
    exact (List.Perm.append_left _ (put_all (hx x (by simp)))).trans List.perm_middle

/-! ### What is passed -/
def grab : List Nat → (Nat → List Wen) → List Wen → List Wen × (Nat → List Wen)
  | [], sl, out => (out, sl)
  | i :: l, sl, out => grab l (upd sl i []) (out ++ sl i)
theorem grab_app : ∀ (a b : List Nat) (sl : Nat → List Wen) (out : List Wen), grab (a ++ b) sl out = grab b (grab a sl out).2 (grab a sl out).1
  | [], _, _, _ => rfl
  | _ :: a, b, sl, out => grab_app a b _ _
theorem grab_out : ∀ (l : List Nat) (sl : Nat → List Wen) (out : List Wen), grab l sl out = (out ++ (grab l sl []).1, (grab l sl []).2)
  | [], sl, out => by simp [grab]
  | i :: l, sl, out => by
    rw [grab, grab, grab_out l (upd sl i []) (out ++ sl i), grab_out l (upd sl i []) ([] ++ sl i)]
    simp
theorem grab_sl : ∀ (l : List Nat) (sl : Nat → List Wen) (out : List Wen) (k : Nat), (grab l sl out).2 k = if k ∈ l then [] else sl k
  | [], sl, out, k => by simp [grab]
  | i :: l, sl, out, k => by
    rw [grab, grab_sl l]
    by_cases h1 : k ∈ l
    · simp [h1]
    · by_cases h2 : k = i
      · subst h2; simp [h1, upd_at]
      · simp [h1, h2, upd_ne]
open List in
theorem grab_perm : ∀ (l : List Nat) (sl : Nat → List Wen) (out : List Wen), (∀ i ∈ l, i < 384) → ((grab l sl out).1 ++ flatS (grab l sl out).2) ~ (out ++ flatS sl)
  | [], sl, out, _ => .refl _
  | i :: l, sl, out, h => by
    rw [grab]
    refine (grab_perm l _ _ fun j hj => h j (by simp [hj])).trans ?_
    have := flat_upd sl i [] 384 (h i (by simp))
    rw [List.append_nil] at this
    rw [List.append_assoc]
    exact List.Perm.append_left _ (List.perm_append_comm.trans this)
theorem grab_mem : ∀ (l : List Nat) (sl : Nat → List Wen) (out : List Wen) (x : Wen), x ∈ (grab l sl out).1 → x ∈ out ∨ ∃ i ∈ l, x ∈ sl i
  | [], sl, out, x, h => .inl h
  | i :: l, sl, out, x, h => by
    rw [grab] at h
    rcases grab_mem l _ _ x h with g | ⟨j, hj, g⟩
    · rcases List.mem_append.1 g with g | g
      · exact .inl g
      · exact .inr ⟨i, by simp, g⟩
    · by_cases e : j = i
      · subst e; rw [upd_at] at g; simp at g
      · rw [upd_ne _ _ e] at g
        exact .inr ⟨j, by simp [hj], g⟩
def lIdx (l f t : Nat) : List Nat := (pIdx l f t).map (l * 64 + ·)
def idx (f t : Nat) : List Nat := (List.range 6).flatMap fun l => lIdx l f t
theorem idx_lt {f t i : Nat} (h : i ∈ idx f t) : i < 384 := by
  obtain ⟨l, hl, h⟩ := List.mem_flatMap.1 h
  obtain ⟨j, hj, rfl⟩ := List.mem_map.1 h
  have := pIdx_lt hj
  have := List.mem_range.1 hl
  omega
/-- A Due of a later tick. -/
def dueT (s : WSt) (t : Nat) : List Wen × WSt :=
  let g := grab (idx s.now t) s.sl []
  let s2 := g.1.foldl putS ⟨t, s.turn, [], g.2⟩
  (s.ready ++ s2.ready, { s2 with ready := [] })
def dueS (s : WSt) (n : Int) : List Wen × WSt := if (s.now : Int) < min n 4294967295 then dueT s (min n 4294967295).toNat else (s.ready, { s with ready := [] })
structure DueOk (s : WSt) (R : List Wen) (s' : WSt) (t : Nat) : Prop where
  pos : WPos s'
  now : s'.now = t
  turn : s'.turn = s.turn
  none : s'.ready = []
  perm : (R ++ s'.all).Perm s.all
  due : ∀ x ∈ R, x.at_ ≤ t
  left : ∀ x ∈ s'.all, t < x.at_
theorem WPos.late {s : WSt} (h : WPos s) {x : Wen} (hx : x ∈ flatS s.sl) : s.now < x.at_ ∧ x.at_ < 4294967296 := by
  obtain ⟨k, hk, hx⟩ := List.mem_flatMap.1 hx
  have := h.sl k (List.mem_range.1 hk) x hx
  exact ⟨this.1, this.2.1⟩
theorem WPos.lt {s : WSt} (h : WPos s) {x : Wen} (hx : x ∈ s.all) : x.at_ < 4294967296 := by
  rcases List.mem_append.1 hx with hx | hx
  · have := h.ready x hx; have := h.now; omega
  · exact (h.late hx).2
theorem dueT_ok {s : WSt} {t : Nat} (h : WPos s) (ht : s.now < t) (ht2 : t < 4294967296) : DueOk s (dueT s t).1 (dueT s t).2 t := by
  unfold dueT
  dsimp only
  have hperm := grab_perm (idx s.now t) s.sl [] fun i hi => idx_lt hi
  have hsl := grab_sl (idx s.now t) s.sl []
  have hmem := grab_mem (idx s.now t) s.sl []
  generalize hg : grab (idx s.now t) s.sl [] = g at *
  have hg1 : ∀ x ∈ g.1, x.at_ < 4294967296 := fun x hx => by
    rcases hmem x hx with h1 | ⟨i, hi, h1⟩
    · simp at h1
    · exact (h.sl i (idx_lt hi) x h1).2.1
  have hp : WPos ⟨t, s.turn, [], g.2⟩ := by
    refine ⟨ht2, fun x hx => by simp at hx, fun k hk x hx => ?_⟩
    dsimp only at hx ⊢
    rw [hsl k] at hx
    split at hx
    · simp at hx
    · rename_i hk2
      obtain ⟨q1, q2, q3⟩ := h.sl k hk x hx
      have hl := (lev_spec q2 h.now (show x.at_ ≠ s.now by omega)).1
      have hn : dg x.at_ (lev x.at_ s.now) ∉ pIdx (lev x.at_ s.now) s.now t := fun hm => by
        refine hk2 (List.mem_flatMap.2 ⟨lev x.at_ s.now, List.mem_range.2 (by omega), List.mem_map.2 ⟨_, hm, ?_⟩⟩)
        rw [← q3]; rfl
      obtain ⟨r1, r2⟩ := stays q2 ht2 q1 hn
      refine ⟨r1, q2, ?_⟩
      rw [← q3]
      unfold spot
      rw [r2]
  obtain ⟨k1, k2, k3, k4⟩ := puts_ok g.1 ⟨t, s.turn, [], g.2⟩ hp hg1
  generalize g.1.foldl putS ⟨t, s.turn, [], g.2⟩ = s2 at *
  dsimp only at k2 k3
  refine ⟨⟨k1.now, fun x hx => by simp at hx, k1.sl⟩, k2, k3, rfl, ?_, fun x hx => ?_, fun x hx => ?_⟩
  · unfold WSt.all at k4 ⊢
    dsimp only at k4 ⊢
    rw [List.nil_append] at k4
    rw [List.nil_append, List.append_assoc]
    rw [List.nil_append] at hperm
    exact List.Perm.append_left _ (k4.trans hperm)
  · rcases List.mem_append.1 hx with hx | hx
    · have := h.ready x hx; omega
    · have := k1.ready x hx; omega
  · have hx : x ∈ flatS s2.sl := by
      unfold WSt.all at hx
      simpa using hx
    have := (k1.late hx).1
    omega
theorem dueS_ok {s : WSt} {n : Int} (h : WPos s) : DueOk s (dueS s n).1 (dueS s n).2 (max s.now (min n 4294967295).toNat) := by
  unfold dueS
  split
  · rename_i g
    have hn := h.now
    have e : max s.now (min n 4294967295).toNat = (min n 4294967295).toNat := by omega
    rw [e]
    exact dueT_ok h (by omega) (by omega)
  · rename_i g
    have e : max s.now (min n 4294967295).toNat = s.now := by omega
    rw [e]
    refine ⟨⟨h.now, fun x hx => by simp at hx, h.sl⟩, rfl, rfl, rfl, ?_, fun x hx => h.ready x hx, fun x hx => ?_⟩
    · unfold WSt.all
      dsimp only
      rw [List.nil_append]
    · have hx : x ∈ flatS s.sl := by
        unfold WSt.all at hx
        simpa using hx
      exact (h.late hx).1
end Go.Proofs.Ytdmmahhnfnefoaa
