/-
  The document's list of Items: Add, Due; are Items the same?
-/
import Derived.Test.YtdmmahhnfnefoaaWh3
import Derived.Test.YtdmmahhnfnefoaaSn
namespace Go.Proofs.Ytdmmahhnfnefoaa
open Go.RowKit
set_option maxRecDepth 10000
attribute [local irreducible] EK EX ER EN EL ES EG OpVal OpDoes OpSkip
variable {W : World} {F : SL} {X : Cx} {k : List KI} {σ : Env}

/-! ### The document's list -/
/-- The item x is put in behind those that are due no later: i of them looked at. -/
structure AddR (x : Int × Int) (l out : List (Int × Int)) (i : Nat) (put : Bool) : Prop where
  len : out.length = i + (if put then 1 else 0)
  eq : insI x l = if put then out ++ l.drop i else out ++ insI x (l.drop i)
theorem AddR.zero (x : Int × Int) (l : List (Int × Int)) : AddR x l [] 0 false := ⟨rfl, rfl⟩
theorem drop_getD {l : List (Int × Int)} {i : Nat} (h : i < l.length) : l.drop i = l.getD i (0, 0) :: l.drop (i + 1) := by
  rw [List.drop_eq_getElem_cons h, List.getD_eq_getElem?_getD, List.getElem?_eq_getElem h]; rfl
theorem AddR.now {x : Int × Int} {l out : List (Int × Int)} {i : Nat} (h : AddR x l out i false) (hi : i < l.length) (hx : x.2 < (l.getD i (0, 0)).2) : AddR x l (out ++ [x] ++ [l.getD i (0, 0)]) (i + 1) true := by
  refine ⟨by have := h.len; simp at this ⊢; omega, ?_⟩
  have := h.eq
  rw [drop_getD hi] at this
  simp only [insI, if_pos hx] at this
  simpa using this
theorem AddR.past {x : Int × Int} {l out : List (Int × Int)} {i : Nat} {put : Bool} (h : AddR x l out i put) (hi : i < l.length) (hx : put = true ∨ ¬ x.2 < (l.getD i (0, 0)).2) : AddR x l (out ++ [l.getD i (0, 0)]) (i + 1) put := by
  refine ⟨by have := h.len; simp at this ⊢; omega, ?_⟩
  have he := h.eq
  rw [drop_getD hi] at he
  cases put with
  | true => simpa using he
  | false =>
    have hx : ¬ x.2 < (l.getD i (0, 0)).2 := by simpa using hx
    simp only [insI, if_neg hx] at he
    simpa using he
theorem AddR.done {x : Int × Int} {l out : List (Int × Int)} (h : AddR x l out l.length true) : out = insI x l := by
  have := h.eq
  simpa using this.symm
theorem AddR.last {x : Int × Int} {l out : List (Int × Int)} (h : AddR x l out l.length false) : out ++ [x] = insI x l := by
  have := h.eq
  rw [List.drop_length] at this
  simpa [insI] using this.symm
theorem insI_len (x : Int × Int) : ∀ l, (insI x l).length = l.length + 1
  | [] => rfl
  | y :: l => by
    unfold insI
    split
    · rfl
    · rw [List.length_cons, insI_len x l]; rfl
theorem cnt_le (t : Int) : ∀ l, cntI t l ≤ l.length
  | [] => Nat.le_refl _
  | x :: l => by
    have ih := cnt_le t l
    unfold cntI at *
    rw [List.takeWhile_cons]
    split
    · simp only [List.length_cons]; omega
    · simp
theorem cnt_step (t : Int) : ∀ (l : List (Int × Int)) (n : Nat), n ≤ cntI t l → n < l.length → ((l.getD n (0, 0)).2 ≤ t ↔ n + 1 ≤ cntI t l)
  | [], n, _, h => by simp at h
  | x :: l, 0, _, _ => by
    unfold cntI
    rw [List.takeWhile_cons]
    by_cases h : x.2 ≤ t
    · simp [h]
    · simp [h]
  | x :: l, n + 1, h1, h2 => by
    unfold cntI at h1 ⊢
    rw [List.takeWhile_cons] at h1 ⊢
    by_cases hx : decide (x.2 ≤ t) = true
    · rw [if_pos hx] at h1 ⊢
      rw [List.length_cons] at h1 ⊢
      have := cnt_step t l n (by unfold cntI; omega) (by simpa using h2)
      unfold cntI at this
      rw [List.getD_cons_succ, this]
      omega
    · rw [if_neg hx] at h1
      simp at h1

/-! ### Walks -/
/-- The document's wheel in memory. -/
def RefX (p : Option Addr) (now : Nat) (L : List (Int × Int)) (q : Slab) : SL := Obj p 44 [.int .i64 (now : Int), .slice q.1 L.length q.2] * RowC 49 2 q.1 L.length q.2 (itemsR L)
def RefC (p : Option Addr) (now : Nat) (L : List (Int × Int)) : SL := SL.ex (RefX p now L)
abbrev RefO (p : Option Addr) (now : Nat) (L : List (Int × Int)) (q : Slab) (F : SL) : SL := Obj p 44 [.int .i64 (now : Int), .slice q.1 L.length q.2] * (RowC 49 2 q.1 L.length q.2 (itemsR L) * F)
theorem RefC.open {p : Option Addr} {now : Nat} {L : List (Int × Int)} (h : ∀ q, EK X k σ (RefO p now L q F)) : EK X k σ (RefC p now L * F) := EK_ex fun q => by
  have := h q
  unfold RefO at this
  unfold RefX
  rw [SL.sep_assoc]
  exact this
theorem RefC.shut {p : Option Addr} {now : Nat} {L : List (Int × Int)} {q : Slab} : Ent (RefO p now L q F) (RefC p now L * F) := Ent.ex q (Ent.assoc (Ent.refl _))
instance (priority := 2000) (p : Option Addr) (now : Nat) (L : List (Int × Int)) (F : SL) : AtP (RefC p now L * F) p (RefC p now L) F := ⟨rfl⟩
instance (p : Option Addr) (now : Nat) (L : List (Int × Int)) : Root (RefC p now L) p := ⟨fun W w F h => by
  obtain ⟨g, h⟩ := h.ex_out
  exact (Obj.root p _ _).nn W w _ (h.ac (SL.sep_assoc _ _ _))⟩

theorem RAdd_bad (p : Option Addr) (now : Nat) (L : List (Int × Int)) (id a : Int) (ha : a < 0 ∨ 4294967295 < a) :
    Spec Try.prog 18 [.pointer p, .int .i64 id, .int .i64 a] W (RefC p now L * F) (fun _ : Unit => .bool false) (fun _ => RefC p now L * F) := by
  refine Spec.of Try.func18 rfl Try.ntmps18 rfl ?_
  repeat (first | refine go ?_ | (refine goX ?_; intro))
  refine EL_guard_dec rfl rfl (fun h1 => ?_) (fun h1 => ?_)
  · repeat (first | refine go ?_ | (refine goX ?_; intro))
    exact EK_ret (ER_1 rfl rfl () rfl (Ent.sat Ent.last))
  · repeat (first | refine go ?_ | (refine goX ?_; intro))
    exact EK_ret (ER_1 rfl rfl () rfl (Ent.sat Ent.last))
theorem RAdd_spec (p : Option Addr) (now : Nat) (L : List (Int × Int)) (id a : Int) (ha : 0 ≤ a ∧ a ≤ 4294967295) (hn : L.length ≤ 1000) :
    Spec Try.prog 18 [.pointer p, .int .i64 id, .int .i64 a] W (RefC p now L * F) (fun _ : Unit => .bool true) (fun _ => RefC p now (insI (id, a) L) * F) := by
  refine Spec.of Try.func18 rfl Try.ntmps18 rfl ?_
  refine RefC.open fun q => ?_
  repeat (first | refine go ?_ | (refine goX ?_; intro))
  refine EK_exits (γ := Slab × List (Int × Int) × Bool) (fun g => AddR (id, a) L g.2.1 L.length g.2.2) (fun g => [(0, .pointer p), (1, .int .i64 id), (2, .int .i64 a), (7, .slice g.1.1 g.2.1.length g.1.2), (8, .bool g.2.2)])
    (fun g => RowC 49 2 g.1.1 g.2.1.length g.1.2 (itemsR g.2.1) * RefO p now L q F) ?_ ?_
  · refine EK_loop (γ := Nat × Slab × List (Int × Int) × Bool) (fun g => g.1 ≤ L.length ∧ AddR (id, a) L g.2.2.1 g.1 g.2.2.2) (fun g => [(0, .pointer p), (1, .int .i64 id), (2, .int .i64 a), (7, .slice g.2.1.1 g.2.2.1.length g.2.1.2), (8, .bool g.2.2.2), (9, .int .i64 (g.1 : Int))])
      (fun g => RowC 49 2 g.2.1.1 g.2.2.1.length g.2.1.2 (itemsR g.2.2.1) * RefO p now L q F) (fun g => L.length - g.1) (0, (none, 0), [], false) ⟨Nat.zero_le _, AddR.zero _ _⟩ ⟨rfl, rfl, rfl, rfl, rfl, rfl, trivial⟩ (Ent.sat (Ent.none (Ent.refl _))) ?_
    intro ⟨i, o, out, put⟩ ⟨hi, hA⟩; dsimp only at hi hA ⊢
    have hl := hA.len
    simp only [RefO]
    repeat (first | refine go ?_ | (refine goX ?_; intro))
    refine EK_cond_dec rfl (fun hlt => ?_) (fun hge => ?_)
    · have hol : out.length ≤ i + 1 := by rw [hl]; split <;> omega
      haveI : Pos L.length := ⟨by omega⟩
      cases put with
      | true =>
        repeat (first | refine go ?_ | (refine goX ?_; intro))
        rename_i o2
        refine EK_round (i + 1, o2, out ++ [L.getD i (0, 0)], true) ⟨by dsimp only; omega, hA.past (by omega) (.inl rfl)⟩ (by dsimp only; omega) ⟨rfl, rfl, rfl, by rw [List.length_append]; rfl, rfl, rfl, trivial⟩ (Ent.sat ?_)
        refine Ent.row o2.1 (by rw [List.length_append]; rfl) (itemsR_snoc _ _) ?_
        repeat (first | exact Ent.last | refine Ent.cons ?_ | refine Ent.assoc ?_)
      | false =>
        by_cases hx : a < (L.getD i (0, 0)).2
        · repeat (first | refine go ?_ | (refine goX ?_; intro))
          rename_i o2
          refine EK_round (i + 1, o2, out ++ [(id, a)] ++ [L.getD i (0, 0)], true) ⟨by dsimp only; omega, hA.now (by omega) hx⟩ (by dsimp only; omega) ⟨rfl, rfl, rfl, by simp; rfl, rfl, rfl, trivial⟩ (Ent.sat ?_)
          refine Ent.row o2.1 (by simp) (by simp [itemsR, itemC]) ?_
          repeat (first | exact Ent.last | refine Ent.cons ?_ | refine Ent.assoc ?_)
        · repeat (first | refine go ?_ | (refine goX ?_; intro))
          rename_i o2
          refine EK_round (i + 1, o2, out ++ [L.getD i (0, 0)], false) ⟨by dsimp only; omega, hA.past (by omega) (.inr hx)⟩ (by dsimp only; omega) ⟨rfl, rfl, rfl, by rw [List.length_append]; rfl, rfl, rfl, trivial⟩ (Ent.sat ?_)
          refine Ent.row o2.1 (by rw [List.length_append]; rfl) (itemsR_snoc _ _) ?_
          repeat (first | exact Ent.last | refine Ent.cons ?_ | refine Ent.assoc ?_)
    · have e : i = L.length := by omega
      subst e
      repeat (first | refine go ?_ | (refine goX ?_; intro))
      exact EK_meet (o, out, put) hA ⟨rfl, rfl, rfl, rfl, rfl, trivial⟩ (Ent.sat (Ent.refl _))
  intro ⟨o, out, put⟩ hA; dsimp only at hA ⊢
  have hl := hA.len
  have hol : out.length ≤ 1001 := by rw [hl]; split <;> omega
  simp only [RefO]
  cases put with
  | true =>
    have hd := hA.done
    repeat (first | refine go ?_ | (refine goX ?_; intro))
    refine EK_ret (ER_1 rfl rfl () rfl (Ent.sat (Ent.trans ?_ (RefC.shut (q := o)))))
    rw [← hd]
    refine Ent.obj p rfl ?_
    repeat (first | exact Ent.last | refine Ent.cons ?_ | refine Ent.assoc ?_)
  | false =>
    have hd := hA.last
    repeat (first | refine go ?_ | (refine goX ?_; intro))
    rename_i o2
    refine EK_ret (ER_1 rfl rfl () rfl (Ent.sat (Ent.trans ?_ (RefC.shut (q := o2)))))
    rw [← hd]
    refine Ent.obj p (by simp) (Ent.row o2.1 (by simp) (itemsR_snoc _ _) ?_)
    repeat (first | exact Ent.last | refine Ent.cons ?_ | refine Ent.assoc ?_)
theorem RDue_spec (p : Option Addr) (now : Nat) (L : List (Int × Int)) (n : Int) (t : Nat) (ht : (t : Int) = max (now : Int) (min n 4294967295)) (hn : L.length ≤ 1000) :
    Spec Try.prog 20 [.pointer p, .int .i64 n] W (RefC p now L * F) (fun q : Slab => .slice q.1 (cntI t L) q.2)
      (fun q => RowC 49 2 q.1 (cntI t L) q.2 (itemsR (L.take (cntI t L))) * (RefC p t (L.drop (cntI t L)) * F)) := by
  have hc := cnt_le t L
  refine Spec.of Try.func20 rfl Try.ntmps20 rfl ?_
  refine RefC.open fun q => ?_
  repeat (first | refine go ?_ | (refine goX ?_; intro))
  rw [← ht]
  refine EK_exits (γ := Unit) (fun _ => True) (fun _ => [(0, .pointer p), (5, .int .i64 ((cntI t L : Nat) : Int))]) (fun _ => RefO p t L q F) ?_ ?_
  · refine EK_loop (γ := Nat) (fun i => i ≤ cntI t L) (fun i => [(0, .pointer p), (5, .int .i64 (i : Int))]) (fun _ => RefO p t L q F) (fun i => L.length - i) 0 (Nat.zero_le _) ⟨rfl, rfl, trivial⟩ (Ent.sat (Ent.refl _)) ?_
    intro i hi; dsimp only at hi ⊢
    repeat (first | refine go ?_ | (refine goX ?_; intro))
    by_cases hlt : i < L.length
    · haveI : Pos L.length := ⟨by omega⟩
      have hs := cnt_step t L i hi hlt
      by_cases hle : (L.getD i (0, 0)).2 ≤ t
      · refine EK_drawn rfl (by kernel_rfl) ?_
        repeat (refine goS ?_)
        repeat (first | refine go ?_ | (refine goX ?_; intro))
        exact EK_round (i + 1) (hs.1 hle) (by omega) ⟨rfl, rfl, trivial⟩ (Ent.sat (Ent.refl _))
      · refine EK_drawn rfl (by kernel_rfl) ?_
        repeat (refine goS ?_)
        repeat (first | refine go ?_ | (refine goX ?_; intro))
        have e : cntI t L = i := by
          have h1 : ¬ i + 1 ≤ cntI t L := fun h => hle (hs.2 h)
          omega
        exact EK_meet () trivial ⟨rfl, by rw [e]; rfl, trivial⟩ (Ent.sat (Ent.refl _))
    · refine EK_drawn rfl (by kernel_rfl) ?_
      repeat (refine goS ?_)
      repeat (first | refine go ?_ | (refine goX ?_; intro))
      have e : cntI t L = i := by omega
      exact EK_meet () trivial ⟨rfl, by rw [e]; rfl, trivial⟩ (Ent.sat (Ent.refl _))
  intro _ _
  simp only [RefO]
  generalize cntI t L = m at *
  have hil := itemsR_len L
  have e1 : (itemsR L).take (m * 2) = itemsR (L.take m) := by
    rw [← List.take_append_drop m L, ← itemsR_app, List.take_left' (by rw [itemsR_len, List.length_take]; omega), List.take_append_drop]
  have e2 : (itemsR L).drop (m * 2) = itemsR (L.drop m) := by
    conv => lhs; rw [← List.take_append_drop m L, ← itemsR_app]
    rw [List.drop_left' (by rw [itemsR_len, List.length_take]; omega)]
  repeat (first | refine go ?_ | (refine goX ?_; intro))
  refine EL_does (OpDoes_append rfl rfl rfl (r2 := Src.hi inferInstance 2 m hc) (h1 := by rw [e1]; infer_instance) (by rw [e1, itemsR_len, List.length_take]; omega) (by omega) (by decide)) rfl ?_
  intro q2
  rw [e1]
  repeat (first | refine go ?_ | (refine goX ?_; intro))
  refine EL_does (OpDoes_append rfl rfl rfl (r2 := Src.lo inferInstance m hc) (h1 := by rw [e2]; infer_instance) (by rw [e2, itemsR_len, List.length_drop]) (by omega) (by decide)) rfl ?_
  intro q3
  rw [e2]
  repeat (first | refine go ?_ | (refine goX ?_; intro))
  refine EK_ret (ER_1 rfl rfl q2 (by rw [Nat.zero_add]) (Ent.sat (Ent.row q2.1 (by rw [Nat.zero_add]) (by rw [List.nil_append]) (Ent.trans ?_ (RefC.shut (q := q3))))))
  refine Ent.obj p (by simp) (Ent.row q3.1 (by simp) (by rw [List.nil_append]) ?_)
  repeat (first | exact Ent.last | refine Ent.cons ?_ | refine Ent.assoc ?_)
theorem same_spec (p0 p1 : Option Addr) (n c0 c1 : Nat) (L : List (Int × Int)) (hl : L.length = n) (hn : n ≤ 1000) :
    Spec Try.prog 19 [.slice p0 n c0, .slice p1 n c1] W (RowC 33 2 p0 n c0 (itemsR L) * (RowC 49 2 p1 n c1 (itemsR L) * F)) (fun _ : Unit => .bool true) (fun _ => RowC 33 2 p0 n c0 (itemsR L) * (RowC 49 2 p1 n c1 (itemsR L) * F)) := by
  subst hl
  refine Spec.of Try.func19 rfl Try.ntmps19 rfl ?_
  repeat (first | refine go ?_ | (refine goX ?_; intro))
  refine EK_loop (γ := Nat) (fun i => i ≤ L.length) (fun i => [(0, .slice p0 L.length c0), (1, .slice p1 L.length c1), (5, .int .i64 (i : Int))]) (fun _ => RowC 33 2 p0 L.length c0 (itemsR L) * (RowC 49 2 p1 L.length c1 (itemsR L) * F)) (fun i => L.length - i) 0 (Nat.zero_le _) ⟨rfl, rfl, rfl, trivial⟩ (Ent.sat (Ent.refl _)) ?_
  intro i hi; dsimp only at hi ⊢
  repeat (first | refine go ?_ | (refine goX ?_; intro))
  refine EK_cond_dec rfl (fun hlt => ?_) (fun hge => ?_)
  · haveI : Pos L.length := ⟨by omega⟩
    repeat (first | refine go ?_ | (refine goX ?_; intro))
    refine EK_drawn rfl (by kernel_rfl) ?_
    repeat (refine goS ?_)
    repeat (first | refine go ?_ | (refine goX ?_; intro))
    exact EK_round (i + 1) (by omega) (by omega) ⟨rfl, rfl, rfl, trivial⟩ (Ent.sat (Ent.refl _))
  · repeat (first | refine go ?_ | (refine goX ?_; intro))
    exact EK_ret (ER_1 rfl rfl () rfl (Ent.sat (Ent.refl _)))
end Go.Proofs.Ytdmmahhnfnefoaa
