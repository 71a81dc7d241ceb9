/-
  Package place.
-/
import Derived.Test.YtdmmahhnfnefoaaFb
import Derived.Test.YtdmmahhnfnefoaaCe
import Derived.Test.YtdmmahhnfnefoaaSj
import Derived.Test.YtdmmahhnfnefoaaSn
namespace Go.Proofs.Ytdmmahhnfnefoaa
open Go.RowKit
set_option maxRecDepth 10000
attribute [local irreducible] EK EX ER EN EL ES EG OpVal OpDoes OpSkip
variable {W : World} {F : SL} {X : Cx} {k : List KI} {σ : Env} {p g : Option Addr} {ws : List Nat}
abbrev wordV (w : PWord) : Value := .agg #[.int .i64 (w.st : Int), .int .i64 (w.gen : Int), .int .i64 (w.tr : Int), .int .i64 (w.sn : Int)]
theorem within_spec (a b : Int) : Spec Try.prog 52 [.int .i64 a, .int .i64 b] W F (fun _ : Unit => .bool (decide (0 ≤ a ∧ a ≤ b))) (fun _ => F) := by
  refine Spec.of Try.func52 rfl Try.ntmps52 rfl ?_
  by_cases h1 : 0 ≤ a
  · by_cases h2 : a ≤ b
    · repeat (first | refine go ?_ | (refine goX ?_; intro))
      exact EK_ret (ER_1 rfl rfl () (by rw [decide_eq_true ⟨h1, h2⟩]) (Ent.sat (Ent.refl _)))
    · repeat (first | refine go ?_ | (refine goX ?_; intro))
      exact EK_ret (ER_1 rfl rfl () (by rw [decide_eq_false (fun e => h2 e.2)]) (Ent.sat (Ent.refl _)))
  · repeat (first | refine go ?_ | (refine goX ?_; intro))
    exact EK_ret (ER_1 rfl rfl () (by rw [decide_eq_false (fun e => h1 e.1)]) (Ent.sat (Ent.refl _)))
theorem right_spec {w : PWord} (h : w.ok) : Spec Try.prog 102 [wordV w] W F (fun _ : Unit => .bool true) (fun _ => F) := by
  obtain ⟨h1, h2, h3, h4⟩ := h
  refine Spec.of Try.func102 rfl Try.ntmps102 rfl ?_
  repeat (first | refine go ?_ | (refine goX ?_; intro))
  refine EL_call rfl (within_spec _ _) ?_
  intro _
  rw [decide_eq_true ⟨by omega, by omega⟩]
  repeat (first | refine go ?_ | (refine goX ?_; intro))
  refine EL_call rfl (within_spec _ _) ?_
  intro _
  rw [decide_eq_true (p := 0 ≤ (w.gen : Int) ∧ (w.gen : Int) ≤ 65535) ⟨by omega, by omega⟩]
  repeat (first | refine go ?_ | (refine goX ?_; intro))
  refine EL_call rfl (within_spec _ _) ?_
  intro _
  rw [decide_eq_true (p := 0 ≤ (w.tr : Int) ∧ (w.tr : Int) ≤ 7) ⟨by omega, by omega⟩]
  repeat (first | refine go ?_ | (refine goX ?_; intro))
  refine EL_call rfl (within_spec _ _) ?_
  intro _
  rw [decide_eq_true (p := 0 ≤ (w.sn : Int) ∧ (w.sn : Int) ≤ 4294967295) ⟨by omega, by omega⟩]
  repeat (first | refine go ?_ | (refine goX ?_; intro))
  exact EK_ret (ER_1 rfl rfl () rfl (Ent.sat Ent.last))
theorem num_val {w : PWord} (h : w.ok) : bits .or .u64 (bits .or .u64 (bits .or .u64 (w.st : Int) (IntKind.u64.wrap ((w.tr : Int) * 2 ^ Int.toNat 8))) (IntKind.u64.wrap ((w.gen : Int) * 2 ^ Int.toNat 16))) (IntKind.u64.wrap ((w.sn : Int) * 2 ^ Int.toNat 32)) = (w.num : Int) := by
  obtain ⟨h1, h2, h3, h4⟩ := h
  rw [show IntKind.u64.wrap ((w.tr : Int) * 2 ^ Int.toNat 8) = ((w.tr * 2 ^ 8 : Nat) : Int) from u64_shl w.tr 8 (by omega), show IntKind.u64.wrap ((w.gen : Int) * 2 ^ Int.toNat 16) = ((w.gen * 2 ^ 16 : Nat) : Int) from u64_shl w.gen 16 (by omega),
    show IntKind.u64.wrap ((w.sn : Int) * 2 ^ Int.toNat 32) = ((w.sn * 2 ^ 32 : Nat) : Int) from u64_shl w.sn 32 (by omega), u64_or_lo (by omega) (by omega), u64_or_lo (by omega) (by omega), u64_or_lo (by omega) (by omega)]
  rfl
theorem un_val {n : Nat} (hn : n < 18446744073709551616) : (Value.agg #[.int .i64 (IntKind.i64.wrap (bits .and .u64 (n : Int) 3)), .int .i64 (IntKind.i64.wrap (bits .and .u64 ((n : Int) / 2 ^ Int.toNat 16) 65535)), .int .i64 (IntKind.i64.wrap (bits .and .u64 ((n : Int) / 2 ^ Int.toNat 8) 7)), .int .i64 (IntKind.i64.wrap ((n : Int) / 2 ^ Int.toNat 32))]) = wordV (PWord.of n) := by
  rw [show bits .and .u64 (n : Int) 3 = ((n % 2 ^ 2 : Nat) : Int) from u64_low 2 hn (by decide), show (n : Int) / 2 ^ Int.toNat 16 = ((n / 2 ^ 16 : Nat) : Int) from shr_nat n 16, show (n : Int) / 2 ^ Int.toNat 8 = ((n / 2 ^ 8 : Nat) : Int) from shr_nat n 8, show (n : Int) / 2 ^ Int.toNat 32 = ((n / 2 ^ 32 : Nat) : Int) from shr_nat n 32,
    show bits .and .u64 ((n / 2 ^ 16 : Nat) : Int) 65535 = ((n / 2 ^ 16 % 2 ^ 16 : Nat) : Int) from u64_low 16 (by omega) (by decide), show bits .and .u64 ((n / 2 ^ 8 : Nat) : Int) 7 = ((n / 2 ^ 8 % 2 ^ 3 : Nat) : Int) from u64_low 3 (by omega) (by decide),
    i64_nat (by omega), i64_nat (by omega), i64_nat (by omega), i64_nat (by omega)]
  rfl
theorem number_spec {w : PWord} (h : w.ok) : Spec Try.prog 77 [wordV w] W F (fun _ : Unit => .int .u64 (w.num : Int)) (fun _ => F) := by
  refine Spec.of Try.func77 rfl Try.ntmps77 rfl ?_
  have h' := h
  obtain ⟨h1, h2, h3, h4⟩ := h'
  repeat (first | refine go ?_ | (refine goX ?_; intro))
  exact EK_ret (ER_1 rfl rfl () (by rw [num_val h]) (Ent.sat Ent.last))
theorem Unpack_spec {n : Nat} (hn : n < 18446744073709551616) : Spec Try.prog 74 [.int .u64 (n : Int)] W F (fun _ : Unit => wordV (PWord.of n)) (fun _ => F) := by
  refine Spec.of Try.func74 rfl Try.ntmps74 rfl ?_
  repeat (first | refine go ?_ | (refine goX ?_; intro))
  exact EK_ret (ER_c1 (rv := .cell 2 83) rfl ⟨_, rfl, LoadsV.agg rfl⟩ () (un_val hn) (Ent.sat Ent.last))
theorem gen_next {a : Nat} (h : a ≤ 65535) : bits .and .i64 ((a : Int) + 1) 65535 = (((a + 1) % 65536 : Nat) : Int) := i64_low (a + 1) 16 (by omega) (by decide)
theorem eqVs {a b : PWord} : (@decide (([.int .i64 (b.st : Int), .int .i64 (b.gen : Int), .int .i64 (b.tr : Int), .int .i64 (b.sn : Int)] : List Value) = [.int .i64 (b.st : Int), .int .i64 (a.gen : Int), .int .i64 (a.tr : Int), .int .i64 (a.sn : Int)]) (Classical.propDecidable _)) = decide (b = { a with st := b.st }) := by
  obtain ⟨a1, a2, a3, a4⟩ := a
  obtain ⟨b1, b2, b3, b4⟩ := b
  rw [decide_eq_decide]
  simp only [List.cons.injEq, Value.int.injEq, PWord.mk.injEq, and_true, true_and, Int.natCast_inj]
theorem May_spec {a b : PWord} (ha : a.ok) (hb : b.ok) : Spec Try.prog 75 [wordV a, wordV b] W F (fun _ : Unit => .bool (mayW a b)) (fun _ => F) := by
  refine Spec.of Try.func75 rfl Try.ntmps75 rfl ?_
  have ha1 := ha.1
  have ha2 := ha.2.1
  repeat (first | refine go ?_ | (refine goX ?_; intro))
  refine EL_call rfl (right_spec ha) ?_
  intro _
  repeat (first | refine go ?_ | (refine goX ?_; intro))
  refine EL_call rfl (right_spec hb) ?_
  intro _
  have hst : a.st = 0 ∨ a.st = 1 ∨ a.st = 2 ∨ a.st = 3 := by omega
  rcases hst with e | e | e | e
  · by_cases e1 : b.st = 1
    · repeat (first | refine go ?_ | (refine goX ?_; intro))
      refine EK_ret (ER_1 rfl rfl () ?_ (Ent.sat Ent.last))
      rw [may0 e, gen_next ha2]
      rw [decide_eq_true e1, Bool.true_and]; simp only [Int.natCast_inj]
    · repeat (first | refine go ?_ | (refine goX ?_; intro))
      refine EK_ret (ER_1 rfl rfl () ?_ (Ent.sat Ent.last))
      rw [may0 e]
      rw [decide_eq_false e1, Bool.false_and]
  · by_cases e1 : b.st = 2
    · repeat (first | refine go ?_ | (refine goX ?_; intro))
      refine EK_ret (ER_1 rfl rfl () ?_ (Ent.sat Ent.last))
      rw [may1 e, eqVs]
      rw [decide_eq_true e1, Bool.true_or, Bool.true_and]
    · by_cases e2 : b.st = 0
      · repeat (first | refine go ?_ | (refine goX ?_; intro))
        refine EK_ret (ER_1 rfl rfl () ?_ (Ent.sat Ent.last))
        rw [may1 e, eqVs]
        rw [decide_eq_true e2, Bool.or_true, Bool.true_and]
      · repeat (first | refine go ?_ | (refine goX ?_; intro))
        refine EK_ret (ER_1 rfl rfl () ?_ (Ent.sat Ent.last))
        rw [may1 e]
        rw [decide_eq_false e1, decide_eq_false e2, Bool.or_false, Bool.false_and]
  · by_cases e1 : b.st = 2
    · by_cases e2 : b.gen = a.gen
      · repeat (first | refine go ?_ | (refine goX ?_; intro))
        refine EK_ret (ER_1 rfl rfl () ?_ (Ent.sat Ent.last))
        rw [may2 e]
        rw [if_pos e1, decide_eq_true e2, Bool.true_and]; simp only [ge_iff_le, Int.ofNat_le]
      · repeat (first | refine go ?_ | (refine goX ?_; intro))
        refine EK_ret (ER_1 rfl rfl () ?_ (Ent.sat Ent.last))
        rw [may2 e]
        rw [if_pos e1, decide_eq_false e2, Bool.false_and]
    · by_cases e2 : b.st = 3
      · repeat (first | refine go ?_ | (refine goX ?_; intro))
        refine EK_ret (ER_1 rfl rfl () ?_ (Ent.sat Ent.last))
        rw [may2 e, eqVs]
        rw [if_neg e1, decide_eq_true e2, Bool.true_and]
      · repeat (first | refine go ?_ | (refine goX ?_; intro))
        refine EK_ret (ER_1 rfl rfl () ?_ (Ent.sat Ent.last))
        rw [may2 e]
        rw [if_neg e1, decide_eq_false e2, Bool.false_and]
  · by_cases e1 : b.st = 0
    · repeat (first | refine go ?_ | (refine goX ?_; intro))
      refine EK_ret (ER_1 rfl rfl () ?_ (Ent.sat Ent.last))
      rw [may3 e, eqVs]
      rw [decide_eq_true e1, Bool.true_and]
    · repeat (first | refine go ?_ | (refine goX ?_; intro))
      refine EK_ret (ER_1 rfl rfl () ?_ (Ent.sat Ent.last))
      rw [may3 e]
      rw [decide_eq_false e1, Bool.false_and]
/-! ### The row of places -/
theorem EL_exF {α : Sort _} {ops l : List Oper} {F : SL} {P : α → SL} (h : ∀ a, EL X k ops l σ (P a * F)) : EL X k ops l σ (SL.ex P * F) := by
  unfold EL at h ⊢
  exact fun a w ha hs => let ⟨x, hx⟩ := hs.ex_out; h x a w ha hx
abbrev PlaceO (p g : Option Addr) (ws : List Nat) (F : SL) : SL := Obj p 107 [.pointer g] * (CellsSL g ws * F)
def PlaceX (p : Option Addr) (ws : List Nat) (g : Option Addr) : SL := Obj p 107 [.pointer g] * CellsSL g ws
def PlaceC (p : Option Addr) (ws : List Nat) : SL := SL.ex (PlaceX p ws)
theorem PlaceX.eq (p : Option Addr) (ws : List Nat) (g : Option Addr) (F : SL) : PlaceX p ws g * F = PlaceO p g ws F := by
  unfold PlaceX PlaceO
  rw [SL.sep_assoc]
theorem PlaceC.open (H : ∀ g, EK X k σ (PlaceO p g ws F)) : EK X k σ (PlaceC p ws * F) := EK_ex fun g => by
  rw [PlaceX.eq]; exact H g
theorem PlaceC.openL {ops o : List Oper} (H : ∀ g, EL X k ops o σ (PlaceO p g ws F)) : EL X k ops o σ (PlaceC p ws * F) := EL_exF fun g => by
  rw [PlaceX.eq]; exact H g
theorem PlaceC.shut {g : Option Addr} : Ent (PlaceO p g ws F) (PlaceC p ws * F) := Ent.ex g (by rw [PlaceX.eq]; exact Ent.refl _)
instance (priority := 2000) (p : Option Addr) (ws : List Nat) (F : SL) : AtP (PlaceC p ws * F) p (PlaceC p ws) F := ⟨rfl⟩
instance (p : Option Addr) (ws : List Nat) : Root (PlaceC p ws) p := ⟨fun W w F H => by
  obtain ⟨g, H⟩ := H.ex_out
  rw [PlaceX.eq] at H
  exact (Obj.root p _ _).nn W w _ H⟩
theorem PNew_spec {n : Nat} (h1 : 1 ≤ n) (h2 : n ≤ 3072) : Spec Try.prog 21 [.int .i64 (n : Int)] W F (fun p : Option Addr => .tuple #[.pointer p, .int .i64 0]) (fun p => PlaceC p (List.replicate (2 * n) 0) * F) := by
  refine Spec.of Try.func21 rfl Try.ntmps21 rfl ?_
  repeat (first | refine go ?_ | (refine goX ?_; intro))
  rw [show (2 : Int) * (n : Int) = ((2 * n : Nat) : Int) by omega]
  refine EL_call rfl (CNew_spec (2 * n) (by omega) (by omega)) ?_
  intro g
  repeat (first | refine go ?_ | (refine goX ?_; intro))
  rename_i x
  refine EK_ret (ER_2 rfl rfl rfl x rfl (Ent.sat (Ent.trans ?_ (PlaceC.shut (g := g)))))
  first | exact Ent.refl _ | exact Ent.last | (repeat (first | refine Ent.cons ?_ | exact Ent.any | exact Ent.last))
theorem PSize_specO {n : Nat} (hl : ws.length = 2 * n) (h2 : n ≤ 3072) : Spec Try.prog 47 [.pointer p] W (PlaceO p g ws F) (fun _ : Unit => .int .i64 (n : Int)) (fun _ => PlaceO p g ws F) := by
  refine Spec.of Try.func47 rfl Try.ntmps47 rfl ?_
  simp only [PlaceO]
  repeat (first | refine go ?_ | (refine goX ?_; intro))
  refine EL_call rfl (Spec.at1 g (Size_spec g ws)) ?_
  intro _
  rw [hl]
  repeat (first | refine go ?_ | (refine goX ?_; intro))
  refine EK_ret (ER_1 rfl rfl () ?_ (Ent.sat ?_))
  · rw [show ((2 * n : Nat) : Int) / 2 = (n : Int) by omega]
  · first | exact Ent.refl _ | exact Ent.last | (repeat (first | refine Ent.cons ?_ | exact Ent.any | exact Ent.last))
theorem PSize_spec {n : Nat} (hl : ws.length = 2 * n) (h2 : n ≤ 3072) : Spec Try.prog 47 [.pointer p] W (PlaceC p ws * F) (fun _ : Unit => .int .i64 (n : Int)) (fun _ => PlaceC p ws * F) := by
  intro w hs
  obtain ⟨g, hs⟩ := hs.ex_out
  rw [PlaceX.eq] at hs
  refine Calls.mono (PSize_specO hl h2 w hs) ?_
  rintro e w' ⟨u, h1, h3⟩
  exact ⟨u, h1, PlaceC.shut.sat w' h3⟩
theorem there_spec {n i : Nat} (hl : ws.length = 2 * n) (h2 : n ≤ 3072) (hi : i < n) : Spec Try.prog 51 [.pointer p, .int .i64 (i : Int)] W (PlaceO p g ws F) (fun _ : Unit => .bool true) (fun _ => PlaceO p g ws F) := by
  refine Spec.of Try.func51 rfl Try.ntmps51 rfl ?_
  simp only [PlaceO]
  repeat (first | refine go ?_ | (refine goX ?_; intro))
  refine EL_call rfl (PSize_specO hl h2) ?_
  intro _
  simp only [PlaceO]
  repeat (first | refine go ?_ | (refine goX ?_; intro))
  exact EK_ret (ER_1 rfl rfl () rfl (Ent.sat (Ent.refl _)))
theorem PLoad_spec {n i : Nat} (hl : ws.length = 2 * n) (h2 : n ≤ 3072) (hi : i < n) (hw : ∀ j, ws.getD j 0 < 18446744073709551616) : Spec Try.prog 54 [.pointer p, .int .i64 (i : Int)] W (PlaceC p ws * F) (fun _ : Unit => wordV (PWord.of (ws.getD (2 * i) 0))) (fun _ => PlaceC p ws * F) := by
  refine Spec.of Try.func54 rfl Try.ntmps54 rfl ?_
  refine PlaceC.open fun g => ?_
  simp only [PlaceO]
  repeat (first | refine go ?_ | (refine goX ?_; intro))
  rename_i y
  refine EL_call rfl (Spec.at2 p g (there_spec hl h2 hi)) ?_
  intro _
  simp only [PlaceO]
  repeat (first | refine go ?_ | (refine goX ?_; intro))
  rw [show (2 : Int) * (i : Int) = ((2 * i : Nat) : Int) by omega]
  refine EL_call rfl (Spec.at1 g (Load_spec g ws (2 * i) (by omega) (by omega))) ?_
  intro _
  repeat (first | refine go ?_ | (refine goX ?_; intro))
  refine EL_call rfl (Unpack_spec (hw (2 * i))) ?_
  intro _
  repeat (first | refine go ?_ | (refine goX ?_; intro))
  refine EK_ret (ER_c1 (rv := .cell 4 83) rfl ⟨_, rfl, LoadsV.agg rfl⟩ () rfl (Ent.sat (Ent.trans ?_ (PlaceC.shut (g := g)))))
  first | exact Ent.refl _ | exact Ent.last | (repeat (first | refine Ent.cons ?_ | exact Ent.any | exact Ent.last))
theorem PCas_spec {n i : Nat} {a b : PWord} (hl : ws.length = 2 * n) (h2 : n ≤ 3072) (hi : i < n) (ha : a.ok) (hb : b.ok) : Spec Try.prog 55 [.pointer p, .int .i64 (i : Int), wordV a, wordV b] W (PlaceC p ws * F) (fun _ : Unit => .bool (mayW a b && decide (ws.getD (2 * i) 0 = a.num)))
    (fun _ => PlaceC p (if mayW a b = true ∧ ws.getD (2 * i) 0 = a.num then ws.set (2 * i) b.num else ws) * F) := by
  refine Spec.of Try.func55 rfl Try.ntmps55 rfl ?_
  refine PlaceC.open fun g => ?_
  simp only [PlaceO]
  repeat (first | refine go ?_ | (refine goX ?_; intro))
  rename_i x1 x2
  refine EK_sink 99 (Obj x2 83 b.vs * (Obj x1 83 a.vs * (Obj p 107 [.pointer g] * 1))) rfl rfl rfl ?_
  repeat (first | refine goQ ?_ | refine EG_done (by decide +kernel) ?_)
  refine EG_callQ rfl rfl rfl rfl rfl (Spec.at2 p g (there_spec hl h2 hi)) (fun _ => by simp only [PlaceO]; first | exact Ent.refl _ | exact Ent.last | (repeat (first | refine Ent.cons ?_ | exact Ent.any | exact Ent.last))) ?_
  intro _
  simp only [PlaceO]
  repeat (first | refine goQ ?_ | refine EG_done (by decide +kernel) ?_)
  refine EG_callQ rfl rfl rfl rfl rfl (May_spec ha hb) (fun _ => by first | exact Ent.refl _ | exact Ent.last | (repeat (first | refine Ent.cons ?_ | exact Ent.any | exact Ent.last))) ?_
  intro _
  cases hm : mayW a b with
  | false =>
    repeat (first | refine goQ ?_ | refine EG_done (by decide +kernel) ?_)
    repeat (first | refine go ?_ | (refine goX ?_; intro))
    refine EK_ret (ER_1 rfl rfl () (by rw [Bool.false_and]) (Ent.sat (Ent.trans ?_ (PlaceC.shut (g := g)))))
    rw [if_neg (by simp)]
    first | exact Ent.refl _ | exact Ent.last | (repeat (first | refine Ent.cons ?_ | exact Ent.any | exact Ent.last))
  | true =>
    repeat (first | refine goQ ?_ | refine EG_done (by decide +kernel) ?_)
    rw [show (2 : Int) * (i : Int) = ((2 * i : Nat) : Int) by omega]
    refine EG_callQ rfl rfl rfl rfl rfl (number_spec ha) (fun _ => by first | exact Ent.refl _ | exact Ent.last | (repeat (first | refine Ent.cons ?_ | exact Ent.any | exact Ent.last))) ?_
    intro _
    repeat (first | refine goQ ?_ | refine EG_done (by decide +kernel) ?_)
    refine EG_callQ rfl rfl rfl rfl rfl (number_spec hb) (fun _ => by first | exact Ent.refl _ | exact Ent.last | (repeat (first | refine Ent.cons ?_ | exact Ent.any | exact Ent.last))) ?_
    intro _
    repeat (first | refine goQ ?_ | refine EG_done (by decide +kernel) ?_)
    refine EG_callQ rfl rfl rfl rfl rfl (Spec.at1 g (Cas_spec g ws (2 * i) a.num b.num (by omega) (by omega))) (fun _ => by first | exact Ent.refl _ | exact Ent.last | (repeat (first | refine Ent.cons ?_ | exact Ent.any | exact Ent.last))) ?_
    intro _
    repeat (first | refine goQ ?_ | refine EG_done (by decide +kernel) ?_)
    repeat (first | refine go ?_ | (refine goX ?_; intro))
    refine EK_ret (ER_1 rfl rfl () (by rw [Bool.true_and]) (Ent.sat (Ent.trans ?_ (PlaceC.shut (g := g)))))
    rw [show (if true = true ∧ ws.getD (2 * i) 0 = a.num then ws.set (2 * i) b.num else ws) = if ws.getD (2 * i) 0 = a.num then ws.set (2 * i) b.num else ws by simp]
    first | exact Ent.refl _ | exact Ent.last | (repeat (first | refine Ent.cons ?_ | exact Ent.any | exact Ent.last))
theorem key_val {n : Nat} (h : n < 18446744073709551616) : (Value.agg #[.int .i64 (IntKind.i64.wrap ((n : Int) / 2 ^ Int.toNat 48)), .int .u32 (IntKind.u32.wrap ((n : Int) / 2 ^ Int.toNat 16)), .int .u16 (IntKind.u16.wrap (n : Int))]) =
    .agg #[.int .i64 ((n / 281474976710656 : Nat) : Int), .int .u32 ((n / 65536 % 4294967296 : Nat) : Int), .int .u16 ((n % 65536 : Nat) : Int)] := by
  rw [show (n : Int) / 2 ^ Int.toNat 48 = ((n / 281474976710656 : Nat) : Int) from shr_nat n 48, show (n : Int) / 2 ^ Int.toNat 16 = ((n / 65536 : Nat) : Int) from shr_nat n 16, i64_nat (by omega), IntKind.wrap_u32, IntKind.wrap_u16]
  simp only [Int.natCast_emod]
  rfl
theorem PKey_spec {n i : Nat} (hl : ws.length = 2 * n) (h2 : n ≤ 3072) (hi : i < n) (hw : ∀ j, ws.getD j 0 < 18446744073709551616) : Spec Try.prog 106 [.pointer p, .int .i64 (i : Int)] W (PlaceC p ws * F)
    (fun _ : Unit => .agg #[.int .i64 ((ws.getD (2 * i + 1) 0 / 281474976710656 : Nat) : Int), .int .u32 ((ws.getD (2 * i + 1) 0 / 65536 % 4294967296 : Nat) : Int), .int .u16 ((ws.getD (2 * i + 1) 0 % 65536 : Nat) : Int)]) (fun _ => PlaceC p ws * F) := by
  refine Spec.of Try.func106 rfl Try.ntmps106 rfl ?_
  refine PlaceC.open fun g => ?_
  simp only [PlaceO]
  repeat (first | refine go ?_ | (refine goX ?_; intro))
  rename_i y
  refine EL_call rfl (Spec.at2 p g (there_spec hl h2 hi)) ?_
  intro _
  simp only [PlaceO]
  repeat (first | refine go ?_ | (refine goX ?_; intro))
  rw [show (2 : Int) * (i : Int) + 1 = ((2 * i + 1 : Nat) : Int) by omega]
  refine EL_call rfl (Spec.at1 g (Load_spec g ws (2 * i + 1) (by omega) (by omega))) ?_
  intro _
  repeat (first | refine go ?_ | (refine goX ?_; intro))
  refine EK_ret (ER_c1 (rv := .cell 4 65) rfl ⟨_, rfl, LoadsV.agg rfl⟩ () (key_val (hw _)) (Ent.sat (Ent.trans ?_ (PlaceC.shut (g := g)))))
  first | exact Ent.refl _ | exact Ent.last | (repeat (first | refine Ent.cons ?_ | exact Ent.any | exact Ent.last))
theorem SetKey_spec {n i a b c : Nat} (hl : ws.length = 2 * n) (h2 : n ≤ 3072) (hi : i < n) (ha : a ≤ 255) (hb : b < 4294967296) (hc : c < 65536) : Spec Try.prog 29 [.pointer p, .int .i64 (i : Int), .agg #[.int .i64 (a : Int), .int .u32 (b : Int), .int .u16 (c : Int)]] W (PlaceC p ws * F)
    (fun _ : Unit => .int .i64 0) (fun _ => PlaceC p (ws.set (2 * i + 1) (keyN a b c)) * F) := by
  refine Spec.of Try.func29 rfl Try.ntmps29 rfl ?_
  refine PlaceC.open fun g => ?_
  simp only [PlaceO]
  repeat (first | refine go ?_ | (refine goX ?_; intro))
  refine EL_call rfl (Spec.at2 p g (there_spec hl h2 hi)) ?_
  intro _
  simp only [PlaceO]
  repeat (first | refine go ?_ | (refine goX ?_; intro))
  refine EL_call rfl (within_spec _ _) ?_
  intro _
  rw [decide_eq_true (p := 0 ≤ (a : Int) ∧ (a : Int) ≤ 255) ⟨by omega, by omega⟩]
  repeat (first | refine go ?_ | (refine goX ?_; intro))
  refine EK_drawnT 20 rfl (by kernel_rfl) rfl rfl ?_
  repeat (refine goS ?_)
  rw [show IntKind.u64.wrap ((a : Int) * 2 ^ Int.toNat 48) = ((a * 2 ^ 48 : Nat) : Int) from u64_shl a 48 (by omega), show IntKind.u64.wrap ((b : Int) * 2 ^ Int.toNat 16) = ((b * 2 ^ 16 : Nat) : Int) from u64_shl b 16 (by omega), key_or (by omega) hb hc, show (2 : Int) * (i : Int) + 1 = ((2 * i + 1 : Nat) : Int) by omega]
  refine EL_call rfl (Spec.at1 g (Store_spec g ws (2 * i + 1) (keyN a b c) (by omega) (by omega))) ?_
  intro _
  repeat (first | refine go ?_ | (refine goX ?_; intro))
  refine EK_ret (ER_1 rfl rfl () rfl (Ent.sat (Ent.trans ?_ (PlaceC.shut (g := g)))))
  first | exact Ent.refl _ | exact Ent.last | (repeat (first | refine Ent.cons ?_ | exact Ent.any | exact Ent.last))
end Go.Proofs.Ytdmmahhnfnefoaa
