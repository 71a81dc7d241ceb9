/-
  Package cache: New, Top, Pop, All, Leaving.
-/
import Derived.Test.YtdmmahhnfnefoaaDoorPpA
import Derived.Test.YtdmmahhnfnefoaaDoorPpX
import Derived.Test.YtdmmahhnfnefoaaDoorSj
namespace Go.Proofs.YtdmmahhnfnefoaaDoor
open Go.RowKit
set_option maxRecDepth 10000
attribute [local irreducible] EK EX ER EN EL ES EG OpVal OpDoes OpSkip
variable {W : World} {F : SL} {X : Cx} {k : List KI} {σ : Env} {pp pc ps sp qo : Option Addr} {n m h : Nat} {ws l : List Nat} {s : PStep}

abbrev CacheO (pc pp : Option Addr) (h : Nat) (l : List Nat) (qo : Option Addr) (q : Slab) (F : SL) : SL := Obj pc 68 [.pointer pp, .int .i64 (h : Int), .slice q.1 l.length q.2, .pointer qo] * (RowC 3 1 q.1 l.length q.2 (natsR .i64 l) * F)
def CacheX (pc pp : Option Addr) (h : Nat) (l : List Nat) (qo : Option Addr) (q : Slab) : SL := Obj pc 68 [.pointer pp, .int .i64 (h : Int), .slice q.1 l.length q.2, .pointer qo] * RowC 3 1 q.1 l.length q.2 (natsR .i64 l)
def CacheC (pc pp : Option Addr) (h : Nat) (l : List Nat) (qo : Option Addr) : SL := SL.ex (CacheX pc pp h l qo)
theorem CacheX.eq (pc pp : Option Addr) (h : Nat) (l : List Nat) (qo : Option Addr) (q : Slab) (F : SL) : CacheX pc pp h l qo q * F = CacheO pc pp h l qo q F := by
  unfold CacheX CacheO
  rw [SL.sep_assoc]
theorem CacheC.open (H : ∀ q, EK X k σ (CacheO pc pp h l qo q F)) : EK X k σ (CacheC pc pp h l qo * F) := EK_ex fun q => by
  rw [CacheX.eq]; exact H q
theorem CacheC.openL {ops o : List Oper} (H : ∀ q, EL X k ops o σ (CacheO pc pp h l qo q F)) : EL X k ops o σ (CacheC pc pp h l qo * F) := EL_ex fun q => by
  rw [CacheX.eq]; exact H q
theorem CacheC.shut {q : Slab} : Ent (CacheO pc pp h l qo q F) (CacheC pc pp h l qo * F) := Ent.ex q (by rw [CacheX.eq]; exact Ent.refl _)
instance (priority := 2000) (pc pp : Option Addr) (h : Nat) (l : List Nat) (qo : Option Addr) (F : SL) : AtP (CacheC pc pp h l qo * F) pc (CacheC pc pp h l qo) F := ⟨rfl⟩
instance (pc pp : Option Addr) (h : Nat) (l : List Nat) (qo : Option Addr) : Root (CacheC pc pp h l qo) pc := ⟨fun W w F H => by
  obtain ⟨q, H⟩ := H.ex_out
  rw [CacheX.eq] at H
  exact (Obj.root pc _ _).nn W w _ H⟩
abbrev CStO (ps : Option Addr) (kd : Nat) (q : Option Addr) (d : Bool) : SL := Obj ps 70 [.int .i64 (kd : Int), .pointer q, .bool d]
theorem CaNew_spec (h : Nat) : Spec Tryd.prog 9 [.pointer pp, .int .i64 (h : Int)] W (PoolC pp n ws * F) (fun p : Option Addr => .tuple #[.pointer p, .int .i64 0]) (fun p => CacheC p pp h [] none * (PoolC pp n ws * F)) := by
  refine Spec.of Tryd.func9 rfl Tryd.ntmps9 rfl ?_
  repeat (first | refine go ?_ | (refine goX ?_; intro))
  rename_i g
  refine EK_ret (ER_2 rfl rfl rfl g rfl (Ent.sat (Ent.trans ?_ (CacheC.shut (q := (none, 0))))))
  exact Ent.obj g rfl (Ent.none (Ent.refl _))
def topV (l : List Nat) : Value := .tuple #[.int .i64 ((l.getD (l.length - 1) 0 : Nat) : Int), .bool (decide (0 < l.length))]
theorem Top_spec (hb : l.length ≤ 100000) : Spec Tryd.prog 33 [.pointer pc] W (CacheC pc pp h l qo * F) (fun _ : Unit => topV l) (fun _ => CacheC pc pp h l qo * F) := by
  refine Spec.of Tryd.func33 rfl Tryd.ntmps33 rfl ?_
  refine CacheC.open fun q => ?_
  simp only [CacheO]
  by_cases hl : l.length = 0
  · repeat (first | refine go ?_ | (refine goX ?_; intro))
    refine EK_ret (ER_2 rfl rfl rfl () ?_ (Ent.sat (CacheC.shut (q := q))))
    unfold topV
    rw [List.eq_nil_of_length_eq_zero hl]; rfl
  · haveI : Pos l.length := ⟨by omega⟩
    obtain ⟨d, hd⟩ : ∃ d, l.length = d + 1 := ⟨l.length - 1, by omega⟩
    repeat (first | refine go ?_ | (refine goX ?_; intro))
    refine EK_drawn rfl (by kernel_rfl) ?_
    repeat (refine goS ?_)
    rw [show ((l.length : Int) - 1) = (d : Int) by omega]
    repeat (refine goS ?_)
    repeat (first | refine go ?_ | (refine goX ?_; intro))
    refine EK_ret (ER_2 rfl rfl rfl () ?_ (Ent.sat (CacheC.shut (q := q))))
    unfold topV
    rw [hd, decide_eq_true (by omega)]
    rfl
theorem All_spec (hl : l.length ≤ 100000) : Spec Tryd.prog 27 [.pointer pc] W (CacheC pc pp h l qo * F) (fun g : Slab => .slice g.1 l.length g.2) (fun g => RowC 3 1 g.1 l.length g.2 (natsR .i64 l) * (CacheC pc pp h l qo * F)) := by
  refine Spec.of Tryd.func27 rfl Tryd.ntmps27 rfl ?_
  refine CacheC.open fun q => ?_
  simp only [CacheO]
  repeat (first | refine go ?_ | (refine goX ?_; intro))
  refine EL_call rfl (Spec.at1 q.1 (CloneI_spec q.1 l.length q.2 (natsR .i64 l) (natsR_len _ _) (by omega))) ?_
  intro g
  repeat (first | refine go ?_ | (refine goX ?_; intro))
  refine EK_ret (ER_1 rfl rfl g rfl (Ent.sat (Ent.row g.1 rfl rfl (Ent.trans ?_ (CacheC.shut (q := q))))))
  first | exact Ent.refl _ | exact Ent.last | (repeat (first | refine Ent.cons ?_ | exact Ent.any | exact Ent.last))
theorem Leaving_none : Spec Tryd.prog 29 [.pointer pc] W (CacheC pc pp h l none * F) (fun _ : Unit => .slice none 0 0) (fun _ => CacheC pc pp h l none * F) := by
  refine Spec.of Tryd.func29 rfl Tryd.ntmps29 rfl ?_
  refine CacheC.open fun q => ?_
  simp only [CacheO]
  repeat (first | refine go ?_ | (refine goX ?_; intro))
  refine EL_call rfl Left_nil ?_
  intro _
  repeat (first | refine go ?_ | (refine goX ?_; intro))
  exact EK_ret (ER_1 rfl rfl () rfl (Ent.sat (CacheC.shut (q := q))))
theorem Leaving_spec (hp : s.parts.length ≤ 1000) (hm : ∀ x ∈ s.parts, x.1 < 1000000 ∧ x.2 < 18446744073709551616) : Spec Tryd.prog 29 [.pointer pc] W (CacheC pc pp h l qo * (StepC qo s * F)) (fun g : Slab => .slice g.1 (leftS s.parts).length g.2)
    (fun g => RowC 3 1 g.1 (leftS s.parts).length g.2 (natsR .i64 (leftS s.parts)) * (CacheC pc pp h l qo * (StepC qo s * F))) := by
  refine Spec.of Tryd.func29 rfl Tryd.ntmps29 rfl ?_
  refine CacheC.open fun q => ?_
  simp only [CacheO]
  repeat (first | refine go ?_ | (refine goX ?_; intro))
  refine EL_call rfl (Spec.at1 qo (Left_spec2 hp hm)) ?_
  intro g
  repeat (first | refine go ?_ | (refine goX ?_; intro))
  refine EK_ret (ER_1 rfl rfl g rfl (Ent.sat (Ent.row g.1 rfl rfl (Ent.trans ?_ (CacheC.shut (q := q))))))
  first | exact Ent.refl _ | exact Ent.last | (repeat (first | refine Ent.cons ?_ | exact Ent.any | exact Ent.last))
end Go.Proofs.YtdmmahhnfnefoaaDoor
