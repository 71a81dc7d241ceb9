/-
  Package cache: Again, None, Same, Do of an Again.
-/
import Derived.Test.YtdmmahhnfnefoaaDoorCc3
namespace Go.Proofs.YtdmmahhnfnefoaaDoor
open Go.RowKit
set_option maxRecDepth 10000
attribute [local irreducible] EK EX ER EN EL ES EG OpVal OpDoes OpSkip
variable {W : World} {F : SL} {X : Cx} {k : List KI} {σ : Env} {pp pc ps sp qo q : Option Addr} {n m h : Nat} {ws l : List Nat} {s t : PStep}

theorem CNone_spec : Spec Tryd.prog 18 [.pointer ps] W (CStO ps 0 q true * (StepC q t * F)) (fun _ : Unit => .bool (noneS t)) (fun _ => CStO ps 0 q true * (StepC q t * F)) := by
  refine Spec.of Tryd.func18 rfl Tryd.ntmps18 rfl ?_
  repeat (first | refine go ?_ | (refine goX ?_; intro))
  refine EL_call rfl (Spec.at1 q (None_spec q t)) ?_
  intro _
  repeat (first | refine go ?_ | (refine goX ?_; intro))
  exact EK_ret (ER_1 rfl rfl () rfl (Ent.sat (by first | exact Ent.refl _ | exact Ent.last | (repeat (first | refine Ent.cons ?_ | exact Ent.any | exact Ent.last)))))
theorem CSame_spec {d : Bool} : Spec Tryd.prog 17 [.pointer ps] W (CStO ps 1 q d * (StepC q s * F)) (fun _ : Unit => .bool s.alike) (fun _ => CStO ps 1 q d * (StepC q s * F)) := by
  refine Spec.of Tryd.func17 rfl Tryd.ntmps17 rfl ?_
  repeat (first | refine go ?_ | (refine goX ?_; intro))
  refine EL_call rfl (Spec.at1 q (SSame_spec q s)) ?_
  intro _
  repeat (first | refine go ?_ | (refine goX ?_; intro))
  exact EK_ret (ER_1 rfl rfl () rfl (Ent.sat (by first | exact Ent.refl _ | exact Ent.last | (repeat (first | refine Ent.cons ?_ | exact Ent.any | exact Ent.last)))))
theorem Again_spec (hn : noneS t = true) (ht : t.words.length ≤ 1000) : Spec Tryd.prog 19 [.pointer pc, .pointer ps] W (CStO ps 0 q true * (StepC q t * (CacheC pc pp h l qo * (PoolC pp n ws * F)))) (fun g : Option Addr × Option Addr => .pointer g.1)
    (fun g => CStO g.1 1 g.2 false * (StepC g.2 (sameNew t) * (CStO ps 0 q true * (StepC q t * (CacheC pc pp h l qo * (PoolC pp n ws * F)))))) := by
  refine Spec.of Tryd.func19 rfl Tryd.ntmps19 rfl ?_
  refine EK_at pc (CacheC.open fun z => ?_)
  simp only [CacheO]
  repeat (first | refine go ?_ | (refine goX ?_; intro))
  refine EL_call rfl (Spec.at2 ps q CNone_spec) ?_
  intro _
  rw [hn]
  repeat (first | refine go ?_ | (refine goX ?_; intro))
  refine EK_drawnT 8 rfl (by kernel_rfl) rfl rfl ?_
  repeat (refine goS ?_)
  refine EL_call rfl (Spec.at2 pp q (Same_spec hn ht)) ?_
  intro g
  repeat (first | refine go ?_ | (refine goX ?_; intro))
  rename_i x
  refine EK_ret (ER_1 rfl rfl (x, g) rfl (Ent.sat (Ent.obj x rfl (Ent.at g rfl (Ent.obj ps rfl (Ent.at q rfl (Ent.trans ?_ (CacheC.shut (q := z)))))))))
  refine Ent.obj pc rfl (Ent.row z.1 rfl rfl ?_)
  first | exact Ent.refl _ | exact Ent.last | (repeat (first | refine Ent.cons ?_ | exact Ent.any | exact Ent.last))
theorem Do_again (hT : Tab W) (hw : WordsOk m ws) (hs : s.Ok m) : Spec Tryd.prog 13 [.pointer pc, .pointer ps] W (CStO ps 1 sp false * (StepC sp s * (CacheC pc pp h l qo * (PoolC pp n ws * F)))) (fun _ : Unit => .bool (doS ws s).2.done)
    (fun _ => CStO ps 1 sp (doS ws s).2.done * (StepC sp (doS ws s).2 * (CacheC pc pp h l qo * (PoolC pp n (doS ws s).1 * F)))) := by
  refine Spec.of Tryd.func13 rfl Tryd.ntmps13 rfl ?_
  refine EK_at pc (CacheC.open fun q => ?_)
  simp only [CacheO, CStO]
  repeat (first | refine go ?_ | (refine goX ?_; intro))
  refine EK_sink 12 (Obj pc 68 [.pointer pp, .int .i64 (h : Int), .slice q.1 l.length q.2, .pointer qo] * (Obj ps 70 [.int .i64 ((1 : Nat) : Int), .pointer sp, .bool false] * 1)) rfl rfl rfl ?_
  repeat (first | refine goQ ?_ | refine EG_done (by decide +kernel) ?_)
  refine EG_callQ rfl rfl rfl rfl rfl (Spec.pre (Do_spec hT hw hs (p := pp) (sp := sp) (n := n) (F := Obj pc 68 [.pointer pp, .int .i64 (h : Int), .slice q.1 l.length q.2, .pointer qo] * (Obj ps 70 [.int .i64 ((1 : Nat) : Int), .pointer sp, .bool false] * (RowC 3 1 q.1 l.length q.2 (natsR .i64 l) * F)))) (Ent.at pp rfl (Ent.at sp rfl (by first | exact Ent.refl _ | exact Ent.last | (repeat (first | refine Ent.cons ?_ | exact Ent.any | exact Ent.last)))))) (fun _ => by first | exact Ent.refl _ | exact Ent.last | (repeat (first | refine Ent.cons ?_ | exact Ent.any | exact Ent.last))) ?_
  intro _
  repeat (first | refine goQ ?_ | refine EG_done (by decide +kernel) ?_)
  repeat (first | refine goG ?_ | (refine goGX ?_; intro) | refine goGL ?_ | refine goGS ?_ | refine goGV ?_ | refine EG_done (by decide +kernel) ?_)
  cases hd : (doS ws s).2.done with
  | true =>
    repeat (first | refine go ?_ | (refine goX ?_; intro))
    refine EK_ret (ER_1 rfl rfl () rfl (Ent.sat ?_))
    refine Ent.obj ps rfl (Ent.at sp rfl (Ent.trans ?_ (CacheC.shut (q := q))))
    refine Ent.obj pc rfl (Ent.row q.1 rfl rfl (Ent.at pp rfl ?_))
    first | exact Ent.refl _ | exact Ent.last | (repeat (first | refine Ent.cons ?_ | exact Ent.any | exact Ent.last))
  | false =>
    repeat (first | refine go ?_ | (refine goX ?_; intro))
    refine EK_ret (ER_1 rfl rfl () rfl (Ent.sat ?_))
    refine Ent.obj ps rfl (Ent.at sp rfl (Ent.trans ?_ (CacheC.shut (q := q))))
    refine Ent.obj pc rfl (Ent.row q.1 rfl rfl (Ent.at pp rfl ?_))
    first | exact Ent.refl _ | exact Ent.last | (repeat (first | refine Ent.cons ?_ | exact Ent.any | exact Ent.last))
end Go.Proofs.YtdmmahhnfnefoaaDoor
