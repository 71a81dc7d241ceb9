/-
  Package cache: came, Do.
-/
import Derived.Test.YtdmmahhnfnefoaaDoorCc1
namespace Go.Proofs.YtdmmahhnfnefoaaDoor
open Go.RowKit
set_option maxRecDepth 10000
attribute [local irreducible] EK EX ER EN EL ES EG OpVal OpDoes OpSkip
variable {W : World} {F : SL} {X : Cx} {k : List KI} {σ : Env} {pp pc ps sp qo : Option Addr} {n m h : Nat} {ws l : List Nat} {s : PStep}

attribute [local simp] natsR_len
def cameH (h : Nat) (s : PStep) : Nat := if s.ports = [] then h else s.word
theorem came_spec (hp : s.ports.length ≤ 32) (hl : l.length ≤ 1000) : Spec Tryd.prog 34 [.pointer pc, .pointer sp] W (CacheC pc pp h l qo * (StepC sp s * F)) (fun _ : Unit => .tuple #[]) (fun _ => CacheC pc pp (cameH h s) (l ++ s.ports.reverse) qo * (StepC sp s * F)) := by
  refine Spec.of Tryd.func34 rfl Tryd.ntmps34 rfl ?_
  repeat (first | refine go ?_ | (refine goX ?_; intro))
  refine EL_call rfl (Spec.at1 sp (Got_spec sp s (by omega))) ?_
  intro g
  by_cases h0 : s.ports = []
  · have h0' : s.ports.length = 0 := by rw [h0]; rfl
    repeat (first | refine go ?_ | (refine goX ?_; intro))
    refine EK_ret (ER_0 rfl () rfl (Ent.sat ?_))
    unfold cameH
    rw [if_pos h0, h0, List.reverse_nil, List.append_nil, ← h0]
    refine Ent.trans Ent.drop ?_
    first | exact Ent.refl _ | exact Ent.last | (repeat (first | refine Ent.cons ?_ | exact Ent.any | exact Ent.last))
  · have h0' : ¬ s.ports.length = 0 := fun e => h0 (List.eq_nil_of_length_eq_zero e)
    repeat (first | refine go ?_ | (refine goX ?_; intro))
    rw [natsI]
    refine EL_call rfl (Reverse_spec g.1 s.ports.length g.2 _ (by simp) (by omega)) ?_
    intro _
    rw [show intsR .i64 (s.ports.map fun (i : Nat) => (i : Int)).reverse = natsR .i64 s.ports.reverse by rw [natsI, List.map_reverse]]
    have hrl : (natsR .i64 s.ports.reverse).length = s.ports.length := by rw [natsR_len, List.length_reverse]
    haveI : RLen (natsR .i64 s.ports.reverse) s.ports.length := ⟨hrl⟩
    refine EL_at pc (CacheC.openL fun q => ?_)
    simp only [CacheO]
    repeat (first | refine go ?_ | (refine goX ?_; intro))
    rename_i o
    refine EL_call rfl (Spec.at1 sp (Word_spec sp s)) ?_
    intro _
    rw [if_neg h0]
    repeat (first | refine go ?_ | (refine goX ?_; intro))
    refine EK_end (EN_0 rfl () rfl (Ent.sat (Ent.trans ?_ (CacheC.shut (q := o)))))
    unfold cameH
    rw [if_neg h0]
    refine Ent.obj pc (by simp) (Ent.row o.1 (by simp) (by simp [natsR]) ?_)
    first | exact Ent.refl _ | exact Ent.last | (repeat (first | refine Ent.cons ?_ | exact Ent.any | exact Ent.last))
theorem Do_still : Spec Tryd.prog 13 [.pointer pc, .pointer ps] W (CacheC pc pp h l qo * (CStO ps 3 none false * F)) (fun _ : Unit => .bool true) (fun _ => CacheC pc pp h l qo * (CStO ps 3 none true * F)) := by
  refine Spec.of Tryd.func13 rfl Tryd.ntmps13 rfl ?_
  refine CacheC.open fun q => ?_
  simp only [CacheO, CStO]
  repeat (first | refine go ?_ | (refine goX ?_; intro))
  refine EK_ret (ER_1 rfl rfl () rfl (Ent.sat (Ent.trans ?_ (CacheC.shut (q := q)))))
  refine Ent.obj pc rfl (Ent.row q.1 rfl rfl ?_)
  first | exact Ent.refl _ | exact Ent.last | (repeat (first | refine Ent.cons ?_ | exact Ent.any | exact Ent.last))
theorem Do_fill (hT : Tab W) (hw : WordsOk m ws) (hs : s.Ok m) (hl : l.length ≤ 1000) : Spec Tryd.prog 13 [.pointer pc, .pointer ps] W (CStO ps 0 sp false * (StepC sp s * (CacheC pc pp h l qo * (PoolC pp n ws * F)))) (fun _ : Unit => .bool (doS ws s).2.done)
    (fun _ => CStO ps 0 sp (doS ws s).2.done * (StepC sp (doS ws s).2 * ((if (doS ws s).2.done = true then CacheC pc pp (cameH h (doS ws s).2) (l ++ (doS ws s).2.ports.reverse) qo else CacheC pc pp h l qo) * (PoolC pp n (doS ws s).1 * F)))) := by
  refine Spec.of Tryd.func13 rfl Tryd.ntmps13 rfl ?_
  obtain ⟨_, hs2⟩ := doS_ok hw hs
  refine EK_at pc (CacheC.open fun q => ?_)
  simp only [CacheO, CStO]
  repeat (first | refine go ?_ | (refine goX ?_; intro))
  refine EK_sink 12 (Obj pc 68 [.pointer pp, .int .i64 (h : Int), .slice q.1 l.length q.2, .pointer qo] * (Obj ps 70 [.int .i64 ((0 : Nat) : Int), .pointer sp, .bool false] * 1)) rfl rfl rfl ?_
  repeat (first | refine goQ ?_ | refine EG_done (by decide +kernel) ?_)
  refine EG_callQ rfl rfl rfl rfl rfl (Spec.pre (Do_spec hT hw hs (p := pp) (sp := sp) (n := n) (F := Obj pc 68 [.pointer pp, .int .i64 (h : Int), .slice q.1 l.length q.2, .pointer qo] * (Obj ps 70 [.int .i64 ((0 : Nat) : Int), .pointer sp, .bool false] * (RowC 3 1 q.1 l.length q.2 (natsR .i64 l) * F)))) (Ent.at pp rfl (Ent.at sp rfl (by first | exact Ent.refl _ | exact Ent.last | (repeat (first | refine Ent.cons ?_ | exact Ent.any | exact Ent.last)))))) (fun _ => by first | exact Ent.refl _ | exact Ent.last | (repeat (first | refine Ent.cons ?_ | exact Ent.any | exact Ent.last))) ?_
  intro _
  repeat (first | refine goQ ?_ | refine EG_done (by decide +kernel) ?_)
  repeat (first | refine goG ?_ | (refine goGX ?_; intro) | refine goGL ?_ | refine goGS ?_ | refine goGV ?_ | refine EG_done (by decide +kernel) ?_)
  cases hd : (doS ws s).2.done with
  | true =>
    repeat (first | refine go ?_ | (refine goX ?_; intro))
    refine EL_call rfl (Spec.pre (came_spec (pp := pp) (h := h) (l := l) (qo := qo) (F := Obj ps 70 [.int .i64 ((0 : Nat) : Int), .pointer sp, .bool true] * (PoolC pp n (doS ws s).1 * F)) hs2.ports hl) (Ent.trans ?_ (CacheC.shut (q := q)))) ?_
    · refine Ent.obj pc rfl (Ent.row q.1 rfl rfl (Ent.at sp rfl ?_))
      first | exact Ent.refl _ | exact Ent.last | (repeat (first | refine Ent.cons ?_ | exact Ent.any | exact Ent.last))
    intro _
    repeat (first | refine go ?_ | (refine goX ?_; intro))
    refine EK_ret (ER_1 rfl rfl () rfl (Ent.sat ?_))
    rw [if_pos rfl]
    refine Ent.obj ps rfl (Ent.at sp rfl ?_)
    first | exact Ent.refl _ | exact Ent.last | (repeat (first | refine Ent.cons ?_ | exact Ent.any | exact Ent.last))
  | false =>
    repeat (first | refine go ?_ | (refine goX ?_; intro))
    refine EK_ret (ER_1 rfl rfl () rfl (Ent.sat ?_))
    rw [if_neg (by decide)]
    refine Ent.obj ps rfl (Ent.at sp rfl (Ent.trans ?_ (CacheC.shut (q := q))))
    refine Ent.obj pc rfl (Ent.row q.1 rfl rfl (Ent.at pp rfl ?_))
    first | exact Ent.refl _ | exact Ent.last | (repeat (first | refine Ent.cons ?_ | exact Ent.any | exact Ent.last))
theorem Do_back (hT : Tab W) (hw : WordsOk m ws) (hs : s.Ok m) : Spec Tryd.prog 13 [.pointer pc, .pointer ps] W (CStO ps 2 sp false * (StepC sp s * (CacheC pc pp h l qo * (PoolC pp n ws * F)))) (fun _ : Unit => .bool (doS ws s).2.done)
    (fun _ => CStO ps 2 sp (doS ws s).2.done * (StepC sp (doS ws s).2 * (CacheC pc pp h l (if (doS ws s).2.done = true then none else qo) * (PoolC pp n (doS ws s).1 * F)))) := by
  refine Spec.of Tryd.func13 rfl Tryd.ntmps13 rfl ?_
  refine EK_at pc (CacheC.open fun q => ?_)
  simp only [CacheO, CStO]
  repeat (first | refine go ?_ | (refine goX ?_; intro))
  refine EK_sink 12 (Obj pc 68 [.pointer pp, .int .i64 (h : Int), .slice q.1 l.length q.2, .pointer qo] * (Obj ps 70 [.int .i64 ((2 : Nat) : Int), .pointer sp, .bool false] * 1)) rfl rfl rfl ?_
  repeat (first | refine goQ ?_ | refine EG_done (by decide +kernel) ?_)
  refine EG_callQ rfl rfl rfl rfl rfl (Spec.pre (Do_spec hT hw hs (p := pp) (sp := sp) (n := n) (F := Obj pc 68 [.pointer pp, .int .i64 (h : Int), .slice q.1 l.length q.2, .pointer qo] * (Obj ps 70 [.int .i64 ((2 : Nat) : Int), .pointer sp, .bool false] * (RowC 3 1 q.1 l.length q.2 (natsR .i64 l) * F)))) (Ent.at pp rfl (Ent.at sp rfl (by first | exact Ent.refl _ | exact Ent.last | (repeat (first | refine Ent.cons ?_ | exact Ent.any | exact Ent.last)))))) (fun _ => by first | exact Ent.refl _ | exact Ent.last | (repeat (first | refine Ent.cons ?_ | exact Ent.any | exact Ent.last))) ?_
  intro _
  repeat (first | refine goQ ?_ | refine EG_done (by decide +kernel) ?_)
  repeat (first | refine goG ?_ | (refine goGX ?_; intro) | refine goGL ?_ | refine goGS ?_ | refine goGV ?_ | refine EG_done (by decide +kernel) ?_)
  cases hd : (doS ws s).2.done with
  | true =>
    repeat (first | refine go ?_ | (refine goX ?_; intro))
    refine EK_ret (ER_1 rfl rfl () rfl (Ent.sat ?_))
    rw [if_pos rfl]
    refine Ent.obj ps rfl (Ent.at sp rfl (Ent.trans ?_ (CacheC.shut (q := q))))
    refine Ent.obj pc rfl (Ent.row q.1 rfl rfl (Ent.at pp rfl ?_))
    first | exact Ent.refl _ | exact Ent.last | (repeat (first | refine Ent.cons ?_ | exact Ent.any | exact Ent.last))
  | false =>
    repeat (first | refine go ?_ | (refine goX ?_; intro))
    refine EK_ret (ER_1 rfl rfl () rfl (Ent.sat ?_))
    rw [if_neg (by decide)]
    refine Ent.obj ps rfl (Ent.at sp rfl (Ent.trans ?_ (CacheC.shut (q := q))))
    refine Ent.obj pc rfl (Ent.row q.1 rfl rfl (Ent.at pp rfl ?_))
    first | exact Ent.refl _ | exact Ent.last | (repeat (first | refine Ent.cons ?_ | exact Ent.any | exact Ent.last))
end Go.Proofs.YtdmmahhnfnefoaaDoor
