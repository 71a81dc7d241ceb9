/-
  Package cache: Pop, Fill, leave, Put, Flush.
-/
import Derived.Test.YtdmmahhnfnefoaaDoorCc0
namespace Go.Proofs.YtdmmahhnfnefoaaDoor
open Go.RowKit
set_option maxRecDepth 10000
attribute [local irreducible] EK EX ER EN EL ES EG OpVal OpDoes OpSkip
variable {W : World} {F : SL} {X : Cx} {k : List KI} {σ : Env} {pp pc ps sp qo : Option Addr} {n m h : Nat} {ws l : List Nat} {s : PStep}

theorem Pop_spec (hs : l.length ≤ 100000) : Spec Tryd.prog 12 [.pointer pc] W (CacheC pc pp h l qo * F) (fun _ : Unit => topV l) (fun _ => CacheC pc pp h (l.take (l.length - 1)) qo * F) := by
  refine Spec.of Tryd.func12 rfl Tryd.ntmps12 rfl ?_
  repeat (first | refine go ?_ | (refine goX ?_; intro))
  refine EL_call rfl (Top_spec hs) ?_
  intro _
  unfold topV
  by_cases hl : 0 < l.length
  · rw [decide_eq_true hl]
    obtain ⟨d, hd⟩ : ∃ d, l.length = d + 1 := ⟨l.length - 1, by omega⟩
    repeat (first | refine go ?_ | (refine goX ?_; intro))
    refine CacheC.open fun q => ?_
    simp only [CacheO]
    refine EK_drawnT 14 rfl (by kernel_rfl) rfl rfl ?_
    repeat (refine goS ?_)
    rw [show ((l.length : Int) - 1) = (d : Int) by omega]
    repeat (refine goS ?_)
    repeat (first | refine go ?_ | (refine goX ?_; intro))
    refine EK_ret (ER_2 rfl rfl rfl () rfl (Ent.sat (Ent.trans ?_ (CacheC.shut (q := q)))))
    have e1 : (l.take (l.length - 1)).length = d := by rw [List.length_take]; omega
    refine Ent.obj pc (by rw [e1]) (Ent.rowHi q.1 d (by omega) (Ent.row q.1 (by rw [e1]) ?_ (Ent.refl _)))
    rw [hd]; simp [natsR]
  · rw [decide_eq_false hl]
    repeat (first | refine go ?_ | (refine goX ?_; intro))
    refine EK_ret (ER_2 rfl rfl rfl () rfl (Ent.sat ?_))
    rw [List.take_of_length_le (by omega)]
    exact Ent.refl _
theorem Fill_still (hl : 0 < l.length) : Spec Tryd.prog 11 [.pointer pc] W (CacheC pc pp h l qo * F) (fun g : Option Addr => .pointer g) (fun g => CStO g 3 none false * (CacheC pc pp h l qo * F)) := by
  refine Spec.of Tryd.func11 rfl Tryd.ntmps11 rfl ?_
  refine CacheC.open fun q => ?_
  simp only [CacheO]
  repeat (first | refine go ?_ | (refine goX ?_; intro))
  rename_i g
  refine EK_ret (ER_1 rfl rfl g rfl (Ent.sat (Ent.obj g rfl (Ent.trans ?_ (CacheC.shut (q := q))))))
  first | exact Ent.refl _ | exact Ent.last | (repeat (first | refine Ent.cons ?_ | exact Ent.any | exact Ent.last))
theorem Fill_take (hw : WordsOk m ws) : Spec Tryd.prog 11 [.pointer pc] W (CacheC pc pp h [] none * (PoolC pp n ws * F)) (fun g : Option Addr × Option Addr => .pointer g.1)
    (fun g => CStO g.1 0 g.2 false * (StepC g.2 (takeNew (h : Int) 8 m) * (CacheC pc pp h [] none * (PoolC pp n ws * F)))) := by
  refine Spec.of Tryd.func11 rfl Tryd.ntmps11 rfl ?_
  refine CacheC.open fun q => ?_
  simp only [CacheO, List.length_nil]
  repeat (first | refine go ?_ | (refine goX ?_; intro))
  rw [show (!decide ((none : Option Addr) = none)) = false from rfl]
  repeat (first | refine go ?_ | (refine goX ?_; intro))
  refine EK_drawnT 8 rfl (by kernel_rfl) rfl rfl ?_
  repeat (refine goS ?_)
  refine EL_call rfl (Spec.at1 pp (Take_spec (h : Int) 8 hw)) ?_
  intro g
  repeat (first | refine go ?_ | (refine goX ?_; intro))
  rename_i x
  refine EK_ret (ER_1 rfl rfl (x, g) rfl (Ent.sat (Ent.obj x rfl (Ent.at g rfl (Ent.trans ?_ (CacheC.shut (q := q)))))))
  refine Ent.obj pc rfl (Ent.row q.1 rfl rfl ?_)
  first | exact Ent.refl _ | exact Ent.last | (repeat (first | refine Ent.cons ?_ | exact Ent.any | exact Ent.last))
theorem leave_spec (w : Nat) (hw : w ≤ l.length) (hl : l.length ≤ 1000) (hn : n ≤ 1024) : Spec Tryd.prog 35 [.pointer pc, .int .i64 (w : Int)] W (CacheC pc pp h l none * (PoolC pp n ws * F)) (fun g : Option Addr × Option Addr => .pointer g.1)
    (fun g => CStO g.1 2 g.2 false * (StepC g.2 (backNew n ((l.take w).map fun (x : Nat) => (x : Int))) * (CacheC pc pp h (l.drop w) g.2 * (PoolC pp n ws * F)))) := by
  refine Spec.of Tryd.func35 rfl Tryd.ntmps35 rfl ?_
  refine CacheC.open fun q => ?_
  simp only [CacheO]
  repeat (first | refine go ?_ | (refine goX ?_; intro))
  have hml : (l.map fun (x : Nat) => (x : Int)).length = l.length := by simp
  rw [natsI]
  refine EK_sink 14 (Obj pc 68 [.pointer pp, .int .i64 (h : Int), .slice q.1 l.length q.2, .pointer none] * (RowC 3 1 q.1 l.length q.2 (intsR .i64 (l.map fun (x : Nat) => (x : Int))) * 1)) rfl rfl rfl ?_
  repeat (first | refine goQ ?_ | refine EG_done (by decide +kernel) ?_)
  refine EG_callQ rfl rfl rfl rfl rfl (Spec.pre (Back_part q.1 w q.2 (l.map fun (x : Nat) => (x : Int)) (by omega) (by omega) hn (F := Obj pc 68 [.pointer pp, .int .i64 (h : Int), .slice q.1 l.length q.2, .pointer none] * F)) (Ent.at pp rfl (by rw [hml]; first | exact Ent.refl _ | exact Ent.last | (repeat (first | refine Ent.cons ?_ | exact Ent.any | exact Ent.last))))) (fun _ => by rw [hml]; first | exact Ent.refl _ | exact Ent.last | (repeat (first | refine Ent.cons ?_ | exact Ent.any | exact Ent.last))) ?_
  intro g
  rw [hml]
  repeat (first | refine goQ ?_ | refine EG_done (by decide +kernel) ?_)
  repeat (first | refine goG ?_ | (refine goGX ?_; intro) | refine goGL ?_ | refine goGS ?_ | refine goGV ?_ | refine EG_done (by decide +kernel) ?_)
  repeat (first | refine go ?_ | (refine goX ?_; intro))
  rw [← natsI]
  refine EL_ent (Ent.rowLo q.1 w hw (Ent.refl _)) ?_
  have hdr : (natsR .i64 l).drop (w * 1) = natsR .i64 (l.drop w) := by simp [natsR, List.map_drop]
  have hdl : (l.drop w).length = l.length - w := List.length_drop
  rw [hdr]
  refine EL_call rfl (Spec.at1 (dropP q.1 w q.2 1) (CloneI_spec _ (l.length - w) (q.2 - w) (natsR .i64 (l.drop w)) (by rw [natsR_len]; exact hdl) (by omega))) ?_
  intro o
  repeat (first | refine go ?_ | (refine goX ?_; intro))
  rename_i x
  refine EK_ret (ER_1 rfl rfl (x, g) rfl (Ent.sat (Ent.obj x rfl (Ent.at g ?_ (Ent.trans ?_ (CacheC.shut (q := o)))))))
  · rw [List.map_take]
  · refine Ent.obj pc (by rw [hdl]) (Ent.row o.1 hdl.symm rfl (Ent.at pp rfl ?_))
    first | exact Ent.refl _ | exact Ent.last | (repeat (first | refine Ent.cons ?_ | exact Ent.any | exact Ent.last))
theorem Put_still (x : Nat) (hl : l.length < 16) : Spec Tryd.prog 14 [.pointer pc, .int .i64 (x : Int)] W (CacheC pc pp h l qo * F) (fun g : Option Addr => .pointer g) (fun g => CStO g 3 none false * (CacheC pc pp h (l ++ [x]) qo * F)) := by
  refine Spec.of Tryd.func14 rfl Tryd.ntmps14 rfl ?_
  refine CacheC.open fun q => ?_
  simp only [CacheO]
  repeat (first | refine go ?_ | (refine goX ?_; intro))
  rename_i y o g
  refine EK_ret (ER_1 rfl rfl g rfl (Ent.sat (Ent.obj g rfl (Ent.trans ?_ (CacheC.shut (q := o))))))
  refine Ent.obj pc (by rw [len_snoc]) (Ent.row o.1 (by rw [len_snoc]) (by simp [natsR]) (Ent.refl _))
theorem Put_leave (x : Nat) (hl : l.length = 16) (hn : n ≤ 1024) : Spec Tryd.prog 14 [.pointer pc, .int .i64 (x : Int)] W (CacheC pc pp h l none * (PoolC pp n ws * F)) (fun g : Option Addr × Option Addr => .pointer g.1)
    (fun g => CStO g.1 2 g.2 false * (StepC g.2 (backNew n (((l ++ [x]).take 8).map fun (x : Nat) => (x : Int))) * (CacheC pc pp h ((l ++ [x]).drop 8) g.2 * (PoolC pp n ws * F)))) := by
  refine Spec.of Tryd.func14 rfl Tryd.ntmps14 rfl ?_
  refine CacheC.open fun q => ?_
  simp only [CacheO]
  repeat (first | refine go ?_ | (refine goX ?_; intro))
  rename_i y o
  refine EL_call rfl (Spec.pre (leave_spec (W := W) (F := F) (pp := pp) (pc := pc) (h := h) (ws := ws) (l := l ++ [x]) 8 (by simp; omega) (by simp; omega) hn) ?_) ?_
  · refine Ent.trans ?_ (CacheC.shut (q := o))
    exact Ent.obj pc (by rw [len_snoc]) (Ent.row o.1 (by rw [len_snoc]) (by simp [natsR]) (Ent.refl _))
  intro g
  repeat (first | refine go ?_ | (refine goX ?_; intro))
  exact EK_ret (ER_1 rfl rfl g rfl (Ent.sat (Ent.refl _)))
theorem Flush_spec (hl : l.length ≤ 1000) (hn : n ≤ 1024) : Spec Tryd.prog 15 [.pointer pc] W (CacheC pc pp h l none * (PoolC pp n ws * F)) (fun g : Option Addr × Option Addr => .pointer g.1)
    (fun g => CStO g.1 2 g.2 false * (StepC g.2 (backNew n (l.map fun (x : Nat) => (x : Int))) * (CacheC pc pp h [] g.2 * (PoolC pp n ws * F)))) := by
  refine Spec.of Tryd.func15 rfl Tryd.ntmps15 rfl ?_
  refine CacheC.open fun q => ?_
  simp only [CacheO]
  repeat (first | refine go ?_ | (refine goX ?_; intro))
  refine EL_call rfl (Spec.pre (leave_spec (l := l) l.length (Nat.le_refl _) hl hn) (CacheC.shut (q := q))) ?_
  intro g
  rw [List.take_length, List.drop_length]
  repeat (first | refine go ?_ | (refine goX ?_; intro))
  exact EK_ret (ER_1 rfl rfl g rfl (Ent.sat (Ent.refl _)))
end Go.Proofs.YtdmmahhnfnefoaaDoor
