/-
  Package pool: same, back, Do.
-/
import Derived.Test.YtdmmahhnfnefoaaDoorPp2
namespace Go.Proofs.YtdmmahhnfnefoaaDoor
open Go.RowKit
set_option maxRecDepth 10000
attribute [local irreducible] EK EX ER EN EL ES EG OpVal OpDoes OpSkip
variable {W : World} {F : SL} {X : Cx} {k : List KI} {σ : Env} {p sp : Option Addr} {n m : Nat} {ws : List Nat} {s : PStep}

theorem same_spec (hw : WordsOk m ws) (hs : s.Ok m) (hk : s.kind = 1) (hd : s.done = false) :
    Spec Tryd.prog 45 [.pointer p, .pointer sp] W (PoolC p n ws * (StepC sp s * F)) (fun _ : Unit => .tuple #[]) (fun _ => PoolC p n (sameS ws s).1 * (StepC sp (sameS ws s).2 * F)) := by
  obtain ⟨hwl, hwm, hwd⟩ := hs.sames hk
  have hwd := hwd hd
  have hm3 := hw.most
  have hlen := hw.len
  refine Spec.of Tryd.func45 rfl Tryd.ntmps45 rfl ?_
  refine PoolC.open fun c => ?_
  refine EK_at sp (StepC.open fun q => ?_)
  simp only [StepO, stepV, PoolO]
  haveI : Pos s.words.length := ⟨by omega⟩
  by_cases he : ws.getD s.word 0 = s.words.getD s.word 0
  · have et : sameS ws s = (ws, { s with word := s.word + 1, done := decide (s.word + 1 = s.words.length), alike := decide (s.word + 1 = s.words.length) }) := if_pos he
    rw [et]
    repeat (first | refine go ?_ | (refine goX ?_; intro))
    refine EK_drawn rfl (by kernel_rfl) ?_
    repeat (refine goS ?_)
    refine ES_call rfl (Spec.keep1 c (Load_spec c ws s.word (by omega) (by omega))) ?_
    repeat (refine goS ?_)
    repeat (first | refine go ?_ | (refine goX ?_; intro))
    refine EK_drawnT 13 rfl (by kernel_rfl) rfl rfl ?_
    repeat (refine goS ?_)
    repeat (first | refine go ?_ | (refine goX ?_; intro))
    have e3 : decide ((s.word : Int) + 1 = (s.words.length : Int)) = decide (s.word + 1 = s.words.length) := decide_eq_decide.2 (by omega)
    rw [e3]
    refine EK_end (EN_0 rfl () rfl (Ent.sat (both_shut (c := c) (q := q) ?_)))
    refine Ent.at p rfl (Ent.at c rfl (Ent.obj sp rfl ?_))
    repeat (first | exact Ent.last | refine Ent.cons ?_ | refine Ent.assoc ?_)
  · have et : sameS ws s = (ws, { s with done := true }) := if_neg he
    rw [et]
    have he' : ¬ ((ws.getD s.word 0 : Nat) : Int) = ((s.words.getD s.word 0 : Nat) : Int) := by omega
    repeat (first | refine go ?_ | (refine goX ?_; intro))
    refine EK_drawn rfl (by kernel_rfl) ?_
    repeat (refine goS ?_)
    refine ES_call rfl (Spec.keep1 c (Load_spec c ws s.word (by omega) (by omega))) ?_
    repeat (refine goS ?_)
    repeat (first | refine go ?_ | (refine goX ?_; intro))
    refine EK_ret (ER_0 rfl () rfl (Ent.sat (both_shut (c := c) (q := q) ?_)))
    refine Ent.at p rfl (Ent.at c rfl (Ent.obj sp rfl ?_))
    repeat (first | exact Ent.last | refine Ent.cons ?_ | refine Ent.assoc ?_)
theorem done_nil {α : Type} [DecidableEq α] (l : List α) : decide (l = []) = decide (((l.length : Nat) : Int) = 0) := decide_eq_decide.2 (by
  cases l with
  | nil => simp
  | cons a l => simp; omega)
theorem back_spec (hw : WordsOk m ws) (hs : s.Ok m) :
    Spec Tryd.prog 46 [.pointer p, .pointer sp] W (PoolC p n ws * (StepC sp s * F)) (fun _ : Unit => .tuple #[]) (fun _ => PoolC p n (backS ws s).1 * (StepC sp (backS ws s).2 * F)) := by
  have hm3 := hw.most
  have hlen := hw.len
  refine Spec.of Tryd.func46 rfl Tryd.ntmps46 rfl ?_
  refine PoolC.open fun c => ?_
  refine EK_at sp (StepC.open fun q => ?_)
  simp only [StepO, stepV, PoolO]
  rcases hp : s.parts with _ | ⟨⟨j, mask⟩, rest⟩
  · rw [backS_nil hp]
    repeat (first | refine go ?_ | (refine goX ?_; intro))
    refine EK_ret (ER_0 rfl () rfl (Ent.sat (both_shut (c := c) (q := q) ?_)))
    refine Ent.at p rfl (Ent.at c rfl (Ent.obj sp (by simp only [stepV, hp]) (Ent.row q.1.1 rfl rfl (Ent.row q.2.1.1 (by rw [hp]) (by rw [hp]) ?_))))
    repeat (first | exact Ent.last | refine Ent.cons ?_ | refine Ent.assoc ?_)
  · rw [backS_cons hp]
    obtain ⟨hj, hmk⟩ := hs.parts (j, mask) (by rw [hp]; simp)
    dsimp only at hj hmk
    have hlt := (hw.get hj).2
    have hu := hs.seen
    have hjl : j < ws.length := by omega
    have hcl : ((j, mask) :: rest).length = rest.length + 1 := rfl
    by_cases hr : s.read = true
    · rw [if_pos hr, hr]
      have key := low_test hu
      have key2 := andNot_key hu hmk
      have hll : s.seen % 4294967296 &&& (18446744073709551615 - mask) < 4294967296 := Nat.lt_of_le_of_lt Nat.and_le_left (Nat.mod_lt _ (by decide))
      repeat (first | refine go ?_ | (refine goX ?_; intro))
      rename_i px
      rw [show ((j, mask) :: rest).getD 0 (0, 0) = (j, mask) from rfl]
      dsimp only
      refine EK_drawnT 23 rfl (by kernel_rfl) rfl rfl ?_
      repeat (refine goS ?_)
      have key3 : bits .andNot .u64 (bits .and .u64 (s.seen : Int) 4294967295) (mask : Int) = ((s.seen % 4294967296 &&& (18446744073709551615 - mask) : Nat) : Int) := by
        rw [key, Int.natCast_emod]; exact key2
      rw [key3]
      refine ES_call rfl (changed_spec s.seen _ hu hll) ?_
      repeat (refine goS ?_)
      refine EL_call rfl (Spec.at1 c (Cas_spec c ws j s.seen _ (by omega) (by omega))) ?_
      intro _
      by_cases he : ws.getD j 0 = s.seen
      · rw [decide_eq_true he, if_pos he, if_pos he]
        repeat (first | refine go ?_ | (refine goX ?_; intro))
        rw [show ((j, mask) :: rest).length - 1 = rest.length from rfl, ← done_nil rest]
        refine EK_end (EN_0 rfl () rfl (Ent.sat (both_shut (c := c) (q := (q.1, (dropP q.2.1.1 1 q.2.1.2 2, q.2.1.2 - 1), q.2.2)) ?_)))
        refine Ent.at p rfl (Ent.at c rfl (Ent.obj sp rfl (Ent.row q.1.1 rfl rfl (Ent.rowLo q.2.1.1 1 (by omega) (Ent.row (dropP q.2.1.1 1 q.2.1.2 2) rfl rfl ?_)))))
        repeat (first | exact Ent.last | refine Ent.cons ?_ | refine Ent.assoc ?_)
      · rw [decide_eq_false he, if_neg he, if_neg he]
        repeat (first | refine go ?_ | (refine goX ?_; intro))
        refine EK_ret (ER_0 rfl () rfl (Ent.sat (both_shut (c := c) (q := q) ?_)))
        refine Ent.at p rfl (Ent.at c rfl (Ent.obj sp (by simp only [stepV, hp]) (Ent.row q.1.1 rfl rfl (Ent.row q.2.1.1 (by rw [hp]) (by rw [hp]) ?_))))
        repeat (first | exact Ent.last | refine Ent.cons ?_ | refine Ent.assoc ?_)
    · have hr : s.read = false := by simpa using hr
      rw [if_neg (by simp [hr]), hr]
      have key := and_nat hlt hmk
      by_cases hz : ws.getD j 0 &&& mask = 0
      · have hz1 : bits .and .u64 ((ws.getD j 0 : Nat) : Int) (mask : Int) = 0 := by rw [key, hz]; rfl
        rw [if_pos hz]
        repeat (first | refine go ?_ | (refine goX ?_; intro))
        rename_i px
        rw [show ((j, mask) :: rest).getD 0 (0, 0) = (j, mask) from rfl]
        dsimp only
        refine EK_drawnT 10 rfl (by kernel_rfl) rfl rfl ?_
        repeat (refine goS ?_)
        refine ES_call rfl (Spec.keep1 c (Load_spec c ws j (by omega) (by omega))) ?_
        repeat (refine goS ?_)
        repeat (first | refine go ?_ | (refine goX ?_; intro))
        refine EK_drawnT 11 rfl (by kernel_rfl) rfl rfl ?_
        repeat (refine goS ?_)
        repeat (first | refine go ?_ | (refine goX ?_; intro))
        rw [show ((j, mask) :: rest).length - 1 = rest.length from rfl, ← done_nil rest]
        refine EK_end (EN_0 rfl () rfl (Ent.sat (both_shut (c := c) (q := (q.1, (dropP q.2.1.1 1 q.2.1.2 2, q.2.1.2 - 1), q.2.2)) ?_)))
        refine Ent.at p rfl (Ent.at c rfl (Ent.obj sp rfl (Ent.row q.1.1 rfl rfl (Ent.rowLo q.2.1.1 1 (by omega) (Ent.row (dropP q.2.1.1 1 q.2.1.2 2) rfl rfl ?_)))))
        repeat (first | exact Ent.last | refine Ent.cons ?_ | refine Ent.assoc ?_)
      · have hz1 : ¬ bits .and .u64 ((ws.getD j 0 : Nat) : Int) (mask : Int) = 0 := by rw [key]; omega
        rw [if_neg hz]
        repeat (first | refine go ?_ | (refine goX ?_; intro))
        rename_i px
        rw [show ((j, mask) :: rest).getD 0 (0, 0) = (j, mask) from rfl]
        dsimp only
        refine EK_drawnT 10 rfl (by kernel_rfl) rfl rfl ?_
        repeat (refine goS ?_)
        refine ES_call rfl (Spec.keep1 c (Load_spec c ws j (by omega) (by omega))) ?_
        repeat (refine goS ?_)
        repeat (first | refine go ?_ | (refine goX ?_; intro))
        refine EK_drawnT 11 rfl (by kernel_rfl) rfl rfl ?_
        repeat (refine goS ?_)
        repeat (first | refine go ?_ | (refine goX ?_; intro))
        refine EK_ret (ER_0 rfl () rfl (Ent.sat (both_shut (c := c) (q := q) ?_)))
        refine Ent.at p rfl (Ent.at c rfl (Ent.obj sp (by simp only [stepV, hp]) (Ent.row q.1.1 rfl rfl (Ent.row q.2.1.1 (by rw [hp]) (by rw [hp]) ?_))))
        repeat (first | exact Ent.last | refine Ent.cons ?_ | refine Ent.assoc ?_)
theorem Do_spec (hT : Tab W) (hw : WordsOk m ws) (hs : s.Ok m) :
    Spec Tryd.prog 24 [.pointer p, .pointer sp] W (PoolC p n ws * (StepC sp s * F)) (fun _ : Unit => .bool (doS ws s).2.done) (fun _ => PoolC p n (doS ws s).1 * (StepC sp (doS ws s).2 * F)) := by
  refine Spec.of Tryd.func24 rfl Tryd.ntmps24 rfl ?_
  refine EK_at sp (StepC.open fun q => ?_)
  simp only [StepO, stepV]
  by_cases hd : s.done = true
  · have e : doS ws s = (ws, s) := if_pos hd
    rw [e, hd]
    repeat (first | refine go ?_ | (refine goX ?_; intro))
    refine EK_ret (ER_1 rfl rfl () rfl (Ent.sat ?_))
    refine Ent.cons (Ent.trans ?_ (StepC.shut (q := q)))
    refine Ent.obj sp (by simp only [stepV, hd]) ?_
    repeat (first | exact Ent.last | refine Ent.cons ?_ | refine Ent.assoc ?_)
  have hd : s.done = false := by simpa using hd
  have e : doS ws s = if s.kind = 0 then takeS ws s else if s.kind = 1 then sameS ws s else backS ws s := by
    unfold doS
    rw [if_neg (by simp [hd])]
  have hsh : Ent (Obj sp 78 (stepV s q) * (RowC 23 1 q.1.1 s.words.length q.1.2 (natsR .u64 s.words) * (RowC 81 2 q.2.1.1 s.parts.length q.2.1.2 (partsR s.parts) * (RowC 3 1 q.2.2.1 s.ports.length q.2.2.2 (natsR .i64 s.ports) * (PoolC p n ws * F))))) (PoolC p n ws * (StepC sp s * F)) := by
    refine Ent.at p rfl (Ent.trans ?_ (StepC.shut (q := q)))
    repeat (first | exact Ent.last | refine Ent.cons ?_ | refine Ent.assoc ?_)
  simp only [stepV] at hsh
  rw [hd] at hsh ⊢
  rcases hs.kind with hk | hk | hk
  · rw [if_pos hk] at e
    rw [e]
    have hk0 : ((s.kind : Nat) : Int) = 0 := by omega
    repeat (first | refine go ?_ | (refine goX ?_; intro))
    refine EL_call rfl (Spec.pre (take_spec hT hw hs hk hd) hsh) ?_
    intro _
    generalize (takeS ws s) = g
    refine EL_nil ?_
    refine EK_at sp (StepC.open fun q => ?_)
    simp only [StepO, stepV]
    repeat (first | refine go ?_ | (refine goX ?_; intro))
    refine EK_ret (ER_1 rfl rfl () rfl (Ent.sat ?_))
    refine Ent.at p rfl (Ent.trans ?_ (StepC.shut (q := q)))
    repeat (first | exact Ent.last | refine Ent.cons ?_ | refine Ent.assoc ?_)
  · rw [if_neg (by omega), if_pos hk] at e
    rw [e]
    have hk0 : ((s.kind : Nat) : Int) = 1 := by omega
    repeat (first | refine go ?_ | (refine goX ?_; intro))
    refine EL_call rfl (Spec.pre (same_spec hw hs hk hd) hsh) ?_
    intro _
    generalize (sameS ws s) = g
    refine EL_nil ?_
    refine EK_at sp (StepC.open fun q => ?_)
    simp only [StepO, stepV]
    repeat (first | refine go ?_ | (refine goX ?_; intro))
    refine EK_ret (ER_1 rfl rfl () rfl (Ent.sat ?_))
    refine Ent.at p rfl (Ent.trans ?_ (StepC.shut (q := q)))
    repeat (first | exact Ent.last | refine Ent.cons ?_ | refine Ent.assoc ?_)
  · rw [if_neg (by omega), if_neg (by omega)] at e
    rw [e]
    have hk0 : ((s.kind : Nat) : Int) = 2 := by omega
    repeat (first | refine go ?_ | (refine goX ?_; intro))
    refine EL_call rfl (Spec.pre (back_spec hw hs) hsh) ?_
    intro _
    generalize (backS ws s) = g
    refine EL_nil ?_
    refine EK_at sp (StepC.open fun q => ?_)
    simp only [StepO, stepV]
    repeat (first | refine go ?_ | (refine goX ?_; intro))
    refine EK_ret (ER_1 rfl rfl () rfl (Ent.sat ?_))
    refine Ent.at p rfl (Ent.trans ?_ (StepC.shut (q := q)))
    repeat (first | exact Ent.last | refine Ent.cons ?_ | refine Ent.assoc ?_)
end Go.Proofs.YtdmmahhnfnefoaaDoor
