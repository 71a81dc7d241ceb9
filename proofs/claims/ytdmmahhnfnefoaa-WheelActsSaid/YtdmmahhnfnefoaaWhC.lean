/-
  slices.Clone of entries; entries.
-/
import Derived.Test.YtdmmahhnfnefoaaWh8
import Derived.Test.YtdmmahhnfnefoaaSn
import Derived.Test.YtdmmahhnfnefoaaSg
import Derived.Test.YtdmmahhnfnefoaaSh
namespace Go.Proofs.Ytdmmahhnfnefoaa
open Go.RowKit
set_option maxRecDepth 10000
attribute [local irreducible] EK EX ER EN EL ES EG OpVal OpDoes OpSkip
variable {W : World} {F : SL} {X : Cx} {k : List KI} {σ : Env}

theorem Clone_spec (p : Option Addr) (n c : Nat) (l : List Wen) (hl : l.length = n) (hn : n ≤ 1000) :
    Spec Try.prog 68 [.slice p n c] W (RowC 97 3 p n c (entsR l) * F) (fun q : Slab => .slice q.1 n q.2)
      (fun q => RowC 97 3 q.1 n q.2 (entsR l) * (RowC 97 3 p n c (entsR l) * F)) := by
  subst hl
  refine Spec.of Try.func68 rfl Try.ntmps68 rfl ?_
  repeat (first | refine go ?_ | (refine goX ?_; intro))
  refine EL_val (OpVal_sliceNil rfl rfl) rfl ?_
  repeat (first | refine go ?_ | (refine goX ?_; intro))
  refine EK_cond_dec rfl (fun hp => ?_) (fun hp => ?_)
  · subst hp
    refine EK_nilrow fun h0 => ?_
    obtain rfl := List.eq_nil_of_length_eq_zero h0
    repeat (first | refine go ?_ | (refine goX ?_; intro))
    exact EK_ret (ER_1 rfl rfl ((none, 0) : Slab) rfl (Ent.sat (Ent.none (Ent.refl _))))
  · repeat (first | refine go ?_ | (refine goX ?_; intro))
    rename_i q0 q
    refine EK_ret (ER_1 rfl rfl q ?_ (Ent.sat (Ent.row q.1 ?_ ?_ ?_)))
    · simp
    · simp
    · simp
    · repeat (first | exact Ent.last | refine Ent.cons ?_ | refine Ent.assoc ?_)
/-- The slots of a level, as one value. -/
def slab (q : Nat → Slab) (sl : Nat → List Wen) (l : Nat) : List Value := (List.range 64).map fun j => .slice (q (l * 64 + j)).1 (sl (l * 64 + j)).length (q (l * 64 + j)).2
instance RowGet.slab (q : Nat → Slab) (sl : Nat → List Wen) (l j : Nat) : RowGet (slab q sl l) j 1 0 (.slice (q (l * 64 + j)).1 (sl (l * 64 + j)).length (q (l * 64 + j)).2) (j < 64) := ⟨fun h => by
  simp [Go.Proofs.Ytdmmahhnfnefoaa.slab, h]⟩
theorem slc_some : ∀ (cs : List Value) (i n : Nat), i + n ≤ cs.length → slc cs i n = some ((cs.drop i).take n)
  | cs, 0, 0, _ => by cases cs <;> simp [slc]
  | [], 0, n + 1, h => by simp at h
  | c :: cs, 0, n + 1, h => by
    have := slc_some cs 0 n (by simpa using h)
    simp [slc, this]
  | [], i + 1, n, h => by simp at h
  | c :: cs, i + 1, n, h => by
    have := slc_some cs i n (by simp only [List.length_cons] at h; omega)
    cases n <;> simp [slc, this]
theorem slab_slc (a b c d : Value) (q : Nat → Slab) (sl : Nat → List Wen) (l : Nat) (hl : l < 6) : slc (a :: b :: c :: d :: slV q sl) (0 + 4 + l * 64) 64 = some (slab q sl l) := by
  rw [slc_some _ _ _ (by simp only [List.length_cons, slV_len]; omega)]
  congr 1
  rw [show 0 + 4 + l * 64 = l * 64 + 1 + 1 + 1 + 1 by omega]
  simp only [List.drop_succ_cons]
  apply List.ext_getElem?
  intro j
  rw [List.getElem?_take]
  split
  · rename_i hj
    rw [List.getElem?_drop, slV_get _ _ (by omega)]
    simp [slab, hj]
  · rw [List.getElem?_eq_none (by simp [slab]; omega)]
def accE (s : WSt) (n : Nat) : List Wen := s.ready ++ (List.range n).flatMap s.sl
theorem accE_zero (s : WSt) : accE s 0 = s.ready := by simp [accE]
theorem accE_succ (s : WSt) (n : Nat) : accE s (n + 1) = accE s n ++ s.sl n := by
  unfold accE
  rw [List.range_succ, List.flatMap_append]
  simp
theorem accE_le (s : WSt) : ∀ n m, n ≤ m → (accE s n).length ≤ (accE s m).length := by
  intro n m h
  induction m with
  | zero =>
    obtain rfl : n = 0 := by omega
    exact Nat.le_refl _
  | succ m ih =>
    rcases Nat.lt_or_ge m n with g | g
    · obtain rfl : n = m + 1 := by omega
      exact Nat.le_refl _
    · rw [accE_succ, List.length_append]
      have := ih g
      omega
theorem accE_all (s : WSt) : accE s 384 = s.all := rfl
theorem entries_spec (p : Option Addr) (s : WSt) (hn : s.all.length ≤ 300) :
    Spec Try.prog 43 [.pointer p] W (WheelC p s * F) (fun q : Slab => .slice q.1 s.all.length q.2)
      (fun q => RowC 97 3 q.1 s.all.length q.2 (entsR s.all) * (WheelC p s * F)) := by
  refine Spec.of Try.func43 rfl Try.ntmps43 rfl ?_
  refine WheelC.open fun r q => ?_
  simp only [WheelO, whV]
  repeat (first | refine go ?_ | (refine goX ?_; intro))
  have hrl := ready_len s
  refine EL_call rfl (Spec.pre (Clone_spec r.1 s.ready.length r.2 s.ready rfl (by omega) (F := Obj p 94 (.int .i64 s.now :: .int .i64 s.turn :: .int .i64 (s.all.length : Int) :: .slice r.1 s.ready.length r.2 :: slV q s.sl) * (rowsS q s.sl * F))) (by repeat (first | exact Ent.last | refine Ent.cons ?_ | refine Ent.assoc ?_))) ?_
  intro q2
  repeat (first | refine go ?_ | (refine goX ?_; intro))
  refine EK_loop (γ := Nat × Slab) (fun g => g.1 ≤ 6) (fun g => [(0, .pointer p), (3, .slice g.2.1 (accE s (g.1 * 64)).length g.2.2), (12, .int .i64 (g.1 : Int))])
    (fun g => RowC 97 3 g.2.1 (accE s (g.1 * 64)).length g.2.2 (entsR (accE s (g.1 * 64))) * (RowC 97 3 r.1 s.ready.length r.2 (entsR s.ready) * (Obj p 94 (.int .i64 s.now :: .int .i64 s.turn :: .int .i64 (s.all.length : Int) :: .slice r.1 s.ready.length r.2 :: slV q s.sl) * (rowsS q s.sl * F))))
    (fun g => 6 - g.1) (0, q2) (Nat.zero_le _) ⟨rfl, by rw [Nat.zero_mul, accE_zero]; rfl, rfl, trivial⟩ (Ent.sat (by rw [Nat.zero_mul, accE_zero]; exact Ent.refl _)) ?_
  intro ⟨l, o⟩ hl; dsimp only at hl ⊢
  repeat (first | refine go ?_ | (refine goX ?_; intro))
  refine EK_cond_dec rfl (fun hlt => ?_) (fun hge => ?_)
  · repeat (first | refine go ?_ | (refine goX ?_; intro))
    refine EL_val (OpVal_loadAgg rfl rfl (slab_slc _ _ _ _ q s.sl l (by omega))) rfl ?_
    repeat (first | refine go ?_ | (refine goX ?_; intro))
    refine EK_exits (γ := Slab) (fun _ => True) (fun g => [(0, .pointer p), (3, .slice g.1 (accE s ((l + 1) * 64)).length g.2), (12, .int .i64 (l : Int))])
      (fun g => RowC 97 3 g.1 (accE s ((l + 1) * 64)).length g.2 (entsR (accE s ((l + 1) * 64))) * (RowC 97 3 r.1 s.ready.length r.2 (entsR s.ready) * (Obj p 94 (.int .i64 s.now :: .int .i64 s.turn :: .int .i64 (s.all.length : Int) :: .slice r.1 s.ready.length r.2 :: slV q s.sl) * (rowsS q s.sl * F)))) ?_ ?_
    · refine EK_loop (γ := Nat × Slab) (fun g => g.1 ≤ 64) (fun g => [(0, .pointer p), (3, .slice g.2.1 (accE s (l * 64 + g.1)).length g.2.2), (12, .int .i64 (l : Int)), (20, .agg (slab q s.sl l).toArray), (21, .int .i64 (g.1 : Int))])
        (fun g => RowC 97 3 g.2.1 (accE s (l * 64 + g.1)).length g.2.2 (entsR (accE s (l * 64 + g.1))) * (RowC 97 3 r.1 s.ready.length r.2 (entsR s.ready) * (Obj p 94 (.int .i64 s.now :: .int .i64 s.turn :: .int .i64 (s.all.length : Int) :: .slice r.1 s.ready.length r.2 :: slV q s.sl) * (rowsS q s.sl * F))))
        (fun g => 64 - g.1) (0, o) (Nat.zero_le _) ⟨rfl, rfl, rfl, rfl, rfl, trivial⟩ (Ent.sat (Ent.refl _)) ?_
      intro ⟨j, o⟩ hj; dsimp only at hj ⊢
      repeat (first | refine go ?_ | (refine goX ?_; intro))
      refine EK_cond_dec rfl (fun hlt2 => ?_) (fun hge2 => ?_)
      · have hk : l * 64 + j < 384 := by omega
        have e1 := accE_succ s (l * 64 + j)
        have e2 := accE_le s (l * 64 + j + 1) 384 (by omega)
        rw [accE_all] at e2
        have e3 := congrArg List.length e1
        rw [List.length_append] at e3
        rw [rowsS_at q s.sl hk, SL.sep_assoc]
        repeat (first | refine go ?_ | (refine goX ?_; intro))
        rename_i o2
        refine EK_round (j + 1, o2) (by dsimp only; omega) (by dsimp only; omega) ⟨rfl, ?_, rfl, rfl, rfl, trivial⟩ (Ent.sat ?_)
        · dsimp only
          rw [show l * 64 + (j + 1) = l * 64 + j + 1 by omega, e3]; rfl
        · dsimp only
          rw [show l * 64 + (j + 1) = l * 64 + j + 1 by omega]
          refine Ent.row o2.1 (by rw [e3]) (by rw [entsR_app, e1]) ?_
          repeat (first | exact Ent.last | refine Ent.cons ?_ | refine Ent.assoc ?_)
      · have ej : j = 64 := by omega
        subst ej
        repeat (first | refine go ?_ | (refine goX ?_; intro))
        exact EK_meet o trivial ⟨rfl, by rw [Nat.succ_mul]; rfl, rfl, trivial⟩ (Ent.sat (by rw [Nat.succ_mul]; exact Ent.refl _))
    intro o _
    repeat (first | refine go ?_ | (refine goX ?_; intro))
    exact EK_round (l + 1, o) (by dsimp only; omega) (by dsimp only; omega) ⟨rfl, rfl, rfl, trivial⟩ (Ent.sat (Ent.refl _))
  · have el : l = 6 := by omega
    subst el
    repeat (first | refine go ?_ | (refine goX ?_; intro))
    refine EK_ret (ER_1 rfl rfl o (by rw [show 6 * 64 = 384 from rfl, accE_all]) (Ent.sat ?_))
    rw [show 6 * 64 = 384 from rfl, accE_all]
    refine Ent.cons (Ent.trans ?_ (WheelC.shut (s := s) (r := r) (q := q) rfl))
    repeat (first | exact Ent.last | refine Ent.cons ?_ | refine Ent.assoc ?_)
end Go.Proofs.Ytdmmahhnfnefoaa
