/-
  Package pool: Back.
-/
import Derived.Test.YtdmmahhnfnefoaaDoorPp7
import Derived.Test.YtdmmahhnfnefoaaDoorSj
namespace Go.Proofs.YtdmmahhnfnefoaaDoor
open Go.RowKit
set_option maxRecDepth 10000
variable {W : World} {F : SL} {X : Cx} {k : List KI} {σ : Env} {p sp : Option Addr} {n m : Nat} {ws : List Nat} {s : PStep}

section
variable {H : SL} {ops l : List Oper}
theorem run_callc {f : FuncId} [IsFn X.P f] {x : Operand} {args : Array Operand} {ats : Array TypeId} {vs us : List Value} {d : Option Nat} {ty : TypeId} {pos : String} {aft : Array Edge} {a : Act} {w : World} (ha : Fits X.N a σ) (hx : ev σ x = some (.func (.func f) #[] us.toArray)) (hargs : evs σ args.toList = some vs) :
    (execOp a.eval ⟨d, .call { callee := .value x, args := args, argTypes := ats }, ty, pos, aft, none⟩).run X.P w = .ok (.enter f (vs ++ us).toArray) w := by
  have e1 : args.map a.eval = vs.toArray := by
    have := ha.evals hargs
    rw [← this, ← List.map_toArray, Array.toArray_toList]
  simp only [execOp, resolve, e1, ha.eval hx, Deferred.ofValue, Sem.run_bind, Sem.run_pure, Result.andThen_ok, invoke, Array.empty_append, ← List.append_toArray]
  exact IsFn.runs _ _
theorem EL_callc {α : Type} {r : α → Value} {H' : α → SL} {f : FuncId} [IsFn X.P f] {x : Operand} {args : Array Operand} {ats : Array TypeId} {vs us : List Value} {d : Nat} {ty : TypeId} {pos : String} {aft : Array Edge}
    (hx : ev σ x = some (.func (.func f) #[] us.toArray)) (hargs : evs σ args.toList = some vs) (hc : Spec X.P f (vs ++ us) X.W H r H') (h : ∀ x, EL X k ops l ((d, r x) :: σ) (H' x)) (hd : Nat.blt d X.N = true := by rfl) :
    EL X k ops (⟨some d, .call { callee := .value x, args := args, argTypes := ats }, ty, pos, aft, none⟩ :: l) σ H := by
  intro a w ha hs
  refine wpList_plain rfl fun K hK => ?_
  unfold Oper.wp
  rw [run_callc ha hx hargs, Oper.upon_enter]
  refine (hc w hs).mono ?_
  rintro e w' ⟨x, rfl, hs'⟩
  exact hK _ _ (h x _ _ (ha.put hd _) hs')
end
attribute [local irreducible] EK EX ER EN EL ES EG OpVal OpDoes OpSkip
theorem Back1_spec (pz : Option Addr) (x : Nat × Nat) (z : Nat) (hz : z < 1000000) : Spec Tryd.prog 42 [.agg #[.int .i64 (x.1 : Int), .int .u64 (x.2 : Int)], .pointer pz] W (Obj pz 3 [.int .i64 (z : Int)] * F) (fun _ : Unit => .bool (decide (x.1 = z / 32))) (fun _ => Obj pz 3 [.int .i64 (z : Int)] * F) := by
  refine Spec.of Tryd.func42 rfl Tryd.ntmps42 rfl ?_
  repeat (first | refine go ?_ | (refine goX ?_; intro))
  refine EK_ret (ER_1 rfl rfl () ?_ (Ent.sat Ent.drop))
  show Value.bool _ = Value.bool _
  congr 1
  exact decide_eq_decide.2 (by omega)
theorem IndexFunc_spec (q pz : Option Addr) (n c : Nat) (l : List (Nat × Nat)) (z : Nat) (hl : l.length = n) (hn : n ≤ 1000000) (hz : z < 1000000) :
    Spec Tryd.prog 41 [.slice q n c, .func (.func 42) #[] #[.pointer pz]] W
      (RowC 81 2 q n c (partsR l) * (Obj pz 3 [.int .i64 (z : Int)] * F)) (fun _ : Unit => .int .i64 (idxOr (partAt l (z / 32))))
      (fun _ => RowC 81 2 q n c (partsR l) * (Obj pz 3 [.int .i64 (z : Int)] * F)) := by
  subst hl
  refine Spec.of Tryd.func41 rfl Tryd.ntmps41 rfl ?_
  repeat (first | refine go ?_ | (refine goX ?_; intro))
  refine EK_loop (γ := Nat) (fun i => i ≤ l.length ∧ ∀ j, j < i → (l.getD j (0, 0)).1 ≠ z / 32) (fun i => [(0, .slice q l.length c), (1, .func (.func 42) #[] #[.pointer pz]), (7, .int .i64 (l.length : Int)), (8, .int .i64 (i : Int))])
    (fun _ => RowC 81 2 q l.length c (partsR l) * (Obj pz 3 [.int .i64 (z : Int)] * F)) (fun i => l.length - i) 0 ⟨Nat.zero_le _, fun j hj => by omega⟩ ⟨rfl, rfl, rfl, rfl, trivial⟩ (Ent.sat (Ent.refl _)) ?_
  intro i ⟨hi, hno⟩
  by_cases hil : i < l.length
  · repeat (first | refine go ?_ | (refine goX ?_; intro))
    refine EL_callc rfl rfl (Spec.at1 pz (Back1_spec pz (l.getD i (0, 0)) z hz)) ?_
    intro _
    by_cases he : (l.getD i (0, 0)).1 = z / 32
    · rw [decide_eq_true he]
      repeat (first | refine go ?_ | (refine goX ?_; intro))
      refine EK_ret (ER_1 rfl rfl () ?_ (Ent.sat ?_))
      · rw [partAt_some hno hil he]; rfl
      · repeat (first | exact Ent.last | refine Ent.cons ?_ | refine Ent.assoc ?_)
    · rw [decide_eq_false he]
      repeat (first | refine go ?_ | (refine goX ?_; intro))
      refine EK_round (i + 1) ⟨by omega, fun j hj => ?_⟩ (by omega) ⟨rfl, rfl, rfl, rfl, trivial⟩ (Ent.sat ?_)
      · rcases Nat.lt_succ_iff_lt_or_eq.1 hj with h | rfl
        · exact hno j h
        · exact he
      · repeat (first | exact Ent.last | refine Ent.cons ?_ | refine Ent.assoc ?_)
  · repeat (first | refine go ?_ | (refine goX ?_; intro))
    refine EK_ret (ER_1 rfl rfl () ?_ (Ent.sat (Ent.refl _)))
    rw [partAt_none fun j hj => hno j (by omega)]; rfl
instance RowSet.part1 (l : List (Nat × Nat)) (i : Nat) (z : Int) : RowSet (partsR l) i 2 1 [.int .u64 z] ((partsR l).set (i * 2 + 1) (.int .u64 z)) (i < l.length) := ⟨fun h => by
  have hl := partsR_len l
  refine ⟨by simp; omega, ?_⟩
  rw [List.set_eq_take_append_cons_drop, if_pos (by omega)]
  simp⟩
theorem partsR_set (m : Nat) : ∀ (l : List (Nat × Nat)) (i : Nat), i < l.length → (partsR l).set (i * 2 + 1) (.int .u64 (m : Int)) = partsR (l.set i ((l.getD i (0, 0)).1, m))
  | [], i, h => by simp at h
  | x :: l, 0, _ => by simp [partsR, partC]
  | x :: l, i + 1, h => by
    have ih := partsR_set m l i (by simpa using h)
    have e : partsR (x :: l) = partC x ++ partsR l := by simp [partsR]
    rw [e, show (i + 1) * 2 + 1 = (i * 2 + 1) + (partC x).length by simp [partC]; omega, List.set_append_right _ _ (by omega), Nat.add_sub_cancel, ih]
    simp [partsR]
instance Ones.set (l : List Value) (i : Nat) (k : IntKind) (z : Int) [h : Ones l] : Ones (l.set i (.int k z)) := ⟨by
  have := h.ones
  simp only [Go.Proofs.YtdmmahhnfnefoaaDoor.ones, List.all_eq_true] at this ⊢
  intro v hv
  rcases List.mem_or_eq_of_mem_set hv with hv | rfl
  · exact this v hv
  · rfl⟩
abbrev BackO (g : Option Addr) (ps : List (Nat × Nat)) (q : Slab) (F : SL) : SL := Obj g 78 [.int .i64 2, .int .i64 0, .int .i64 0, .int .i64 0, .bool false, .int .u64 0, .slice none 0 0, .slice q.1 ps.length q.2, .slice none 0 0, .bool false, .bool false] * (RowC 81 2 q.1 ps.length q.2 (partsR ps) * F)
theorem Back_part (r : Option Addr) (nn cc : Nat) (l : List Int) (hl : nn ≤ l.length) (hn1 : nn ≤ 1000) (hn : n ≤ 1024) :
    Spec Tryd.prog 22 [.pointer p, .slice r nn cc] W (PoolC p n ws * (RowC 3 1 r l.length cc (intsR .i64 l) * F)) (fun g : Option Addr => .pointer g)
      (fun g => StepC g (backNew n (l.take nn)) * (PoolC p n ws * (RowC 3 1 r l.length cc (intsR .i64 l) * F))) := by
  refine Spec.of Tryd.func22 rfl Tryd.ntmps22 rfl ?_
  refine PoolC.open fun c => ?_
  simp only [PoolO]
  repeat (first | refine go ?_ | (refine goX ?_; intro))
  rename_i g
  refine EK_loop (γ := Nat × Slab) (fun y => y.1 ≤ nn) (fun y => [(0, .pointer p), (5, .pointer g), (14, .slice r nn cc), (15, .int .i64 (nn : Int)), (16, .int .i64 (y.1 : Int))])
    (fun y => BackO g (backParts n (l.take y.1)) y.2 (RowC 3 1 r l.length cc (intsR .i64 l) * PoolO p n ws c F)) (fun y => nn - y.1) (0, (none, 0)) (Nat.zero_le _) ⟨rfl, rfl, rfl, rfl, rfl, trivial⟩ (Ent.sat ?_) ?_
  · refine Ent.obj g rfl (Ent.none (Ent.row r rfl rfl ?_))
    repeat (first | exact Ent.last | refine Ent.cons ?_ | refine Ent.assoc ?_)
  intro ⟨i, q⟩ hi; dsimp only at hi ⊢
  simp only [BackO, stepV, PoolO]
  by_cases hil : i < nn
  · have hps := backParts_snoc n (l.take i) (l.getD i 0)
    have hil2 : i < l.length := by omega
    rw [take_snocD hil2] at hps
    have hpl := backParts_len n (l.take i)
    rw [List.length_take, Nat.min_eq_left (by omega)] at hpl
    have hpk := backParts_ok (n := n) (m := 32) (by omega) (l.take i) [] (by simp)
    rw [show List.foldl (backStep n) [] (l.take i) = backParts n (l.take i) from rfl] at hpk
    generalize backParts n (l.take i) = ps at *
    repeat (first | refine go ?_ | (refine goX ?_; intro))
    rename_i pz
    generalize l.getD i 0 = z at *
    by_cases hz : 0 ≤ z ∧ z < n
    · have hzn : backStep n ps z = addPart ps z.toNat := if_pos hz
      have hz1 : ¬ z < 0 := by omega
      have hz2 : ¬ z ≥ n := by omega
      have hz3 : ¬ (n : Int) ≤ z := by omega
      refine EK_sink 99 (Obj pz 3 [.int .i64 z] * (Obj p 66 [.pointer c, .int .i64 (n : Int)] * 1)) rfl rfl rfl ?_
      repeat (first | refine goQ ?_ | refine EG_done (by decide +kernel) ?_)
      obtain ⟨z, rfl⟩ := Int.eq_ofNat_of_zero_le hz.1
      have hzz : z < 1024 := by omega
      have hsh : IntKind.u64.wrap (1 * 2 ^ ((z : Int) % 32).toNat) = ((2 ^ (z % 32) : Nat) : Int) := by
        rw [show ((z : Int) % 32).toNat = z % 32 by omega, Int.one_mul]
        exact wrap_pow (Nat.mod_lt _ (by decide))
      repeat (first | refine go ?_ | (refine goX ?_; intro))
      rw [hsh]
      refine EL_call rfl (Spec.at2 q.1 pz (IndexFunc_spec q.1 pz ps.length q.2 ps z rfl (by omega) (by omega))) ?_
      intro _
      unfold addPart at hzn
      cases hpa : partAt ps (z / 32) with
      | none =>
        rw [show ((z : Int).toNat) = z from rfl, hpa] at hzn
        dsimp only at hzn
        simp only [idxOr]
        repeat (first | refine go ?_ | (refine goX ?_; intro))
        refine EK_sink 13 (Obj pz 3 [.int .i64 (z : Int)] * (Obj g 78 [.int .i64 2, .int .i64 0, .int .i64 0, .int .i64 0, .bool false, .int .u64 0, .slice none 0 0, .slice q.1 ps.length q.2, .slice none 0 0, .bool false, .bool false] * 1)) rfl rfl rfl ?_
        repeat (first | refine goG ?_ | (refine goGX ?_; intro) | refine goGL ?_ | refine goGS ?_ | refine goGV ?_ | refine EG_done (by decide +kernel) ?_)
        repeat (first | refine go ?_ | (refine goX ?_; intro))
        rename_i y o
        refine EK_round (i + 1, o) (by dsimp only; omega) (by dsimp only; omega) ⟨rfl, rfl, rfl, rfl, rfl, trivial⟩ (Ent.sat ?_)
        dsimp only
        rw [hps, hzn]
        rw [len_snoc, ← partsR_snoc ps (z / 32, 2 ^ (z % 32))]
        refine Ent.obj g rfl (Ent.row o.1 rfl rfl (Ent.trans Ent.drop (Ent.refl _)))
      | some j =>
        rw [show ((z : Int).toNat) = z from rfl, hpa] at hzn
        dsimp only at hzn
        have hj := partAt_lt hpa
        haveI : Pos ps.length := ⟨by omega⟩
        simp only [idxOr]
        repeat (first | refine go ?_ | (refine goX ?_; intro))
        have hv : bits .or .u64 ((ps.getD j (0, 0)).2 : Int) ((2 ^ (z % 32) : Nat) : Int) = (((ps.getD j (0, 0)).2 ||| 2 ^ (z % 32) : Nat) : Int) := by
          have h1 := pow_lt_32 z
          have h2 := hpk (ps.getD j (0, 0)) (by rw [List.getD_eq_getElem?_getD, List.getElem?_eq_getElem hj]; exact List.getElem_mem hj)
          exact u64_or_nat _ _ (by omega) (by omega)
        rw [hv, partsR_set _ _ _ hj]
        refine EK_round (i + 1, q) (by dsimp only; omega) (by dsimp only; omega) ⟨rfl, rfl, rfl, rfl, rfl, trivial⟩ (Ent.sat ?_)
        dsimp only
        rw [hps, hzn]
        rw [List.length_set]
        refine Ent.obj g rfl (Ent.row q.1 rfl rfl (Ent.trans Ent.drop (Ent.refl _)))
    · have hzn : backStep n ps z = ps := if_neg hz
      refine EK_sink 99 (Obj pz 3 [.int .i64 z] * (Obj p 66 [.pointer c, .int .i64 (n : Int)] * 1)) rfl rfl rfl ?_
      have hfin : ∀ {H : SL} (_ : Ent H (BackO g ps q (RowC 3 1 r l.length cc (intsR .i64 l) * PoolO p n ws c F))), Ent H (BackO g (backParts n (l.take (i + 1))) q (RowC 3 1 r l.length cc (intsR .i64 l) * PoolO p n ws c F)) := fun h => by
        rw [hps, hzn]; exact h
      by_cases hz1 : z < 0
      · repeat (first | refine goQ ?_ | refine EG_done (by decide +kernel) ?_)
        repeat (first | refine go ?_ | (refine goX ?_; intro))
        refine EK_round (i + 1, q) (by dsimp only; omega) (by dsimp only; omega) ⟨rfl, rfl, rfl, rfl, rfl, trivial⟩ (Ent.sat (hfin (Ent.trans Ent.drop ?_)))
        repeat (first | exact Ent.last | refine Ent.cons ?_ | refine Ent.assoc ?_)
      · have hz2 : (n : Int) ≤ z := by omega
        repeat (first | refine goQ ?_ | refine EG_done (by decide +kernel) ?_)
        repeat (first | refine go ?_ | (refine goX ?_; intro))
        refine EK_round (i + 1, q) (by dsimp only; omega) (by dsimp only; omega) ⟨rfl, rfl, rfl, rfl, rfl, trivial⟩ (Ent.sat (hfin (Ent.trans Ent.drop ?_)))
        repeat (first | exact Ent.last | refine Ent.cons ?_ | refine Ent.assoc ?_)
  · have hii : i = nn := by omega
    repeat (first | refine go ?_ | (refine goX ?_; intro))
    rw [hii]
    refine EK_ret (ER_1 rfl rfl g rfl (Ent.sat (Ent.trans ?_ (StepC.shut (q := ((none, 0), q, (none, 0)))))))
    refine Ent.obj g rfl (Ent.none (Ent.row q.1 rfl rfl (Ent.none (Ent.trans ?_ (PoolC.shut (c := c))))))
    refine Ent.at p rfl (Ent.at c rfl ?_)
    repeat (first | exact Ent.last | refine Ent.cons ?_ | refine Ent.assoc ?_)
theorem Back_spec (r : Option Addr) (nn cc : Nat) (l : List Int) (hl : l.length = nn) (hn1 : nn ≤ 1000) (hn : n ≤ 1024) :
    Spec Tryd.prog 22 [.pointer p, .slice r nn cc] W (PoolC p n ws * (RowC 3 1 r nn cc (intsR .i64 l) * F)) (fun g : Option Addr => .pointer g)
      (fun g => StepC g (backNew n l) * (PoolC p n ws * (RowC 3 1 r nn cc (intsR .i64 l) * F))) := by
  subst hl
  have := Back_part (W := W) (F := F) (p := p) (n := n) (ws := ws) r l.length cc l (Nat.le_refl _) hn1 hn
  rw [List.take_length] at this
  exact this
end Go.Proofs.YtdmmahhnfnefoaaDoor
