/-
  Package pool: Left.
-/
import Derived.Test.YtdmmahhnfnefoaaDoorPp5
import Derived.Test.YtdmmahhnfnefoaaDoorPpS
namespace Go.Proofs.YtdmmahhnfnefoaaDoor
open Go.RowKit
set_option maxRecDepth 10000
attribute [local irreducible] EK EX ER EN EL ES EG OpVal OpDoes OpSkip
variable {W : World} {F : SL} {X : Cx} {k : List KI} {σ : Env} {p sp : Option Addr} {n m : Nat} {ws : List Nat} {s : PStep}

theorem len_snoc {α : Type} (l : List α) (a : α) : (l ++ [a]).length = l.length + 1 := by simp
/-- The bits of a part below c, as numbers. -/
def partN (x : Nat × Nat) (c : Nat) : List Nat := ((List.range c).filter fun i => x.2.testBit i).map (x.1 * 32 + ·)
def leftN (l : List (Nat × Nat)) : List Nat := l.flatMap fun x => partN x 32
theorem partN_succ (x : Nat × Nat) (c : Nat) : partN x (c + 1) = partN x c ++ if x.2.testBit c then [x.1 * 32 + c] else [] := by
  unfold partN
  rw [List.range_succ, List.filter_append, List.map_append]
  congr 1
  by_cases h : x.2.testBit c <;> simp [h]
theorem partN_len (x : Nat × Nat) (c : Nat) : (partN x c).length ≤ c := by
  have := List.length_filter_le (fun i => x.2.testBit i) (List.range c)
  simpa [partN] using this
theorem leftN_snoc (l : List (Nat × Nat)) {i : Nat} (h : i < l.length) : leftN (l.take (i + 1)) = leftN (l.take i) ++ partN (l.getD i (0, 0)) 32 := by
  have := take_snocD (l := l) (d := (0, 0)) h
  rw [← this]
  simp [leftN]
theorem leftN_len (l : List (Nat × Nat)) : (leftN l).length ≤ l.length * 32 := by
  induction l with
  | nil => simp [leftN]
  | cons x l ih =>
    have := partN_len x 32
    simp only [leftN, List.flatMap_cons, List.length_append, List.length_cons] at ih ⊢
    omega
def leftI (l : List (Nat × Nat)) : List Int := srtI ((leftN l).map fun (i : Nat) => (i : Int))
theorem leftI_len (l : List (Nat × Nat)) : (leftI l).length = (leftN l).length := by simp [leftI, srtI_len]
theorem natsI (l : List Nat) (k : IntKind) : natsR k l = intsR k (l.map fun (i : Nat) => (i : Int)) := by simp [natsR, intsR]
theorem Left_nil : Spec Tryd.prog 23 [.pointer none] W F (fun _ : Unit => .slice none 0 0) (fun _ => F) := by
  refine Spec.of Tryd.func23 rfl Tryd.ntmps23 rfl ?_
  repeat (first | refine go ?_ | (refine goX ?_; intro))
  exact EK_ret (ER_1 rfl rfl () rfl (Ent.sat Ent.last))
theorem Left_spec (hp : s.parts.length ≤ 1000) (hm : ∀ x ∈ s.parts, x.1 < 1000000 ∧ x.2 < 18446744073709551616) : Spec Tryd.prog 23 [.pointer sp] W (StepC sp s * F) (fun g : Slab => .slice g.1 (leftI s.parts).length g.2) (fun g => RowC 3 1 g.1 (leftI s.parts).length g.2 (intsR .i64 (leftI s.parts)) * (StepC sp s * F)) := by
  refine Spec.of Tryd.func23 rfl Tryd.ntmps23 rfl ?_
  refine StepC.open fun q => ?_
  simp only [StepO, stepV]
  repeat (first | refine go ?_ | (refine goX ?_; intro))
  refine EK_loop (γ := Nat × Slab) (fun g => g.1 ≤ s.parts.length) (fun g => [(3, .slice g.2.1 (leftN (s.parts.take g.1)).length g.2.2), (12, .slice q.2.1.1 s.parts.length q.2.1.2), (13, .int .i64 (s.parts.length : Int)), (14, .int .i64 (g.1 : Int))])
    (fun g => RowC 3 1 g.2.1 (leftN (s.parts.take g.1)).length g.2.2 (natsR .i64 (leftN (s.parts.take g.1))) * StepO sp s q F) (fun g => s.parts.length - g.1) (0, (none, 0)) (Nat.zero_le _) ⟨rfl, rfl, rfl, rfl, trivial⟩ (Ent.sat (Ent.none ?_)) ?_
  · refine Ent.obj sp rfl ?_
    repeat (first | exact Ent.last | refine Ent.cons ?_ | refine Ent.assoc ?_)
  · intro ⟨i, o⟩ hi; dsimp only at hi ⊢
    simp only [StepO, stepV]
    by_cases hil : i < s.parts.length
    · have hll := leftN_len (s.parts.take i)
      rw [List.length_take, Nat.min_eq_left hi] at hll
      have hmm : s.parts.getD i (0, 0) ∈ s.parts := by
        rw [List.getD_eq_getElem?_getD, List.getElem?_eq_getElem hil]
        exact List.getElem_mem hil
      obtain ⟨hx1, hx2⟩ := hm _ hmm
      have hsn := leftN_snoc s.parts hil
      repeat (first | refine go ?_ | (refine goX ?_; intro))
      rename_i px
      generalize s.parts.getD i (0, 0) = x at *
      generalize leftN (s.parts.take i) = L at *
      refine EK_loop (γ := Nat × Slab) (fun g => g.1 ≤ 32) (fun g => [(3, .slice g.2.1 (L ++ partN x g.1).length g.2.2), (12, .slice q.2.1.1 s.parts.length q.2.1.2), (13, .int .i64 (s.parts.length : Int)), (14, .int .i64 (i : Int)), (5, .pointer px), (18, .int .i64 (g.1 : Int))])
        (fun g => RowC 3 1 g.2.1 (L ++ partN x g.1).length g.2.2 (natsR .i64 (L ++ partN x g.1)) * (Obj px 81 [.int .i64 (x.1 : Int), .int .u64 (x.2 : Int)] * StepO sp s q F)) (fun g => 32 - g.1) (0, o) (Nat.zero_le _) ⟨by simp [partN]; rfl, rfl, rfl, rfl, rfl, rfl, trivial⟩ (Ent.sat (Ent.row o.1 (by simp [partN]) (by simp [partN]) ?_)) ?_
      · refine Ent.obj px rfl (Ent.obj sp rfl ?_)
        repeat (first | exact Ent.last | refine Ent.cons ?_ | refine Ent.assoc ?_)
      · intro ⟨b, o2⟩ hb; dsimp only at hb ⊢
        simp only [StepO, stepV]
        by_cases hbl : b < 32
        · have hk := shr_bit (u := x.2) (i := b) hx2
          have hf := partN_succ x b
          have hfl := partN_len x b
          have hb2 : ((b : Nat) : Int).toNat < 64 := by omega
          have hlen : (L ++ partN x b).length ≤ 1000000 := by simp; omega
          cases ht : x.2.testBit b with
          | true =>
            rw [ht, if_pos rfl] at hk
            rw [ht, if_pos rfl] at hf
            repeat (first | refine go ?_ | (refine goX ?_; intro))
            rename_i y o3
            have hf' : L ++ partN x (b + 1) = (L ++ partN x b) ++ [x.1 * 32 + b] := by rw [hf]; simp
            refine EK_round (b + 1, o3) (by dsimp only; omega) (by dsimp only; omega) ⟨?_, rfl, rfl, rfl, rfl, rfl, trivial⟩ (Ent.sat ?_)
            · show _ = some (Value.slice o3.1 (L ++ partN x (b + 1)).length o3.2)
              rw [hf', len_snoc]; rfl
            · show Ent _ (RowC _ 1 o3.1 (L ++ partN x (b + 1)).length o3.2 (natsR _ (L ++ partN x (b + 1))) * _)
              rw [hf']
              refine Ent.row o3.1 (by rw [len_snoc]) (by simp [natsR]) (Ent.refl _)
          | false =>
            rw [ht, if_neg (by decide)] at hk
            rw [ht, if_neg (by decide), List.append_nil] at hf
            repeat (first | refine go ?_ | (refine goX ?_; intro))
            refine EK_round (b + 1, o2) (by dsimp only; omega) (by dsimp only; omega) ⟨?_, rfl, rfl, rfl, rfl, rfl, trivial⟩ (Ent.sat ?_)
            · show _ = some (Value.slice o2.1 (L ++ partN x (b + 1)).length o2.2)
              rw [hf]; rfl
            · show Ent _ (RowC _ 1 o2.1 (L ++ partN x (b + 1)).length o2.2 (natsR _ (L ++ partN x (b + 1))) * _)
              rw [hf]
              exact Ent.refl _
        · have hbb : b = 32 := by omega
          repeat (first | refine go ?_ | (refine goX ?_; intro))
          refine EK_round (i + 1, o2) (by dsimp only; omega) (by dsimp only; omega) ⟨?_, rfl, rfl, rfl, trivial⟩ (Ent.sat ?_)
          · show _ = some (Value.slice o2.1 (leftN (s.parts.take (i + 1))).length o2.2)
            rw [hsn, ← hbb]; rfl
          · dsimp only
            rw [hsn, ← hbb]
            refine Ent.row o2.1 rfl rfl (Ent.trans Ent.drop ?_)
            exact Ent.refl _
    · have hii : i = s.parts.length := by omega
      repeat (first | refine go ?_ | (refine goX ?_; intro))
      rw [hii, List.take_length, natsI]
      refine EL_call rfl (Sort_spec o.1 (leftN s.parts).length o.2 _ (by simp) (by have := leftN_len s.parts; omega)) ?_
      intro _
      repeat (first | refine go ?_ | (refine goX ?_; intro))
      refine EK_ret (ER_1 rfl rfl o (by rw [leftI_len]) (Ent.sat (Ent.row o.1 (by rw [leftI_len]) rfl (Ent.trans ?_ (StepC.shut (q := q))))))
      exact Ent.refl _
end Go.Proofs.YtdmmahhnfnefoaaDoor
