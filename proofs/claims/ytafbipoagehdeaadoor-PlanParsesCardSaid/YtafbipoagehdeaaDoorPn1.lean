/-
  Package plan: number.
-/
import Derived.Test.YtafbipoagehdeaaDoorPn0
namespace Go.Proofs.YtafbipoagehdeaaDoor
open Go.RowKit
set_option maxRecDepth 10000
attribute [local irreducible] EK EX ER EN EL ES OpVal OpDoes OpSkip
variable {W : World} {F : SL} {X : Cx} {k : List KI} {σ : Env}

theorem u8_48 {c : UInt8} (h : ((c.toNat : Nat) : Int) = 48) : c = 48 := UInt8.toNat_inj.1 (show c.toNat = 48 by omega)
theorem getD_mem {l : List UInt8} {k : Nat} (h : k < l.length) : l.getD k 0 ∈ l := by
  rw [List.getD_eq_getElem?_getD, List.getElem?_eq_getElem h]
  simp
theorem number_spec (l : List UInt8) (m : Nat) (hm : m ≤ 9) :
    Spec Tryd.prog 38 [str l, .int .i64 (m : Int)] W F (fun _ : Unit => numV (numT m l)) (fun _ => F) := by
  refine Spec.of Tryd.func38 rfl Tryd.ntmps38 rfl ?_
  repeat (first | refine go ?_ | (refine goX ?_; intro))
  refine EL_guard_dec rfl rfl (fun h1 => ?_) (fun h1 => ?_)
  · repeat (first | refine go ?_ | (refine goX ?_; intro))
    exact EK_ret (ER_2 rfl rfl rfl () (numT_none (by unfold numBad; first | exact .inl (by assumption) | exact .inr (.inl (by omega)) | exact .inr (.inr (.inl (by assumption))) | exact .inr (.inr (.inr (by assumption))))) (Ent.sat Ent.last))
  repeat (first | refine go ?_ | (refine goX ?_; intro))
  refine EL_guard_dec rfl rfl (fun h2 => ?_) (fun h2 => ?_)
  · repeat (first | refine go ?_ | (refine goX ?_; intro))
    exact EK_ret (ER_2 rfl rfl rfl () (numT_none (by unfold numBad; first | exact .inl (by assumption) | exact .inr (.inl (by omega)) | exact .inr (.inr (.inl (by assumption))) | exact .inr (.inr (.inr (by assumption))))) (Ent.sat Ent.last))
  repeat (first | refine go ?_ | (refine goX ?_; intro))
  refine EL_guard_dec rfl rfl (fun h3 => ?_) (fun h3 => ?_)
  rotate_left
  · have hz : ¬ (1 < l.length ∧ l.getD 0 0 = 48) := fun ⟨g, _⟩ => h3 (by omega)
    repeat (first | refine go ?_ | (refine goX ?_; intro))
    rename_i q
    refine EK_loop (γ := Nat) (fun k => k ≤ l.length ∧ ∀ i, i < k → isD (l.getD i 0)) (fun k => [(6, .int .i64 ((digsN (l.take k) : Nat) : Int)), (28, .slice q.1 l.length q.2), (29, .int .i64 (l.length : Int)), (30, .int .i64 (k : Int))])
      (fun _ => RowF 5 1 q.1 l.length q.2 (bytesR l) * F) (fun k => l.length - k) 0 ⟨Nat.zero_le _, fun i hi => by omega⟩ ⟨rfl, rfl, rfl, rfl, trivial⟩ (Ent.sat (Ent.refl _)) ?_
    intro k ⟨hk, hd⟩; dsimp only at hk hd ⊢
    have hsm : digsN (l.take k) < 1000000000 := digs_small (by omega) hk hd
    repeat (first | refine go ?_ | (refine goX ?_; intro))
    refine EK_cond_dec rfl (fun hlt => ?_) (fun hge => ?_)
    · repeat (first | refine go ?_ | (refine goX ?_; intro))
      have hbad : ¬ isD (l.getD k 0) → ¬ (∀ c ∈ l, isD c) := fun g f => g (f _ (getD_mem (by omega)))
      refine EL_guard_dec rfl rfl (fun h5 => ?_) (fun h5 => ?_)
      · repeat (first | refine go ?_ | (refine goX ?_; intro))
        have hb := hbad (by unfold isD; omega)
        exact EK_ret (ER_2 rfl rfl rfl () (numT_none (by unfold numBad; first | exact .inl (by assumption) | exact .inr (.inl (by omega)) | exact .inr (.inr (.inl (by assumption))) | exact .inr (.inr (.inr (by assumption))))) (Ent.sat Ent.last))
      repeat (first | refine go ?_ | (refine goX ?_; intro))
      refine EK_cond_dec rfl (fun h6 => ?_) (fun h6 => ?_)
      · repeat (first | refine go ?_ | (refine goX ?_; intro))
        have hb := hbad (by unfold isD; omega)
        exact EK_ret (ER_2 rfl rfl rfl () (numT_none (by unfold numBad; first | exact .inl (by assumption) | exact .inr (.inl (by omega)) | exact .inr (.inr (.inl (by assumption))) | exact .inr (.inr (.inr (by assumption))))) (Ent.sat Ent.last))
      have hdk : isD (l.getD k 0) := by unfold isD; omega
      repeat (first | refine go ?_ | (refine goX ?_; intro))
      refine EK_round (k + 1) ⟨by omega, fun i hi => ?_⟩ (by omega) ⟨by rw [← take_digs (by omega) hdk]; rfl, rfl, rfl, rfl, trivial⟩ (Ent.sat (Ent.refl _))
      rcases Nat.lt_or_ge i k with g | g
      · exact hd i g
      · have : i = k := by omega
        subst this
        exact hdk
    · have e : k = l.length := by omega
      subst e
      have hall : ∀ c ∈ l, isD c := by
        have := all_take (Nat.le_refl _) hd
        rwa [List.take_length] at this
      rw [List.take_length]
      repeat (first | refine go ?_ | (refine goX ?_; intro))
      exact EK_ret (ER_2 rfl rfl rfl () (numT_some (by
        unfold numBad
        rintro (h | h | h | h)
        · exact h1 h
        · omega
        · exact hz h
        · exact h hall)) (Ent.sat Ent.last))
  · repeat (first | refine go ?_ | (refine goX ?_; intro))
    refine EK_cond_dec rfl (fun h4 => ?_) (fun h4 => ?_)
    · repeat (first | refine go ?_ | (refine goX ?_; intro))
      have hz : 1 < l.length ∧ l.getD 0 0 = 48 := ⟨by omega, u8_48 h4⟩
      exact EK_ret (ER_2 rfl rfl rfl () (numT_none (by unfold numBad; first | exact .inl (by assumption) | exact .inr (.inl (by omega)) | exact .inr (.inr (.inl (by assumption))) | exact .inr (.inr (.inr (by assumption))))) (Ent.sat Ent.last))
    have hz : ¬ (1 < l.length ∧ l.getD 0 0 = 48) := fun ⟨_, g⟩ => h4 (by rw [g]; rfl)
    repeat (first | refine go ?_ | (refine goX ?_; intro))
    rename_i q
    refine EK_loop (γ := Nat) (fun k => k ≤ l.length ∧ ∀ i, i < k → isD (l.getD i 0)) (fun k => [(6, .int .i64 ((digsN (l.take k) : Nat) : Int)), (28, .slice q.1 l.length q.2), (29, .int .i64 (l.length : Int)), (30, .int .i64 (k : Int))])
      (fun _ => RowF 5 1 q.1 l.length q.2 (bytesR l) * F) (fun k => l.length - k) 0 ⟨Nat.zero_le _, fun i hi => by omega⟩ ⟨rfl, rfl, rfl, rfl, trivial⟩ (Ent.sat (Ent.refl _)) ?_
    intro k ⟨hk, hd⟩; dsimp only at hk hd ⊢
    have hsm : digsN (l.take k) < 1000000000 := digs_small (by omega) hk hd
    repeat (first | refine go ?_ | (refine goX ?_; intro))
    refine EK_cond_dec rfl (fun hlt => ?_) (fun hge => ?_)
    · repeat (first | refine go ?_ | (refine goX ?_; intro))
      have hbad : ¬ isD (l.getD k 0) → ¬ (∀ c ∈ l, isD c) := fun g f => g (f _ (getD_mem (by omega)))
      refine EL_guard_dec rfl rfl (fun h5 => ?_) (fun h5 => ?_)
      · repeat (first | refine go ?_ | (refine goX ?_; intro))
        have hb := hbad (by unfold isD; omega)
        exact EK_ret (ER_2 rfl rfl rfl () (numT_none (by unfold numBad; first | exact .inl (by assumption) | exact .inr (.inl (by omega)) | exact .inr (.inr (.inl (by assumption))) | exact .inr (.inr (.inr (by assumption))))) (Ent.sat Ent.last))
      repeat (first | refine go ?_ | (refine goX ?_; intro))
      refine EK_cond_dec rfl (fun h6 => ?_) (fun h6 => ?_)
      · repeat (first | refine go ?_ | (refine goX ?_; intro))
        have hb := hbad (by unfold isD; omega)
        exact EK_ret (ER_2 rfl rfl rfl () (numT_none (by unfold numBad; first | exact .inl (by assumption) | exact .inr (.inl (by omega)) | exact .inr (.inr (.inl (by assumption))) | exact .inr (.inr (.inr (by assumption))))) (Ent.sat Ent.last))
      have hdk : isD (l.getD k 0) := by unfold isD; omega
      repeat (first | refine go ?_ | (refine goX ?_; intro))
      refine EK_round (k + 1) ⟨by omega, fun i hi => ?_⟩ (by omega) ⟨by rw [← take_digs (by omega) hdk]; rfl, rfl, rfl, rfl, trivial⟩ (Ent.sat (Ent.refl _))
      rcases Nat.lt_or_ge i k with g | g
      · exact hd i g
      · have : i = k := by omega
        subst this
        exact hdk
    · have e : k = l.length := by omega
      subst e
      have hall : ∀ c ∈ l, isD c := by
        have := all_take (Nat.le_refl _) hd
        rwa [List.take_length] at this
      rw [List.take_length]
      repeat (first | refine go ?_ | (refine goX ?_; intro))
      exact EK_ret (ER_2 rfl rfl rfl () (numT_some (by
        unfold numBad
        rintro (h | h | h | h)
        · exact h1 h
        · omega
        · exact hz h
        · exact h hall)) (Ent.sat Ent.last))
end Go.Proofs.YtafbipoagehdeaaDoor
