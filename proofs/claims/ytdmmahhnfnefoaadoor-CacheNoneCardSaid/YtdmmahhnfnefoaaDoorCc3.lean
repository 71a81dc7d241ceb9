/-
  fanlightlaw09: Alike, run, fills.
-/
import Derived.Test.YtdmmahhnfnefoaaDoorCc2
namespace Go.Proofs.YtdmmahhnfnefoaaDoor
open Go.RowKit
set_option maxRecDepth 10000
attribute [local irreducible] EK EX ER EN EL ES EG OpVal OpDoes OpSkip
variable {W : World} {F : SL} {X : Cx} {k : List KI} {σ : Env} {pp pc ps sp qo : Option Addr} {n m h : Nat} {ws l : List Nat} {s : PStep}

theorem getD_ext {a b : List Nat} (hl : a.length = b.length) (h : ∀ i, i < a.length → a.getD i 0 = b.getD i 0) : a = b := by
  apply List.ext_getElem hl
  intro i h1 h2
  have := h i h1
  simpa [List.getD_eq_getElem?_getD, List.getElem?_eq_getElem h1, List.getElem?_eq_getElem h2] using this
theorem Alike_spec (p q : Option Addr) (c d : Nat) (a b : List Nat) (na nb : Nat) (ha : a.length = na) (hb : b.length = nb) (hs : na ≤ 100000) : Spec Tryd.prog 28 [.slice p na c, .slice q nb d] W (RowC 3 1 p na c (natsR .i64 a) * (RowC 3 1 q nb d (natsR .i64 b) * F))
    (fun _ : Unit => .bool (decide (a = b))) (fun _ => RowC 3 1 p na c (natsR .i64 a) * (RowC 3 1 q nb d (natsR .i64 b) * F)) := by
  subst ha hb
  refine Spec.of Tryd.func28 rfl Tryd.ntmps28 rfl ?_
  by_cases hl : a.length = b.length
  · repeat (first | refine go ?_ | (refine goX ?_; intro))
    refine EK_loop (γ := Nat) (fun i => i ≤ a.length ∧ ∀ j, j < i → a.getD j 0 = b.getD j 0) (fun i => [(0, .slice p a.length c), (1, .slice q b.length d), (5, .int .i64 (i : Int))])
      (fun _ => RowC 3 1 p a.length c (natsR .i64 a) * (RowC 3 1 q b.length d (natsR .i64 b) * F)) (fun i => a.length - i) 0 ⟨Nat.zero_le _, fun j hj => by omega⟩ ⟨rfl, rfl, rfl, trivial⟩ (Ent.sat (Ent.refl _)) ?_
    intro i ⟨hi, he⟩
    by_cases hil : i < a.length
    · by_cases hx : a.getD i 0 = b.getD i 0
      · repeat (first | refine go ?_ | (refine goX ?_; intro))
        refine EK_drawn rfl (by kernel_rfl) ?_
        repeat (refine goS ?_)
        repeat (first | refine go ?_ | (refine goX ?_; intro))
        refine EK_round (i + 1) ⟨by omega, fun j hj => ?_⟩ (by omega) ⟨rfl, rfl, rfl, trivial⟩ (Ent.sat (Ent.refl _))
        rcases Nat.lt_succ_iff_lt_or_eq.1 hj with h | rfl
        · exact he j h
        · exact hx
      · repeat (first | refine go ?_ | (refine goX ?_; intro))
        refine EK_drawn rfl (by kernel_rfl) ?_
        repeat (refine goS ?_)
        repeat (first | refine go ?_ | (refine goX ?_; intro))
        refine EK_ret (ER_1 rfl rfl () ?_ (Ent.sat (Ent.refl _)))
        rw [decide_eq_false (fun e => hx (by rw [e]))]
    · repeat (first | refine go ?_ | (refine goX ?_; intro))
      refine EK_ret (ER_1 rfl rfl () ?_ (Ent.sat (Ent.refl _)))
      rw [decide_eq_true (getD_ext hl fun j hj => he j (by omega))]
  · repeat (first | refine go ?_ | (refine goX ?_; intro))
    refine EK_ret (ER_1 rfl rfl () ?_ (Ent.sat (Ent.refl _)))
    rw [decide_eq_false (fun e => hl (by rw [e]))]
theorem CRun_still : Spec Tryd.prog 10 [.pointer pc, .pointer ps] W (CacheC pc pp h l qo * (CStO ps 3 none false * F)) (fun _ : Unit => .int .i64 1) (fun _ => CacheC pc pp h l qo * (CStO ps 3 none true * F)) := by
  refine Spec.of Tryd.func10 rfl Tryd.ntmps10 rfl ?_
  repeat (first | refine go ?_ | (refine goX ?_; intro))
  refine EK_loop (γ := Unit) (fun _ => True) (fun _ => [(0, .pointer pc), (1, .pointer ps), (5, .int .i64 1)]) (fun _ => CacheC pc pp h l qo * (CStO ps 3 none false * F)) (fun _ => 0) () trivial ⟨rfl, rfl, rfl, trivial⟩ (Ent.sat (Ent.refl _)) ?_
  intro _ _
  repeat (first | refine go ?_ | (refine goX ?_; intro))
  refine EL_call rfl Do_still ?_
  intro _
  repeat (first | refine go ?_ | (refine goX ?_; intro))
  exact EK_ret (ER_1 rfl rfl () rfl (Ent.sat (Ent.refl _)))
theorem CRun_fill (hT : Tab W) (hw : WordsOk m ws) (hs : s.Ok m) (hl : l.length ≤ 1000) (he : 0 < (runS 299 1 ws s).2) : Spec Tryd.prog 10 [.pointer pc, .pointer ps] W (CStO ps 0 sp false * (StepC sp s * (CacheC pc pp h l qo * (PoolC pp n ws * F)))) (fun _ : Unit => .int .i64 (runS 299 1 ws s).2)
    (fun _ => CStO ps 0 sp true * (StepC sp (runS 299 1 ws s).1.2 * (CacheC pc pp (cameH h (runS 299 1 ws s).1.2) (l ++ (runS 299 1 ws s).1.2.ports.reverse) qo * (PoolC pp n (runS 299 1 ws s).1.1 * F)))) := by
  refine Spec.of Tryd.func10 rfl Tryd.ntmps10 rfl ?_
  repeat (first | refine go ?_ | (refine goX ?_; intro))
  refine EK_loop (γ := Nat × List Nat × PStep) (fun g => 1 ≤ g.1 ∧ g.1 ≤ 300 ∧ WordsOk m g.2.1 ∧ g.2.2.Ok m ∧ runS 299 1 ws s = runS (300 - g.1) g.1 g.2.1 g.2.2) (fun g => [(0, .pointer pc), (1, .pointer ps), (5, .int .i64 (g.1 : Int))])
    (fun g => CStO ps 0 sp false * (StepC sp g.2.2 * (CacheC pc pp h l qo * (PoolC pp n g.2.1 * F)))) (fun g => 300 - g.1) (1, ws, s) ⟨by dsimp only; omega, by dsimp only; omega, hw, hs, rfl⟩ ⟨rfl, rfl, rfl, trivial⟩ (Ent.sat (Ent.refl _)) ?_
  intro ⟨i, ws', s'⟩ ⟨h1, h2, h3, h4, h5⟩; dsimp only at h1 h2 h3 h4 h5 ⊢
  rw [h5] at he ⊢
  by_cases hi : i < 300
  · obtain ⟨f, hf⟩ : ∃ f, 300 - i = f + 1 := ⟨299 - i, by omega⟩
    rw [hf] at he ⊢
    obtain ⟨g3, g4⟩ := doS_ok h3 h4
    repeat (first | refine go ?_ | (refine goX ?_; intro))
    refine EL_call rfl (Do_fill hT h3 h4 hl) ?_
    intro _
    cases hd : (doS ws' s').2.done with
    | true =>
      repeat (first | refine go ?_ | (refine goX ?_; intro))
      have hr : runS (f + 1) i ws' s' = (doS ws' s', (i : Int)) := by unfold runS; rw [if_pos hd]
      rw [hr, if_pos rfl]
      exact EK_ret (ER_1 rfl rfl () rfl (Ent.sat (Ent.refl _)))
    | false =>
      repeat (first | refine go ?_ | (refine goX ?_; intro))
      refine EK_round (i + 1, (doS ws' s').1, (doS ws' s').2) ⟨by omega, by omega, g3, g4, ?_⟩ (by dsimp only; omega) ⟨rfl, rfl, rfl, trivial⟩ (Ent.sat ?_)
      · dsimp only
        rw [show 300 - (i + 1) = f by omega, runS, if_neg (by simp [hd])]
      · rw [if_neg (by decide)]; exact Ent.refl _
  · have hii : 300 - i = 0 := by omega
    rw [hii] at he
    exact absurd he (by simp [runS])
theorem CRun_back (hT : Tab W) (hw : WordsOk m ws) (hs : s.Ok m) (he : 0 < (runS 299 1 ws s).2) : Spec Tryd.prog 10 [.pointer pc, .pointer ps] W (CStO ps 2 sp false * (StepC sp s * (CacheC pc pp h l qo * (PoolC pp n ws * F)))) (fun _ : Unit => .int .i64 (runS 299 1 ws s).2)
    (fun _ => CStO ps 2 sp true * (StepC sp (runS 299 1 ws s).1.2 * (CacheC pc pp h l none * (PoolC pp n (runS 299 1 ws s).1.1 * F)))) := by
  refine Spec.of Tryd.func10 rfl Tryd.ntmps10 rfl ?_
  repeat (first | refine go ?_ | (refine goX ?_; intro))
  refine EK_loop (γ := Nat × List Nat × PStep) (fun g => 1 ≤ g.1 ∧ g.1 ≤ 300 ∧ WordsOk m g.2.1 ∧ g.2.2.Ok m ∧ runS 299 1 ws s = runS (300 - g.1) g.1 g.2.1 g.2.2) (fun g => [(0, .pointer pc), (1, .pointer ps), (5, .int .i64 (g.1 : Int))])
    (fun g => CStO ps 2 sp false * (StepC sp g.2.2 * (CacheC pc pp h l qo * (PoolC pp n g.2.1 * F)))) (fun g => 300 - g.1) (1, ws, s) ⟨by dsimp only; omega, by dsimp only; omega, hw, hs, rfl⟩ ⟨rfl, rfl, rfl, trivial⟩ (Ent.sat (Ent.refl _)) ?_
  intro ⟨i, ws', s'⟩ ⟨h1, h2, h3, h4, h5⟩; dsimp only at h1 h2 h3 h4 h5 ⊢
  rw [h5] at he ⊢
  by_cases hi : i < 300
  · obtain ⟨f, hf⟩ : ∃ f, 300 - i = f + 1 := ⟨299 - i, by omega⟩
    rw [hf] at he ⊢
    obtain ⟨g3, g4⟩ := doS_ok h3 h4
    repeat (first | refine go ?_ | (refine goX ?_; intro))
    refine EL_call rfl (Do_back hT h3 h4) ?_
    intro _
    cases hd : (doS ws' s').2.done with
    | true =>
      repeat (first | refine go ?_ | (refine goX ?_; intro))
      have hr : runS (f + 1) i ws' s' = (doS ws' s', (i : Int)) := by unfold runS; rw [if_pos hd]
      rw [hr, if_pos rfl]
      exact EK_ret (ER_1 rfl rfl () rfl (Ent.sat (Ent.refl _)))
    | false =>
      repeat (first | refine go ?_ | (refine goX ?_; intro))
      refine EK_round (i + 1, (doS ws' s').1, (doS ws' s').2) ⟨by omega, by omega, g3, g4, ?_⟩ (by dsimp only; omega) ⟨rfl, rfl, rfl, trivial⟩ (Ent.sat ?_)
      · dsimp only
        rw [show 300 - (i + 1) = f by omega, runS, if_neg (by simp [hd])]
      · rw [if_neg (by decide)]; exact Ent.refl _
  · have hii : 300 - i = 0 := by omega
    rw [hii] at he
    exact absurd he (by simp [runS])
theorem fills_spec (hT : Tab W) : Spec Tryd.prog 8 [] W F (fun _ : Unit => .bool true) (fun _ => F) := by
  have hw0 : WordsOk 2 (newWords 40) := newWords_ok (n := 40) (by decide) (by decide)
  have hs0 : (takeNew ((0 : Nat) : Int) 8 2).Ok 2 := takeNew_ok _ 8 (by decide)
  have d1 : (runS 299 1 (newWords 40) (takeNew ((0 : Nat) : Int) 8 2)).2 = 2 := by decide +kernel
  have d2 : (runS 299 1 (newWords 40) (takeNew ((0 : Nat) : Int) 8 2)).1.2.ports = [0, 1, 2, 3, 4, 5, 6, 7] := by decide +kernel
  have d3 : (freeN (runS 299 1 (newWords 40) (takeNew ((0 : Nat) : Int) 8 2)).1.1 64).length = 32 := by decide +kernel
  obtain ⟨hw1, hs1⟩ := runS_ok hw0 hs0 299 1
  refine Spec.of Tryd.func8 rfl Tryd.ntmps8 rfl ?_
  repeat (first | refine go ?_ | (refine goX ?_; intro))
  refine EL_call rfl (New_spec (n := 40) (by decide) (by decide)) ?_
  intro p
  repeat (first | refine go ?_ | (refine goX ?_; intro))
  refine EL_call rfl (CaNew_spec 0) ?_
  intro c
  repeat (first | refine go ?_ | (refine goX ?_; intro))
  refine EL_call rfl (Spec.at2 c p (Fill_take (h := 0) hw0)) ?_
  intro g
  repeat (first | refine go ?_ | (refine goX ?_; intro))
  refine EL_call rfl (Spec.at3 g.1 g.2 c (CRun_fill hT hw0 hs0 (by simp) (by rw [d1]; decide))) ?_
  intro _
  rw [d1]
  generalize (runS 299 1 (newWords 40) (takeNew ((0 : Nat) : Int) 8 2)).1 = D at *
  rw [d2, List.nil_append, show [0, 1, 2, 3, 4, 5, 6, 7].reverse = [7, 6, 5, 4, 3, 2, 1, 0] from rfl]
  repeat (first | refine go ?_ | (refine goX ?_; intro))
  refine EL_call rfl (Spec.at1 c (Top_spec (by decide))) ?_
  intro _
  rw [show topV [7, 6, 5, 4, 3, 2, 1, 0] = .tuple #[.int .i64 0, .bool true] from rfl]
  repeat (first | refine go ?_ | (refine goX ?_; intro))
  refine EL_call rfl (Pop_spec (by decide)) ?_
  intro _
  rw [show topV [7, 6, 5, 4, 3, 2, 1, 0] = .tuple #[.int .i64 0, .bool true] from rfl, show [7, 6, 5, 4, 3, 2, 1, 0].take ([7, 6, 5, 4, 3, 2, 1, 0].length - 1) = [7, 6, 5, 4, 3, 2, 1] from rfl]
  repeat (first | refine go ?_ | (refine goX ?_; intro))
  refine EL_call rfl (All_spec (by decide)) ?_
  intro a
  repeat (first | refine go ?_ | (refine goX ?_; intro))
  rename_i y
  refine EL_call rfl (Spec.at2 a.1 y (Alike_spec a.1 y a.2 7 [7, 6, 5, 4, 3, 2, 1] [7, 6, 5, 4, 3, 2, 1] 7 7 rfl rfl (by decide))) ?_
  intro _
  repeat (first | refine go ?_ | (refine goX ?_; intro))
  refine EL_call rfl (Spec.at1 p (Free_spec hw1)) ?_
  intro f
  rw [show 2 * 32 = 64 from rfl, d3]
  repeat (first | refine go ?_ | (refine goX ?_; intro))
  exact EK_ret (ER_1 rfl rfl () rfl (Ent.sat Ent.last))
end Go.Proofs.YtdmmahhnfnefoaaDoor
