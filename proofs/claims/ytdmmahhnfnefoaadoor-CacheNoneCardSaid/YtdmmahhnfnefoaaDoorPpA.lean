/-
  fanlightlaw08: run, takes.
-/
import Derived.Test.YtdmmahhnfnefoaaDoorPp8
namespace Go.Proofs.YtdmmahhnfnefoaaDoor
open Go.RowKit
set_option maxRecDepth 10000
attribute [local irreducible] EK EX ER EN EL ES EG OpVal OpDoes OpSkip
variable {W : World} {F : SL} {X : Cx} {k : List KI} {σ : Env} {p sp : Option Addr} {n m : Nat} {ws : List Nat} {s : PStep}
theorem run_spec (hT : Tab W) (hw : WordsOk m ws) (hs : s.Ok m) : Spec Tryd.prog 40 [.pointer p, .pointer sp] W (PoolC p n ws * (StepC sp s * F)) (fun _ : Unit => .int .i64 (runS 299 1 ws s).2)
    (fun _ => PoolC p n (runS 299 1 ws s).1.1 * (StepC sp (runS 299 1 ws s).1.2 * F)) := by
  refine Spec.of Tryd.func40 rfl Tryd.ntmps40 rfl ?_
  repeat (first | refine go ?_ | (refine goX ?_; intro))
  refine EK_loop (γ := Nat × List Nat × PStep) (fun g => 1 ≤ g.1 ∧ g.1 ≤ 300 ∧ WordsOk m g.2.1 ∧ g.2.2.Ok m ∧ runS 299 1 ws s = runS (300 - g.1) g.1 g.2.1 g.2.2) (fun g => [(0, .pointer p), (1, .pointer sp), (5, .int .i64 (g.1 : Int))])
    (fun g => PoolC p n g.2.1 * (StepC sp g.2.2 * F)) (fun g => 300 - g.1) (1, ws, s) ⟨by dsimp only; omega, by dsimp only; omega, hw, hs, rfl⟩ ⟨rfl, rfl, rfl, trivial⟩ (Ent.sat (Ent.refl _)) ?_
  intro ⟨i, ws', s'⟩ ⟨h1, h2, h3, h4, h5⟩; dsimp only at h1 h2 h3 h4 h5 ⊢
  rw [h5]
  by_cases hi : i < 300
  · obtain ⟨f, hf⟩ : ∃ f, 300 - i = f + 1 := ⟨299 - i, by omega⟩
    rw [hf]
    obtain ⟨g3, g4⟩ := doS_ok h3 h4
    repeat (first | refine go ?_ | (refine goX ?_; intro))
    refine EL_call rfl (Do_spec hT h3 h4) ?_
    intro _
    cases hd : (doS ws' s').2.done with
    | true =>
      repeat (first | refine go ?_ | (refine goX ?_; intro))
      refine EK_ret (ER_1 rfl rfl () ?_ (Ent.sat ?_))
      · unfold runS; rw [if_pos hd]
      · unfold runS; rw [if_pos hd]
        first | exact Ent.refl _ | exact Ent.last | (repeat (first | refine Ent.cons ?_ | exact Ent.any | exact Ent.last))
    | false =>
      repeat (first | refine go ?_ | (refine goX ?_; intro))
      refine EK_round (i + 1, (doS ws' s').1, (doS ws' s').2) ⟨by omega, by omega, g3, g4, ?_⟩ (by dsimp only; omega) ⟨rfl, rfl, rfl, trivial⟩ (Ent.sat ?_)
      · dsimp only
        rw [show 300 - (i + 1) = f by omega, runS, if_neg (by simp [hd])]
      · first | exact Ent.refl _ | exact Ent.last | (repeat (first | refine Ent.cons ?_ | exact Ent.any | exact Ent.last))
  · have hii : 300 - i = 0 := by omega
    repeat (first | refine go ?_ | (refine goX ?_; intro))
    refine EK_ret (ER_1 rfl rfl () ?_ (Ent.sat ?_))
    · rw [hii]; rfl
    · rw [hii]; exact Ent.refl _
theorem takes_spec (hT : Tab W) : Spec Tryd.prog 20 [] W F (fun _ : Unit => .bool true) (fun _ => F) := by
  have hw0 : WordsOk 2 (newWords 40) := newWords_ok (n := 40) (by decide) (by decide)
  have hs0 : (takeNew 0 2 2).Ok 2 := takeNew_ok 0 2 (by decide)
  have hd1 : (doS (newWords 40) (takeNew 0 2 2)).2.done = false := by decide +kernel
  refine Spec.of Tryd.func20 rfl Tryd.ntmps20 rfl ?_
  repeat (first | refine go ?_ | (refine goX ?_; intro))
  refine EL_call rfl (New_spec (n := 40) (by decide) (by decide)) ?_
  intro p
  repeat (first | refine go ?_ | (refine goX ?_; intro))
  refine EL_call rfl (Take_spec 0 2 hw0) ?_
  intro t
  repeat (first | refine go ?_ | (refine goX ?_; intro))
  refine EL_call rfl (Spec.at2 p t (Do_spec hT hw0 hs0)) ?_
  intro _
  obtain ⟨hw1, hs1⟩ := doS_ok hw0 hs0
  have hd2 : (doS (doS (newWords 40) (takeNew 0 2 2)).1 (doS (newWords 40) (takeNew 0 2 2)).2).2.done = true := by decide +kernel
  have hp2 : (doS (doS (newWords 40) (takeNew 0 2 2)).1 (doS (newWords 40) (takeNew 0 2 2)).2).2.ports = [0, 1] := by decide +kernel
  have hf2 : (freeN (doS (doS (newWords 40) (takeNew 0 2 2)).1 (doS (newWords 40) (takeNew 0 2 2)).2).1 64).length = 38 := by decide +kernel
  have hr2 : (runS 299 1 (doS (doS (newWords 40) (takeNew 0 2 2)).1 (doS (newWords 40) (takeNew 0 2 2)).2).1 (backNew 40 [1])).2 = 2 := by decide +kernel
  have hf3 : (freeN (runS 299 1 (doS (doS (newWords 40) (takeNew 0 2 2)).1 (doS (newWords 40) (takeNew 0 2 2)).2).1 (backNew 40 [1])).1.1 64).length = 39 := by decide +kernel
  rw [hd1]
  generalize doS (newWords 40) (takeNew 0 2 2) = A at *
  obtain ⟨hw2, hs2⟩ := doS_ok hw1 hs1
  repeat (first | refine go ?_ | (refine goX ?_; intro))
  refine EL_call rfl (Do_spec hT hw1 hs1) ?_
  intro _
  rw [hd2]
  generalize doS A.1 A.2 = B at *
  repeat (first | refine go ?_ | (refine goX ?_; intro))
  refine EL_call rfl (Spec.at1 t (Got_spec t B.2 (by rw [hp2]; decide))) ?_
  intro g
  rw [hp2]
  repeat (first | refine go ?_ | (refine goX ?_; intro))
  rename_i x
  refine EL_call rfl (Spec.at2 p x (Back_spec (n := 40) (ws := B.1) x 1 1 [1] rfl (by decide) (by decide))) ?_
  intro b
  have hs3 : (backNew 40 [1]).Ok 2 := backNew_ok (by decide) _
  have hgl : ([0, 1] : List Nat).length = 2 := rfl
  rw [hgl]
  repeat (first | refine go ?_ | (refine goX ?_; intro))
  refine EL_call rfl (Spec.at1 p (Free_spec hw2)) ?_
  intro f1
  rw [show 2 * 32 = 64 from rfl, hf2]
  repeat (first | refine go ?_ | (refine goX ?_; intro))
  refine EL_call rfl (Spec.at2 p b (run_spec hT hw2 hs3)) ?_
  intro _
  obtain ⟨hw3, hs4⟩ := runS_ok hw2 hs3 299 1
  rw [hr2]
  repeat (first | refine go ?_ | (refine goX ?_; intro))
  refine EL_call rfl (Free_spec hw3) ?_
  intro f2
  rw [show 2 * 32 = 64 from rfl, hf3]
  repeat (first | refine go ?_ | (refine goX ?_; intro))
  exact EK_ret (ER_1 rfl rfl () rfl (Ent.sat Ent.last))
end Go.Proofs.YtdmmahhnfnefoaaDoor
