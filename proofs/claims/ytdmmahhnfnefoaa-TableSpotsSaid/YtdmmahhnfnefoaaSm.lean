/-
  More on walks: where the ways out of a loop meet. Plain Lean: no program in sight.
-/
import Derived.Test.YtdmmahhnfnefoaaSd
namespace Go.Proofs.Ytdmmahhnfnefoaa
open Go.RowKit
variable {X : Cx} {k : List KI} {σ : Env} {H : SL}

/-- All that leave a block meet behind it. -/
theorem EK_exits {c : Code} {id : Nat} {γ : Type} (φ : γ → Prop) (E : γ → Env) (G : γ → SL)
    (first : EK X (.code c :: .block id :: .till (fun a w => ∃ g, φ g ∧ Fits X.N a (E g) ∧ Sat X.W w (G g)) :: k) σ H) (rest : ∀ g, φ g → EK X k (E g) (G g)) : EK X (.code c :: .block id :: k) σ H := by
  intro a w ha hs
  refine wp_mono (first a w ha hs) ?_
  intro e a' w' q
  cases e with
  | normal =>
    obtain ⟨g, h1, h2, h3⟩ := q
    exact rest g h1 a' w' h2 h3
  | exit j =>
    by_cases hj : j = id
    · subst hj
      have q : Exit.inBlock j (run X.P X.R (.till (fun a w => ∃ g, φ g ∧ Fits X.N a (E g) ∧ Sat X.W w (G g)) :: k)) (.exit j) a' w' := q
      simp only [Exit.inBlock, if_true] at q
      obtain ⟨g, h1, h2, h3⟩ := q
      show Exit.inBlock j (run X.P X.R k) (.exit j) a' w'
      simp only [Exit.inBlock, if_true]
      exact rest g h1 a' w' h2 h3
    · have q : Exit.inBlock id (run X.P X.R (.till (fun a w => ∃ g, φ g ∧ Fits X.N a (E g) ∧ Sat X.W w (G g)) :: k)) (.exit j) a' w' := q
      simp only [Exit.inBlock, if_neg hj] at q
      show Exit.inBlock id (run X.P X.R k) (.exit j) a' w'
      simp only [Exit.inBlock, if_neg hj]
      exact q
  | goto l => exact q
  | ret => exact q
  | panic ch => exact q
  | outgrown => exact q
end Go.Proofs.Ytdmmahhnfnefoaa
