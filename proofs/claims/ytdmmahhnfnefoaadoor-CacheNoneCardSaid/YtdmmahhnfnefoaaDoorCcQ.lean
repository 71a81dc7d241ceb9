/-
  CacheStacks: a step alone ends; what one cache alone keeps. No walk.
-/
import Derived.Test.YtdmmahhnfnefoaaDoorCcO
namespace Go.Proofs.YtdmmahhnfnefoaaDoor
open Go.RowKit
variable {m n k h : Nat} {ws l held : List Nat} {s : PStep}

theorem runS_hit {f k : Nat} (hd : (doS ws s).2.done = true) : runS (f + 1) k ws s = (doS ws s, (k : Int)) := by unfold runS; rw [if_pos hd]
theorem runS_miss {f k : Nat} (hd : (doS ws s).2.done = false) : runS (f + 1) k ws s = runS f (k + 1) (doS ws s).1 (doS ws s).2 := by rw [runS, if_neg (by simp [hd])]
/-- A Take alone ends. -/
theorem take_ends : ∀ (L f k : Nat) (s : PStep), s.left = L → s.kind = 0 → s.done = false → s.read = false → L + 2 ≤ f → 1 ≤ k → 0 < (runS f k ws s).2
  | L, 0, k, s, _, _, _, _, hf, _ => by omega
  | L, f + 1, k, s, hL, hk, hd, hr, hf, hk1 => by
    have e : doS ws s = takeS ws s := by unfold doS; rw [if_neg (by simp [hd]), if_pos hk]
    by_cases hfr : freesOf (ws.getD s.word 0) = []
    · have e2 : takeS ws s = (ws, { s with seen := ws.getD s.word 0, words := s.words.set s.word (ws.getD s.word 0), word := (s.word + 1) % s.words.length, left := s.left - 1, done := decide (s.left - 1 = 0) }) := by
        unfold takeS; rw [if_neg (by simp [hr]), if_pos hfr]
      by_cases h1 : s.left - 1 = 0
      · rw [runS_hit (by rw [e, e2]; simpa using h1)]; dsimp only; omega
      · rw [runS_miss (by rw [e, e2]; simpa using h1), e, e2]
        exact take_ends (L - 1) f (k + 1) _ (by dsimp only; omega) hk (by simpa using h1) hr (by omega) (by omega)
    · have e2 : takeS ws s = (ws, { s with seen := ws.getD s.word 0, read := true }) := by
        unfold takeS; rw [if_neg (by simp [hr]), if_neg hfr]
      rw [runS_miss (by rw [e, e2]; exact hd), e, e2]
      obtain ⟨g, rfl⟩ : ∃ g, f = g + 1 := ⟨f - 1, by omega⟩
      have e3 : doS ws { s with seen := ws.getD s.word 0, read := true } = takeS ws { s with seen := ws.getD s.word 0, read := true } := by unfold doS; rw [if_neg (by simp [hd]), if_pos hk]
      have e4 : (takeS ws { s with seen := ws.getD s.word 0, read := true }).2.done = true := by
        unfold takeS; rw [if_pos rfl, if_pos rfl]
      rw [runS_hit (by rw [e3]; exact e4)]; dsimp only; omega
/-- A Back alone ends. -/
theorem back_ends : ∀ (L f k : Nat) (ws : List Nat) (s : PStep), s.parts.length = L → s.kind = 2 → s.done = false → s.read = false → 2 * L + 2 ≤ f → 1 ≤ k → 0 < (runS f k ws s).2
  | L, 0, k, ws, s, _, _, _, _, hf, _ => by omega
  | L, f + 1, k, ws, s, hL, hk, hd, hr, hf, hk1 => by
    have e : ∀ (ws : List Nat) (s : PStep), s.kind = 2 → s.done = false → doS ws s = backS ws s := fun ws s hk hd => by unfold doS; rw [if_neg (by simp [hd]), if_neg (by omega), if_neg (by omega)]
    rcases hp : s.parts with _ | ⟨⟨j, mask⟩, rest⟩
    · rw [runS_hit (by rw [e ws s hk hd, backS_nil hp])]; dsimp only; omega
    · have hL2 : rest.length + 1 = L := by rw [← hL, hp]; rfl
      by_cases hz : ws.getD j 0 &&& mask = 0
      · have e2 : backS ws s = (ws, { s with seen := ws.getD j 0, read := false, parts := rest, done := decide (rest = []) }) := by
          rw [backS_cons hp, if_neg (by simp [hr]), if_pos hz]
        by_cases h1 : rest = []
        · rw [runS_hit (by rw [e ws s hk hd, e2]; simpa using h1)]; dsimp only; omega
        · rw [runS_miss (by rw [e ws s hk hd, e2]; simpa using h1), e ws s hk hd, e2]
          exact back_ends (L - 1) f (k + 1) _ _ (by dsimp only; omega) hk (by simpa using h1) rfl (by omega) (by omega)
      · have e2 : backS ws s = (ws, { s with seen := ws.getD j 0, read := true }) := by
          rw [backS_cons hp, if_neg (by simp [hr]), if_neg hz]
        rw [runS_miss (by rw [e ws s hk hd, e2]; exact hd), e ws s hk hd, e2]
        obtain ⟨g, rfl⟩ : ∃ g, f = g + 1 := ⟨f - 1, by omega⟩
        have e3 := e ws { s with seen := ws.getD j 0, read := true } hk hd
        have e4 : backS ws { s with seen := ws.getD j 0, read := true } = (ws.set j (changedN (ws.getD j 0) (ws.getD j 0 % 4294967296 &&& (18446744073709551615 - mask))), { s with seen := ws.getD j 0, read := false, parts := rest, done := decide (rest = []) }) := by
          rw [backS_cons (s := { s with seen := ws.getD j 0, read := true }) hp, if_pos rfl, if_pos rfl]
        by_cases h1 : rest = []
        · rw [runS_hit (by rw [e3, e4]; simpa using h1)]; dsimp only; omega
        · rw [runS_miss (by rw [e3, e4]; simpa using h1), e3, e4]
          exact back_ends (L - 1) g (k + 1 + 1) _ _ (by dsimp only; omega) hk (by simpa using h1) rfl (by omega) (by omega)
/-- How many a Take tells. -/
theorem take_most (hk : s.kind = 0) (hp : s.ports.length ≤ s.most) : ∀ f k, (runS f k ws s).1.2.ports.length ≤ s.most ∧ (runS f k ws s).1.2.most = s.most := by
  intro f
  induction f generalizing ws s with
  | zero => intro k; exact ⟨hp, rfl⟩
  | succ f ih =>
    intro k
    have hone : (doS ws s).2.kind = 0 ∧ (doS ws s).2.most = s.most ∧ (doS ws s).2.ports.length ≤ s.most := by
      unfold doS
      by_cases hd : s.done = true
      · rw [if_pos hd]; exact ⟨hk, rfl, hp⟩
      · rw [if_neg hd, if_pos hk]
        unfold takeS
        split
        · split
          · exact ⟨hk, rfl, by simp [picks]; omega⟩
          · exact ⟨hk, rfl, hp⟩
        · split
          · exact ⟨hk, rfl, hp⟩
          · exact ⟨hk, rfl, hp⟩
    obtain ⟨h1, h2, h3⟩ := hone
    unfold runS
    split
    · exact ⟨h3, h2⟩
    · have := ih (ws := (doS ws s).1) (s := (doS ws s).2) h1 (by rw [h2]; exact h3) (k + 1)
      rw [h2] at this
      exact this
/-! ### One cache alone -/
abbrev lone (h : Nat) (l : List Nat) (r : CRun) : List CSt := [⟨h, l, r⟩, cs0, cs0]
theorem lone_set (h h' : Nat) (l l' : List Nat) (r r' : CRun) : (lone h l r).set 0 ⟨h', l', r'⟩ = lone h' l' r' := rfl
theorem OnceI.runFill : ∀ (f k h : Nat) (ws : List Nat) (s : PStep), OnceI n m ws (lone h [] (.fill s)) held → 0 < (runS f k ws s).2 → 0 < k →
    OnceI n m (runS f k ws s).1.1 (lone (cameH h (runS f k ws s).1.2) ([] ++ (runS f k ws s).1.2.ports.reverse) .idle) held
  | 0, k, h, ws, s, _, h2, _ => by simp [runS] at h2
  | f + 1, k, h, ws, s, hI, h2, hk => by
    have h1 := hI.fills (w := 0) (c := ⟨h, [], .fill s⟩) (by decide) rfl rfl
    cases hd : (doS ws s).2.done with
    | true =>
      rw [hd, if_pos rfl, lone_set] at h1
      rw [runS_hit hd]
      exact h1
    | false =>
      rw [hd, if_neg (by decide), lone_set] at h1
      rw [runS_miss hd] at h2 ⊢
      exact runFill f (k + 1) h _ _ h1 h2 (by omega)
theorem OnceI.runBack : ∀ (f k h : Nat) (ws l : List Nat) (s : PStep), OnceI n m ws (lone h l (.back s)) held → 0 < (runS f k ws s).2 → 0 < k →
    OnceI n m (runS f k ws s).1.1 (lone h l .idle) held
  | 0, k, h, ws, l, s, _, h2, _ => by simp [runS] at h2
  | f + 1, k, h, ws, l, s, hI, h2, hk => by
    obtain ⟨h1, _⟩ := hI.backs (w := 0) (c := ⟨h, l, .back s⟩) (by decide) rfl rfl
    cases hd : (doS ws s).2.done with
    | true =>
      rw [hd, if_pos rfl, lone_set] at h1
      rw [runS_hit hd]
      exact h1
    | false =>
      rw [hd, if_neg (by decide), lone_set] at h1
      rw [runS_miss hd] at h2 ⊢
      exact runBack f (k + 1) h _ l _ h1 h2 (by omega)
theorem OnceI.lens (hI : OnceI n m ws (lone h l .idle) held) : (freeN ws (m * 32)).length + l.length + held.length = n := by
  have h1 := hI.once.1
  have e1 : allC (lone h l .idle) 0 = l := by simp [allC, leftC, leftS_nil]
  have e2 : allC (lone h l .idle) 1 = [] := by simp [allC, leftC, leftS_nil, cs0]
  have e3 : allC (lone h l .idle) 2 = [] := by simp [allC, leftC, leftS_nil, cs0]
  unfold allOf at h1
  rw [e1, e2, e3] at h1
  simp only [List.length_append, List.length_nil] at h1
  omega
theorem OnceI.lone_new (h1 : 1 ≤ n) (h2 : n ≤ 1024) : OnceI n ((n + 31) / 32) (newWords n) (lone 0 [] .idle) [] where
  words := newWords_ok h1 h2
  nm := by omega
  tail := fun x h3 h4 => (newWords_free h1).2 h3 h4
  csl := rfl
  each := fun i hi => by
    match i, hi with
    | 0, _ => exact ⟨by simp, trivial⟩
    | 1, _ => exact ⟨by simp [cs0], trivial⟩
    | 2, _ => exact ⟨by simp [cs0], trivial⟩
  tot := fun x => by
    have e : cntC x cs0 = 0 := by rw [cntC_none x rfl]; rfl
    unfold total
    simp only [List.map_cons, List.map_nil, List.sum_cons, List.sum_nil, List.count_nil]
    rw [show cntC x ⟨0, [], .idle⟩ = 0 from e, e]
    unfold cntF
    rw [Nat.add_zero]
    exact one_iff ⟨fun e => e.1, fun e => ⟨e, (newWords_free h1).1 e⟩⟩
end Go.Proofs.YtdmmahhnfnefoaaDoor
