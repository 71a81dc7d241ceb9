/-
  CacheOwns: what the rounds keep. No walk.
-/
import Derived.Test.YtdmmahhnfnefoaaDoorPpO
namespace Go.Proofs.YtdmmahhnfnefoaaDoor
open Go.RowKit
variable {m n k w x : Nat} {ws o : List Nat} {s : PStep}

/-! ### What a Back begins with, both ways -/
theorem addPart_mem {ps : List (Nat × Nat)} (z y : Nat) (h : y ∈ leftN ps ∨ y = z) : y ∈ leftN (addPart ps z) := by
  unfold addPart
  split
  · rename_i i hi
    have hlt := partAt_lt hi
    have hfst := partAt_fst hi
    rw [mem_leftN]
    have hset : ∀ v, v ∈ ps.set i v := fun v => List.mem_iff_getElem.2 ⟨i, by simpa using hlt, by simp⟩
    rcases h with h | rfl
    · obtain ⟨x, hx, h1, h2⟩ := mem_leftN.1 h
      obtain ⟨j, hj, rfl⟩ := List.getElem_of_mem hx
      by_cases e : i = j
      · subst e
        refine ⟨_, hset _, ?_, ?_⟩
        · rw [h1, List.getD_eq_getElem?_getD, List.getElem?_eq_getElem hj]; rfl
        · dsimp only
          rw [Nat.testBit_or, List.getD_eq_getElem?_getD, List.getElem?_eq_getElem hj]
          simp [h2]
      · exact ⟨ps[j], List.mem_iff_getElem.2 ⟨j, by simpa using hj, by rw [List.getElem_set_ne e]⟩, h1, h2⟩
    · refine ⟨_, hset _, hfst.symm, ?_⟩
      dsimp only
      rw [Nat.testBit_or, Nat.testBit_two_pow_self, Bool.or_true]
  · rw [mem_leftN]
    rcases h with h | rfl
    · obtain ⟨x, hx, h1, h2⟩ := mem_leftN.1 h
      exact ⟨x, List.mem_append_left _ hx, h1, h2⟩
    · exact ⟨_, List.mem_append_right _ (List.mem_singleton.2 rfl), rfl, Nat.testBit_two_pow_self⟩
theorem foldl_mem (n : Nat) : ∀ (l : List Int) (ps : List (Nat × Nat)) (y : Nat), (y ∈ leftN ps ∨ ((y : Int) ∈ l ∧ y < n)) → y ∈ leftN (l.foldl (backStep n) ps)
  | [], ps, y, h => h.elim id fun h => absurd h.1 (by simp)
  | z :: l, ps, y, h => by
    rw [List.foldl_cons]
    refine foldl_mem n l _ y ?_
    by_cases hy : (y : Int) ∈ l ∧ y < n
    · exact .inr hy
    · refine .inl ?_
      unfold backStep
      rcases h with h | ⟨h1, h2⟩
      · split
        · exact addPart_mem _ _ (.inl h)
        · exact h
      · rcases List.mem_cons.1 h1 with h1 | h1
        · rw [if_pos ⟨by omega, by omega⟩]
          exact addPart_mem _ _ (.inr (by omega))
        · exact absurd ⟨h1, h2⟩ hy
theorem mem_back (n : Nat) (l : List Nat) (y : Nat) : y ∈ leftN (backParts n (l.map fun (x : Nat) => (x : Int))) ↔ y ∈ l ∧ y < n := by
  have hm : ((y : Int) ∈ l.map fun (x : Nat) => (x : Int)) ↔ y ∈ l := by
    rw [List.mem_map]
    exact ⟨fun ⟨a, h1, h2⟩ => by rwa [show y = a by omega], fun h => ⟨y, h, rfl⟩⟩
  constructor
  · intro h
    obtain ⟨h1, h2⟩ := (backParts_parts n _).2 y h
    exact ⟨hm.1 h1, h2⟩
  · rintro ⟨h1, h2⟩
    exact foldl_mem n _ [] y (.inr ⟨hm.2 h1, h2⟩)
/-! ### Counts -/
inductive CRun where
  | idle
  | still
  | fill (s : PStep)
  | back (s : PStep)
structure CSt where
  home : Nat
  l : List Nat
  run : CRun
def leftC (r : CRun) : List (Nat × Nat) := match r with
  | .back s => s.parts
  | _ => []
def one (p : Prop) [Decidable p] : Nat := if p then 1 else 0
def cntF (ws : List Nat) (n x : Nat) : Nat := one (x < n ∧ isFree ws x = true)
def cntC (x : Nat) (c : CSt) : Nat := c.l.count x + one (x ∈ leftN (leftC c.run))
def total (ws : List Nat) (n : Nat) (cs : List CSt) (out : List Nat) (x : Nat) : Nat := cntF ws n x + out.count x + (cs.map (cntC x)).sum
theorem one_le (p : Prop) [Decidable p] : one p ≤ 1 := by unfold one; split <;> omega
theorem one_pos {p : Prop} [Decidable p] (h : p) : one p = 1 := if_pos h
theorem one_neg {p : Prop} [Decidable p] (h : ¬ p) : one p = 0 := if_neg h
theorem one_iff {p q : Prop} [Decidable p] [Decidable q] (h : p ↔ q) : one p = one q := by
  by_cases hq : q
  · rw [one_pos (h.2 hq), one_pos hq]
  · rw [one_neg (fun e => hq (h.1 e)), one_neg hq]
theorem sum_set {α : Type} (f : α → Nat) (d : α) : ∀ (l : List α) (i : Nat) (v : α), i < l.length → ((l.set i v).map f).sum + f (l.getD i d) = (l.map f).sum + f v
  | [], _, _, h => by simp at h
  | a :: l, 0, v, _ => by simp; omega
  | a :: l, i + 1, v, h => by
    have := sum_set f d l i v (by simpa using h)
    simp only [List.set_cons_succ, List.map_cons, List.sum_cons, List.getD_cons_succ]
    omega
theorem count_nodup {l : List Nat} (h : ∀ x, l.count x ≤ 1) (x : Nat) : l.count x = one (x ∈ l) := by
  by_cases hx : x ∈ l
  · have := List.count_pos_iff.2 hx
    have := h x
    rw [one_pos hx]; omega
  · rw [one_neg hx, List.count_eq_zero.2 hx]
theorem count_of_nodup {l : List Nat} (h : l.Nodup) (x : Nat) : l.count x = one (x ∈ l) := count_nodup (fun y => List.nodup_iff_count.1 h y) x
theorem cntC_none (x : Nat) {c : CSt} (h : leftC c.run = []) : cntC x c = c.l.count x := by
  unfold cntC
  rw [h, one_neg (by simp [leftN]), Nat.add_zero]
theorem cntC_back (x : Nat) {c : CSt} (h : c.run = .back s) : cntC x c = c.l.count x + one (x ∈ leftN s.parts) := by
  unfold cntC
  rw [h]; rfl
def cs0 : CSt := ⟨0, [], .idle⟩
/-- What is kept of a cache and its step. -/
structure CStI (m n : Nat) (c : CSt) : Prop where
  len : c.l.length ≤ 40
  run : match c.run with
    | .idle => True
    | .still => True
    | .fill s => c.l = [] ∧ s.Ok m ∧ s.kind = 0 ∧ s.done = false ∧ s.ports = []
    | .back s => s.Ok m ∧ s.kind = 2 ∧ s.done = false ∧ PartsOk s.parts ∧ s.parts.length ≤ 40
structure OnceI (n m : Nat) (ws : List Nat) (cs : List CSt) (out : List Nat) : Prop where
  words : WordsOk m ws
  nm : n ≤ m * 32
  tail : ∀ x, n ≤ x → x < m * 32 → isFree ws x = false
  csl : cs.length = 3
  each : ∀ i, i < 3 → CStI m n (cs.getD i cs0)
  tot : ∀ x, total ws n cs out x = one (x < n)
/-- One cache changes; the words, too, and what is out. -/
theorem OnceI.step {ws' out' : List Nat} {cs : List CSt} {out : List Nat} (h : OnceI n m ws cs out) (hw : w < 3) (c : CSt) (hws : WordsOk m ws') (hc : CStI m n c) (ht : ∀ x, n ≤ x → x < m * 32 → isFree ws' x = false)
    (hx : ∀ x, cntF ws' n x + out'.count x + cntC x c = cntF ws n x + out.count x + cntC x (cs.getD w cs0)) : OnceI n m ws' (cs.set w c) out' where
  words := hws
  nm := h.nm
  tail := ht
  csl := by rw [List.length_set]; exact h.csl
  each := fun i hi => by
    rw [List.getD_eq_getElem?_getD, List.getElem?_set]
    by_cases e : w = i
    · subst e
      rw [if_pos rfl, if_pos (by rw [h.csl]; exact hw)]; exact hc
    · rw [if_neg e, ← List.getD_eq_getElem?_getD]; exact h.each i hi
  tot := fun x => by
    have h1 := sum_set (cntC x) cs0 cs w c (by rw [h.csl]; exact hw)
    have h2 := h.tot x
    have h3 := hx x
    unfold total at h2 ⊢
    omega
/-- At most one place: what a cache holds, what it lets go. -/
theorem OnceI.le {cs : List CSt} {out : List Nat} (h : OnceI n m ws cs out) (hw : w < 3) (x : Nat) : cntF ws n x + out.count x + cntC x (cs.getD w cs0) ≤ one (x < n) := by
  have h2 := h.tot x
  have h1 := sum_set (cntC x) cs0 cs w cs0 (by rw [h.csl]; exact hw)
  have h0 : cntC x cs0 = 0 := by simp [cntC, cs0, leftC, leftN, one]
  unfold total at h2
  omega
theorem OnceI.fills {cs : List CSt} {out : List Nat} {c : CSt} (h : OnceI n m ws cs out) (hw : w < 3) (hc : cs.getD w cs0 = c) (hr : c.run = .fill s) :
    OnceI n m (doS ws s).1 (cs.set w (if (doS ws s).2.done = true then ⟨if (doS ws s).2.ports = [] then c.home else (doS ws s).2.word, c.l ++ (doS ws s).2.ports.reverse, .idle⟩ else ⟨c.home, c.l, .fill (doS ws s).2⟩)) out := by
  have hI := h.each w hw
  rw [hc] at hI
  have hrun := hI.run
  rw [hr] at hrun
  obtain ⟨hl, hok, hk, hd, hp⟩ := hrun
  obtain ⟨hw2, hs2⟩ := doS_ok h.words hok
  have eff := take_eff h.words hok hk hd hp
  have hwl := h.words.len
  generalize hD : doS ws s = D at *
  have hg : ∀ g ∈ D.2.ports, g < n := fun g hg => by
    have h1 := eff.free g hg
    have h2 := eff.small g hg
    rcases Nat.lt_or_ge g n with h' | h'
    · exact h'
    · rw [h.tail g h' (by omega)] at h1; simp at h1
  have ht : ∀ x, n ≤ x → x < m * 32 → isFree D.1 x = false := fun x h1 h2 => by
    have h3 := h.tail x h1 h2
    cases hf : isFree D.1 x with
    | false => rfl
    | true => rw [((eff.after x).1 hf).1] at h3; simp at h3
  have hcF : ∀ x, cntF D.1 n x + one (x ∈ D.2.ports) = cntF ws n x := fun x => by
    unfold cntF
    by_cases hx : x ∈ D.2.ports
    · rw [one_pos hx, one_pos (p := x < n ∧ isFree ws x = true) ⟨hg x hx, eff.free x hx⟩, one_neg (p := x < n ∧ isFree D.1 x = true) (fun e => ((eff.after x).1 e.2).2 hx)]
    · rw [one_neg hx, Nat.add_zero]
      exact one_iff ⟨fun e => ⟨e.1, ((eff.after x).1 e.2).1⟩, fun e => ⟨e.1, (eff.after x).2 ⟨e.2, hx⟩⟩⟩
  have hcP : ∀ x, D.2.ports.reverse.count x = one (x ∈ D.2.ports) := fun x => by
    rw [List.count_reverse]; exact count_of_nodup eff.nodup x
  refine h.step hw _ hw2 ?_ ht fun x => ?_
  · split
    · exact ⟨by have := hs2.ports; rw [hl]; simp; omega, trivial⟩
    · rename_i hdn
      exact ⟨hI.len, hl, hs2, eff.kind, by simpa using hdn, eff.none (by simpa using hdn)⟩
  · rw [hc]
    have h1 := hcF x
    have h2 := hcP x
    split
    · rw [cntC_none x rfl, cntC_none x (by rw [hr]; rfl)]
      dsimp only
      rw [List.count_append]
      omega
    · rename_i hdn
      have h3 : one (x ∈ D.2.ports) = 0 := one_neg (by rw [eff.none (by simpa using hdn)]; simp)
      rw [cntC_none x rfl, cntC_none x (by rw [hr]; rfl)]
      dsimp only
      omega
theorem OnceI.backs {cs : List CSt} {out : List Nat} {c : CSt} (h : OnceI n m ws cs out) (hw : w < 3) (hc : cs.getD w cs0 = c) (hr : c.run = .back s) :
    OnceI n m (doS ws s).1 (cs.set w (if (doS ws s).2.done = true then ⟨c.home, c.l, .idle⟩ else ⟨c.home, c.l, .back (doS ws s).2⟩)) out ∧ (doS ws s).2.parts.length ≤ 40 := by
  have hI := h.each w hw
  rw [hc] at hI
  have hrun := hI.run
  rw [hr] at hrun
  obtain ⟨hok, hk, hd, hpo, hpl⟩ := hrun
  obtain ⟨hw2, hs2⟩ := doS_ok h.words hok
  have hnf : ∀ y ∈ leftN s.parts, y < n ∧ isFree ws y = false := fun y hy => by
    have h1 := h.le hw y
    rw [hc] at h1
    have h2 : one (y ∈ leftN (leftC c.run)) = 1 := one_pos (by rw [hr]; exact hy)
    unfold cntC cntF at h1
    have h3 := one_le (y < n)
    by_cases hyn : y < n
    · refine ⟨hyn, ?_⟩
      cases hf : isFree ws y with
      | false => rfl
      | true => rw [one_pos (p := y < n ∧ isFree ws y = true) ⟨hyn, hf⟩] at h1; omega
    · rw [one_neg hyn] at h1; omega
  have eff := back_eff h.words hok hk hd hpo fun y hy => (hnf y hy).2
  have hpl2 : (doS ws s).2.parts.length ≤ 40 := by
    have hps : (doS ws s).2.parts = s.parts ∨ (doS ws s).2.parts = s.parts.tail := by
      have e : doS ws s = backS ws s := by unfold doS; rw [if_neg (by simp [hd]), if_neg (by omega), if_neg (by omega)]
      rw [e]
      rcases hpp : s.parts with _ | ⟨⟨j, mask⟩, rest⟩
      · rw [backS_nil hpp]; exact .inl hpp
      · rw [backS_cons hpp]
        split
        · split
          · exact .inr rfl
          · exact .inl hpp
        · split
          · exact .inr rfl
          · exact .inl hpp
    rcases hps with e | e
    · rw [e]; exact hpl
    · rw [e, List.length_tail]; omega
  refine ⟨?_, hpl2⟩
  generalize hD : doS ws s = D at *
  have ht : ∀ x, n ≤ x → x < m * 32 → isFree D.1 x = false := fun x h1 h2 => by
    have h3 := h.tail x h1 h2
    cases hf : isFree D.1 x with
    | false => rfl
    | true =>
      rcases (eff.after x).1 hf with h4 | ⟨h4, _⟩
      · rw [h4] at h3; simp at h3
      · have := (hnf x h4).1; omega
  have hcF : ∀ x, cntF D.1 n x + one (x ∈ leftN D.2.parts) = cntF ws n x + one (x ∈ leftN s.parts) := fun x => by
    unfold cntF
    by_cases hx : x ∈ leftN s.parts
    · obtain ⟨h1, h2⟩ := hnf x hx
      rw [one_pos hx, one_neg (p := x < n ∧ isFree ws x = true) (fun e => by rw [h2] at e; simp at e)]
      by_cases hx' : x ∈ leftN D.2.parts
      · rw [one_pos hx', one_neg (p := x < n ∧ isFree D.1 x = true) (fun e => by
          rcases (eff.after x).1 e.2 with h4 | ⟨_, h4⟩
          · rw [h2] at h4; simp at h4
          · exact h4 hx')]
      · rw [one_neg hx', one_pos (p := x < n ∧ isFree D.1 x = true) ⟨h1, (eff.after x).2 (.inr ⟨hx, hx'⟩)⟩]
    · have hx' : x ∉ leftN D.2.parts := fun e => hx (eff.left x e)
      rw [one_neg hx, one_neg hx', Nat.add_zero, Nat.add_zero]
      refine one_iff ⟨fun e => ⟨e.1, ?_⟩, fun e => ⟨e.1, (eff.after x).2 (.inl e.2)⟩⟩
      rcases (eff.after x).1 e.2 with h4 | ⟨h4, _⟩
      · exact h4
      · exact absurd h4 hx
  refine h.step hw _ hw2 ?_ ht fun x => ?_
  · split
    · exact ⟨hI.len, trivial⟩
    · rename_i hdn
      exact ⟨hI.len, hs2, eff.kind, by simpa using hdn, eff.parts, hpl2⟩
  · rw [hc]
    have h1 := hcF x
    split
    · rename_i hdn
      have h3 : one (x ∈ leftN D.2.parts) = 0 := one_neg (by rw [eff.done hdn]; simp [leftN])
      rw [cntC_none x rfl, cntC_back x hr]
      dsimp only
      omega
    · rw [cntC_back x rfl, cntC_back x hr]
      dsimp only
      omega
/-! ### What a cache begins -/
theorem OnceI.quiet {cs : List CSt} {out : List Nat} {c : CSt} (h : OnceI n m ws cs out) (hw : w < 3) (hc : cs.getD w cs0 = c) (hr : leftC c.run = []) (r : CRun) (hr' : leftC r = []) (hrun : CStI m n ⟨c.home, c.l, r⟩) :
    OnceI n m ws (cs.set w ⟨c.home, c.l, r⟩) out :=
  h.step hw _ h.words hrun h.tail fun x => by rw [hc, cntC_none x hr, cntC_none x (c := ⟨c.home, c.l, r⟩) hr']
theorem OnceI.pop {cs : List CSt} {out : List Nat} {c : CSt} (h : OnceI n m ws cs out) (hw : w < 3) (hc : cs.getD w cs0 = c) (hr : c.run = .idle) (hl : 0 < c.l.length) :
    OnceI n m ws (cs.set w ⟨c.home, c.l.take (c.l.length - 1), .idle⟩) (out ++ [c.l.getD (c.l.length - 1) 0]) := by
  have hI := h.each w hw
  rw [hc] at hI
  refine h.step hw _ h.words ⟨by have := hI.len; simp; omega, trivial⟩ h.tail fun x => ?_
  rw [hc, cntC_none x rfl, cntC_none x (by rw [hr]; rfl)]
  have e : c.l = c.l.take (c.l.length - 1) ++ [c.l.getD (c.l.length - 1) 0] := by
    have := take_snocD (l := c.l) (i := c.l.length - 1) (d := 0) (by omega)
    rw [this, show c.l.length - 1 + 1 = c.l.length by omega, List.take_length]
  have e2 := congrArg (List.count x) e
  rw [List.count_append] at e2
  rw [List.count_append]
  dsimp only
  omega
def without (l : List Nat) (j : Nat) : List Nat := l.take j ++ l.drop (j + 1)
theorem without_count (l : List Nat) {j : Nat} (hj : j < l.length) (x : Nat) : (without l j).count x + [l.getD j 0].count x = l.count x := by
  have e : l = (l.take j ++ [l.getD j 0]) ++ l.drop (j + 1) := by
    rw [take_snocD hj, List.take_append_drop]
  have e2 := congrArg (List.count x) e
  rw [List.count_append, List.count_append] at e2
  unfold without
  rw [List.count_append]
  omega
theorem OnceI.put {cs : List CSt} {out : List Nat} {c : CSt} {j : Nat} (h : OnceI n m ws cs out) (hw : w < 3) (hc : cs.getD w cs0 = c) (hr : c.run = .idle) (hj : j < out.length) (hl : c.l.length < 16) :
    OnceI n m ws (cs.set w ⟨c.home, c.l ++ [out.getD j 0], .still⟩) (without out j) := by
  refine h.step hw _ h.words ⟨by simp; omega, trivial⟩ h.tail fun x => ?_
  rw [hc, cntC_none x rfl, cntC_none x (by rw [hr]; rfl)]
  have := without_count out hj x
  dsimp only
  rw [List.count_append]
  omega
/-- What leaves a cache stands in the Back. -/
theorem OnceI.leave {cs : List CSt} {out out' : List Nat} {c : CSt} (h : OnceI n m ws cs out) (hw : w < 3) (hc : cs.getD w cs0 = c) (hr : leftC c.run = []) (L R : List Nat) (hL : L.length ≤ 40) (hR : R.length ≤ 40)
    (hx : ∀ x, (L ++ R).count x + out'.count x = c.l.count x + out.count x) : OnceI n m ws (cs.set w ⟨c.home, R, .back (backNew n (L.map fun (x : Nat) => (x : Int)))⟩) out' := by
  have hle : ∀ x, cntF ws n x + out'.count x + (L.count x + R.count x) ≤ one (x < n) := fun x => by
    have h1 := h.le hw x
    rw [hc, cntC_none x hr] at h1
    have h2 := hx x
    rw [List.count_append] at h2
    omega
  have hnl : ∀ x, L.count x = one (x ∈ L) := count_nodup fun x => by have := hle x; have := one_le (x < n); omega
  have hln : ∀ x ∈ L, x < n := fun x hx' => by
    have h1 := hle x
    rw [hnl x, one_pos hx'] at h1
    by_cases hn : x < n
    · exact hn
    · rw [one_neg hn] at h1; omega
  refine h.step hw _ h.words ⟨hR, backNew_ok (by have := h.nm; omega) _, rfl, rfl, (backParts_parts n _).1, ?_⟩ h.tail fun x => ?_
  · have := backParts_len n (L.map fun (x : Nat) => (x : Int))
    rw [List.length_map] at this
    show (backParts n _).length ≤ 40
    omega
  · rw [hc, cntC_back x rfl, cntC_none x hr]
    dsimp only
    have h1 : one (x ∈ leftN (backNew n (L.map fun (x : Nat) => (x : Int))).parts) = L.count x := by
      rw [hnl x]
      exact one_iff ((mem_back n L x).trans ⟨fun e => e.1, fun e => ⟨e, hln x e⟩⟩)
    have h2 := hx x
    rw [List.count_append] at h2
    omega
/-! ### The list of all -/
theorem freeN_nodup (ws : List Nat) (c : Nat) : (freeN ws c).Nodup := List.Nodup.sublist List.filter_sublist List.nodup_range
theorem mem_freeN {c : Nat} : x ∈ freeN ws c ↔ x < c ∧ isFree ws x = true := by unfold freeN; rw [List.mem_filter, List.mem_range]
theorem partN_nodup (p : Nat × Nat) : (partN p 32).Nodup := by
  unfold partN
  exact List.Pairwise.map _ (fun a b (h : a ≠ b) => by omega) (List.Nodup.sublist List.filter_sublist List.nodup_range)
theorem leftN_nodup : ∀ {l : List (Nat × Nat)}, PartsOk l → (leftN l).Nodup
  | [], _ => by simp [leftN]
  | p :: l, h => by
    have hnd := h.nd
    rw [List.map_cons, List.nodup_cons] at hnd
    have ih := leftN_nodup (l := l) ⟨hnd.2, fun x hx => h.ne x (List.mem_cons_of_mem _ hx)⟩
    have e : leftN (p :: l) = partN p 32 ++ leftN l := by simp [leftN]
    rw [e, List.nodup_append]
    refine ⟨partN_nodup p, ih, fun a ha b hb e => ?_⟩
    subst e
    obtain ⟨q, hq, h1, _⟩ := mem_leftN.1 hb
    have h2 := (mem_partN'.1 ha).1
    exact hnd.1 (List.mem_map.2 ⟨q, hq, by omega⟩)
theorem leftS_count {l : List (Nat × Nat)} (h : PartsOk l) (x : Nat) : (leftS l).count x = one (x ∈ leftN l) := by
  have hp : (leftS l).Perm (leftN l) := by
    unfold leftS leftI srtI
    have h1 : (((leftN l).map fun (i : Nat) => (i : Int)).mergeSort fun x y => decide (x ≤ y)).Perm ((leftN l).map fun (i : Nat) => (i : Int)) := List.mergeSort_perm _ _
    have h2 := h1.map Int.toNat
    rw [List.map_map] at h2
    have h3 : (leftN l).map (Int.toNat ∘ fun (i : Nat) => (i : Int)) = leftN l := by
      conv => rhs; rw [← List.map_id (leftN l)]
      exact List.map_congr_left fun a _ => by simp
    rwa [h3] at h2
  rw [hp.count_eq]
  exact count_of_nodup (leftN_nodup h) x
def allC (cs : List CSt) (i : Nat) : List Nat := (cs.getD i cs0).l ++ leftS (leftC (cs.getD i cs0).run)
def allOf (ws : List Nat) (c : Nat) (cs : List CSt) (out : List Nat) : List Nat := freeN ws c ++ out ++ allC cs 0 ++ allC cs 1 ++ allC cs 2
theorem OnceI.perm {cs : List CSt} {out : List Nat} (h : OnceI n m ws cs out) : (allOf ws (m * 32) cs out).Perm (List.range n) := by
  rw [List.perm_iff_count]
  intro x
  have hf : (freeN ws (m * 32)).count x = cntF ws n x := by
    rw [count_of_nodup (freeN_nodup _ _) x]
    unfold cntF
    refine one_iff (mem_freeN.trans ⟨fun e => ⟨?_, e.2⟩, fun e => ⟨by have := h.nm; omega, e.2⟩⟩)
    rcases Nat.lt_or_ge x n with h' | h'
    · exact h'
    · have := h.tail x h' e.1; rw [e.2] at this; simp at this
  have hr : (List.range n).count x = one (x < n) := by
    rw [count_of_nodup List.nodup_range x]
    exact one_iff List.mem_range
  have hc : ∀ i, i < 3 → (allC cs i).count x = cntC x (cs.getD i cs0) := fun i hi => by
    unfold allC
    have hI := (h.each i hi).run
    rw [List.count_append]
    unfold cntC
    congr 1
    cases hrun : (cs.getD i cs0).run with
    | idle => simp [leftC, leftS, leftI, leftN, srtI, one]
    | still => simp [leftC, leftS, leftI, leftN, srtI, one]
    | fill s => simp [leftC, leftS, leftI, leftN, srtI, one]
    | back s =>
      rw [hrun] at hI
      exact leftS_count hI.2.2.2.1 x
  have hs : (cs.map (cntC x)).sum = cntC x (cs.getD 0 cs0) + cntC x (cs.getD 1 cs0) + cntC x (cs.getD 2 cs0) := by
    match cs, h.csl with
    | [a, b, c], _ => simp; omega
  have ht := h.tot x
  unfold total at ht
  unfold allOf
  rw [List.count_append, List.count_append, List.count_append, List.count_append, hf, hr, hc 0 (by decide), hc 1 (by decide), hc 2 (by decide)]
  omega
/-- Each one stands once, and there are so many. -/
theorem OnceI.once {cs : List CSt} {out : List Nat} (h : OnceI n m ws cs out) :
    (allOf ws (m * 32) cs out).length = n ∧ ∀ i, i < n → (allOf ws (m * 32) cs out).getD i 0 < n ∧ ((allOf ws (m * 32) cs out).take i).count ((allOf ws (m * 32) cs out).getD i 0) = 0 := by
  have hp := h.perm
  generalize allOf ws (m * 32) cs out = A at *
  have hl : A.length = n := by rw [hp.length_eq, List.length_range]
  have hnd : A.Nodup := hp.nodup_iff.2 List.nodup_range
  refine ⟨hl, fun i hi => ?_⟩
  have hi' : i < A.length := by omega
  have e : A.getD i 0 = A[i] := by rw [List.getD_eq_getElem?_getD, List.getElem?_eq_getElem hi']; rfl
  rw [e]
  refine ⟨List.mem_range.1 (hp.mem_iff.1 (List.getElem_mem hi')), ?_⟩
  rw [List.count_eq_zero]
  intro hm
  obtain ⟨j, hj, e2⟩ := List.getElem_of_mem hm
  rw [List.getElem_take] at e2
  have hj' : j < i := by rw [List.length_take] at hj; omega
  exact (List.pairwise_iff_getElem.1 hnd) j i (by omega) hi' hj' e2
end Go.Proofs.YtdmmahhnfnefoaaDoor
