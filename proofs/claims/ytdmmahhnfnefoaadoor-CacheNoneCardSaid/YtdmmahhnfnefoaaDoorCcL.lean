/-
  CacheNone, the plain law: a word that reads as it did was not changed between; what the rounds keep. No walk.
-/
import Derived.Test.YtdmmahhnfnefoaaDoorCcP
namespace Go.Proofs.YtdmmahhnfnefoaaDoor
open Go.RowKit

variable {m T : Nat} {ws ws' : List Nat} {s t : PStep} {calm full on : Bool}

def cnt (u : Nat) : Nat := u / 4294967296
/-- v is u, or a later word. -/
def Rw (u v : Nat) : Prop := u = v ∨ cnt u < cnt v
theorem Rw.refl (u : Nat) : Rw u u := .inl rfl
theorem Rw.le {u v : Nat} (h : Rw u v) : cnt u ≤ cnt v := by
  rcases h with rfl | h
  · exact Nat.le_refl _
  · exact Nat.le_of_lt h
theorem Rw.trans {a b c : Nat} (h : Rw a b) (k : Rw b c) : Rw a c := by
  rcases h with rfl | h
  · exact k
  · exact .inr (Nat.lt_of_lt_of_le h k.le)

def Rws (ws ws' : List Nat) : Prop := ∀ j, Rw (ws.getD j 0) (ws'.getD j 0)
theorem Rws.refl (ws : List Nat) : Rws ws ws := fun _ => Rw.refl _
theorem Rws.trans {a b c : List Nat} (h : Rws a b) (k : Rws b c) : Rws a c := fun j => (h j).trans (k j)
/-- No change count is above T. -/
def Low (T : Nat) (ws : List Nat) : Prop := ∀ j, cnt (ws.getD j 0) ≤ T
theorem Low.mono {T' : Nat} (h : Low T ws) (k : T ≤ T') : Low T' ws := fun j => Nat.le_trans (h j) k

theorem getD_setL (ws : List Nat) (k u j : Nat) : (ws.set k u).getD j 0 = if j = k ∧ k < ws.length then u else ws.getD j 0 := by
  simp only [List.getD_eq_getElem?_getD, List.getElem?_set]
  by_cases h : k = j
  · subst h
    by_cases hk : k < ws.length
    · simp [hk]
    · simp [hk]
  · have h' : ¬ j = k := fun e => h e.symm
    simp [h, h']

theorem set_rises (hT : Low T ws) (hb : T + 1 < 4294967296) (k : Nat) {low : Nat} (hl : low < 4294967296) : Rws ws (ws.set k (changedN (ws.getD k 0) low)) ∧ Low (T + 1) (ws.set k (changedN (ws.getD k 0) low)) := by
  have h1 := hT k
  have e : cnt (changedN (ws.getD k 0) low) = cnt (ws.getD k 0) + 1 := by
    unfold cnt at h1 ⊢
    rw [changedN_div hl, Nat.mod_eq_of_lt (by omega)]
  refine ⟨fun j => ?_, fun j => ?_⟩
  · rw [getD_setL]
    split
    · rename_i h
      rw [h.1]
      exact .inr (by omega)
    · exact Rw.refl _
  · rw [getD_setL]
    split
    · omega
    · exact Nat.le_succ_of_le (hT j)

theorem do_rises (hw : WordsOk m ws) (hs : s.Ok m) (hT : Low T ws) (hb : T + 1 < 4294967296) : Rws ws (doS ws s).1 ∧ Low (T + 1) (doS ws s).1 := by
  have same : Rws ws ws ∧ Low (T + 1) ws := ⟨Rws.refl _, hT.mono (Nat.le_succ _)⟩
  unfold doS
  split
  · exact same
  split
  · unfold takeS
    split
    · split
      · rename_i he
        rw [← he]
        exact set_rises hT hb _ (or_lt (by omega) (picks_lt _ _))
      · exact same
    · split <;> exact same
  split
  · unfold sameS
    split <;> exact same
  · match hp : s.parts with
    | [] => rw [backS_nil hp]; exact same
    | (k, mask) :: rest =>
      rw [backS_cons hp]
      split
      · split
        · rename_i he
          show Rws ws (ws.set k (changedN s.seen _)) ∧ Low (T + 1) (ws.set k (changedN s.seen _))
          rw [← he]
          exact set_rises hT hb _ (Nat.lt_of_le_of_lt Nat.and_le_left (by omega))
        · exact same
      · split <;> exact same

theorem run_rises : ∀ (f k T : Nat) (ws : List Nat) (s : PStep), WordsOk m ws → s.Ok m → Low T ws → T + f + 1 < 4294967296 → Rws ws (runS f k ws s).1.1 ∧ Low (T + f) (runS f k ws s).1.1
  | 0, _, _, ws, _, _, _, hT, _ => ⟨Rws.refl ws, hT⟩
  | f + 1, k, T, ws, s, hw, hs, hT, hb => by
    have h1 := do_rises hw hs hT (by omega)
    have h2 := doS_ok hw hs
    unfold runS
    split
    · exact ⟨h1.1, h1.2.mono (by omega)⟩
    · have h3 := run_rises f (k + 1) (T + 1) _ _ h2.1 h2.2 h1.2 (by omega)
      exact ⟨h1.1.trans h3.1, h3.2.mono (by omega)⟩

theorem freeN_nil (hw : WordsOk m ws) : freeN ws (m * 32) = [] ↔ ∀ j, j < m → freesOf (ws.getD j 0) = [] := by
  constructor
  · intro h j hj
    rw [List.eq_nil_iff_forall_not_mem]
    intro i hi
    obtain ⟨h1, h2⟩ := mem_freesOf.1 hi
    have : 32 * j + i ∈ freeN ws (m * 32) := by
      refine List.mem_filter.2 ⟨List.mem_range.2 (by omega), ?_⟩
      unfold isFree
      rw [show (32 * j + i) / 32 = j by omega, show (32 * j + i) % 32 = i by omega, h2]
      rfl
    rw [h] at this
    simp at this
  · intro h
    rw [List.eq_nil_iff_forall_not_mem]
    intro x hx
    obtain ⟨h1, h2⟩ := List.mem_filter.1 hx
    have h1 := List.mem_range.1 h1
    have : x % 32 ∈ freesOf (ws.getD (x / 32) 0) := mem_freesOf.2 ⟨Nat.mod_lt _ (by decide), by unfold isFree at h2; simpa using h2⟩
    rw [h (x / 32) (by omega)] at this
    simp at this

/-- What was read, against the words now. -/
structure Ov (m : Nat) (ws : List Nat) (calm full : Bool) (lo : Nat) (words : List Nat) : Prop where
  all : ∀ j, j < m → Rw (words.getD j 0) (ws.getD j 0) ∧ freesOf (words.getD j 0) = [] ∧ (calm = true → words.getD j 0 = ws.getD j 0)
  full : full = false → ∃ j, lo ≤ j ∧ j < m ∧ cnt (words.getD j 0) < cnt (ws.getD j 0)

theorem Ov.other {words : List Nat} {lo : Nat} {full' : Bool} (h : Ov m ws calm full lo words) (hr : Rws ws ws') (hw : WordsOk m ws') (hf : full' = (full && (on || decide (freeN ws' (m * 32) = [])))) (ho : on = false → lo = 0) : Ov m ws' false full' lo words where
  all := fun j hj => ⟨(h.all j hj).1.trans (hr j), (h.all j hj).2.1, fun e => by simp at e⟩
  full := fun e => by
    rw [hf] at e
    cases hfu : full with
    | false =>
      obtain ⟨j, h1, h2, h3⟩ := h.full hfu
      exact ⟨j, h1, h2, Nat.lt_of_lt_of_le h3 (hr j).le⟩
    | true =>
      rw [hfu] at e
      simp only [Bool.true_and, Bool.or_eq_false_iff, decide_eq_false_iff_not] at e
      obtain ⟨e1, e2⟩ := e
      rw [freeN_nil hw] at e2
      have ⟨j, hj, hne⟩ : ∃ j, j < m ∧ freesOf (ws'.getD j 0) ≠ [] := by
        apply Classical.byContradiction
        intro hn
        exact e2 fun j hj => Classical.byContradiction fun hne => hn ⟨j, hj, hne⟩
      refine ⟨j, by rw [ho e1]; exact Nat.zero_le _, hj, ?_⟩
      rcases (h.all j hj).1.trans (hr j) with heq | hlt
      · rw [← heq] at hne
        exact absurd (h.all j hj).2.1 hne
      · exact hlt

/-- A Take under way. -/
structure TLive (m : Nat) (ws : List Nat) (calm : Bool) (t : PStep) : Prop where
  ok : t.Ok m
  kind : t.kind = 0
  live : t.done = false
  ports : t.ports = []
  read : t.read = true → freesOf t.seen ≠ []
  vis : ∀ j, j < m → (∀ i, i < t.left → (t.word + i) % m ≠ j) → Rw (t.words.getD j 0) (ws.getD j 0) ∧ freesOf (t.words.getD j 0) = [] ∧ (calm = true → t.words.getD j 0 = ws.getD j 0)

theorem TLive.other (h : TLive m ws calm t) (hr : Rws ws ws') : TLive m ws' false t where
  ok := h.ok
  kind := h.kind
  live := h.live
  ports := h.ports
  read := h.read
  vis := fun j hj hv => ⟨(h.vis j hj hv).1.trans (hr j), (h.vis j hj hv).2.1, fun e => by simp at e⟩

theorem takeNew_live (fr mo : Int) (hm : 1 ≤ m) : TLive m ws calm (takeNew fr mo m) where
  ok := takeNew_ok fr mo hm
  kind := rfl
  live := rfl
  ports := rfl
  read := fun h => by simp [takeNew] at h
  vis := fun j hj hv => by
    exfalso
    have hw : (takeNew fr mo m).word < m := ((takeNew_ok fr mo hm).takes rfl).2.1
    have hl : (takeNew fr mo m).left = m := rfl
    rw [hl] at hv
    rcases Nat.lt_or_ge j (takeNew fr mo m).word with h | h
    · refine hv (j + m - (takeNew fr mo m).word) (by omega) ?_
      rw [show (takeNew fr mo m).word + (j + m - (takeNew fr mo m).word) = j + m by omega, Nat.add_mod_right, Nat.mod_eq_of_lt hj]
    · refine hv (j - (takeNew fr mo m).word) (by omega) ?_
      rw [show (takeNew fr mo m).word + (j - (takeNew fr mo m).word) = j by omega, Nat.mod_eq_of_lt hj]

theorem t_step (hw : WordsOk m ws) (h : TLive m ws calm t) :
    ((doS ws t).2.done = false → (doS ws t).1 = ws ∧ TLive m ws calm (doS ws t).2) ∧
    ((doS ws t).2.done = true → noneS (doS ws t).2 = true → (doS ws t).1 = ws ∧ (doS ws t).2.kind = 0 ∧ ∀ j, j < m → Rw ((doS ws t).2.words.getD j 0) (ws.getD j 0) ∧ freesOf ((doS ws t).2.words.getD j 0) = [] ∧ (calm = true → (doS ws t).2.words.getD j 0 = ws.getD j 0)) := by
  have hok := (doS_ok hw h.ok).2
  obtain ⟨t1, t2, t3, t4, t5, t6⟩ := h.ok.takes h.kind
  have t6 := t6 h.live
  have e0 : doS ws t = takeS ws t := by unfold doS; rw [if_neg (by simp [h.live]), if_pos h.kind]
  rw [e0] at hok ⊢
  unfold takeS at hok ⊢
  by_cases hr : t.read = true
  · rw [if_pos hr] at hok ⊢
    by_cases he : ws.getD t.word 0 = t.seen
    · rw [if_pos he]
      refine ⟨fun hd => by simp at hd, fun _ hn => ?_⟩
      exfalso
      have hf := h.read hr
      unfold noneS at hn
      simp only [Bool.and_eq_true, decide_eq_true_eq] at hn
      have hp := hn.2
      simp only [List.map_eq_nil_iff, picks, List.take_eq_nil_iff] at hp
      rcases hp with hp | hp
      · omega
      · exact hf hp
    · rw [if_neg he] at hok ⊢
      exact ⟨fun _ => ⟨rfl, hok, h.kind, h.live, h.ports, fun e => by simp at e, h.vis⟩, fun hd => by simp [h.live] at hd⟩
  · rw [if_neg hr] at hok ⊢
    by_cases hf : freesOf (ws.getD t.word 0) = []
    · rw [if_pos hf] at hok ⊢
      have vis : ∀ j, j < m → (∀ i, i < t.left - 1 → ((t.word + 1) % m + i) % m ≠ j) → Rw ((t.words.set t.word (ws.getD t.word 0)).getD j 0) (ws.getD j 0) ∧ freesOf ((t.words.set t.word (ws.getD t.word 0)).getD j 0) = [] ∧
          (calm = true → (t.words.set t.word (ws.getD t.word 0)).getD j 0 = ws.getD j 0) := by
        intro j hj hv
        rw [getD_setL]
        by_cases hjw : j = t.word
        · rw [if_pos ⟨hjw, by omega⟩, hjw]
          exact ⟨Rw.refl _, hf, fun _ => rfl⟩
        · rw [if_neg (fun e => hjw e.1)]
          refine h.vis j hj fun i hi => ?_
          cases i with
          | zero => rw [Nat.add_zero, Nat.mod_eq_of_lt t2]; exact fun e => hjw e.symm
          | succ i =>
            have := hv i (by omega)
            rw [Nat.mod_add_mod] at this
            rwa [show t.word + (i + 1) = t.word + 1 + i by omega]
      refine ⟨fun hd => ⟨rfl, hok, h.kind, hd, h.ports, fun e => absurd e hr, ?_⟩, fun hd _ => ⟨rfl, h.kind, ?_⟩⟩
      · simp only [t1]
        exact vis
      · have hd' : t.left - 1 = 0 := by simpa using hd
        intro j hj
        exact vis j hj fun i hi => by omega
    · rw [if_neg hf] at hok ⊢
      exact ⟨fun _ => ⟨rfl, hok, h.kind, h.live, h.ports, fun _ => hf, h.vis⟩, fun hd => by simp [h.live] at hd⟩

/-- A Same under way. -/
structure SLive (m : Nat) (ws : List Nat) (calm full on : Bool) (s : PStep) : Prop where
  ok : s.Ok m
  kind : s.kind = 1
  live : s.done = false
  alike : s.alike = false
  ov : Ov m ws calm full s.word s.words
  on : on = false → s.word = 0

theorem s_step (hw : WordsOk m ws) (h : SLive m ws calm full on s) :
    (doS ws s).1 = ws ∧ ((doS ws s).2.done = false → SLive m ws calm full true (doS ws s).2) ∧ ((doS ws s).2.done = true → ((doS ws s).2.alike = true → full = true) ∧ (calm = true → (doS ws s).2.alike = true)) := by
  have hok := (doS_ok hw h.ok).2
  obtain ⟨t1, t2, t3⟩ := h.ok.sames h.kind
  have t3 := t3 h.live
  have e0 : doS ws s = sameS ws s := by unfold doS; rw [if_neg (by simp [h.live]), if_neg (by rw [h.kind]; decide), if_pos h.kind]
  rw [e0] at hok ⊢
  unfold sameS at hok ⊢
  by_cases he : ws.getD s.word 0 = s.words.getD s.word 0
  · rw [if_pos he] at hok ⊢
    have fl : full = false → ∃ j, s.word + 1 ≤ j ∧ j < m ∧ cnt (s.words.getD j 0) < cnt (ws.getD j 0) := by
      intro hf
      obtain ⟨j, h1, h2, h3⟩ := h.ov.full hf
      refine ⟨j, ?_, h2, h3⟩
      rcases Nat.lt_or_ge s.word j with h | h'
      · exact h
      · have : j = s.word := by omega
        rw [this, he] at h3
        omega
    refine ⟨rfl, fun hd => ⟨hok, h.kind, hd, hd, ⟨h.ov.all, fl⟩, fun e => by simp at e⟩, fun hd => ⟨fun _ => ?_, fun _ => hd⟩⟩
    cases hf : full with
    | true => rfl
    | false =>
      obtain ⟨j, h1, h2, _⟩ := fl hf
      have : s.word + 1 = s.words.length := by simpa using hd
      omega
  · rw [if_neg he] at hok ⊢
    refine ⟨rfl, fun hd => by simp at hd, fun _ => ⟨fun ha => ?_, fun hc => ?_⟩⟩
    · have h1 : s.alike = true := ha
      rw [h.alike] at h1
      exact absurd h1 (by decide)
    · exact absurd ((h.ov.all s.word t3).2.2 hc).symm he

theorem SLive.other (h : SLive m ws calm full on s) (hr : Rws ws ws') (hw : WordsOk m ws') : SLive m ws' false (full && (on || decide (freeN ws' (m * 32) = []))) on s where
  ok := h.ok
  kind := h.kind
  live := h.live
  alike := h.alike
  ov := by
    have := h.ov.other (on := on) (lo := s.word) hr hw rfl h.on
    exact this
  on := h.on
theorem SLive.new (hw : WordsOk m ws) (ht : t.Ok m) (hk : t.kind = 0) (hv : ∀ j, j < m → Rw (t.words.getD j 0) (ws.getD j 0) ∧ freesOf (t.words.getD j 0) = []) : SLive m ws false (decide (freeN ws (m * 32) = [])) false (sameNew t) where
  ok := sameNew_ok ht hk hw.pos
  kind := rfl
  live := rfl
  alike := rfl
  ov := ⟨fun j hj => ⟨(hv j hj).1, (hv j hj).2, fun e => by simp at e⟩, fun e => by
    rw [decide_eq_false_iff_not, freeN_nil hw] at e
    have ⟨j, hj, hne⟩ : ∃ j, j < m ∧ freesOf (ws.getD j 0) ≠ [] := by
      apply Classical.byContradiction
      intro hn
      exact e fun j hj => Classical.byContradiction fun hne => hn ⟨j, hj, hne⟩
    refine ⟨j, Nat.zero_le _, hj, ?_⟩
    rcases (hv j hj).1 with heq | hlt
    · rw [← heq] at hne
      exact absurd (hv j hj).2 hne
    · exact hlt⟩
  on := fun _ => rfl
theorem SLive.pass {on' : Bool} (h : SLive m ws calm full false s) : SLive m ws calm full on' s where
  ok := h.ok
  kind := h.kind
  live := h.live
  alike := h.alike
  ov := h.ov
  on := fun _ => h.on rfl
theorem low_new (n : Nat) : Low 0 (newWords n) := fun j => by
  have h : ∀ u ∈ newWords n, u < 4294967296 := by
    unfold newWords
    split
    · intro u hu; simp at hu; omega
    · intro u hu
      rcases List.mem_or_eq_of_mem_set hu with hu | rfl
      · simp at hu; omega
      · exact Nat.lt_of_le_of_lt Nat.and_le_left (by decide)
  unfold cnt
  rw [List.getD_eq_getElem?_getD]
  rcases Nat.lt_or_ge j (newWords n).length with hj | hj
  · rw [List.getElem?_eq_getElem hj]
    have := h _ (List.getElem_mem hj)
    show (newWords n)[j] / 4294967296 ≤ 0
    omega
  · rw [List.getElem?_eq_none hj]; simp
/-- How many a Take tells, step by step. -/
theorem take_most1 (hk : s.kind = 0) (hp : s.ports.length ≤ s.most) : (doS ws s).2.ports.length ≤ s.most ∧ (doS ws s).2.most = s.most ∧ (doS ws s).2.kind = 0 := by
  unfold doS
  by_cases hd : s.done = true
  · rw [if_pos hd]; exact ⟨hp, rfl, hk⟩
  · rw [if_neg hd, if_pos hk]
    unfold takeS
    split
    · split
      · exact ⟨by simp [picks]; omega, rfl, hk⟩
      · exact ⟨hp, rfl, hk⟩
    · split
      · exact ⟨hp, rfl, hk⟩
      · exact ⟨hp, rfl, hk⟩
/-! ### What the rounds keep -/
inductive ARun where
  | idle
  | own (t : PStep)
  | again (t s : PStep)
/-- Worker b: its list, its step. -/
structure BOk (m : Nat) (c : CSt) : Prop where
  len : c.l.length ≤ 8
  run : match c.run with
    | .idle => True
    | .still => True
    | .fill s => c.l = [] ∧ s.Ok m ∧ s.kind = 0 ∧ s.ports.length ≤ s.most ∧ s.most = 8
    | .back s => s.Ok m
def AOk (m : Nat) (ws : List Nat) (full on : Bool) (r : ARun) : Prop := match r with
  | .idle => True
  | .own t => TLive m ws false t ∧ t.most = 8
  | .again t s => t.Ok m ∧ noneS t = true ∧ SLive m ws false full on s
def fullN (r : ARun) (full on : Bool) (ws : List Nat) (c : Nat) : Bool := match r with
  | .again _ _ => full && (on || decide (freeN ws c = []))
  | _ => full
structure NoneI (m T : Nat) (ws : List Nat) (a : ARun) (c : CSt) (held : List Nat) (full on : Bool) (i : Nat) : Prop where
  words : WordsOk m ws
  low : Low T ws
  small : T ≤ 3000 + i
  b : BOk m c
  a : AOk m ws full on a
  held : held.length ≤ 100 + 32 * i
theorem AOk.other {full on : Bool} {a : ARun} (h : AOk m ws full on a) (hr : Rws ws ws') (hw : WordsOk m ws') : AOk m ws' (fullN a full on ws' (m * 32)) on a := by
  cases a with
  | idle => trivial
  | own t => exact ⟨h.1.other hr, h.2⟩
  | again t s => exact ⟨h.1, h.2.1, h.2.2.other hr hw⟩
theorem BOk.fills {c : CSt} (h : BOk m c) (hr : c.run = .fill s) (hw : WordsOk m ws) : (∀ h', BOk m ⟨h', c.l ++ (doS ws s).2.ports.reverse, .idle⟩) ∧ BOk m ⟨c.home, c.l, .fill (doS ws s).2⟩ := by
  have h1 := h.run
  rw [hr] at h1
  obtain ⟨hl, hok, hk, hp, hm⟩ := h1
  obtain ⟨h2, h3, h4⟩ := take_most1 (ws := ws) hk hp
  refine ⟨fun h' => ⟨?_, trivial⟩, ⟨h.len, hl, (doS_ok hw hok).2, h4, by rw [h3]; exact h2, by rw [h3]; exact hm⟩⟩
  dsimp only
  rw [hl, List.nil_append, List.length_reverse]
  omega
theorem BOk.backs {c : CSt} (h : BOk m c) (hr : c.run = .back s) (hw : WordsOk m ws) : BOk m ⟨c.home, c.l, .back (doS ws s).2⟩ := by
  have h1 := h.run
  rw [hr] at h1
  exact ⟨h.len, (doS_ok hw h1).2⟩
theorem BOk.idle {c : CSt} (h : BOk m c) : BOk m ⟨c.home, c.l, .idle⟩ := ⟨h.len, trivial⟩
/-- Worker b's turn: the words go on, and what is held. -/
theorem NoneI.other {a : ARun} {c c' : CSt} {held held' : List Nat} {i : Nat} (h : NoneI m T ws a c held full on i) (hr : Rws ws ws') (hw : WordsOk m ws') (hl : Low (T + 1) ws') (hb : BOk m c') (hh : held'.length ≤ held.length + 1) :
    NoneI m (T + 1) ws' a c' held' (fullN a full on ws' (m * 32)) on (i + 1) where
  words := hw
  low := hl
  small := by have := h.small; omega
  b := hb
  a := h.a.other hr hw
  held := by have := h.held; omega
/-- Nothing changes but what a does. -/
theorem NoneI.alone {a a' : ARun} {c : CSt} {held held' : List Nat} {i : Nat} {full' on' : Bool} (h : NoneI m T ws a c held full on i) (hr : WordsOk m ws') (hl : Low (T + 1) ws') (ha : AOk m ws' full' on' a') (hh : held'.length ≤ held.length + 32) :
    NoneI m (T + 1) ws' a' c held' full' on' (i + 1) where
  words := hr
  low := hl
  small := by have := h.small; omega
  b := h.b
  a := ha
  held := by have := h.held; omega
theorem own_step (hw : WordsOk m ws) (h : TLive m ws false t) (hm : t.most = 8) :
    ((doS ws t).2.done = false → (doS ws t).1 = ws ∧ AOk m ws full on (.own (doS ws t).2)) ∧
    (noneS (doS ws t).2 = true → (doS ws t).1 = ws ∧ AOk m ws (decide (freeN ws (m * 32) = [])) false (.again (doS ws t).2 (sameNew (doS ws t).2))) ∧
    (doS ws t).2.ports.length ≤ 8 ∧ (doS ws t).2.Ok m ∧ (noneS (doS ws t).2 = false → (doS ws t).2.done = true → (doS ws t).2.ports ≠ []) := by
  obtain ⟨h1, h2⟩ := t_step hw h
  obtain ⟨h3, h4, h5⟩ := take_most1 (ws := ws) h.kind (by rw [h.ports]; exact Nat.zero_le _)
  have hok := (doS_ok hw h.ok).2
  refine ⟨fun hd => ⟨(h1 hd).1, (h1 hd).2, by rw [h4, hm]⟩, fun hn => ?_, by omega, hok, fun hn hd hp => ?_⟩
  · have hd : (doS ws t).2.done = true := by unfold noneS at hn; simp only [Bool.and_eq_true] at hn; exact hn.1.2
    obtain ⟨e1, e2, e3⟩ := h2 hd hn
    exact ⟨e1, hok, hn, SLive.new hw hok e2 fun j hj => ⟨(e3 j hj).1, (e3 j hj).2.1⟩⟩
  · unfold noneS at hn
    rw [hd, hp, decide_eq_true h5] at hn
    simp at hn
theorem again_step (hw : WordsOk m ws) (h : SLive m ws false full on s) :
    (doS ws s).1 = ws ∧ ((doS ws s).2.done = false → SLive m ws false full true (doS ws s).2) ∧ ((doS ws s).2.done = true → (doS ws s).2.alike = true → full = true) := by
  obtain ⟨h1, h2, h3⟩ := s_step hw h
  exact ⟨h1, h2, fun hd => (h3 hd).1⟩
end Go.Proofs.YtdmmahhnfnefoaaDoor
