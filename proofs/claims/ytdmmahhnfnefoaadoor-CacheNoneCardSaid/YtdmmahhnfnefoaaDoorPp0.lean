/-
  Package pool, plain: its steps as functions, what they keep. No program in sight (drawn out of the texts of PoolBounds and PoolNone).
-/
import Derived.Test.YtdmmahhnfnefoaaDoorSl
import Derived.Test.YtdmmahhnfnefoaaDoorBitsP
import Derived.Laws.BitsAllLaws
namespace Go.Proofs.YtdmmahhnfnefoaaDoor
open Go.RowKit
theorem pow_lt32 {i : Nat} (h : i < 32) : 2 ^ i < 4294967296 := Nat.pow_lt_pow_of_lt (a := 2) (m := 32) (by decide) h
theorem or_lt {a b : Nat} (ha : a < 4294967296) (hb : b < 4294967296) : a ||| b < 4294967296 := Nat.or_lt_two_pow (n := 32) ha hb

structure PStep where
  kind : Nat := 0
  word : Nat := 0
  left : Nat := 0
  most : Nat := 0
  read : Bool := false
  seen : Nat := 0
  words : List Nat := []
  parts : List (Nat × Nat) := []
  ports : List Nat := []
  done : Bool := false
  alike : Bool := false
variable {m n : Nat} {ws : List Nat} {s : PStep}
def picks (u most : Nat) : List Nat := (freesOf u).take most
def takeS (ws : List Nat) (s : PStep) : List Nat × PStep :=
  if s.read = true then
    if ws.getD s.word 0 = s.seen then
      (ws.set s.word (changedN s.seen (s.seen % 4294967296 ||| ofBits (picks s.seen s.most))), { s with read := false, ports := (picks s.seen s.most).map (s.word * 32 + ·), done := true })
    else (ws, { s with read := false })
  else if freesOf (ws.getD s.word 0) = [] then
    (ws, { s with seen := ws.getD s.word 0, words := s.words.set s.word (ws.getD s.word 0), word := (s.word + 1) % s.words.length, left := s.left - 1, done := decide (s.left - 1 = 0) })
  else (ws, { s with seen := ws.getD s.word 0, read := true })
def sameS (ws : List Nat) (s : PStep) : List Nat × PStep :=
  if ws.getD s.word 0 = s.words.getD s.word 0 then
    (ws, { s with word := s.word + 1, done := decide (s.word + 1 = s.words.length), alike := decide (s.word + 1 = s.words.length) })
  else (ws, { s with done := true })
def backS (ws : List Nat) (s : PStep) : List Nat × PStep :=
  match s.parts with
  | [] => (ws, { s with done := true })
  | (k, mask) :: rest =>
    if s.read = true then
      if ws.getD k 0 = s.seen then
        (ws.set k (changedN s.seen (s.seen % 4294967296 &&& (18446744073709551615 - mask))), { s with read := false, parts := rest, done := decide (rest = []) })
      else (ws, { s with read := false })
    else if ws.getD k 0 &&& mask = 0 then (ws, { s with seen := ws.getD k 0, read := false, parts := rest, done := decide (rest = []) })
    else (ws, { s with seen := ws.getD k 0, read := true })
def doS (ws : List Nat) (s : PStep) : List Nat × PStep :=
  if s.done = true then (ws, s) else if s.kind = 0 then takeS ws s else if s.kind = 1 then sameS ws s else backS ws s
structure PStep.Ok (m : Nat) (s : PStep) : Prop where
  kind : s.kind = 0 ∨ s.kind = 1 ∨ s.kind = 2
  seen : s.seen < 18446744073709551616
  words : ∀ u ∈ s.words, u < 18446744073709551616
  takes : s.kind = 0 → s.words.length = m ∧ s.word < m ∧ s.left ≤ m ∧ 1 ≤ s.most ∧ s.most ≤ 32 ∧ (s.done = false → 1 ≤ s.left)
  sames : s.kind = 1 → s.words.length = m ∧ s.word ≤ m ∧ (s.done = false → s.word < m)
  parts : ∀ p ∈ s.parts, p.1 < m ∧ p.2 < 4294967296
  ports : s.ports.length ≤ 32
structure WordsOk (m : Nat) (ws : List Nat) : Prop where
  len : ws.length = m
  pos : 1 ≤ m
  most : m ≤ 32
  lt : ∀ u ∈ ws, u < 18446744073709551616
theorem WordsOk.get {m : Nat} {ws : List Nat} (h : WordsOk m ws) {i : Nat} (hi : i < m) : ws[i]? = some (ws.getD i 0) ∧ ws.getD i 0 < 18446744073709551616 := by
  have hi' : i < ws.length := by rw [h.len]; exact hi
  rw [List.getD_eq_getElem?_getD, List.getElem?_eq_getElem hi']
  exact ⟨rfl, h.lt _ (List.getElem_mem hi')⟩
theorem backS_nil (h : s.parts = []) : backS ws s = (ws, { s with done := true }) := by
  cases s; simp at h; subst h; rfl
theorem backS_cons {k mask : Nat} {rest : List (Nat × Nat)} (h : s.parts = (k, mask) :: rest) : backS ws s =
    if s.read = true then
      if ws.getD k 0 = s.seen then
        (ws.set k (changedN s.seen (s.seen % 4294967296 &&& (18446744073709551615 - mask))), { s with read := false, parts := rest, done := decide (rest = []) })
      else (ws, { s with read := false })
    else if ws.getD k 0 &&& mask = 0 then (ws, { s with seen := ws.getD k 0, read := false, parts := rest, done := decide (rest = []) })
    else (ws, { s with seen := ws.getD k 0, read := true }) := by
  cases s; simp at h; subst h; rfl
def partAt (ps : List (Nat × Nat)) (k : Nat) : Option Nat := ps.findIdx? fun p => p.1 == k
def idxOr (o : Option Nat) : Int := match o with | some i => (i : Int) | none => -1
theorem partAt_some {ps : List (Nat × Nat)} {k c : Nat} (h : ∀ i, i < k → (ps.getD i (0, 0)).1 ≠ c) (hk : k < ps.length) (hc : (ps.getD k (0, 0)).1 = c) : partAt ps c = some k := by
  unfold partAt
  rw [List.findIdx?_eq_some_iff_getElem]
  have e : ∀ i (hi : i < ps.length), (ps.getD i (0, 0)) = ps[i] := fun i hi => by rw [List.getD_eq_getElem?_getD, List.getElem?_eq_getElem hi]; rfl
  refine ⟨hk, by rw [← e k hk]; simpa using hc, fun j hj => ?_⟩
  have := h j hj
  rw [e j (by omega)] at this
  simpa using this
theorem partAt_none {ps : List (Nat × Nat)} {c : Nat} (h : ∀ i, i < ps.length → (ps.getD i (0, 0)).1 ≠ c) : partAt ps c = none := by
  unfold partAt
  rw [List.findIdx?_eq_none_iff]
  intro p hp
  obtain ⟨i, hi, rfl⟩ := List.getElem_of_mem hp
  have := h i hi
  rw [List.getD_eq_getElem?_getD, List.getElem?_eq_getElem hi] at this
  simpa using this
def takeNew (fr mo : Int) (m : Nat) : PStep :=
  { kind := 0, word := (fr % 18446744073709551616).toNat % m, left := m, most := (min (max mo 1) 32).toNat, words := List.replicate m 0 }
theorem takeNew_ok (fr mo : Int) (hm : 1 ≤ m) : (takeNew fr mo m).Ok m where
  kind := .inl rfl
  seen := by simp [takeNew]
  words := by simp [takeNew]
  takes := fun _ => ⟨by simp [takeNew], Nat.mod_lt _ hm, Nat.le_refl _, by simp [takeNew]; omega, by simp [takeNew]; omega, fun _ => hm⟩
  sames := by simp [takeNew]
  parts := by simp [takeNew]
  ports := by simp [takeNew]
def noneS (s : PStep) : Bool := decide (s.kind = 0) && s.done && decide (s.ports = [])
def sameNew (t : PStep) : PStep := { kind := 1, words := t.words }
theorem sameNew_ok {t : PStep} (ht : t.Ok m) (hk : t.kind = 0) (hm : 1 ≤ m) : (sameNew t).Ok m where
  kind := .inr (.inl rfl)
  seen := by simp [sameNew]
  words := ht.words
  takes := by simp [sameNew]
  sames := fun _ => ⟨(ht.takes hk).1, by simp [sameNew], fun _ => by simp [sameNew]; omega⟩
  parts := by simp [sameNew]
  ports := by simp [sameNew]
def isFree (ws : List Nat) (j : Nat) : Bool := !(ws.getD (j / 32) 0).testBit (j % 32)
def freeN (ws : List Nat) (c : Nat) : List Nat := (List.range c).filter (isFree ws)
theorem freeN_succ (ws : List Nat) (c : Nat) : freeN ws (c + 1) = freeN ws c ++ if isFree ws c then [c] else [] := by
  unfold freeN
  rw [List.range_succ, List.filter_append]
  congr 1
  by_cases h : isFree ws c <;> simp [h]
theorem freeN_len (ws : List Nat) (c : Nat) : (freeN ws c).length ≤ c := by
  have := List.length_filter_le (isFree ws) (List.range c)
  simpa [freeN] using this
def newWords (n : Nat) : List Nat :=
  if n % 32 = 0 then List.replicate ((n + 31) / 32) 0
  else (List.replicate ((n + 31) / 32) 0).set ((n + 31) / 32 - 1) (4294967295 &&& (18446744073709551615 - (2 ^ (n % 32) - 1)))
theorem newWords_ok (h1 : 1 ≤ n) (h2 : n ≤ 1024) : WordsOk ((n + 31) / 32) (newWords n) where
  len := by unfold newWords; split <;> simp
  pos := by omega
  most := by omega
  lt := by
    unfold newWords
    split
    · intro u hu; simp at hu; omega
    · intro u hu
      rcases List.mem_or_eq_of_mem_set hu with hu | rfl
      · simp at hu; omega
      · exact Nat.lt_of_le_of_lt Nat.and_le_left (by decide)
def addPart (ps : List (Nat × Nat)) (z : Nat) : List (Nat × Nat) :=
  match partAt ps (z / 32) with
  | some i => ps.set i ((ps.getD i (0, 0)).1, (ps.getD i (0, 0)).2 ||| 2 ^ (z % 32))
  | none => ps ++ [(z / 32, 2 ^ (z % 32))]
def backStep (n : Nat) (ps : List (Nat × Nat)) (z : Int) : List (Nat × Nat) := if 0 ≤ z ∧ z < n then addPart ps z.toNat else ps
def backParts (n : Nat) (l : List Int) : List (Nat × Nat) := l.foldl (backStep n) []
def backNew (n : Nat) (l : List Int) : PStep := { kind := 2, parts := backParts n l }
theorem backParts_snoc (n : Nat) (l : List Int) (z : Int) : backParts n (l ++ [z]) = backStep n (backParts n l) z := by simp [backParts]
theorem addPart_len (ps : List (Nat × Nat)) (z : Nat) : (addPart ps z).length ≤ ps.length + 1 := by
  unfold addPart; split <;> simp
theorem backStep_len (n : Nat) (ps : List (Nat × Nat)) (z : Int) : (backStep n ps z).length ≤ ps.length + 1 := by
  unfold backStep; split
  · exact addPart_len _ _
  · omega
theorem foldl_len (n : Nat) : ∀ (l : List Int) (ps : List (Nat × Nat)), (l.foldl (backStep n) ps).length ≤ ps.length + l.length
  | [], ps => by simp
  | z :: l, ps => by
    have := foldl_len n l (backStep n ps z)
    have := backStep_len n ps z
    simp only [List.foldl_cons, List.length_cons]
    omega
theorem backParts_len (n : Nat) (l : List Int) : (backParts n l).length ≤ l.length := by have := foldl_len n l []; simpa [backParts] using this
theorem pow_lt_32 (z : Nat) : 2 ^ (z % 32) < 4294967296 := pow_lt32 (Nat.mod_lt _ (by decide))
theorem partAt_lt {ps : List (Nat × Nat)} {c i : Nat} (h : partAt ps c = some i) : i < ps.length := by
  unfold partAt at h
  obtain ⟨h', _⟩ := List.findIdx?_eq_some_iff_getElem.1 h
  exact h'
theorem addPart_ok {ps : List (Nat × Nat)} (h : ∀ p ∈ ps, p.1 < m ∧ p.2 < 4294967296) (z : Nat) (hz : z / 32 < m) : ∀ p ∈ addPart ps z, p.1 < m ∧ p.2 < 4294967296 := by
  intro p hp
  unfold addPart at hp
  split at hp
  · rename_i i hi
    have hi' : i < ps.length := by
      unfold partAt at hi
      obtain ⟨h', _⟩ := List.findIdx?_eq_some_iff_getElem.1 hi
      exact h'
    rcases List.mem_or_eq_of_mem_set hp with hp | rfl
    · exact h p hp
    · have := h ps[i] (List.getElem_mem hi')
      rw [List.getD_eq_getElem?_getD, List.getElem?_eq_getElem hi']
      exact ⟨this.1, or_lt this.2 (pow_lt_32 z)⟩
  · rcases List.mem_append.1 hp with hp | hp
    · exact h p hp
    · simp at hp
      subst hp
      exact ⟨hz, pow_lt_32 z⟩
theorem backParts_ok (hn : n ≤ 32 * m) : ∀ (l : List Int) (ps : List (Nat × Nat)), (∀ p ∈ ps, p.1 < m ∧ p.2 < 4294967296) → ∀ p ∈ l.foldl (backStep n) ps, p.1 < m ∧ p.2 < 4294967296
  | [], ps, h => by simpa using h
  | z :: l, ps, h => by
    rw [List.foldl_cons]
    refine backParts_ok hn l _ ?_
    unfold backStep
    split
    · exact addPart_ok h _ (by omega)
    · exact h
theorem backNew_ok (hn : n ≤ 32 * m) (l : List Int) : (backNew n l).Ok m where
  kind := .inr (.inr rfl)
  seen := by simp [backNew]
  words := by simp [backNew]
  takes := by simp [backNew]
  sames := by simp [backNew]
  parts := backParts_ok hn l [] (by simp)
  ports := by simp [backNew]
theorem picks_mem {u most i : Nat} (h : i ∈ picks u most) : i < 32 := (mem_freesOf.1 (List.mem_of_mem_take h)).1
theorem picks_lt (u most : Nat) : ofBits (picks u most) < 4294967296 := ofBits_lt _ 32 fun _ h => picks_mem h
theorem WordsOk.set (h : WordsOk m ws) (i : Nat) {u : Nat} (hu : u < 18446744073709551616) : WordsOk m (ws.set i u) where
  len := by rw [List.length_set]; exact h.len
  pos := h.pos
  most := h.most
  lt := fun x hx => by
    rcases List.mem_or_eq_of_mem_set hx with hx | rfl
    · exact h.lt x hx
    · exact hu
theorem getD_lt (h : ∀ u ∈ ws, u < 18446744073709551616) (i : Nat) : ws.getD i 0 < 18446744073709551616 := by
  rw [List.getD_eq_getElem?_getD]
  by_cases hi : i < ws.length
  · rw [List.getElem?_eq_getElem hi]; exact h _ (List.getElem_mem hi)
  · rw [List.getElem?_eq_none (by omega)]; simp
theorem doS_ok (hw : WordsOk m ws) (hs : s.Ok m) : WordsOk m (doS ws s).1 ∧ (doS ws s).2.Ok m := by
  unfold doS
  by_cases hd : s.done = true
  · rw [if_pos hd]; exact ⟨hw, hs⟩
  rw [if_neg hd]
  by_cases h0 : s.kind = 0
  · rw [if_pos h0]
    obtain ⟨t1, t2, t3, t4, t5, t6⟩ := hs.takes h0
    have t6 := t6 (by simpa using hd)
    have hu := getD_lt hw.lt s.word
    unfold takeS
    by_cases hr : s.read = true
    · rw [if_pos hr]
      by_cases he : ws.getD s.word 0 = s.seen
      · rw [if_pos he]
        refine ⟨hw.set _ (changedN_lt (or_lt (by omega) (picks_lt _ _))), ⟨hs.kind, hs.seen, hs.words, fun _ => ⟨t1, t2, t3, t4, t5, fun h => by simp at h⟩, fun h => by simp [h0] at h, hs.parts, ?_⟩⟩
        simp only [List.length_map, picks, List.length_take]
        have := freesOf_len s.seen
        omega
      · rw [if_neg he]
        exact ⟨hw, ⟨hs.kind, hs.seen, hs.words, hs.takes, hs.sames, hs.parts, hs.ports⟩⟩
    · rw [if_neg hr]
      by_cases hf : freesOf (ws.getD s.word 0) = []
      · rw [if_pos hf]
        refine ⟨hw, ⟨hs.kind, hu, fun x hx => ?_, fun _ => ⟨by simp [t1], ?_, by simp; omega, t4, t5, fun h => ?_⟩, fun h => by simp [h0] at h, hs.parts, hs.ports⟩⟩
        · rcases List.mem_or_eq_of_mem_set hx with hx | rfl
          · exact hs.words x hx
          · exact hu
        · simp only [t1]
          exact Nat.mod_lt _ (by omega)
        · have h' : decide (s.left - 1 = 0) = false := h
          have := of_decide_eq_false h'
          show 1 ≤ s.left - 1
          omega
      · rw [if_neg hf]
        exact ⟨hw, ⟨hs.kind, hu, hs.words, hs.takes, hs.sames, hs.parts, hs.ports⟩⟩
  · rw [if_neg h0]
    by_cases h1 : s.kind = 1
    · rw [if_pos h1]
      obtain ⟨t1, t2, t3⟩ := hs.sames h1
      have t3 := t3 (by simpa using hd)
      unfold sameS
      by_cases he : ws.getD s.word 0 = s.words.getD s.word 0
      · rw [if_pos he]
        refine ⟨hw, ⟨hs.kind, hs.seen, hs.words, fun h => absurd h h0, fun _ => ⟨t1, by simp; omega, fun h => ?_⟩, hs.parts, hs.ports⟩⟩
        simp [t1] at h
        simp; omega
      · rw [if_neg he]
        exact ⟨hw, ⟨hs.kind, hs.seen, hs.words, fun h => absurd h h0, fun _ => ⟨t1, t2, fun h => by simp at h⟩, hs.parts, hs.ports⟩⟩
    · rw [if_neg h1]
      match hp : s.parts with
      | [] =>
        rw [backS_nil hp]
        exact ⟨hw, ⟨hs.kind, hs.seen, hs.words, fun h => absurd h h0, fun h => absurd h h1, hs.parts, hs.ports⟩⟩
      | (k, mask) :: rest =>
        rw [backS_cons hp]
        have hpp : ∀ p ∈ rest, p.1 < m ∧ p.2 < 4294967296 := fun p hp' => hs.parts p (by rw [hp]; exact List.mem_cons_of_mem _ hp')
        by_cases hr : s.read = true
        · rw [if_pos hr]
          by_cases he : ws.getD k 0 = s.seen
          · rw [if_pos he]
            exact ⟨hw.set _ (changedN_lt (Nat.lt_of_le_of_lt Nat.and_le_left (by omega))), ⟨hs.kind, hs.seen, hs.words, fun h => absurd h h0, fun h => absurd h h1, hpp, hs.ports⟩⟩
          · rw [if_neg he]
            exact ⟨hw, ⟨hs.kind, hs.seen, hs.words, hs.takes, hs.sames, hs.parts, hs.ports⟩⟩
        · rw [if_neg hr]
          have hu := getD_lt hw.lt k
          by_cases he : ws.getD k 0 &&& mask = 0
          · rw [if_pos he]
            exact ⟨hw, ⟨hs.kind, hu, hs.words, fun h => absurd h h0, fun h => absurd h h1, hpp, hs.ports⟩⟩
          · rw [if_neg he]
            exact ⟨hw, ⟨hs.kind, hu, hs.words, hs.takes, hs.sames, hs.parts, hs.ports⟩⟩
def runS : Nat → Nat → List Nat → PStep → (List Nat × PStep) × Int
  | 0, _, ws, s => ((ws, s), -1)
  | f + 1, n, ws, s => if (doS ws s).2.done = true then (doS ws s, (n : Int)) else runS f (n + 1) (doS ws s).1 (doS ws s).2
theorem runS_ok (hw : WordsOk m ws) (hs : s.Ok m) : ∀ f k, WordsOk m (runS f k ws s).1.1 ∧ (runS f k ws s).1.2.Ok m := by
  intro f
  induction f generalizing ws s with
  | zero => intro k; exact ⟨hw, hs⟩
  | succ f ih =>
    intro k
    have := doS_ok hw hs
    unfold runS
    split
    · exact this
    · exact ih this.1 this.2 _
theorem wrap_pow {i : Nat} (h : i < 32) : IntKind.u64.wrap ((2 : Int) ^ i) = ((2 ^ i : Nat) : Int) := by
  have : 2 ^ i < 4294967296 := pow_lt32 h
  rw [IntKind.wrap_u64, show ((2 : Int) ^ i) = ((2 ^ i : Nat) : Int) by norm_cast]
  generalize 2 ^ i = p at *
  omega
theorem xor_all {u : Nat} (hu : u < 18446744073709551616) : bits BinOp.xor IntKind.u64 IntKind.u64.max (u : Int) = ((18446744073709551615 - u : Nat) : Int) := by
  have := u64_xor_nat 18446744073709551615 u (by decide) hu
  rw [show IntKind.u64.max = ((18446744073709551615 : Nat) : Int) from rfl, this]
  congr 1
  apply Nat.eq_of_testBit_eq
  intro j
  have h1 : (18446744073709551615 : Nat).testBit j = decide (j < 64) := Nat.testBit_two_pow_sub_one 64 j
  have h2 := Nat.testBit_two_pow_sub_succ (n := 64) (x := u) hu j
  rw [show (2 : Nat) ^ 64 - (u + 1) = 18446744073709551615 - u by omega] at h2
  rw [Nat.testBit_xor, h1, h2]
  by_cases hj : j < 64
  · simp [hj]
  · have : u.testBit j = false := Nat.testBit_lt_two_pow (Nat.lt_of_lt_of_le hu (Nat.pow_le_pow_right (show 0 < 2 by decide) (show 64 ≤ j by omega)))
    simp [hj, this]
theorem picks_len (u most : Nat) : (picks u most).length = min most (freesOf u).length := by simp [picks]
theorem frees_key {u : Nat} (hu : u < 18446744073709551616) : bits BinOp.and IntKind.u64 (bits BinOp.xor IntKind.u64 IntKind.u64.max (u : Int)) 4294967295 = ((ofBits (freesOf u) : Nat) : Int) := by
  rw [xor_all hu, ← ofBits_frees _ hu]
  exact u64_and_nat _ 4294967295 (by omega) (by decide)
theorem grab_go {u most k : Nat} : (¬ ofBits ((freesOf u).drop k) = 0 ∧ k < most) ↔ k < (picks u most).length := by
  rw [picks_len, ofBits_eq_zero, List.drop_eq_nil_iff]
  omega
theorem frees_lt (u k : Nat) : ofBits ((freesOf u).drop k) < 4294967296 := ofBits_lt _ 32 fun i hi => (mem_freesOf.1 (List.mem_of_mem_drop hi)).1
theorem grab_next {u k : Nat} (h : k < (freesOf u).length) :
    Lib.ctz 64 (ofBits ((freesOf u).drop k)) = (freesOf u)[k] ∧ (freesOf u)[k] < 32 ∧
      ofBits ((freesOf u).drop k) &&& (18446744073709551615 - 2 ^ (freesOf u)[k]) = ofBits ((freesOf u).drop (k + 1)) := by
  have e := List.drop_eq_getElem_cons h
  have hlt : ∀ j ∈ freesOf u, j < 32 := fun j hj => (mem_freesOf.1 hj).1
  have h1 : ∀ j ∈ (freesOf u).drop (k + 1), (freesOf u)[k] < j := rises_drop (freesOf_rises u) e
  have h2 : ∀ j ∈ (freesOf u).drop (k + 1), j < 64 := fun j hj => by have := hlt j (List.mem_of_mem_drop hj); omega
  have h3 : (freesOf u)[k] < 32 := hlt _ (List.getElem_mem h)
  rw [e]
  exact ⟨ctz_ofBits _ _ h1 (by omega) h2, h3, ofBits_tail _ _ h1 h2 (by omega)⟩
theorem ofBits_snoc (l : List Nat) (i : Nat) : ofBits (l ++ [i]) = ofBits l ||| 2 ^ i := by
  induction l with
  | nil => simp [ofBits]
  | cons j l ih => simp [ofBits, ih, Nat.or_assoc]
theorem ofBits_take_lt (u k : Nat) : ofBits ((freesOf u).take k) < 4294967296 := ofBits_lt _ 32 fun i hi => (mem_freesOf.1 (List.mem_of_mem_take hi)).1
def grabS (ws : List Nat) (s : PStep) : List Nat × PStep :=
  if ws.getD s.word 0 = s.seen then
    (ws.set s.word (changedN s.seen (s.seen % 4294967296 ||| ofBits (picks s.seen s.most))), { s with ports := (picks s.seen s.most).map (s.word * 32 + ·), done := true })
  else (ws, s)
theorem low_test {u : Nat} (hu : u < 18446744073709551616) : bits BinOp.and IntKind.u64 (u : Int) 4294967295 = ((u % 4294967296 : Nat) : Int) := by
  have := u64_and_nat u 4294967295 hu (by decide)
  rw [show ((4294967295 : Nat) : Int) = 4294967295 from rfl] at this
  rw [this, Nat.and_two_pow_sub_one_eq_mod u 32]
theorem and_nat {u k : Nat} (hu : u < 18446744073709551616) (hk : k < 4294967296) : bits BinOp.and IntKind.u64 (u : Int) (k : Int) = ((u &&& k : Nat) : Int) := u64_and_nat u k hu (by omega)
theorem andNot_key {u mask : Nat} (hu : u < 18446744073709551616) (hm : mask < 4294967296) : bits BinOp.andNot IntKind.u64 ((u : Int) % 4294967296) (mask : Int) = ((u % 4294967296 &&& (18446744073709551615 - mask) : Nat) : Int) := by
  have := u64_andNot_nat (u % 4294967296) mask (by omega) (by omega)
  rw [← this]
  congr 1
theorem takeS_read (h : s.read = true) : takeS ws s = grabS ws { s with read := false } := by
  unfold takeS grabS
  rw [if_pos h]
end Go.Proofs.YtdmmahhnfnefoaaDoor
