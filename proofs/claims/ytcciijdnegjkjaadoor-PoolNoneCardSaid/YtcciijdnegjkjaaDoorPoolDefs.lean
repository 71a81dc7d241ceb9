/-
  Package pool: its steps as plain functions; how a pool and a step lie in memory.
-/
import Derived.Test.YtcciijdnegjkjaaDoorRow
import Derived.Test.YtcciijdnegjkjaaDoorBitsP
namespace Go.Proofs.YtcciijdnegjkjaaDoor
open Go.RowKit

structure PStep where
  kind : Nat := 0
  word : Nat := 0
  left : Nat := 0
  most : Nat := 0
  read : Bool := false
  seen : Nat := 0
  words : List Nat := []
  parts : List (Nat × Nat) := []
  ports : List Nat := []
  done : Bool := false
  alike : Bool := false

/-- What a Take takes of a word. -/
def picks (u most : Nat) : List Nat := (freesOf u).take most

def takeS (ws : List Nat) (s : PStep) : List Nat × PStep :=
  if s.read = true then
    if ws.getD s.word 0 = s.seen then
      (ws.set s.word (changedN s.seen (s.seen % 4294967296 ||| ofBits (picks s.seen s.most))), { s with read := false, ports := (picks s.seen s.most).map (s.word * 32 + ·), done := true })
    else (ws, { s with read := false })
  else if freesOf (ws.getD s.word 0) = [] then
    (ws, { s with seen := ws.getD s.word 0, words := s.words.set s.word (ws.getD s.word 0), word := (s.word + 1) % s.words.length, left := s.left - 1, done := decide (s.left - 1 = 0) })
  else (ws, { s with seen := ws.getD s.word 0, read := true })

def sameS (ws : List Nat) (s : PStep) : List Nat × PStep :=
  if ws.getD s.word 0 = s.words.getD s.word 0 then
    (ws, { s with word := s.word + 1, done := decide (s.word + 1 = s.words.length), alike := decide (s.word + 1 = s.words.length) })
  else (ws, { s with done := true })

def backS (ws : List Nat) (s : PStep) : List Nat × PStep :=
  match s.parts with
  | [] => (ws, { s with done := true })
  | (k, mask) :: rest =>
    if s.read = true then
      if ws.getD k 0 = s.seen then
        (ws.set k (changedN s.seen (s.seen % 4294967296 &&& (18446744073709551615 - mask))), { s with read := false, parts := rest, done := decide (rest = []) })
      else (ws, { s with read := false })
    else if ws.getD k 0 &&& mask = 0 then (ws, { s with seen := ws.getD k 0, read := false, parts := rest, done := decide (rest = []) })
    else (ws, { s with seen := ws.getD k 0, read := true })

def doS (ws : List Nat) (s : PStep) : List Nat × PStep :=
  if s.done = true then (ws, s) else if s.kind = 0 then takeS ws s else if s.kind = 1 then sameS ws s else backS ws s

/-- What a step looks like, beside a pool of so many words. -/
structure PStep.Ok (m : Nat) (s : PStep) : Prop where
  kind : s.kind = 0 ∨ s.kind = 1 ∨ s.kind = 2
  seen : s.seen < 18446744073709551616
  words : ∀ u ∈ s.words, u < 18446744073709551616
  takes : s.kind = 0 → s.words.length = m ∧ s.word < m ∧ s.left ≤ m ∧ 1 ≤ s.most ∧ s.most ≤ 32 ∧ (s.done = false → 1 ≤ s.left)
  sames : s.kind = 1 → s.words.length = m ∧ s.word ≤ m ∧ (s.done = false → s.word < m)
  parts : ∀ p ∈ s.parts, p.1 < m ∧ p.2 < 4294967296
  ports : s.ports.length ≤ 32

/-- A pool's words. -/
structure WordsOk (m : Nat) (ws : List Nat) : Prop where
  len : ws.length = m
  pos : 1 ≤ m
  most : m ≤ 32
  lt : ∀ u ∈ ws, u < 18446744073709551616

theorem WordsOk.get {m : Nat} {ws : List Nat} (h : WordsOk m ws) {i : Nat} (hi : i < m) : ws[i]? = some (ws.getD i 0) ∧ ws.getD i 0 < 18446744073709551616 := by
  have hi' : i < ws.length := by rw [h.len]; exact hi
  rw [List.getD_eq_getElem?_getD, List.getElem?_eq_getElem hi']
  exact ⟨rfl, h.lt _ (List.getElem_mem hi')⟩

def u64s (l : List Nat) : List Value := l.map fun (n : Nat) => .int .u64 (n : Int)
def i64s (l : List Nat) : List Value := l.map fun (n : Nat) => .int .i64 (n : Int)
def partCells (l : List (Nat × Nat)) : List Value := l.flatMap fun p => [.int .i64 (p.1 : Int), .int .u64 (p.2 : Int)]

theorem length_u64s (l : List Nat) : (u64s l).length = l.length := by simp [u64s]
theorem length_i64s (l : List Nat) : (i64s l).length = l.length := by simp [i64s]
theorem get_u64s {l : List Nat} {i u : Nat} (h : l[i]? = some u) : (u64s l)[i]? = some (.int .u64 (u : Int)) := by simp [u64s, h]
theorem get_i64s {l : List Nat} {i u : Nat} (h : l[i]? = some u) : (i64s l)[i]? = some (.int .i64 (u : Int)) := by simp [i64s, h]
theorem u64s_set (l : List Nat) (i u : Nat) : (u64s l).set i (.int .u64 (u : Int)) = u64s (l.set i u) := by simp [u64s, List.map_set]
theorem i64s_set (l : List Nat) (i u : Nat) : (i64s l).set i (.int .i64 (u : Int)) = i64s (l.set i u) := by simp [i64s, List.map_set]
theorem partCells_cons (p : Nat × Nat) (l : List (Nat × Nat)) : partCells (p :: l) = .int .i64 (p.1 : Int) :: .int .u64 (p.2 : Int) :: partCells l := rfl
theorem length_partCells (l : List (Nat × Nat)) : (partCells l).length = l.length * 2 := by
  induction l with
  | nil => rfl
  | cons p l ih => rw [partCells_cons]; simp [ih]; omega

/-- A pool in memory. -/
def PoolSL (bp bc bg n : Nat) (ws : List Nat) : SL :=
  SL.blk bp (.cells #[.pointer (some ⟨bc, 0, none⟩), .int .i64 (n : Int)] 52 (0, 0)) *
    (SL.blk bc (.cells #[.slice (some ⟨bg, 0, none⟩) ws.length ws.length, .int .u32 0, .int .i32 0, .int .u32 0] 77 (0, 0)) *
      SL.blk bg (.cells (u64s ws).toArray 89 (0, 0)))

/-- A step's own block. -/
def StepB (sp : Nat) (s : PStep) (vw vp vo : Value) : SL :=
  SL.blk sp (.cells #[.int .i64 (s.kind : Int), .int .i64 (s.word : Int), .int .i64 (s.left : Int), .int .i64 (s.most : Int), .bool s.read, .int .u64 (s.seen : Int), vw, vp, vo, .bool s.done, .bool s.alike] 55 (0, 0))

/-- What it refers to. -/
def StepR (s : PStep) (vw vp vo : Value) : SL :=
  Row 23 1 vw s.words.length (u64s s.words) * (RowAt 58 2 vp s.parts.length (partCells s.parts) * Row 3 1 vo s.ports.length (i64s s.ports))

/-- A step in memory. -/
def StepSL (sp : Nat) (s : PStep) : SL := SL.ex fun v : Value × Value × Value => StepB sp s v.1 v.2.1 v.2.2 * StepR s v.1 v.2.1 v.2.2

variable {W w : World} {F : SL} {bp bc bg n sp : Nat} {ws : List Nat} {s : PStep} {vw vp vo : Value}

theorem StepSL.open (h : Sat W w (StepSL sp s * F)) : ∃ vw vp vo, Sat W w (StepB sp s vw vp vo * (StepR s vw vp vo * F)) := by
  obtain ⟨⟨a, b, c⟩, h⟩ := h.ex_out
  exact ⟨a, b, c, h.ac (SL.sep_assoc _ _ _)⟩
theorem StepSL.shut (h : Sat W w (StepB sp s vw vp vo * (StepR s vw vp vo * F))) : Sat W w (StepSL sp s * F) :=
  Sat.ex_in (P := fun v : Value × Value × Value => StepB sp s v.1 v.2.1 v.2.2 * StepR s v.1 v.2.1 v.2.2) (vw, vp, vo) (h.ac (SL.sep_assoc _ _ _).symm)

theorem StepSL.make {cs : Array Value} {nw np no : Nat} {xw xp xo : List Value}
    (h : Sat W w (SL.blk sp (.cells cs 55 (0, 0)) * (Row 23 1 vw nw xw * (RowAt 58 2 vp np xp * (Row 3 1 vo no xo * F)))))
    (e : cs = #[.int .i64 (s.kind : Int), .int .i64 (s.word : Int), .int .i64 (s.left : Int), .int .i64 (s.most : Int), .bool s.read, .int .u64 (s.seen : Int), vw, vp, vo, .bool s.done, .bool s.alike])
    (e1 : nw = s.words.length) (e2 : xw = u64s s.words) (e3 : np = s.parts.length) (e4 : xp = partCells s.parts) (e5 : no = s.ports.length) (e6 : xo = i64s s.ports) : Sat W w (StepSL sp s * F) := by
  subst e e1 e2 e3 e4 e5 e6
  refine StepSL.shut (vw := vw) (vp := vp) (vo := vo) (h.ac ?_)
  unfold StepB StepR
  ac_rfl

theorem PoolSL.facts (h : Sat W w (PoolSL bp bc bg n ws * F)) :
    w.cell? ⟨bp, 0, none⟩ = some (.pointer (some ⟨bc, 0, none⟩)) ∧ w.cell? ⟨bp, 1, none⟩ = some (.int .i64 (n : Int)) ∧ w.cell? ⟨bc, 0, none⟩ = some (.slice (some ⟨bg, 0, none⟩) ws.length ws.length) ∧
      (∀ (i u : Nat), ws[i]? = some u → w.cell? ⟨bg, i, none⟩ = some (.int .u64 (u : Int))) ∧ (∀ i, w.frozen? ⟨bg, i, none⟩ = false) := by
  unfold PoolSL at h
  have h1 := h.ac (SL.sep_assoc _ _ _)
  have h2 := h1.drop.ac (SL.sep_assoc _ _ _)
  have h3 := h2.drop
  exact ⟨h1.cell 0, h1.cell 1, h2.cell 0, fun i u hi => by rw [h3.cell]; simpa using get_u64s hi, fun i => h3.free i⟩

theorem Sat.poolSet (h : Sat W w (PoolSL bp bc bg n ws * F)) (i u : Nat) {v : Value} (hv : Value.int .u64 (u : Int) = v := by rfl) : Sat W (w.setCell ⟨bg, i, none⟩ v) (PoolSL bp bc bg n (ws.set i u) * F) := by
  subst hv
  unfold PoolSL at h ⊢
  have h1 : Sat W w (SL.blk bg (.cells (u64s ws).toArray 89 (0, 0)) * (SL.blk bp (.cells #[.pointer (some ⟨bc, 0, none⟩), .int .i64 (n : Int)] 52 (0, 0)) * (SL.blk bc (.cells #[.slice (some ⟨bg, 0, none⟩) ws.length ws.length, .int .u32 0, .int .i32 0, .int .u32 0] 77 (0, 0)) * F))) := h.ac (by ac_rfl)
  have h2 := h1.set i (.int .u64 (u : Int))
  rw [List.setIfInBounds_toArray, u64s_set] at h2
  rw [List.length_set]
  exact h2.ac (by ac_rfl)

theorem PoolSL.has : SL.Has (PoolSL bp bc bg n ws) bp ∧ SL.Has (PoolSL bp bc bg n ws) bc ∧ SL.Has (PoolSL bp bc bg n ws) bg :=
  ⟨(SL.Has.blk _ _).left _, ((SL.Has.blk _ _).left _).right _, ((SL.Has.blk _ _).right _).right _⟩
theorem StepB.has : SL.Has (StepB sp s vw vp vo) sp := SL.Has.blk _ _
theorem StepSL.has : SL.Has (StepSL sp s) sp := fun _ ⟨_, p⟩ => StepB.has.left _ _ p

theorem StepB.facts (h : Sat W w (StepB sp s vw vp vo * F)) :
    w.cell? ⟨sp, 0, none⟩ = some (.int .i64 (s.kind : Int)) ∧ w.cell? ⟨sp, 1, none⟩ = some (.int .i64 (s.word : Int)) ∧ w.cell? ⟨sp, 2, none⟩ = some (.int .i64 (s.left : Int)) ∧ w.cell? ⟨sp, 3, none⟩ = some (.int .i64 (s.most : Int)) ∧
      w.cell? ⟨sp, 4, none⟩ = some (.bool s.read) ∧ w.cell? ⟨sp, 5, none⟩ = some (.int .u64 (s.seen : Int)) ∧ w.cell? ⟨sp, 6, none⟩ = some vw ∧ w.cell? ⟨sp, 7, none⟩ = some vp ∧ w.cell? ⟨sp, 8, none⟩ = some vo ∧
      w.cell? ⟨sp, 9, none⟩ = some (.bool s.done) ∧ w.cell? ⟨sp, 10, none⟩ = some (.bool s.alike) ∧ (∀ i, w.frozen? ⟨sp, i, none⟩ = false) := by
  unfold StepB at h
  exact ⟨h.cell 0, h.cell 1, h.cell 2, h.cell 3, h.cell 4, h.cell 5, h.cell 6, h.cell 7, h.cell 8, h.cell 9, h.cell 10, fun i => h.free i⟩

theorem Sat.stWord (h : Sat W w (StepB sp s vw vp vo * F)) (x : Nat) {v : Value} (hv : Value.int .i64 (x : Int) = v := by rfl) : Sat W (w.setCell ⟨sp, 1, none⟩ v) (StepB sp { s with word := x } vw vp vo * F) := hv ▸ h.set 1 _
theorem Sat.stLeft (h : Sat W w (StepB sp s vw vp vo * F)) (x : Nat) {v : Value} (hv : Value.int .i64 (x : Int) = v := by rfl) : Sat W (w.setCell ⟨sp, 2, none⟩ v) (StepB sp { s with left := x } vw vp vo * F) := hv ▸ h.set 2 _
theorem Sat.stRead (h : Sat W w (StepB sp s vw vp vo * F)) (x : Bool) {v : Value} (hv : Value.bool x = v := by rfl) : Sat W (w.setCell ⟨sp, 4, none⟩ v) (StepB sp { s with read := x } vw vp vo * F) := hv ▸ h.set 4 _
theorem Sat.stSeen (h : Sat W w (StepB sp s vw vp vo * F)) (x : Nat) {v : Value} (hv : Value.int .u64 (x : Int) = v := by rfl) : Sat W (w.setCell ⟨sp, 5, none⟩ v) (StepB sp { s with seen := x } vw vp vo * F) := hv ▸ h.set 5 _
theorem Sat.stWords (h : Sat W w (StepB sp s vw vp vo * F)) (x : List Nat) : Sat W w (StepB sp { s with words := x } vw vp vo * F) := h
theorem Sat.stVparts (h : Sat W w (StepB sp s vw vp vo * F)) (x : List (Nat × Nat)) (v : Value) : Sat W (w.setCell ⟨sp, 7, none⟩ v) (StepB sp { s with parts := x } vw v vo * F) := h.set 7 _
theorem Sat.stVports (h : Sat W w (StepB sp s vw vp vo * F)) (x : List Nat) (v : Value) : Sat W (w.setCell ⟨sp, 8, none⟩ v) (StepB sp { s with ports := x } vw vp v * F) := h.set 8 _
theorem Sat.stDone (h : Sat W w (StepB sp s vw vp vo * F)) (x : Bool) {v : Value} (hv : Value.bool x = v := by rfl) : Sat W (w.setCell ⟨sp, 9, none⟩ v) (StepB sp { s with done := x } vw vp vo * F) := hv ▸ h.set 9 _
theorem Sat.stAlike (h : Sat W w (StepB sp s vw vp vo * F)) (x : Bool) {v : Value} (hv : Value.bool x = v := by rfl) : Sat W (w.setCell ⟨sp, 10, none⟩ v) (StepB sp { s with alike := x } vw vp vo * F) := hv ▸ h.set 10 _

end Go.Proofs.YtcciijdnegjkjaaDoor
