/-
  Tables: the plain form of a step that looks for a flow and links a place. No program in sight.
-/
import Derived.Test.YtdmmahhnfnefoaaFb
namespace Go.Proofs.Ytdmmahhnfnefoaa
open Go.RowKit
def refN (u i : Nat) : Int := ((u / 2 ^ (12 * i) % 4096 : Nat) : Int) - 1
def whereN (u : Nat) (id : Int) : Int := if refN u 0 = id then 0 else if refN u 1 = id then 1 else if refN u 2 = id then 2 else if refN u 3 = id then 3 else -1
def fullB (u : Nat) : Bool := decide (whereN u (-1) < 0)
def chgN (u i v : Nat) : Nat := (((u &&& (18446744073709551615 - 4095 * 2 ^ (12 * i))) ||| v * 2 ^ (12 * i)) + 281474976710656) % 18446744073709551616
def withN (u : Nat) (id : Int) : Nat := chgN u (whereN u (-1)).toNat (id + 1).toNat
structure TMove where
  phase : Nat
  id : Nat
  fr : Nat
  to : Nat
  version : Nat
  turn : Nat
deriving DecidableEq
structure TStep where
  kind : Nat
  f1 : Nat
  f2 : Nat
  f3 : Nat
  id : Int
  a : Nat
  b : Nat
  next : Nat
  first : Nat
  word : Nat
  at_ : Nat
  half : Bool
  seen : PWord
  still : Nat
  m : TMove
  v : Nat
  u : Nat
  o0 : Nat
  o1 : Nat
  o2 : Nat
  o3 : Nat
  g0 : Nat
  g1 : Nat
  g2 : Nat
  g3 : Nat
  far : Nat
  second : Bool
  found : Int
  foundAs : PWord
  end_ : Nat
  done : Bool
deriving DecidableEq
def w0 : PWord := ⟨0, 0, 0, 0⟩
/-- A step that begins. -/
def tbegin (kind f1 f2 f3 : Nat) (id : Int) (next : Nat) (n : Nat) : TStep :=
  { kind := kind, f1 := f1, f2 := f2, f3 := f3, id := id, a := (spotsN (keyN f1 f2 f3) n).1, b := (spotsN (keyN f1 f2 f3) n).2, next := next, first := 0, word := 0, at_ := 0, half := false, seen := w0, still := 0, m := ⟨0, 0, 0, 0, 0, 0⟩,
    v := 0, u := 0, o0 := 0, o1 := 0, o2 := 0, o3 := 0, g0 := 0, g1 := 0, g2 := 0, g3 := 0, far := 0, second := false, found := -1, foundAs := w0, end_ := 11, done := false }
def skipN (word : Nat) (id : Int) : Nat → Nat → Nat
  | 0, i => i
  | f + 1, i => if i < 4 ∧ (refN word i < 0 ∨ refN word i = id) then skipN word id f (i + 1) else i
theorem skipN_le (word : Nat) (id : Int) : ∀ f i, i ≤ 4 → skipN word id f i ≤ 4
  | 0, _, h => h
  | f + 1, i, h => by
    unfold skipN
    split
    · exact skipN_le word id f (i + 1) (by omega)
    · exact h
theorem skipN_stop {word : Nat} {id : Int} : ∀ f i, 4 ≤ i + f → ¬ (skipN word id f i < 4 ∧ (refN word (skipN word id f i) < 0 ∨ refN word (skipN word id f i) = id))
  | 0, i, h => by unfold skipN; omega
  | f + 1, i, h => by
    unfold skipN
    split
    · exact skipN_stop f (i + 1) (by omega)
    · assumption
def finishS (s : TStep) (e : Nat) : TStep := { s with done := true, end_ := e }
def lookR (pl : List Nat) (s : TStep) : TStep × Bool :=
  if s.at_ = 4 then (s, true)
  else
    let i := (refN s.word s.at_).toNat
    if s.half = false then
      let w := PWord.of (pl.getD (2 * i) 0)
      if w.st = 1 ∨ w.st = 2 then ({ s with seen := w, half := true }, false)
      else ({ s with seen := w, at_ := s.at_ + 1 }, decide (s.at_ + 1 = 4))
    else if pl.getD (2 * i + 1) 0 = keyN s.f1 s.f2 s.f3 then ({ s with half := false, found := refN s.word s.at_, foundAs := s.seen, done := true, end_ := if s.kind = 1 then 10 else 0 }, false)
    else ({ s with half := false, at_ := s.at_ + 1 }, decide (s.at_ + 1 = 4))
def lookS (pl : List Nat) (s : TStep) : TStep × Bool := lookR pl { s with at_ := skipN s.word s.id 4 s.at_ }
theorem key_eq {n a b c : Nat} (hn : n < 18446744073709551616) (ha : a ≤ 255) (hb : b < 4294967296) (hc : c < 65536) : (n / 281474976710656 = a ∧ n / 65536 % 4294967296 = b ∧ n % 65536 = c) ↔ n = keyN a b c := by
  unfold keyN; omega
theorem key_dec {n a b c : Nat} (hn : n < 18446744073709551616) (ha : a ≤ 255) (hb : b < 4294967296) (hc : c < 65536) : (@decide (([.int .i64 ((n / 281474976710656 : Nat) : Int), .int .u32 ((n / 65536 % 4294967296 : Nat) : Int), .int .u16 ((n % 65536 : Nat) : Int)] : List Value) = [.int .i64 (a : Int), .int .u32 (b : Int), .int .u16 (c : Int)]) (Classical.propDecidable _)) = decide (n = keyN a b c) := by
  rw [decide_eq_decide, ← key_eq hn ha hb hc]
  simp only [List.cons.injEq, Value.int.injEq, true_and, and_true, Int.natCast_inj]
def throughS (s : TStep) (u next : Nat) : TStep := { s with word := u, at_ := 0, half := false, next := next }
def behindS (s : TStep) : Nat := if s.kind = 0 then 4 else if fullB s.first then 6 else 5
def searchS (cs pl : List Nat) (s : TStep) : List Nat × TStep :=
  if s.next = 0 then (cs, throughS { s with first := cs.getD s.a 0 } (cs.getD s.a 0) 1)
  else if s.next = 1 then (cs, if (lookS pl s).2 = true then { (lookS pl s).1 with next := 2 } else (lookS pl s).1)
  else if s.next = 2 then (cs, throughS s (cs.getD s.b 0) 3)
  else if s.next = 3 then (cs, if (lookS pl s).2 = true then { (lookS pl s).1 with next := behindS (lookS pl s).1 } else (lookS pl s).1)
  else if s.next = 4 then (cs, if cs.getD s.a 0 = s.first then finishS s 7 else throughS { s with first := cs.getD s.a 0 } (cs.getD s.a 0) 1)
  else if cs.getD s.a 0 = s.first then (cs.set s.a (withN s.first s.id), finishS { s with next := 0 } 0) else (cs, { s with next := 0 })
/-- What a step of a search wants. -/
def refsB (np u : Nat) : Bool := decide (refN u 0 < np) && decide (refN u 1 < np) && decide (refN u 2 < np) && decide (refN u 3 < np)
def okT (n np : Nat) (cs pl : List Nat) (s : TStep) : Bool :=
  decide (cs.length = n + 1) && decide (n ≤ 1024) && decide (pl.length = 2 * np) && decide (np ≤ 3072) && cs.all (fun u => decide (u < 18446744073709551616)) && pl.all (fun u => decide (u < 18446744073709551616)) &&
  decide (s.a < n) && decide (s.b < n) && decide (s.next ≤ 5) && decide (s.at_ ≤ 4) && refsB np s.word && decide (s.word < 18446744073709551616) && decide (s.first < 18446744073709551616) && decide (-1 ≤ s.id) && decide (s.id < np) && decide (s.f1 ≤ 255) && decide (s.f2 < 4294967296) && decide (s.f3 < 65536) &&
  decide (s.kind ≤ 2) && decide (s.done = false) && (decide (s.next ≠ 5) || (decide (0 ≤ s.id) && !fullB s.first))
structure OkT (n np : Nat) (cs pl : List Nat) (s : TStep) : Prop where
  clen : cs.length = n + 1
  n2 : n ≤ 1024
  plen : pl.length = 2 * np
  np2 : np ≤ 3072
  cw : ∀ j, cs.getD j 0 < 18446744073709551616
  pw : ∀ j, pl.getD j 0 < 18446744073709551616
  a : s.a < n
  b : s.b < n
  next : s.next ≤ 5
  at4 : s.at_ ≤ 4
  refs : ∀ i, i < 4 → refN s.word i < np
  word : s.word < 18446744073709551616
  first : s.first < 18446744073709551616
  id1 : -1 ≤ s.id
  id2 : s.id < np
  f1 : s.f1 ≤ 255
  f2 : s.f2 < 4294967296
  f3 : s.f3 < 65536
  kind : s.kind ≤ 2
  done : s.done = false
  link : s.next = 5 → 0 ≤ s.id ∧ fullB s.first = false
theorem getD_all {l : List Nat} {B : Nat} (h : l.all (fun u => decide (u < B)) = true) (hB : 0 < B) (j : Nat) : l.getD j 0 < B := by
  rw [List.getD_eq_getElem?_getD]
  rcases Nat.lt_or_ge j l.length with hj | hj
  · rw [List.getElem?_eq_getElem hj]
    rw [List.all_eq_true] at h
    exact of_decide_eq_true (h _ (List.getElem_mem hj))
  · rw [List.getElem?_eq_none hj]; exact hB
theorem OkT.of {n np : Nat} {cs pl : List Nat} {s : TStep} (h : okT n np cs pl s = true) : OkT n np cs pl s := by
  unfold okT refsB at h
  simp only [Bool.and_eq_true, decide_eq_true_eq, Bool.or_eq_true, Bool.not_eq_true'] at h
  obtain ⟨⟨⟨⟨⟨⟨⟨⟨⟨⟨⟨⟨⟨⟨⟨⟨⟨⟨⟨⟨h1, h2⟩, h3⟩, h4⟩, h5⟩, h6⟩, h7⟩, h8⟩, h9⟩, h10⟩, h11⟩, h12⟩, h13⟩, h14⟩, h15⟩, h16⟩, h17⟩, h18⟩, h19⟩, h20⟩, h21⟩ := h
  refine ⟨h1, h2, h3, h4, getD_all h5 (by decide), getD_all h6 (by decide), h7, h8, h9, h10, fun i hi => ?_, h12, h13, h14, h15, h16, h17, h18, h19, h20, fun e => ?_⟩
  · obtain ⟨⟨⟨r0, r1⟩, r2⟩, r3⟩ := h11
    match i, hi with
    | 0, _ => exact r0
    | 1, _ => exact r1
    | 2, _ => exact r2
    | 3, _ => exact r3
  · rcases h21 with h | h
    · exact absurd e h
    · exact h
/-- A step to its end: the cells, the step, how many Dos. -/
def runT (pl : List Nat) : Nat → Nat → List Nat → TStep → (List Nat × TStep) × Int
  | 0, _, cs, s => ((cs, s), -1)
  | f + 1, k, cs, s => if (searchS cs pl s).2.done = true then (searchS cs pl s, (k : Int)) else runT pl f (k + 1) (searchS cs pl s).1 (searchS cs pl s).2
def okRun (n np : Nat) (pl : List Nat) : Nat → List Nat → TStep → Bool
  | 0, _, _ => false
  | f + 1, cs, s => okT n np cs pl s && ((searchS cs pl s).2.done || okRun n np pl f (searchS cs pl s).1 (searchS cs pl s).2)
end Go.Proofs.Ytdmmahhnfnefoaa
