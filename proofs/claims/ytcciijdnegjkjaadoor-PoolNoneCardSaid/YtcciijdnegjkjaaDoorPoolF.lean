/-
  The law's own example: takes.
-/
import Derived.Test.YtcciijdnegjkjaaDoorPoolE
namespace Go.Proofs.YtcciijdnegjkjaaDoor
open Go.RowKit

variable {W w : World} {F : SL} {bp bc bg n sp m : Nat} {ws : List Nat} {s : PStep}

/-- The states of the example. -/
def ex1 : List Nat × PStep := doS (newWords 40) (takeNew 0 2 2)
def ex2 : List Nat × PStep := doS ex1.1 ex1.2
def ex3 : (List Nat × PStep) × Int := runS 299 1 ex2.1 (backNew 40 [1])

theorem ex1_done : ex1.2.done = false := by decide +kernel
theorem ex2_done : ex2.2.done = true := by decide +kernel
theorem ex2_ports : ex2.2.ports = [0, 1] := by decide +kernel
theorem ex2_free : (freeN ex2.1 64).length = 38 := by decide +kernel
theorem ex3_run : ex3.2 = 2 := by decide +kernel
theorem ex3_free : (freeN ex3.1.1 64).length = 39 := by decide +kernel

theorem runS_ok (hw : WordsOk m ws) (hs : s.Ok m) : ∀ f k, WordsOk m (runS f k ws s).1.1 ∧ (runS f k ws s).1.2.Ok m := by
  intro f
  induction f generalizing ws s with
  | zero => intro k; exact ⟨hw, hs⟩
  | succ f ih =>
    intro k
    have := doS_ok hw hs
    unfold runS
    split
    · exact this
    · exact ih this.1 this.2 _

theorem ints_one (z : Int) : ints [z] = [.int .i64 z] := rfl

theorem sep_a (A B C D E : SL) : A * (B * (C * (D * E))) = A * (D * (C * (B * E))) := by ac_rfl
theorem sep_b (T R P S G F : SL) : T * (R * (P * (S * (G * F)))) = R * (S * (G * (P * (T * F)))) := by ac_rfl

theorem Do_to (hT : Tab W) (hw : WordsOk m ws) (hs : s.Ok m) (h : Sat W w (PoolSL bp bc bg n ws * (StepSL sp s * F))) {A : List Nat × PStep} (hA : doS ws s = A) {b : Bool} (hb : A.2.done = b) :
    Calls Tryd.prog 12 #[.pointer (some ⟨bp, 0, none⟩), .pointer (some ⟨sp, 0, none⟩)] w (Gives W (.bool b) (PoolSL bp bc bg n A.1 * (StepSL sp A.2 * F))) := by
  subst hA hb
  exact Do_any hT hw hs h

theorem run_to (hT : Tab W) (hw : WordsOk m ws) (hs : s.Ok m) (h : Sat W w (PoolSL bp bc bg n ws * (StepSL sp s * F))) {A : (List Nat × PStep) × Int} (hA : runS 299 1 ws s = A) {z : Int} (hz : A.2 = z) :
    Calls Tryd.prog 13 #[.pointer (some ⟨bp, 0, none⟩), .pointer (some ⟨sp, 0, none⟩)] w (Gives W (.int .i64 z) (PoolSL bp bc bg n A.1.1 * (StepSL sp A.1.2 * F))) := by
  subst hA hz
  exact run_any hT hw hs h

theorem Free_to (hw : WordsOk m ws) (h : Sat W w (PoolSL bp bc bg n ws * F)) {l : List Nat} (hl : freeN ws (32 * m) = l) :
    Calls Tryd.prog 14 #[.pointer (some ⟨bp, 0, none⟩)] w (NewRow W 3 1 l.length (i64s l) (PoolSL bp bc bg n ws * F)) := by
  subst hl
  exact Free_any hw h

theorem Got_to (h : Sat W w (StepSL sp s * F)) {l : List Nat} (hl : s.ports = l) (hb : l.length ≤ 4294967296) :
    Calls Tryd.prog 17 #[.pointer (some ⟨sp, 0, none⟩)] w (NewRow W 3 1 l.length (i64s l) (StepSL sp s * F)) := by
  subst hl
  exact Got_any hb h

/-- A slice of the call's own, made of a literal. -/
theorem Row.lit {e : TypeId} {cs : Array Value} {k : Nat} (h : Sat W w F) (hk : cs.size = k) (hb : k ≤ 4294967296) :
    Sat W (w.alloc (.cells cs e)) (Row e 1 (.slice (some ⟨w.heap.size, 0, none⟩) k k) k cs.toList * F) := by
  have := Row.blk_in (size := 1) (h.alloc (.cells cs e)) k (Nat.le_refl _) (by unfold maxLen; omega) (by omega)
  rwa [List.take_of_length_le (by simp; omega)] at this

set_option maxRecDepth 100000 in
set_option maxHeartbeats 1600000 in
theorem takes_any (hT : Tab W) (h : Sat W w F) : Calls Tryd.prog 7 #[] w (Gives W (.bool true) F) := by
  have w0 : WordsOk 2 (newWords 40) := newWords_ok (n := 40) (by omega) (by omega)
  have s0 : (takeNew 0 2 2).Ok 2 := takeNew_ok 0 2 (by omega)
  have o1 : WordsOk 2 ex1.1 ∧ ex1.2.Ok 2 := doS_ok w0 s0
  have o2 : WordsOk 2 ex2.1 ∧ ex2.2.Ok 2 := doS_ok o1.1 o1.2
  have o4 : (backNew 40 [1]).Ok 2 := backNew_ok (by omega) [1]
  have o3 : WordsOk 2 ex3.1.1 ∧ ex3.1.2.Ok 2 := runS_ok o2.1 o4 299 1
  have HN := Lib.hid (New_any (n := 40) (by omega) (by omega) h)
  clear h
  obtain ⟨l1, hl1⟩ : ∃ l, freeN ex2.1 (32 * 2) = l := ⟨_, rfl⟩
  obtain ⟨l2, hl2⟩ : ∃ l, freeN ex3.1.1 (32 * 2) = l := ⟨_, rfl⟩
  have n1 : l1.length = 38 := by rw [← hl1]; exact ex2_free
  have n2 : l2.length = 39 := by rw [← hl2]; exact ex3_free
  have HL1 := Lib.hid hl1
  have HL2 := Lib.hid hl2
  clear hl1 hl2
  go_enter Tryd.func7, Tryd.ntmps7
  go_wp2_with fail
  refine HN.out.mono ?_
  rintro e w1 ⟨bp, bc, bg, rfl, h1⟩
  go_wp2_with fail
  refine (Take_any w0 0 2 (by omega) (by omega) h1).mono ?_
  rintro e w2 ⟨sp, rfl, h2⟩
  go_wp2_with fail
  refine (Do_to hT w0 s0 h2.swap (A := ex1) rfl ex1_done).mono ?_
  rintro e w3 ⟨rfl, h3⟩
  go_wp2_with fail
  refine (Do_to hT o1.1 o1.2 h3 (A := ex2) rfl ex2_done).mono ?_
  rintro e w4 ⟨rfl, h4⟩
  go_wp2_with fail
  refine (Got_to h4.swap ex2_ports (by decide)).mono ?_
  rintro e w5 ⟨v5, rfl, h5⟩
  obtain ⟨a5, c5, rfl, _, _, _⟩ := Row.at h5
  have h5a : Sat W w5 (Row 3 1 (.slice a5 2 c5) 2 (i64s [0, 1]) * (StepSL sp ex2.2 * (PoolSL bp bc bg 40 ex2.1 * F))) := h5
  have h5' := Row.lit (e := 3) (cs := #[.int .i64 1]) (k := 1) h5a rfl (by decide)
  have h5b : Sat W (w5.alloc (.cells #[.int .i64 1] 3)) (Row 3 1 (.slice (some ⟨w5.heap.size, 0, none⟩) [(1 : Int)].length 1) [(1 : Int)].length (ints [1]) * (PoolSL bp bc bg 40 ex2.1 * (StepSL sp ex2.2 * (Row 3 1 (.slice a5 2 c5) 2 (i64s [0, 1]) * F)))) := h5'.ac (sep_a _ _ _ _ _)
  go_wp2_with fail
  refine (Back_any (l := [1]) (by decide) (by decide) (by simp) h5b).mono ?_
  rintro e w6 ⟨tp, rfl, h6⟩
  have h7 : Sat W w6 (Row 3 1 (.slice a5 2 c5) 2 (i64s [0, 1]) * (PoolSL bp bc bg 40 ex2.1 * (StepSL tp (backNew 40 [1]) * F))) := (h6.ac (sep_b _ _ _ _ _ _)).drop.drop
  obtain ⟨g5, rfl, hc⟩ := Row.cellAt h7 (by omega)
  have c0 := hc 0 (.int .i64 0) rfl
  have c1 := hc 1 (.int .i64 1) rfl
  have H7 := Lib.hid h7.drop
  clear h1 h2 h3 h4 h5 h5a h5b h5' h6 h7 hc
  go_wp2_with fail
  refine (Free_to o2.1 H7.out HL1.out).mono ?_
  rintro e w7 ⟨v7, rfl, h8⟩
  obtain ⟨a7, c7, rfl, _, _, _⟩ := Row.at h8
  have H8 := Lib.hid h8.drop
  clear h8
  go_wp2_with fail
  refine (run_to hT o2.1 o4 H8.out (A := ex3) rfl ex3_run).mono ?_
  rintro e w8 ⟨rfl, h9⟩
  have H9 := Lib.hid h9
  clear h9
  go_wp2_with fail
  refine (Free_to o3.1 H9.out HL2.out).mono ?_
  rintro e w9 ⟨v9, rfl, h10⟩
  obtain ⟨a9, c9, rfl, _, _, _⟩ := Row.at h10
  have H10 := Lib.hid h10
  clear h10
  go_wp2_with fail
  go_ret
  exact ⟨rfl, H10.out.drop.drop.drop⟩

end Go.Proofs.YtcciijdnegjkjaaDoor
