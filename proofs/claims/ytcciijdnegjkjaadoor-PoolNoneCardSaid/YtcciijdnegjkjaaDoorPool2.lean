/-
  Walks over package pool's steps, second part: what a Take grabs.
-/
import Derived.Test.YtcciijdnegjkjaaDoorPool1
import Derived.Shelf.Spec.TrailingZeros
import Derived.Laws.BitsAllLaws
namespace Go.Proofs.YtcciijdnegjkjaaDoor
open Go.RowKit

variable {W w : World} {F : SL} {bp bc bg n sp m : Nat} {ws : List Nat} {s : PStep}

/-- The library's table, as its text lays it. -/
def Tab (W : World) : Prop := TabAt 0 Lib.deBruijn64tab W
theorem Tab.at (hT : Tab W) (h : Sat W w F) : Tab w := fun j hj => by
  have := hT j hj
  rw [h.below.cell (World.block_lt_of_cell? _ _ this)]
  exact this

set_option maxHeartbeats 400000 in
theorem tz_core (x k idx : Nat) (w : World) (hx0 : ((x : Int) == 0) = false)
    (key : IntKind.u64.wrap (bits BinOp.and IntKind.u64 (x : Int) (IntKind.u64.wrap (-(x : Int))) * 285870213051353865) / 288230376151711744 = (idx : Int))
    (hi : idx < 64) (hk : k < 64) (hcell : w.cell? ⟨0, idx, none⟩ = some (.int .u8 k)) :
    Calls Tryd.prog 42 #[.int .u64 x] w fun e w' => e = .returned (.int .i64 k) ∧ w = w' := by
  go_enter Tryd.func42, Tryd.ntmps42
  go_wp2_with (simp only [key])
  go_ret
  exact ⟨rfl, rfl⟩

/-- math/bits.TrailingZeros64 of a number that isn't 0. -/
theorem tz_any (x : Nat) (hx : x < 18446744073709551616) (hx0 : ¬ x = 0) (w : World) (hT : Tab w) :
    Calls Tryd.prog 42 #[.int .u64 x] w fun e w' => e = .returned (.int .i64 (Lib.ctz 64 x : Nat)) ∧ w = w' := by
  obtain ⟨hlow, hk⟩ := Lib.lowest_bit 64 x hx0 hx
  obtain ⟨hi, htab⟩ := Lib.deBruijn64_at _ hk
  have hcell := hT _ hi
  rw [htab] at hcell
  exact tz_core x _ _ w (by simp; omega) (tz64_key x _ hx hx0 hlow) hi hk hcell

set_option maxHeartbeats 400000 in
theorem changed_any (a b : Nat) (ha : a < 18446744073709551616) (hb : b < 4294967296) (w : World) :
    Calls Tryd.prog 37 #[.int .u64 a, .int .u64 b] w fun e w' => e = .returned (.int .u64 (changedN a b : Nat)) ∧ w = w' := by
  have key : bits BinOp.or IntKind.u64 (IntKind.u64.wrap (((a : Int) / 4294967296 + 1) * 4294967296)) (b : Int) = ((changedN a b : Nat) : Int) := by
    rw [IntKind.wrap_u64]
    have := u64_or_nat ((a / 4294967296 + 1) * 4294967296 % 18446744073709551616) b (by omega) (by omega)
    rw [changedN_or ha hb] at this
    rw [← this]
    congr 1
  have HK := Lib.hid key
  clear key
  go_enter Tryd.func37, Tryd.ntmps37
  go_wp2
  go_ret
  refine ⟨?_, rfl⟩
  exact congrArg (fun x => Ending.returned (Value.int .u64 x)) HK.out

/-- How many elements a slice has. -/
def lenOf : Value → Nat | .slice _ n _ => n | _ => 0

theorem pow_lt32 {i : Nat} (h : i < 32) : 2 ^ i < 4294967296 := Nat.pow_lt_pow_of_lt (a := 2) (m := 32) (by decide) h

theorem wrap_pow {i : Nat} (h : i < 32) : IntKind.u64.wrap ((2 : Int) ^ i) = ((2 ^ i : Nat) : Int) := by
  have : 2 ^ i < 4294967296 := pow_lt32 h
  rw [IntKind.wrap_u64, show ((2 : Int) ^ i) = ((2 ^ i : Nat) : Int) by norm_cast]
  generalize 2 ^ i = p at *
  omega

theorem elem_int : Elem Tryd.prog 30 3 (.int .i64 0) 1 8 := ⟨Tryd.underlying30, by kernel_rfl, rfl, by show 0 < 1; decide⟩

theorem picks_len (u most : Nat) : (picks u most).length = min most (freesOf u).length := by simp [picks]

theorem xor_all {u : Nat} (hu : u < 18446744073709551616) : bits BinOp.xor IntKind.u64 IntKind.u64.max (u : Int) = ((18446744073709551615 - u : Nat) : Int) := by
  have := u64_xor_nat 18446744073709551615 u (by decide) hu
  rw [show IntKind.u64.max = ((18446744073709551615 : Nat) : Int) from rfl, this]
  congr 1
  apply Nat.eq_of_testBit_eq
  intro j
  have h1 : (18446744073709551615 : Nat).testBit j = decide (j < 64) := Nat.testBit_two_pow_sub_one 64 j
  have h2 := Nat.testBit_two_pow_sub_succ (n := 64) (x := u) hu j
  rw [show (2 : Nat) ^ 64 - (u + 1) = 18446744073709551615 - u by omega] at h2
  rw [Nat.testBit_xor, h1, h2]
  by_cases hj : j < 64
  · simp [hj]
  · have : u.testBit j = false := Nat.testBit_lt_two_pow (Nat.lt_of_lt_of_le hu (Nat.pow_le_pow_right (show 0 < 2 by decide) (show 64 ≤ j by omega)))
    simp [hj, this]

theorem frees_key {u : Nat} (hu : u < 18446744073709551616) : bits BinOp.and IntKind.u64 (bits BinOp.xor IntKind.u64 IntKind.u64.max (u : Int)) 4294967295 = ((ofBits (freesOf u) : Nat) : Int) := by
  rw [xor_all hu, ← ofBits_frees _ hu]
  exact u64_and_nat _ 4294967295 (by omega) (by decide)

theorem grab_go {u most k : Nat} : (¬ ofBits ((freesOf u).drop k) = 0 ∧ k < most) ↔ k < (picks u most).length := by
  rw [picks_len, ofBits_eq_zero, List.drop_eq_nil_iff]
  omega

theorem frees_lt (u k : Nat) : ofBits ((freesOf u).drop k) < 4294967296 := ofBits_lt _ 32 fun i hi => (mem_freesOf.1 (List.mem_of_mem_drop hi)).1

/-- One free place more. -/
theorem grab_next {u k : Nat} (h : k < (freesOf u).length) :
    Lib.ctz 64 (ofBits ((freesOf u).drop k)) = (freesOf u)[k] ∧ (freesOf u)[k] < 32 ∧
      ofBits ((freesOf u).drop k) &&& (18446744073709551615 - 2 ^ (freesOf u)[k]) = ofBits ((freesOf u).drop (k + 1)) := by
  have e := List.drop_eq_getElem_cons h
  have hlt : ∀ j ∈ freesOf u, j < 32 := fun j hj => (mem_freesOf.1 hj).1
  have h1 : ∀ j ∈ (freesOf u).drop (k + 1), (freesOf u)[k] < j := rises_drop (freesOf_rises u) e
  have h2 : ∀ j ∈ (freesOf u).drop (k + 1), j < 64 := fun j hj => by have := hlt j (List.mem_of_mem_drop hj); omega
  have h3 : (freesOf u)[k] < 32 := hlt _ (List.getElem_mem h)
  rw [e]
  exact ⟨ctz_ofBits _ _ h1 (by omega) h2, h3, ofBits_tail _ _ h1 h2 (by omega)⟩

theorem ofBits_snoc (l : List Nat) (i : Nat) : ofBits (l ++ [i]) = ofBits l ||| 2 ^ i := by
  induction l with
  | nil => simp [ofBits]
  | cons j l ih => simp [ofBits, ih, Nat.or_assoc]

theorem ofBits_take_lt (u k : Nat) : ofBits ((freesOf u).take k) < 4294967296 := ofBits_lt _ 32 fun i hi => (mem_freesOf.1 (List.mem_of_mem_take hi)).1

theorem or_lt {a b : Nat} (ha : a < 4294967296) (hb : b < 4294967296) : a ||| b < 4294967296 := Nat.or_lt_two_pow (n := 32) ha hb

/-- What grab does. -/
def grabS (ws : List Nat) (s : PStep) : List Nat × PStep :=
  if ws.getD s.word 0 = s.seen then
    (ws.set s.word (changedN s.seen (s.seen % 4294967296 ||| ofBits (picks s.seen s.most))), { s with ports := (picks s.seen s.most).map (s.word * 32 + ·), done := true })
  else (ws, s)

set_option maxRecDepth 100000 in
set_option maxHeartbeats 800000 in
theorem grab_any (hT : Tab W) (hw : WordsOk m ws) (hs : s.Ok m) (h : Sat W w (PoolSL bp bc bg n ws * (StepSL sp s * F))) (hk : s.kind = 0) :
    Calls Tryd.prog 35 #[.pointer (some ⟨bp, 0, none⟩), .pointer (some ⟨sp, 0, none⟩)] w
      (StepEnds W (PoolSL bp bc bg n (grabS ws s).1 * (StepSL sp (grabS ws s).2 * F))) := by
  obtain ⟨vw, vp, vo, h1⟩ := StepSL.open h.swap
  obtain ⟨_, s1, _, s3, _, s5, _, _, _, _, _, _⟩ := StepB.facts h1
  obtain ⟨hwl, hwd, hl, hm1, hm2, hl1⟩ := hs.takes hk
  have hm3 := hw.most
  have hu := hs.seen
  have key0 : bits BinOp.and IntKind.u64 (bits BinOp.xor IntKind.u64 IntKind.u64.max (s.seen : Int)) 4294967295 = ((ofBits (freesOf s.seen) : Nat) : Int) := frees_key hu
  have K0 := Lib.hid key0
  have H1 := Lib.hid h1
  have hT' := Lib.hid hT
  have HW := Lib.hid hw
  obtain ⟨G, hG⟩ : ∃ G, G = grabS ws s := ⟨_, rfl⟩
  rw [← hG]
  have HG := Lib.hid hG
  clear key0 h1 h hT hw hG
  generalize hP : picks s.seen s.most = P
  have hPl : P.length = min s.most (freesOf s.seen).length := by rw [← hP, picks_len]
  have hPe := Lib.hid hP
  clear hP
  go_enter Tryd.func35, Tryd.ntmps35
  go_wp2
  rw [K0.out]
  go_loopw [4, 5, 6] (fun v4 v5 v6 wr => ∃ k, k ≤ P.length ∧ v5 = .int .u64 ((ofBits ((freesOf s.seen).drop k) : Nat) : Int) ∧ v6 = .int .u64 ((s.seen % 4294967296 ||| ofBits ((freesOf s.seen).take k) : Nat) : Int) ∧
      Sat W wr (Row 3 1 v4 k (i64s (((freesOf s.seen).take k).map (s.word * 32 + ·))) * (StepB sp s vw vp vo * (StepR s vw vp vo * (PoolSL bp bc bg n ws * F))))) (fun v4 _ _ _ => 32 - lenOf v4)
  case atStart =>
    refine ⟨0, Nat.zero_le _, rfl, by rw [low_test hu]; simp [ofBits], ?_⟩
    exact Row.nil_in _ _ H1.out
  case round =>
    obtain ⟨k, hk, rfl, rfl, hrel⟩ := hrel
    obtain ⟨a4, cap4, rfl, _, _, _⟩ := Row.at hrel
    by_cases hkP : k < P.length
    · have hkm : k < s.most := by omega
      have hkf : k < (freesOf s.seen).length := by omega
      obtain ⟨t1, t2, t3⟩ := grab_next hkf
      have hX0 : ¬ ofBits ((freesOf s.seen).drop k) = 0 := by rw [ofBits_eq_zero, List.drop_eq_nil_iff]; omega
      have hXl := frees_lt s.seen k
      have hTr := hT'.out.at hrel
      have TZ := tz_any (ofBits ((freesOf s.seen).drop k)) (by omega) hX0 wr hTr
      rw [t1] at TZ
      have hc := StepB.facts hrel.drop
      obtain ⟨_, c1, _, c3, _⟩ := hc
      have hX1 : (((ofBits ((freesOf s.seen).drop k) : Nat) : Int) != 0) = true := by rw [bne_iff_ne]; omega
      have T3 := Lib.hid t3
      generalize hi : (freesOf s.seen)[k] = i at *
      have HI := Lib.hid hi
      generalize hX : ofBits ((freesOf s.seen).drop k) = X at *
      generalize hY : s.seen % 4294967296 ||| ofBits ((freesOf s.seen).take k) = Y at *
      have HX := Lib.hid hX
      have HY := Lib.hid hY
      have HR := Lib.hid hrel
      have HTZ := Lib.hid TZ
      clear hX hY hi t3 t1 hrel TZ
      go_wp2_with (first | (go_at_call 42; refine HTZ.out.mono ?_; rintro e w' ⟨rfl, rfl⟩) | (at_builtin; refine wpList_append_row rfl (.tmp 40) (.tmp 48) 30 rfl elem_int rfl (HR.out.forget _) ⟨wr.heap.size, 0, none⟩ 1 1 [_] rfl rfl (cell_one_new _ _ _) ?c3 ?c4 ?c5 ?_))
      case c3 => simp [Value.oneCell']
      case c4 => unfold maxLen; omega
      case c5 => omega
      intro v' w' hs' hsz
      obtain ⟨a5, cap5, rfl, _, _, _⟩ := Row.at hs'
      go_wp2
      go_round
      case rel =>
        refine ⟨k + 1, by omega, ?_, ?_, ?_⟩
        · exact congrArg (Value.int .u64) (by rw [wrap_pow t2, u64_andNot_nat X _ (by omega) (by have : 2 ^ i < 4294967296 := pow_lt32 t2; generalize 2 ^ i = p at *; omega), T3.out])
        · refine congrArg (Value.int .u64) ?_
          rw [wrap_pow t2, u64_or_nat Y _ (by have := ofBits_take_lt s.seen k; have := or_lt (a := s.seen % 4294967296) (by omega) this; rw [HY.out] at this; omega) (by have : 2 ^ i < 4294967296 := pow_lt32 t2; generalize 2 ^ i = p at *; omega)]
          rw [List.take_succ_eq_append_getElem hkf, HI.out, ofBits_snoc, ← Nat.or_assoc, HY.out]
        · refine hs'.ac ?_
          rw [List.take_succ_eq_append_getElem hkf, HI.out]
          simp [i64s]
      case measure => simp [lenOf]; omega
    · have hkP : k = P.length := by omega
      have hPt : (freesOf s.seen).take k = P := by
        rw [← hPe.out, hkP, hPl, picks]
        rcases Nat.le_total s.most (freesOf s.seen).length with h | h
        · rw [Nat.min_eq_left h]
        · rw [Nat.min_eq_right h, List.take_length, List.take_of_length_le h]
      have hx : ¬ (¬ ofBits ((freesOf s.seen).drop k) = 0 ∧ k < s.most) := by rw [ofBits_eq_zero, List.drop_eq_nil_iff]; omega
      obtain ⟨_, c1, _, c3, _, c5, _, _, c8, c9, _, fs⟩ := StepB.facts hrel.drop
      obtain ⟨p0, _, q0, qb, fb⟩ := PoolSL.facts (F := F) (w := wr) (W := W) (bp := bp) (bc := bc) (bg := bg) (n := n) (ws := ws) hrel.drop.drop.drop
      obtain ⟨hg, hlt⟩ := HW.out.get hwd
      have hv := qb _ _ hg
      have fg := fb s.word
      have f8 := fs 8
      have f9 := fs 9
      have hiw : s.word < ws.length := by rw [HW.out.len]; exact hwd
      have hY : s.seen % 4294967296 ||| ofBits P < 4294967296 := or_lt (by omega) (by rw [← hPt]; exact ofBits_take_lt _ _)
      rw [hPt] at hrel
      have hne : sp ≠ bg := (hrel.ac (Q := StepB sp s vw vp vo * (PoolSL bp bc bg n ws * (Row 3 1 (.slice a4 k cap4) k (i64s (P.map (s.word * 32 + ·))) * (StepR s vw vp vo * F)))) (by ac_rfl)).ne_of StepB.has PoolSL.has.2.2
      have hends : (ws.getD s.word 0 = s.seen → Sat W (((wr.setCell ⟨bg, s.word, none⟩ (.int .u64 (changedN s.seen (s.seen % 4294967296 ||| ofBits P) : Nat))).setCell ⟨sp, 8, none⟩ (.slice a4 k cap4)).setCell ⟨sp, 9, none⟩ (.bool true)).drew
          (PoolSL bp bc bg n G.1 * (StepSL sp G.2 * F))) ∧ (¬ ws.getD s.word 0 = s.seen → Sat W wr.drew (PoolSL bp bc bg n G.1 * (StepSL sp G.2 * F))) := by
        have k1 : Sat W wr (PoolSL bp bc bg n ws * (StepB sp s vw vp vo * (Row 3 1 (.slice a4 k cap4) k (i64s (P.map (s.word * 32 + ·))) * (StepR s vw vp vo * F)))) := hrel.ac (by ac_rfl)
        constructor
        · intro he
          rw [HG.out, grabS, if_pos he, hPe.out]
          have k2 := (((k1.poolSet s.word (changedN s.seen (s.seen % 4294967296 ||| ofBits P))).swap.stVports (P.map (s.word * 32 + ·)) (.slice a4 k cap4)).stDone true)
          refine (StepSL.shut (vw := vw) (vp := vp) (vo := .slice a4 k cap4) ?_).swap.drew
          unfold StepR at k2 ⊢
          have k3 := (k2.ac (Q := Row 3 1 vo s.ports.length (i64s s.ports) * (StepB sp { s with ports := P.map (s.word * 32 + ·), done := true } vw vp (.slice a4 k cap4) * (Row 23 1 vw s.words.length (u64s s.words) * (RowAt 58 2 vp s.parts.length (partCells s.parts) * Row 3 1 (.slice a4 k cap4) k (i64s (P.map (s.word * 32 + ·)))) * (PoolSL bp bc bg n (ws.set s.word (changedN s.seen (s.seen % 4294967296 ||| ofBits P))) * F)))) (by ac_rfl)).drop
          simpa [hkP] using k3
        · intro he
          rw [HG.out, grabS, if_neg he]
          refine (StepSL.shut (vw := vw) (vp := vp) (vo := vo) ?_).swap.drew
          exact (k1.ac (Q := Row 3 1 (.slice a4 k cap4) k (i64s (P.map (s.word * 32 + ·))) * (StepB sp s vw vp vo * (StepR s vw vp vo * (PoolSL bp bc bg n ws * F)))) (by ac_rfl)).drop
      have HEN := Lib.hid hends
      have HPt := Lib.hid hPt
      have HKP := Lib.hid hkP
      rw [hPt]
      clear hends hPt hkP hg hrel
      generalize hX : ofBits ((freesOf s.seen).drop k) = X at *
      generalize hZ : s.seen % 4294967296 ||| ofBits P = Y at *
      have HX := Lib.hid hX
      have HZ := Lib.hid hZ
      clear hX hZ
      have hXc : (X = 0) ∨ (((X : Int) != 0) = true ∧ ¬ k < s.most) := by
        rcases Nat.eq_zero_or_pos X with h | h
        · exact .inl h
        · exact .inr ⟨by rw [bne_iff_ne]; omega, fun hk' => hx ⟨by omega, hk'⟩⟩
      clear hx
      generalize hU : ws.getD s.word 0 = U at *
      rcases hXc with rfl | ⟨hX1, hX2⟩
      all_goals
        go_wp2
        refine region_tail 18 (by kernel_rfl) (by kernel_rfl) ?_
        simp only [List.take_succ_cons, List.take_zero, List.drop_succ_cons, List.drop_zero]
        repeat still_step
        still_call (flip_same (changed_any _ _ hu hY _))
        repeat still_step
        refine wpStill_nil ?_
        by_cases he : U = s.seen
        · have HS := Lib.hid (HEN.out.1 he)
          rw [he] at hv
          clear he
          go_wp2_with (go_at_call 36; refine (Cas_hit _ _ _ _ _ _ _ wr.drew q0 hiw hv fg).mono ?_; rintro e w' ⟨rfl, rfl⟩)
          go_wp2
          refine bodyPost_end (results_none rfl _ _ _) rfl ?_
          exact ⟨rfl, HS.out⟩
        · have HS := Lib.hid (HEN.out.2 he)
          have he' : ¬ (U : Int) = (s.seen : Int) := by omega
          go_wp2_with (go_at_call 36; refine (Cas_miss _ _ _ _ _ _ _ _ wr.drew q0 hiw hv fg he').mono ?_; rintro e w' ⟨rfl, rfl⟩)
          go_wp2
          refine bodyPost_end (results_none rfl _ _ _) rfl ?_
          exact ⟨rfl, HS.out⟩

end Go.Proofs.YtcciijdnegjkjaaDoor
