/-
  PoolBounds, the walk.
-/
import Derived.Test.YtcciijdnegjkjaaDoorPoolH
import Derived.Test.YtcciijdnegjkjaaDoorPoolG
namespace Go.Proofs.YtcciijdnegjkjaaDoor
open Go.RowKit

variable {W w : World} {F : SL} {bp bc bg n sp m : Nat} {ws : List Nat} {s : PStep}

/-- A step or none. -/
def optP : Option (Nat × PStep) → Value
  | none => .pointer none
  | some p => .pointer (some ⟨p.1, 0, none⟩)
def optSL : Option (Nat × PStep) → SL
  | none => 1
  | some p => StepSL p.1 p.2

theorem size_ok (nn : Int) (c : Nat) (h1 : 1 ≤ c) (h2 : c ≤ 1000) : ∃ n : Nat, wrap64 (1 + wrap64 ((IntKind.u64.wrap nn).tmod (c : Int))) = (n : Int) ∧ 1 ≤ n ∧ n ≤ c := by
  have h3 : 0 ≤ nn % 18446744073709551616 := by omega
  rw [IntKind.wrap_u64, Int.tmod_eq_emod_of_nonneg h3]
  have h5 := Int.emod_lt_of_pos (nn % 18446744073709551616) (show 0 < (c : Int) by omega)
  have h4 := Int.emod_nonneg (nn % 18446744073709551616) (show (c : Int) ≠ 0 by omega)
  refine ⟨1 + (nn % 18446744073709551616 % (c : Int)).toNat, ?_, by omega, by omega⟩
  rw [IntWalk.wrap64_in (nn % 18446744073709551616 % (c : Int)) ⟨by omega, by omega⟩, IntWalk.wrap64_in _ ⟨by omega, by omega⟩]
  omega
theorem kind_ok (nn : Int) : ∃ n : Nat, wrap64 ((IntKind.u64.wrap nn).tmod 2) = (n : Int) ∧ n ≤ 1 := by
  have h3 : 0 ≤ nn % 18446744073709551616 := by omega
  rw [IntKind.wrap_u64, Int.tmod_eq_emod_of_nonneg h3]
  refine ⟨(nn % 18446744073709551616 % 2).toNat, ?_, by omega⟩
  rw [IntWalk.wrap64_in _ ⟨by omega, by omega⟩]
  omega
theorem words_ok (n : Nat) (h1 : 1 ≤ n) (h2 : n ≤ 1024) : wrap64 ((n : Int) + 31) = (n : Int) + 31 ∧ wrap64 (((n : Int) + 31).tdiv 32) = (((n + 31) / 32 : Nat) : Int) := by
  rw [IntWalk.wrap64_in _ ⟨by omega, by omega⟩, Int.tdiv_eq_ediv_of_nonneg (by omega), IntWalk.wrap64_in _ ⟨by omega, by omega⟩]
  exact ⟨rfl, by omega⟩

/-- The round's own copy of an element. -/
def actB (ab : Nat) (x0 x1 x2 x3 : Int) (v : Value) : SL := SL.blk ab (.cells #[.int .i64 x0, .int .i64 x1, .int .i64 x2, .int .i64 x3, v] 32 (0, 0))
theorem actB.cells {ab : Nat} {x0 x1 x2 x3 : Int} {v : Value} (h : Sat W w (actB ab x0 x1 x2 x3 v * F)) : w.cell? ⟨ab, 0, none⟩ = some (.int .i64 x0) ∧ w.cell? ⟨ab, 1, none⟩ = some (.int .i64 x1) ∧ w.cell? ⟨ab, 2, none⟩ = some (.int .i64 x2) ∧
    w.cell? ⟨ab, 3, none⟩ = some (.int .i64 x3) ∧ w.cell? ⟨ab, 4, none⟩ = some v := by
  unfold actB at h
  exact ⟨h.cell 0, h.cell 1, h.cell 2, h.cell 3, h.cell 4⟩
theorem permA (A B C D : SL) : A * (B * (C * (D * (1 * 1)))) = C * (B * (D * (A * 1))) := by ac_rfl
theorem permB (R P A O S : SL) : R * (P * (A * (O * (S * 1)))) = P * (S * (R * (A * (O * 1)))) := by ac_rfl
theorem permC (P S X O : SL) : P * (S * (X * (O * 1))) = X * (P * (S * (O * 1))) := by ac_rfl
theorem permC' (P S X O : SL) : P * (S * (X * (O * 1))) = X * (S * (P * (1 * (O * 1)))) := by ac_rfl
theorem permD (Q P S R A O : SL) : Q * (P * (S * (R * (A * (O * 1))))) = Q * (R * (P * (S * (A * (O * 1))))) := by ac_rfl
theorem permD1 (Q R P S A O : SL) : Q * (R * (P * (S * (A * (O * 1))))) = A * (Q * (R * (P * (O * (S * 1))))) := by ac_rfl
theorem permH (P O S : SL) : P * (O * (S * 1)) = S * (P * (O * (1 * 1))) := by ac_rfl
theorem permE (S P A O : SL) : S * (P * (A * (1 * (O * 1)))) = P * (S * (A * (O * 1))) := by ac_rfl
theorem permF (S R P A O : SL) : S * (R * (P * (A * (1 * (O * 1))))) = P * (S * ((R * A) * (O * 1))) := by ac_rfl
theorem permG (A P S O : SL) : A * (P * (S * (O * 1))) = P * (S * (A * (O * 1))) := by ac_rfl
theorem Row.cells {e size g cap k : Nat} {xs : List Value} (h : Sat W w (Row e size (.slice (some ⟨g, 0, none⟩) k cap) k xs * F)) (hk : 0 < k) {i : Nat} {u : Value} (hu : xs[i]? = some u) : w.cell? ⟨g, i, none⟩ = some u := by
  obtain ⟨g', e, hc⟩ := Row.cellAt h hk
  cases e
  exact hc i u hu
theorem own_take (fr mo : Int) (hw : WordsOk m ws) : Own ws (takeNew fr mo m) 0 0 0 m where
  ok := takeNew_ok fr mo hw.pos
  live := rfl
  kind := .inl ⟨rfl, rfl⟩
  lost := ⟨0, Nat.zero_le _, by simp [takeNew], fun h => by simp [takeNew] at h⟩
theorem own_back (hn : n ≤ 32 * m) : Own ws (backNew n [0]) 1 0 0 m where
  ok := backNew_ok hn [0]
  live := rfl
  kind := .inr ⟨rfl, rfl, backParts_len n [0]⟩
  lost := ⟨0, Nat.zero_le _, by simp [backNew], fun h => by simp [backNew] at h⟩

/-- What stands at the loop's head. -/
structure Bnd (W : World) (bp bc bg n m : Nat) (own other : Option (Nat × PStep)) (steps changes what i : Nat) (ws : List Nat) (wr : World) : Prop where
  bound : i ≤ 200 ∧ steps ≤ i ∧ changes ≤ i * 32 ∧ what ≤ 1
  words : WordsOk m ws
  hown : ∀ p, own = some p → Own ws p.2 what steps changes m
  hother : ∀ p, other = some p → p.2.Ok m
  sat : Sat W wr (PoolSL bp bc bg n ws * (optSL own * (optSL other * 1)))

set_option maxRecDepth 100000 in
set_option maxHeartbeats 8000000 in
theorem Bounds_any {nn kind : Int} {v : Value} {l : List ActD} (hn : W64 nn) (hk : W64 kind) (hT : Tab W) (hl : ActsAt W v l) :
    Calls Tryd.prog 3 #[.int .i64 nn, .int .i64 kind, v] W (Gives W (.bool true) 1) := by
  obtain ⟨av, cv, rfl, hlen, hcells⟩ := hl.shape
  have HL := Lib.hid hl.each
  have HC := Lib.hid hcells
  obtain ⟨n, hsz, hn1, hn2⟩ := size_ok nn 200 (by decide) (by decide)
  have hsz : wrap64 (1 + wrap64 ((IntKind.u64.wrap nn).tmod 200)) = (n : Int) := hsz
  obtain ⟨hwa, hwb⟩ := words_ok n hn1 (by omega)
  have w0 : WordsOk ((n + 31) / 32) (newWords n) := newWords_ok hn1 (by omega)
  obtain ⟨m, hm⟩ : ∃ m, (n + 31) / 32 = m := ⟨_, rfl⟩
  rw [hm] at hwb w0
  have hnm : n ≤ 32 * m := by omega
  have hm1 : 1 ≤ m := by omega
  have hm2 : m ≤ 32 := by omega
  have hmA : m * 32 ≤ n + 31 := by omega
  have hmB : n + 31 < m * 32 + 32 := by omega
  have W0 := Lib.hid w0
  clear hm w0
  obtain ⟨k0, hk0, hk1⟩ := kind_ok kind
  have HK := Lib.hid hk0
  clear hk0
  have HN := Lib.hid (New_any (n := n) hn1 (by omega) (Sat.start W))
  clear hl hcells
  go_enter Tryd.func3, Tryd.ntmps3
  go_wp2_with fail
  refine HN.out.mono ?_
  rintro e w1 ⟨bp, bc, bg, rfl, h1⟩
  go_wp2_with fail
  refine (takes_any hT h1).mono ?_
  rintro e w2 ⟨rfl, h2⟩
  have H2 := Lib.hid h2
  clear h1 h2
  go_wp2
  go_loopw [11, 12, 13, 14, 15, 16] (fun v11 v12 v13 v14 v15 v16 wr => ∃ (own other : Option (Nat × PStep)) (steps changes what i : Nat) (ws : List Nat), v11 = optP own ∧ v12 = optP other ∧ v13 = .int .i64 (steps : Int) ∧ v14 = .int .i64 (changes : Int) ∧
      v15 = .int .i64 (what : Int) ∧ v16 = .int .i64 (i : Int) ∧ Bnd W bp bc bg n m own other steps changes what i ws wr) (fun _ _ _ _ _ v16 _ => 200 - (intOf v16).toNat)
  case atStart =>
    refine ⟨none, none, 0, 0, 0, 0, newWords n, rfl, rfl, rfl, rfl, rfl, rfl, ⟨by decide, W0.out, fun _ h => by simp at h, fun _ h => by simp at h, ?_⟩⟩
    have := H2.out
    simpa only [optSL, SL.emp_sep, SL.sep_emp] using this
  case round =>
    obtain ⟨own, other, steps, changes, what, i, ws, e11, e12, rfl, rfl, rfl, rfl, hrel⟩ := hrel
    by_cases hil : i < l.length ∧ i < 200
    · obtain ⟨hil1, hil2⟩ := hil
      obtain ⟨b, off, hav, hb, hx⟩ := HC.out (by omega)
      subst hav
      obtain ⟨⟨xwhat, xworker, xfr, xmost, xpv, xports⟩, hxi⟩ : ∃ x, l[i]? = some x := ⟨l[i], List.getElem?_eq_getElem hil1⟩
      have hmem := List.mem_of_getElem? hxi
      obtain ⟨wh, ww, wf, wm, wp⟩ := HL.out _ hmem
      obtain ⟨x0, x1, x2, x3, x4⟩ := hx i _ hxi
      rw [← hrel.sat.below.cell hb] at x0 x1 x2 x3 x4
      obtain ⟨a5, c5, e5, _, _, _⟩ := wp.shape
      simp only at wh ww wf wm wp x0 x1 x2 x3 x4 e5
      subst e5
      have WP := Lib.hid wp
      have WH := Lib.hid wh
      have WW := Lib.hid ww
      have WF := Lib.hid wf
      have WM := Lib.hid wm
      clear wh ww wf wm wp hxi hmem
      have hnl : l.length ≤ 9223372036854775807 := hlen
      clear hx
      have HR := Lib.hid hrel
      have hB := hrel.bound
      have hS : Sat W (wr.alloc (.cells #[.int .i64 xwhat, .int .i64 xworker, .int .i64 xfr, .int .i64 xmost, .slice a5 xports.length c5] 32)) (actB wr.heap.size xwhat xworker xfr xmost (.slice a5 xports.length c5) * (PoolSL bp bc bg n ws * (optSL own * (optSL other * 1)))) := hrel.sat.alloc _
      have hS := Lib.hid hS
      have HB := Lib.hid hB
      clear hB hrel
      cases hev : (xworker.tmod 2 == 0) with
      | true =>
        subst e11
        cases other with
        | none =>
          replace e12 : _ = Value.pointer none := e12
          subst e12
          have hS' : Sat W (wr.alloc (.cells #[.int .i64 xwhat, .int .i64 xworker, .int .i64 xfr, .int .i64 xmost, .slice a5 xports.length c5] 32)) (PoolSL bp bc bg n ws * (actB wr.heap.size xwhat xworker xfr xmost (.slice a5 xports.length c5) * (optSL own * (1 * 1)))) := hS.out.swap
          have HT := Lib.hid (Take_any HR.out.words xfr xmost WF.out.1 WF.out.2 hS')
          clear hS'
          go_wp2_with fail
          refine HT.out.mono ?_
          rintro e w3 ⟨tp, rfl, h3⟩
          obtain ⟨y0, _, _, _, y4⟩ := actB.cells h3.drop.drop
          have H3 := Lib.hid h3
          clear h3
          cases hpar : (xwhat.tmod 2 == 0) with
          | true =>
            have hf := few_any WP.out H3.out
            have hf1 : (xports.take 40).length ≤ 40 := by rw [List.length_take]; omega
            have hf2 : ∀ z ∈ xports.take 40, -9223372036854775808 ≤ z ∧ z ≤ 9223372036854775807 := fun z hz => WP.out.range z (List.mem_of_mem_take hz)
            generalize xports.take 40 = l4 at hf hf1 hf2
            have HF := Lib.hid hf
            have HF2 := Lib.hid hf2
            clear hf hf2
            go_wp2_with fail
            refine HF.out.mono ?_
            rintro e w4 ⟨v4, rfl, h4⟩
            obtain ⟨a4, c4, rfl, _, _, _⟩ := Row.at h4
            have HBk := Lib.hid (Back_any (n := n) (l := l4) (by omega) (by omega) HF2.out h4.swap.drop)
            clear h4
            go_wp2_with fail
            refine HBk.out.mono ?_
            rintro e w5 ⟨sp, rfl, h5⟩
            have H5 := Lib.hid ((h5.swap.drop.ac (permA _ _ _ _)).drop)
            clear h5
            have hok4 := Lib.hid (backNew_ok hnm l4)
            generalize backNew n l4 = s4 at H5 hok4
            go_wp2
            go_roundw
            case rel => exact ⟨own, some (sp, s4), steps, changes, what, i + 1, ws, rfl, rfl, rfl, rfl, rfl, rfl, ⟨by have := HB.out; omega, HR.out.words, HR.out.hown, fun p hp => (by cases hp; exact hok4.out), H5.out⟩⟩
            case measure => simp [intOf]; omega
          | false =>
            go_wp2
            go_roundw
            case rel => exact ⟨own, some (tp, takeNew xfr xmost m), steps, changes, what, i + 1, ws, rfl, rfl, rfl, rfl, rfl, rfl, ⟨by have := HB.out; omega, HR.out.words, HR.out.hown, fun p hp => (by cases hp; exact takeNew_ok _ _ HR.out.words.pos), (H3.out.ac (permA _ _ _ _)).drop⟩⟩
            case measure => simp [intOf]; omega
        | some q =>
          obtain ⟨oq, o⟩ := q
          replace e12 : _ = Value.pointer (some ⟨oq, 0, none⟩) := e12
          subst e12
          have hS' : Sat W (wr.alloc (.cells #[.int .i64 xwhat, .int .i64 xworker, .int .i64 xfr, .int .i64 xmost, .slice a5 xports.length c5] 32)) (PoolSL bp bc bg n ws * (actB wr.heap.size xwhat xworker xfr xmost (.slice a5 xports.length c5) * (optSL own * (StepSL oq o * 1)))) := hS.out.swap
          have HC1 := Lib.hid (Copy_any HR.out.words hS')
          clear hS'
          have hdo := doS_ok HR.out.words (HR.out.hother _ rfl)
          generalize hws' : (doS ws o).1 = ws' at hdo
          generalize ho' : (doS ws o).2 = o' at hdo
          have HW' := Lib.hid hdo
          have hpair : doS ws o = (ws', o') := by rw [← hws', ← ho']
          have hold : o.Ok m := HR.out.hother _ rfl
          have HWS := Lib.hid hws'
          have HOO := Lib.hid ho'
          have HPP := Lib.hid hpair
          have HOLD := Lib.hid hold
          clear hws' ho' hpair hold hdo
          go_wp2_with fail
          refine HC1.out.mono ?_
          rintro e w3 ⟨v3, rfl, h3⟩
          obtain ⟨a3, c3, rfl, _, _, _⟩ := Row.at h3
          obtain ⟨g3, rfl, _⟩ := Row.cellAt h3 (by omega)
          have HD := Lib.hid (Do_to hT HR.out.words HOLD.out (h3.ac (permB _ _ _ _ _)) HPP.out rfl)
          clear h3
          go_wp2_with fail
          refine HD.out.mono ?_
          rintro e w4 ⟨rfl, h4⟩
          have HC2 := Lib.hid (Copy_any HW'.out.1 h4)
          clear h4
          cases hd : o'.done with
          | true =>
            go_wp2_with fail
            refine HC2.out.mono ?_
            rintro e w5 ⟨v5, rfl, h5⟩
            obtain ⟨a6, c6, rfl, _, _, _⟩ := Row.at h5
            obtain ⟨g5, rfl, _⟩ := Row.cellAt h5 (by omega)
            have h6 : Sat W w5 (Row 23 1 (.slice (some ⟨g5, 0, none⟩) m c6) m (u64s ws') * (Row 23 1 (.slice (some ⟨g3, 0, none⟩) m c3) m (u64s ws) * (PoolSL bp bc bg n ws' * (StepSL oq o' * (actB wr.heap.size xwhat xworker xfr xmost (.slice a5 xports.length c5) * (optSL own * 1)))))) := h5.ac (permD _ _ _ _ _ _)
            have H6 := Lib.hid h6
            clear h5 h6
            go_wp2
            go_loopw [14, 20] (fun v14 v20 wz => ∃ j c : Nat, j ≤ m ∧ c = changes + cntDiff ws ws' j ∧ v14 = .int .i64 (c : Int) ∧ v20 = .int .i64 (j : Int) ∧ Sat W wz (Row 23 1 (.slice (some ⟨g5, 0, none⟩) m c6) m (u64s ws') * (Row 23 1 (.slice (some ⟨g3, 0, none⟩) m c3) m (u64s ws) * (PoolSL bp bc bg n ws' * (StepSL oq o' * (actB wr.heap.size xwhat xworker xfr xmost (.slice a5 xports.length c5) * (optSL own * 1))))))) (fun _ v20 _ => m - (intOf v20).toNat)
            case atStart => exact ⟨0, changes, Nat.zero_le _, rfl, rfl, rfl, H6.out⟩
            case round =>
              obtain ⟨j, c, hj, hc, rfl, rfl, hrel⟩ := hrel
              have hcl := cntDiff_le ws ws' j
              have hcb : c ≤ 200 * 32 + 32 := by have := HB.out; omega
              clear hcl
              have HCC := Lib.hid hc
              clear hc
              by_cases hjm : j < m
              · obtain ⟨x, hx⟩ : ∃ x, ws[j]? = some x := ⟨ws[j]'(by rw [HR.out.words.len]; exact hjm), List.getElem?_eq_getElem _⟩
                obtain ⟨y, hy⟩ : ∃ y, ws'[j]? = some y := ⟨ws'[j]'(by rw [HW'.out.1.len]; exact hjm), List.getElem?_eq_getElem _⟩
                have q5 := Row.cells hrel hm1 (get_u64s hy)
                have q3 := Row.cells hrel.swap hm1 (get_u64s hx)
                have hs : cntDiff ws ws' (j + 1) = cntDiff ws ws' j + if x = y then 0 else 1 := by
                  rw [cntDiff_succ, List.getD_eq_getElem?_getD, List.getD_eq_getElem?_getD, hx, hy]; rfl
                have HS := Lib.hid hs
                have hrel := Lib.hid hrel
                clear hx hy hs
                by_cases hxy : x = y
                · subst hxy
                  rw [if_pos rfl] at HS
                  go_wp2
                  go_quiet (fail)
                  go_wp2
                  go_roundw
                  case rel => exact ⟨j + 1, c, by omega, by have := HCC.out; have := HS.out; omega, rfl, rfl, hrel.out.drewN _⟩
                  case measure => simp [intOf]; omega
                · have HXY := Lib.hid hxy
                  have hb : ((x : Int) != (y : Int)) = true := by simp; omega
                  clear hxy
                  go_wp2
                  go_quiet (fail)
                  go_wp2
                  go_roundw
                  case rel => exact ⟨j + 1, c + 1, by omega, by have := HCC.out; have := HS.out; rw [if_neg HXY.out] at this; omega, rfl, rfl, hrel.out.drewN _⟩
                  case measure => simp [intOf]; omega
              · have hjj : j = m := by omega
                subst hjj
                have hrel := Lib.hid hrel
                go_wp2
                all_goals
                  go_roundw
                  case rel => exact ⟨own, none, steps, c, what, i + 1, ws', rfl, rfl, rfl, rfl, rfl, rfl, ⟨by have := HB.out; have := HCC.out; have := cntDiff_le ws ws' j; omega, HW'.out.1, fun p hp => by rw [HCC.out]; exact own_other HR.out.words HW'.out.1 (HR.out.hown p hp), fun p hp => (by cases hp), (((hrel.out.ac (permD1 _ _ _ _ _ _)).drop.drop.drop).ac (permH _ _ _)).drop⟩⟩
                  case measure => simp [intOf]; omega
          | false =>
            go_wp2_with fail
            refine HC2.out.mono ?_
            rintro e w5 ⟨v5, rfl, h5⟩
            obtain ⟨a6, c6, rfl, _, _, _⟩ := Row.at h5
            obtain ⟨g5, rfl, _⟩ := Row.cellAt h5 (by omega)
            have h6 : Sat W w5 (Row 23 1 (.slice (some ⟨g5, 0, none⟩) m c6) m (u64s ws') * (Row 23 1 (.slice (some ⟨g3, 0, none⟩) m c3) m (u64s ws) * (PoolSL bp bc bg n ws' * (StepSL oq o' * (actB wr.heap.size xwhat xworker xfr xmost (.slice a5 xports.length c5) * (optSL own * 1)))))) := h5.ac (permD _ _ _ _ _ _)
            have H6 := Lib.hid h6
            clear h5 h6
            go_wp2
            go_loopw [14, 20] (fun v14 v20 wz => ∃ j c : Nat, j ≤ m ∧ c = changes + cntDiff ws ws' j ∧ v14 = .int .i64 (c : Int) ∧ v20 = .int .i64 (j : Int) ∧ Sat W wz (Row 23 1 (.slice (some ⟨g5, 0, none⟩) m c6) m (u64s ws') * (Row 23 1 (.slice (some ⟨g3, 0, none⟩) m c3) m (u64s ws) * (PoolSL bp bc bg n ws' * (StepSL oq o' * (actB wr.heap.size xwhat xworker xfr xmost (.slice a5 xports.length c5) * (optSL own * 1))))))) (fun _ v20 _ => m - (intOf v20).toNat)
            case atStart => exact ⟨0, changes, Nat.zero_le _, rfl, rfl, rfl, H6.out⟩
            case round =>
              obtain ⟨j, c, hj, hc, rfl, rfl, hrel⟩ := hrel
              have hcl := cntDiff_le ws ws' j
              have hcb : c ≤ 200 * 32 + 32 := by have := HB.out; omega
              clear hcl
              have HCC := Lib.hid hc
              clear hc
              by_cases hjm : j < m
              · obtain ⟨x, hx⟩ : ∃ x, ws[j]? = some x := ⟨ws[j]'(by rw [HR.out.words.len]; exact hjm), List.getElem?_eq_getElem _⟩
                obtain ⟨y, hy⟩ : ∃ y, ws'[j]? = some y := ⟨ws'[j]'(by rw [HW'.out.1.len]; exact hjm), List.getElem?_eq_getElem _⟩
                have q5 := Row.cells hrel hm1 (get_u64s hy)
                have q3 := Row.cells hrel.swap hm1 (get_u64s hx)
                have hs : cntDiff ws ws' (j + 1) = cntDiff ws ws' j + if x = y then 0 else 1 := by
                  rw [cntDiff_succ, List.getD_eq_getElem?_getD, List.getD_eq_getElem?_getD, hx, hy]; rfl
                have HS := Lib.hid hs
                have hrel := Lib.hid hrel
                clear hx hy hs
                by_cases hxy : x = y
                · subst hxy
                  rw [if_pos rfl] at HS
                  go_wp2
                  go_quiet (fail)
                  go_wp2
                  go_roundw
                  case rel => exact ⟨j + 1, c, by omega, by have := HCC.out; have := HS.out; omega, rfl, rfl, hrel.out.drewN _⟩
                  case measure => simp [intOf]; omega
                · have HXY := Lib.hid hxy
                  have hb : ((x : Int) != (y : Int)) = true := by simp; omega
                  clear hxy
                  go_wp2
                  go_quiet (fail)
                  go_wp2
                  go_roundw
                  case rel => exact ⟨j + 1, c + 1, by omega, by have := HCC.out; have := HS.out; rw [if_neg HXY.out] at this; omega, rfl, rfl, hrel.out.drewN _⟩
                  case measure => simp [intOf]; omega
              · have hjj : j = m := by omega
                subst hjj
                have hrel := Lib.hid hrel
                go_wp2
                all_goals
                  go_roundw
                  case rel => exact ⟨own, some (oq, o'), steps, c, what, i + 1, ws', rfl, rfl, rfl, rfl, rfl, rfl, ⟨by have := HB.out; have := HCC.out; have := cntDiff_le ws ws' j; omega, HW'.out.1, fun p hp => by rw [HCC.out]; exact own_other HR.out.words HW'.out.1 (HR.out.hown p hp), fun p hp => (by cases hp; exact HW'.out.2), ((hrel.out.ac (permD1 _ _ _ _ _ _)).drop.drop.drop)⟩⟩
                  case measure => simp [intOf]; omega
      | false =>
        subst e12
        cases own with
        | none =>
          replace e11 : _ = Value.pointer none := e11
          subst e11
          have hS' : Sat W (wr.alloc (.cells #[.int .i64 xwhat, .int .i64 xworker, .int .i64 xfr, .int .i64 xmost, .slice a5 xports.length c5] 32)) (PoolSL bp bc bg n ws * (actB wr.heap.size xwhat xworker xfr xmost (.slice a5 xports.length c5) * (1 * (optSL other * 1)))) := hS.out.swap
          have HT := Lib.hid (Take_any HR.out.words xfr xmost WF.out.1 WF.out.2 hS')
          clear hS'
          rcases (show k0 = 0 ∨ k0 = 1 by omega) with rfl | rfl
          · have hk0 : wrap64 ((IntKind.u64.wrap kind).tmod 2) = 0 := HK.out
            go_wp2_with fail
            refine HT.out.mono ?_
            rintro e w3 ⟨tp, rfl, h3⟩
            have HH := Lib.hid (h3.ac (permE _ _ _ _))
            have HO := Lib.hid (own_take xfr xmost HR.out.words)
            clear h3
            have hst := own_step HR.out.words HO.out
            have hdo := doS_ok HR.out.words HO.out.ok
            obtain ⟨ws', o', hpair⟩ : ∃ a b, doS ws (takeNew xfr xmost m) = (a, b) := ⟨_, _, rfl⟩
            have HD := Lib.hid (Do_to hT HR.out.words HO.out.ok HH.out hpair rfl)
            rw [hpair] at hst hdo
            have hst1 : 0 + 1 ≤ m + 1 + 2 * 0 := hst.1 rfl
            have HST := Lib.hid hst
            have HDO := Lib.hid hdo
            clear hst hdo hpair
            cases hd : o'.done with
            | true =>
              go_wp2_with fail
              refine HD.out.mono ?_
              rintro e w6 ⟨rfl, h6⟩
              have H6 := Lib.hid h6
              clear h6
              simp only [hd]
              go_wp2
              all_goals first
                | (exfalso; omega)
                | skip
              go_roundw
              case rel => exact ⟨none, other, 0 + 1, 0, 0, i + 1, ws', rfl, rfl, rfl, rfl, rfl, rfl, ⟨by have := HB.out; omega, HDO.out.1, fun p hp => (by cases hp), HR.out.hother, (H6.out.ac (permC' _ _ _ _)).drop.drop⟩⟩
              case measure => simp [intOf]; omega
            | false =>
              go_wp2_with fail
              refine HD.out.mono ?_
              rintro e w6 ⟨rfl, h6⟩
              have H6 := Lib.hid h6
              clear h6
              simp only [hd]
              go_wp2
              all_goals first
                | (exfalso; omega)
                | skip
              go_roundw
              case rel => exact ⟨some (tp, o'), other, 0 + 1, 0, 0, i + 1, ws', rfl, rfl, rfl, rfl, rfl, rfl, ⟨by have := HB.out; omega, HDO.out.1, fun p hp => (by cases hp; exact HST.out.2.2 hd), HR.out.hother, (H6.out.ac (permC _ _ _ _)).drop⟩⟩
              case measure => simp [intOf]; omega
          · have hk0 : wrap64 ((IntKind.u64.wrap kind).tmod 2) = 1 := HK.out
            go_wp2_with fail
            refine HT.out.mono ?_
            rintro e w3 ⟨tp, rfl, h3⟩
            have h4 := Row.lit (e := 3) (cs := #[.int .i64 0]) (k := 1) h3.drop rfl (by decide)
            have h5 : Sat W (w3.alloc (.cells #[.int .i64 0] 3)) (Row 3 1 (.slice (some ⟨w3.heap.size, 0, none⟩) [(0 : Int)].length 1) [(0 : Int)].length (ints [0]) * (PoolSL bp bc bg n ws * (actB wr.heap.size xwhat xworker xfr xmost (.slice a5 xports.length c5) * (1 * (optSL other * 1))))) := h4
            have HBk := Lib.hid (Back_any (l := [0]) (by omega) (by decide) (by simp) h5)
            clear h3 h4 h5
            go_wp2_with fail
            refine HBk.out.mono ?_
            rintro e w4 ⟨sp, rfl, h5⟩
            have HH := Lib.hid (h5.ac (permF _ _ _ _ _))
            have HO := Lib.hid (own_back (ws := ws) hnm)
            clear h5
            have hst := own_step HR.out.words HO.out
            have hdo := doS_ok HR.out.words HO.out.ok
            obtain ⟨ws', o', hpair⟩ : ∃ a b, doS ws (backNew n [0]) = (a, b) := ⟨_, _, rfl⟩
            have HD := Lib.hid (Do_to hT HR.out.words HO.out.ok HH.out hpair rfl)
            rw [hpair] at hst hdo
            have hst1 : 0 + 1 ≤ 2 + 2 * 0 := hst.2.1 rfl
            have HST := Lib.hid hst
            have HDO := Lib.hid hdo
            clear hst hdo hpair
            cases hd : o'.done with
            | true =>
              go_wp2_with fail
              refine HD.out.mono ?_
              rintro e w6 ⟨rfl, h6⟩
              have H6 := Lib.hid h6
              clear h6
              simp only [hd]
              go_wp2
              all_goals first
                | (exfalso; omega)
                | skip
              go_roundw
              case rel => exact ⟨none, other, 0 + 1, 0, 1, i + 1, ws', rfl, rfl, rfl, rfl, rfl, rfl, ⟨by have := HB.out; omega, HDO.out.1, fun p hp => (by cases hp), HR.out.hother, (H6.out.ac (permC' _ _ _ _)).drop.drop⟩⟩
              case measure => simp [intOf]; omega
            | false =>
              go_wp2_with fail
              refine HD.out.mono ?_
              rintro e w6 ⟨rfl, h6⟩
              have H6 := Lib.hid h6
              clear h6
              simp only [hd]
              go_wp2
              all_goals first
                | (exfalso; omega)
                | skip
              go_roundw
              case rel => exact ⟨some (sp, o'), other, 0 + 1, 0, 1, i + 1, ws', rfl, rfl, rfl, rfl, rfl, rfl, ⟨by have := HB.out; omega, HDO.out.1, fun p hp => (by cases hp; exact HST.out.2.2 hd), HR.out.hother, (H6.out.ac (permC _ _ _ _)).drop⟩⟩
              case measure => simp [intOf]; omega
        | some q =>
          obtain ⟨oq, o⟩ := q
          replace e11 : _ = Value.pointer (some ⟨oq, 0, none⟩) := e11
          subst e11
          have hS' : Sat W (wr.alloc (.cells #[.int .i64 xwhat, .int .i64 xworker, .int .i64 xfr, .int .i64 xmost, .slice a5 xports.length c5] 32)) (actB wr.heap.size xwhat xworker xfr xmost (.slice a5 xports.length c5) * (PoolSL bp bc bg n ws * (StepSL oq o * (optSL other * 1)))) := hS.out
          have HH := Lib.hid (hS'.ac (permG _ _ _ _))
          clear hS'
          have hB := HB.out
          have hsi : steps ≤ i := hB.2.1
          have hci : changes ≤ i * 32 := hB.2.2.1
          have hw2 : what = 0 ∨ what = 1 := by omega
          clear hB
          rcases hw2 with rfl | rfl
          · have HO := Lib.hid (HR.out.hown _ rfl)
            have hst := own_step HR.out.words HO.out
            have hdo := doS_ok HR.out.words HO.out.ok
            obtain ⟨ws', o', hpair⟩ : ∃ a b, doS ws o = (a, b) := ⟨_, _, rfl⟩
            have HD := Lib.hid (Do_to hT HR.out.words HO.out.ok HH.out hpair rfl)
            rw [hpair] at hst hdo
            have hst1 : steps + 1 ≤ m + 1 + 2 * changes := hst.1 rfl
            have HST := Lib.hid hst
            have HDO := Lib.hid hdo
            clear hst hdo hpair
            cases hd : o'.done with
            | true =>
              go_wp2_with fail
              refine HD.out.mono ?_
              rintro e w6 ⟨rfl, h6⟩
              have H6 := Lib.hid h6
              clear h6
              simp only [hd]
              go_wp2
              all_goals first
                | (exfalso; omega)
                | skip
              go_roundw
              case rel => exact ⟨none, other, steps + 1, changes, 0, i + 1, ws', rfl, rfl, rfl, rfl, rfl, rfl, ⟨by have := HB.out; omega, HDO.out.1, fun p hp => (by cases hp), HR.out.hother, (H6.out.ac (permC' _ _ _ _)).drop.drop⟩⟩
              case measure => simp [intOf]; omega
            | false =>
              go_wp2_with fail
              refine HD.out.mono ?_
              rintro e w6 ⟨rfl, h6⟩
              have H6 := Lib.hid h6
              clear h6
              simp only [hd]
              go_wp2
              all_goals first
                | (exfalso; omega)
                | skip
              go_roundw
              case rel => exact ⟨some (oq, o'), other, steps + 1, changes, 0, i + 1, ws', rfl, rfl, rfl, rfl, rfl, rfl, ⟨by have := HB.out; omega, HDO.out.1, fun p hp => (by cases hp; exact HST.out.2.2 hd), HR.out.hother, (H6.out.ac (permC _ _ _ _)).drop⟩⟩
              case measure => simp [intOf]; omega
          · have HO := Lib.hid (HR.out.hown _ rfl)
            have hst := own_step HR.out.words HO.out
            have hdo := doS_ok HR.out.words HO.out.ok
            obtain ⟨ws', o', hpair⟩ : ∃ a b, doS ws o = (a, b) := ⟨_, _, rfl⟩
            have HD := Lib.hid (Do_to hT HR.out.words HO.out.ok HH.out hpair rfl)
            rw [hpair] at hst hdo
            have hst1 : steps + 1 ≤ 2 + 2 * changes := hst.2.1 rfl
            have HST := Lib.hid hst
            have HDO := Lib.hid hdo
            clear hst hdo hpair
            cases hd : o'.done with
            | true =>
              go_wp2_with fail
              refine HD.out.mono ?_
              rintro e w6 ⟨rfl, h6⟩
              have H6 := Lib.hid h6
              clear h6
              simp only [hd]
              go_wp2
              all_goals first
                | (exfalso; omega)
                | skip
              go_roundw
              case rel => exact ⟨none, other, steps + 1, changes, 1, i + 1, ws', rfl, rfl, rfl, rfl, rfl, rfl, ⟨by have := HB.out; omega, HDO.out.1, fun p hp => (by cases hp), HR.out.hother, (H6.out.ac (permC' _ _ _ _)).drop.drop⟩⟩
              case measure => simp [intOf]; omega
            | false =>
              go_wp2_with fail
              refine HD.out.mono ?_
              rintro e w6 ⟨rfl, h6⟩
              have H6 := Lib.hid h6
              clear h6
              simp only [hd]
              go_wp2
              all_goals first
                | (exfalso; omega)
                | skip
              go_roundw
              case rel => exact ⟨some (oq, o'), other, steps + 1, changes, 1, i + 1, ws', rfl, rfl, rfl, rfl, rfl, rfl, ⟨by have := HB.out; omega, HDO.out.1, fun p hp => (by cases hp; exact HST.out.2.2 hd), HR.out.hother, (H6.out.ac (permC _ _ _ _)).drop⟩⟩
              case measure => simp [intOf]; omega
    · go_wp2
      all_goals
        go_ret
        exact ⟨rfl, (hrel.sat.ac (SL.sep_emp _).symm).drop⟩

end Go.Proofs.YtcciijdnegjkjaaDoor
