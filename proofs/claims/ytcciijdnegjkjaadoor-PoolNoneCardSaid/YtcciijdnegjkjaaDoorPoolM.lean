/-
  PoolNone, the walk.
-/
import Derived.Test.YtcciijdnegjkjaaDoorPoolL
import Derived.Test.YtcciijdnegjkjaaDoorPoolI
import Derived.Deep.CutRange
namespace Go.Proofs.YtcciijdnegjkjaaDoor
open Go.RowKit

variable {calm full on : Bool} {W w : World} {F : SL} {bp bc bg n sp m : Nat} {ws : List Nat} {s : PStep}

theorem permN0 (P S : SL) : P * (S * 1) = P * (S * (1 * (1 * 1))) := by ac_rfl
theorem permM1 (A P T S O : SL) : A * (P * (T * (S * (O * 1)))) = P * (A * (T * (S * (O * 1)))) := by ac_rfl
theorem permM2 (Q P A T S : SL) : Q * (P * (A * (T * (S * 1)))) = A * (P * (T * (S * (Q * 1)))) := by ac_rfl
theorem permM3 (R X P A T S : SL) : X * (R * (P * (A * (T * (S * 1))))) = R * (A * (P * (T * (S * (X * 1))))) := by ac_rfl
theorem permM4 (A P T S Q : SL) : A * (P * (T * (S * (Q * 1)))) = P * (Q * (A * (T * (S * 1)))) := by ac_rfl
theorem permM5 (P Q A T S : SL) : P * (Q * (A * (T * (S * 1)))) = A * (P * (T * (S * (Q * 1)))) := by ac_rfl
theorem permM6 (P Q A T S : SL) : P * (Q * (A * (T * (S * 1)))) = A * (Q * (P * (T * (S * (1 * 1))))) := by ac_rfl
theorem permM7 (P R T S O : SL) : R * (P * (T * (S * (O * 1)))) = R * (P * (T * (S * (O * 1)))) := rfl
theorem permM8 (A P T O : SL) : A * (P * (T * (1 * (O * 1)))) = T * (A * (P * (O * 1))) := by ac_rfl
theorem permM9 (X T A P O : SL) : X * (T * (A * (P * (O * 1)))) = A * (P * (T * (X * (O * 1)))) := by ac_rfl
theorem permMA (A P T O : SL) : A * (P * (T * (1 * (O * 1)))) = P * (T * (A * (O * 1))) := by ac_rfl
theorem permMB (P T A O : SL) : P * (T * (A * (O * 1))) = A * (P * (T * (1 * (O * 1)))) := by ac_rfl
theorem permMC (T P A O : SL) : T * (P * (A * (O * 1))) = T * (P * (A * (O * 1))) := rfl
theorem permMD (G T P A O : SL) : G * (T * (P * (A * (O * 1)))) = G * (P * (T * (A * (O * 1)))) := by ac_rfl
theorem permME (B G P T A O : SL) : B * (G * (P * (T * (A * (O * 1))))) = P * (B * (G * (T * (A * (O * 1))))) := by ac_rfl
theorem permMF (P B G T A O : SL) : P * (B * (G * (T * (A * (O * 1))))) = P * (T * (B * (G * (A * (O * 1))))) := by ac_rfl
theorem permMG (N P T B G A O : SL) : N * (P * (T * (B * (G * (A * (O * 1)))))) = T * (B * (G * (A * (P * (N * (1 * (O * 1))))))) := by ac_rfl
theorem permMH (A P T X O : SL) : A * (P * (T * (X * (O * 1)))) = P * (X * (A * (T * (O * 1)))) := by ac_rfl
theorem permMI (P X A T O : SL) : P * (X * (A * (T * (O * 1)))) = A * (P * (T * (X * (O * 1)))) := by ac_rfl
theorem permMJ (N P X A T O : SL) : N * (P * (X * (A * (T * (O * 1))))) = X * (A * (T * (P * (N * (1 * (O * 1)))))) := by ac_rfl
theorem permMK (P X A T O : SL) : P * (X * (A * (T * (O * 1)))) = X * (P * (A * (T * (O * 1)))) := by ac_rfl
theorem permMN (P B G T A O : SL) : P * (B * (G * (T * (A * (O * 1))))) = P * (A * (O * (B * (G * (T * 1))))) := by ac_rfl
theorem permMO (N P A O B G T : SL) : N * (P * (A * (O * (B * (G * (T * 1)))))) = A * (B * (G * (T * (P * (N * (1 * (O * 1))))))) := by ac_rfl
theorem permN1 (P A T S : SL) : P * (A * (T * (S * (1 * 1)))) = P * (A * (T * (S * 1))) := by ac_rfl
theorem permN2 (Q A P T S : SL) : Q * (P * (A * (T * (S * (1 * 1))))) = A * (P * (T * (S * (Q * 1)))) := by ac_rfl
theorem permN3 (P A T S Q : SL) : A * (P * (T * (S * (Q * 1)))) = P * (Q * (A * (T * (S * 1)))) := by ac_rfl
theorem permN4 (P A T S Q : SL) : P * (Q * (A * (T * (S * 1)))) = A * (P * (T * (S * (Q * 1)))) := by ac_rfl
theorem permN5 (P A T S Q : SL) : P * (Q * (A * (T * (S * 1)))) = A * (Q * (P * (T * (S * (1 * 1))))) := by ac_rfl

/-- What stands at the loop's head. -/
structure Nn (W : World) (bp bc bg n m tp : Nat) (t : PStep) (so other : Option (Nat × PStep)) (full calm over on : Bool) (i : Nat) (ws : List Nat) (wr : World) : Prop where
  bound : i ≤ 200
  words : WordsOk m ws
  low : Low (1000 + i * 400) ws
  hother : ∀ p, other = some p → p.2.Ok m
  live : over = false → so = none ∧ on = false ∧ TLive m ws calm t
  ended : over = true → noneS t = true ∧ t.Ok m ∧ t.kind = 0 ∧ (so = none → on = false ∧ Ov m ws calm full 0 t.words) ∧ (∀ p, so = some p → SLive m ws calm full on p.2)
  sat : Sat W wr (PoolSL bp bc bg n ws * (StepSL tp t * (optSL so * (optSL other * 1))))


def NnEnd (m : Nat) (ws : List Nat) (calm full on : Bool) (so : Option (Nat × PStep)) (t : PStep) : Prop :=
  noneS t = true ∧ t.Ok m ∧ t.kind = 0 ∧ (so = none → on = false ∧ Ov m ws calm full 0 t.words) ∧ (∀ p, so = some p → SLive m ws calm full on p.2)

theorem Ov.now {words : List Nat} {full' : Bool} (hw : WordsOk m ws) (h : ∀ j, j < m → Rw (words.getD j 0) (ws.getD j 0) ∧ freesOf (words.getD j 0) = [] ∧ (calm = true → words.getD j 0 = ws.getD j 0)) (hf : full' = decide (freeN ws (32 * m) = [])) : Ov m ws calm full' 0 words where
  all := h
  full := fun e => by
    rw [hf, decide_eq_false_iff_not, freeN_nil hw] at e
    have ⟨j, hj, hne⟩ : ∃ j, j < m ∧ freesOf (ws.getD j 0) ≠ [] := by
      apply Classical.byContradiction
      intro hn
      exact e fun j hj => Classical.byContradiction fun hne => hn ⟨j, hj, hne⟩
    refine ⟨j, Nat.zero_le _, hj, ?_⟩
    rcases (h j hj).1 with heq | hlt
    · rw [← heq] at hne
      exact absurd (h j hj).2.1 hne
    · exact hlt

theorem t_ports {t : PStep} (hm : m ≤ 32) (h : TLive m ws calm t) : ∀ x ∈ (doS ws t).2.ports, x < 2000 := by
  obtain ⟨_, t2, _⟩ := h.ok.takes h.kind
  have e0 : doS ws t = takeS ws t := by unfold doS; rw [if_neg (by simp [h.live]), if_pos h.kind]
  rw [e0]
  unfold takeS
  intro x hx
  split at hx
  · split at hx
    · obtain ⟨i, hi, rfl⟩ := List.mem_map.1 hx
      have := picks_mem hi
      omega
    · rw [h.ports] at hx; cases hx
  · split at hx <;> (rw [h.ports] at hx; cases hx)

theorem newWords_low (h1 : 1 ≤ n) : Low 0 (newWords n) := by
  intro j
  have : (newWords n).getD j 0 < 4294967296 := by
    have hr : ∀ k : Nat, (List.replicate k 0).getD j 0 = 0 := fun k => by
      rw [List.getD_eq_getElem?_getD, List.getElem?_replicate]
      split <;> rfl
    unfold newWords
    split
    · rw [hr]; decide
    · rw [getD_set]
      split
      · exact Nat.lt_of_le_of_lt Nat.and_le_left (by decide)
      · rw [hr]; decide
  unfold cnt
  omega

set_option maxRecDepth 100000 in
set_option maxHeartbeats 8000000 in
theorem None_walk {nn : Int} {v : Value} {l : List ActD} (hn : W64 nn) (hT : Tab W) (hl : ActsAt W v l) :
    Calls Tryd.prog 4 #[.int .i64 nn, v] W (Gives W (.bool true) 1) := by
  obtain ⟨av, cv, rfl, hlen, hcells⟩ := hl.shape
  have HL := Lib.hid hl.each
  have HC := Lib.hid hcells
  obtain ⟨n, hsz, hn1, hn2⟩ := size_ok nn 70 (by decide) (by decide)
  have hsz : wrap64 (1 + wrap64 ((IntKind.u64.wrap nn).tmod 70)) = (n : Int) := hsz
  have w0 : WordsOk ((n + 31) / 32) (newWords n) := newWords_ok hn1 (by omega)
  obtain ⟨m, hm⟩ : ∃ m, (n + 31) / 32 = m := ⟨_, rfl⟩
  rw [hm] at w0
  have hnm : n ≤ 32 * m := by omega
  have hm1 : 1 ≤ m := by omega
  have hm2 : m ≤ 32 := by omega
  have W0 := Lib.hid w0
  clear hm w0
  have HN := Lib.hid (New_any (n := n) hn1 (by omega) (Sat.start W))
  clear hl hcells
  go_enter Tryd.func4, Tryd.ntmps4
  go_wp2_with fail
  refine HN.out.mono ?_
  rintro e w1 ⟨bp, bc, bg, rfl, h1⟩
  go_wp2_with fail
  refine (takes_any hT h1).mono ?_
  rintro e w2 ⟨rfl, h2⟩
  have H2 := Lib.hid h2
  clear h1 h2
  go_wp2
  go_loopw [8] (fun v8 wz => ∃ (i : Nat) (ws : List Nat), v8 = .int .i64 (i : Int) ∧ i ≤ 3 ∧ WordsOk m ws ∧ Low (i * 300) ws ∧ Sat W wz (PoolSL bp bc bg n ws * 1)) (fun v8 _ => 3 - (intOf v8).toNat)
  case atStart => exact ⟨0, newWords n, rfl, by decide, W0.out, newWords_low hn1, H2.out⟩
  case round =>
    obtain ⟨i, ws, rfl, hi, hw, hlow, hrel⟩ := hrel
    have HW := Lib.hid hw
    have HLOW := Lib.hid hlow
    have HREL := Lib.hid hrel
    clear hw hlow hrel
    by_cases hi3 : i < 3
    · have HT := Lib.hid (Take_any HW.out (i : Int) 32 (by omega) (by omega) HREL.out)
      go_wp2_with fail
      refine HT.out.mono ?_
      rintro e w3 ⟨sp, rfl, h3⟩
      have hk : (takeNew (i : Int) 32 m).Ok m := takeNew_ok _ _ hm1
      have hR := run_any hT HW.out hk h3.swap
      have hr := run_rises 299 1 (i * 300) ws _ HW.out hk HLOW.out (by omega)
      have ho := runS_ok HW.out hk 299 1
      generalize runS 299 1 ws (takeNew (i : Int) 32 m) = R at hR hr ho
      have HR := Lib.hid hR
      have HRR := Lib.hid hr
      have HO := Lib.hid ho
      clear hR hr ho h3 hk
      go_wp2_with fail
      refine HR.out.mono ?_
      rintro e w4 ⟨rfl, h4⟩
      have H4 := Lib.hid h4.swap.drop
      clear h4
      go_wp2
      go_roundw
      case rel => exact ⟨i + 1, R.1.1, rfl, by omega, HO.out.1, HRR.out.2.mono (by omega), H4.out⟩
      case measure => simp [intOf]; omega
    · have HLOW := Lib.hid (HLOW.out.mono (show i * 300 ≤ 1000 + 0 * 400 by omega))
      have HT := Lib.hid (Take_any HW.out 0 1 (by decide) (by decide) HREL.out)
      go_wp2_with fail
      refine HT.out.mono ?_
      rintro e w3 ⟨tp, rfl, h3⟩
      have H3 := Lib.hid h3.swap
      clear h3
      go_wp2
      go_loopw [9, 10, 11, 12, 13, 14, 15, 16] (fun v9 v10 v11 v12 v13 v14 v15 v16 wz => ∃ (tp : Nat) (t : PStep) (so other : Option (Nat × PStep)) (full calm over on : Bool) (i : Nat) (ws : List Nat), v9 = .pointer (some ⟨tp, 0, none⟩) ∧ v10 = optP so ∧ v11 = optP other ∧
          v12 = .bool full ∧ v13 = .bool calm ∧ v14 = .bool over ∧ v15 = .bool on ∧ v16 = .int .i64 (i : Int) ∧ Nn W bp bc bg n m tp t so other full calm over on i ws wz) (fun _ _ _ _ _ _ _ v16 _ => 200 - (intOf v16).toNat)
      case atStart =>
        exact ⟨tp, takeNew 0 1 m, none, none, true, true, false, false, 0, ws, rfl, rfl, rfl, rfl, rfl, rfl, rfl, rfl, ⟨by decide, HW.out, HLOW.out, fun _ h => (by cases h), fun _ => ⟨rfl, rfl, takeNew_live _ _ hm1⟩, fun h => (by cases h), H3.out.ac (permN0 _ _)⟩⟩
      case round =>
        obtain ⟨tp, t, so, other, full, calm, over, on, i, ws, rfl, e10, e11, rfl, rfl, rfl, rfl, rfl, hrel⟩ := hrel
        by_cases hil : i < l.length ∧ i < 200
        · obtain ⟨hil1, hil2⟩ := hil
          obtain ⟨b, off, hav, hb, hx⟩ := HC.out (by omega)
          subst hav
          obtain ⟨⟨xwhat, xworker, xfr, xmost, xpv, xports⟩, hxi⟩ : ∃ x, l[i]? = some x := ⟨l[i], List.getElem?_eq_getElem hil1⟩
          have hmem := List.mem_of_getElem? hxi
          obtain ⟨wh, ww, wf, wm, wp⟩ := HL.out _ hmem
          obtain ⟨x0, x1, x2, x3, x4⟩ := hx i _ hxi
          rw [← hrel.sat.below.cell hb] at x0 x1 x2 x3 x4
          obtain ⟨a5, c5, e5, _, _, _⟩ := wp.shape
          simp only at wh ww wf wm wp x0 x1 x2 x3 x4 e5
          subst e5
          have WP := Lib.hid wp
          have WF := Lib.hid wf
          have WM := Lib.hid wm
          clear wh ww wf wm wp hxi hmem
          have hnl : l.length ≤ 9223372036854775807 := hlen
          clear hx
          have HR := Lib.hid hrel
          have hS : Sat W (wr.alloc (.cells #[.int .i64 xwhat, .int .i64 xworker, .int .i64 xfr, .int .i64 xmost, .slice a5 xports.length c5] 32)) (actB wr.heap.size xwhat xworker xfr xmost (.slice a5 xports.length c5) * (PoolSL bp bc bg n ws * (StepSL tp t * (optSL so * (optSL other * 1))))) := hrel.sat.alloc _
          have HS := Lib.hid hS
          clear hS hrel
          cases hev : (xworker.tmod 2 == 0) with
          | true =>
            have E10 := Lib.hid e10
            clear e10
            cases other with
            | none =>
              replace e11 : _ = Value.pointer none := e11
              subst e11
              go_upto_if 64 with (fail)
              go_cut [11] from 45 to 152 (fun v11 wz => ∃ (other' : Option (Nat × PStep)) (ws' : List Nat), v11 = optP other' ∧ WordsOk m ws' ∧ Low (1001 + i * 400) ws' ∧ Rws ws ws' ∧ (∀ p, other' = some p → p.2.Ok m) ∧ Sat W wz (PoolSL bp bc bg n ws' * (StepSL tp t * (optSL so * (optSL other' * 1)))))
              case first =>
                have HT := Lib.hid (Take_any HR.out.words xfr xmost WF.out.1 WF.out.2 (HS.out.ac (permM1 _ _ _ _ _)))
                go_wp2_with fail
                refine HT.out.mono ?_
                rintro e w3 ⟨np, rfl, h3⟩
                obtain ⟨y0, _, _, _, y4⟩ := actB.cells h3.drop.drop
                have H3 := Lib.hid h3
                clear h3
                cases hpar : (xwhat.tmod 2 == 0) with
                | true =>
                  have hf := few_any WP.out H3.out
                  have hf1 : (xports.take 40).length ≤ 40 := by rw [List.length_take]; omega
                  have hf2 : ∀ z ∈ xports.take 40, -9223372036854775808 ≤ z ∧ z ≤ 9223372036854775807 := fun z hz => WP.out.range z (List.mem_of_mem_take hz)
                  generalize xports.take 40 = l4 at hf hf1 hf2
                  have HF := Lib.hid hf
                  have HF2 := Lib.hid hf2
                  clear hf hf2
                  go_wp2_with fail
                  refine HF.out.mono ?_
                  rintro e w4 ⟨v4, rfl, h4⟩
                  obtain ⟨a4, c4, rfl, _, _, _⟩ := Row.at h4
                  have HBk := Lib.hid (Back_any (n := n) (l := l4) (by omega) (by omega) HF2.out h4.swap.drop)
                  clear h4
                  go_wp2_with fail
                  refine HBk.out.mono ?_
                  rintro e w5 ⟨np', rfl, h5⟩
                  have H5 := Lib.hid ((h5.swap.drop.ac (permN2 _ _ _ _ _)).drop)
                  clear h5
                  have hok4 := Lib.hid (backNew_ok hnm l4)
                  generalize backNew n l4 = s4 at H5 hok4
                  go_wp2
                  go_meet
                  exact ⟨some (np', s4), ws, rfl, HR.out.words, HR.out.low.mono (by omega), Rws.refl _, fun p hp => (by cases hp; exact hok4.out), H5.out⟩
                | false =>
                  go_wp2
                  go_meet
                  exact ⟨some (np, takeNew xfr xmost m), ws, rfl, HR.out.words, HR.out.low.mono (by omega), Rws.refl _, fun p hp => (by cases hp; exact takeNew_ok _ _ hm1), ((H3.out.ac (permN2 _ _ _ _ _)).drop)⟩
              case rest =>
                obtain ⟨other', ws', e11, hw', hl', hr', ho', hs'⟩ := hcut
                have HW' := Lib.hid hw'
                have HL' := Lib.hid hl'
                have HR' := Lib.hid hr'
                have HO' := Lib.hid ho'
                have HS' := Lib.hid hs'
                have E11' := Lib.hid e11
                clear hw' hl' hr' ho' hs' e11
                cases over with
                | false =>
                  all_goals
                    cases full
                    all_goals
                      go_wp2
                      go_roundw
                      case rel => exact ⟨tp, t, so, other', _, false, false, on, i + 1, ws', rfl, E10.out, E11'.out, rfl, rfl, rfl, rfl, rfl, ⟨by omega, HW'.out, HL'.out.mono (by omega), HO'.out, fun h => ⟨(HR.out.live rfl).1, (HR.out.live rfl).2.1, (HR.out.live rfl).2.2.other HR'.out⟩, fun h => (by cases h), HS'.out⟩⟩
                      case measure => simp [intOf]; omega
                | true =>
                  have hen : ∀ full' : Bool, full' = (full && (on || decide (freeN ws' (32 * m) = []))) → NnEnd m ws' false full' on so t := by
                    intro full' hf
                    obtain ⟨k1, k2, k3, k4, k5⟩ := HR.out.ended rfl
                    refine ⟨k1, k2, k3, fun h => ⟨(k4 h).1, (k4 h).2.other HR'.out HW'.out hf fun _ => rfl⟩, fun p hp => ?_⟩
                    have := k5 p hp
                    exact ⟨this.ok, this.kind, this.live, this.alike, this.ov.other HR'.out HW'.out hf this.on, this.on⟩
                  have HEN := Lib.hid hen
                  clear hen
                  cases full with
                  | false =>
                    go_wp2
                    go_roundw
                    case rel => exact ⟨tp, t, so, other', false, false, true, on, i + 1, ws', rfl, E10.out, E11'.out, rfl, rfl, rfl, rfl, rfl, ⟨by omega, HW'.out, HL'.out.mono (by omega), HO'.out, fun h => (by cases h), fun _ => HEN.out false (by simp), HS'.out⟩⟩
                    case measure => simp [intOf]; omega
                  | true =>
                    cases on with
                    | true =>
                      go_wp2
                      go_roundw
                      case rel => exact ⟨tp, t, so, other', true, false, true, true, i + 1, ws', rfl, E10.out, E11'.out, rfl, rfl, rfl, rfl, rfl, ⟨by omega, HW'.out, HL'.out.mono (by omega), HO'.out, fun h => (by cases h), fun _ => HEN.out true (by simp), HS'.out⟩⟩
                      case measure => simp [intOf]; omega
                    | false =>
                      obtain ⟨fl, hfl⟩ : ∃ fl, freeN ws' (32 * m) = fl := ⟨_, rfl⟩
                      have HF := Lib.hid (Free_to HW'.out HS'.out hfl)
                      have hfn : fl.length ≤ 32 * m := by rw [← hfl]; exact freeN_len _ _
                      have HFL := Lib.hid hfl
                      clear hfl
                      go_wp2_with fail
                      refine HF.out.mono ?_
                      rintro e w7 ⟨v7, rfl, h7⟩
                      obtain ⟨a7, c7, rfl, _, _, _⟩ := Row.at h7
                      have H7 := Lib.hid h7.drop
                      clear h7
                      cases fl with
                      | nil =>
                        go_wp2
                        go_roundw
                        case rel => exact ⟨tp, t, so, other', true, false, true, false, i + 1, ws', rfl, E10.out, E11'.out, rfl, rfl, rfl, rfl, rfl, ⟨by omega, HW'.out, HL'.out.mono (by omega), HO'.out, fun h => (by cases h), fun _ => HEN.out true (by rw [HFL.out]; simp), H7.out⟩⟩
                        case measure => simp [intOf]; omega
                      | cons f0 fr =>
                        have hb : (((f0 :: fr).length : Int) == 0) = false := by simp; omega
                        go_wp2
                        go_roundw
                        case rel => exact ⟨tp, t, so, other', false, false, true, false, i + 1, ws', rfl, E10.out, E11'.out, rfl, rfl, rfl, rfl, rfl, ⟨by omega, HW'.out, HL'.out.mono (by omega), HO'.out, fun h => (by cases h), fun _ => HEN.out false (by rw [HFL.out]; simp), H7.out⟩⟩
                        case measure => simp [intOf]; omega
            | some q =>
              obtain ⟨oq, o⟩ := q
              replace e11 : _ = Value.pointer (some ⟨oq, 0, none⟩) := e11
              subst e11
              go_upto_if 64 with (fail)
              go_cut [11] from 45 to 152 (fun v11 wz => ∃ (other' : Option (Nat × PStep)) (ws' : List Nat), v11 = optP other' ∧ WordsOk m ws' ∧ Low (1001 + i * 400) ws' ∧ Rws ws ws' ∧ (∀ p, other' = some p → p.2.Ok m) ∧ Sat W wz (PoolSL bp bc bg n ws' * (StepSL tp t * (optSL so * (optSL other' * 1)))))
              case first =>
                have hold : o.Ok m := HR.out.hother _ rfl
                have hdo := doS_ok HR.out.words hold
                have hri := do_rises HR.out.words hold HR.out.low (by omega)
                obtain ⟨ws', o', hpair⟩ : ∃ a b, doS ws o = (a, b) := ⟨_, _, rfl⟩
                have HD := Lib.hid (Do_to hT HR.out.words hold (HS.out.ac (permM4 _ _ _ _ _)) hpair rfl)
                rw [hpair] at hdo hri
                have HDO := Lib.hid hdo
                have HRI := Lib.hid hri
                clear hold hdo hri hpair
                cases hd : o'.done with
                | true =>
                  go_wp2_with fail
                  refine HD.out.mono ?_
                  rintro e w6 ⟨rfl, h6⟩
                  have H6 := Lib.hid h6
                  clear h6
                  simp only [hd]
                  go_wp2
                  go_meet
                  exact ⟨none, ws', rfl, HDO.out.1, HRI.out.2.mono (by omega), HRI.out.1, fun p hp => (by cases hp), ((H6.out.ac (permM6 _ _ _ _ _)).drop.drop)⟩
                | false =>
                  go_wp2_with fail
                  refine HD.out.mono ?_
                  rintro e w6 ⟨rfl, h6⟩
                  have H6 := Lib.hid h6
                  clear h6
                  simp only [hd]
                  go_wp2
                  go_meet
                  exact ⟨some (oq, o'), ws', rfl, HDO.out.1, HRI.out.2.mono (by omega), HRI.out.1, fun p hp => (by cases hp; exact HDO.out.2), ((H6.out.ac (permM5 _ _ _ _ _)).drop)⟩
              case rest =>
                obtain ⟨other', ws', e11, hw', hl', hr', ho', hs'⟩ := hcut
                have HW' := Lib.hid hw'
                have HL' := Lib.hid hl'
                have HR' := Lib.hid hr'
                have HO' := Lib.hid ho'
                have HS' := Lib.hid hs'
                have E11' := Lib.hid e11
                clear hw' hl' hr' ho' hs' e11
                cases over with
                | false =>
                  all_goals
                    cases full
                    all_goals
                      go_wp2
                      go_roundw
                      case rel => exact ⟨tp, t, so, other', _, false, false, on, i + 1, ws', rfl, E10.out, E11'.out, rfl, rfl, rfl, rfl, rfl, ⟨by omega, HW'.out, HL'.out.mono (by omega), HO'.out, fun h => ⟨(HR.out.live rfl).1, (HR.out.live rfl).2.1, (HR.out.live rfl).2.2.other HR'.out⟩, fun h => (by cases h), HS'.out⟩⟩
                      case measure => simp [intOf]; omega
                | true =>
                  have hen : ∀ full' : Bool, full' = (full && (on || decide (freeN ws' (32 * m) = []))) → NnEnd m ws' false full' on so t := by
                    intro full' hf
                    obtain ⟨k1, k2, k3, k4, k5⟩ := HR.out.ended rfl
                    refine ⟨k1, k2, k3, fun h => ⟨(k4 h).1, (k4 h).2.other HR'.out HW'.out hf fun _ => rfl⟩, fun p hp => ?_⟩
                    have := k5 p hp
                    exact ⟨this.ok, this.kind, this.live, this.alike, this.ov.other HR'.out HW'.out hf this.on, this.on⟩
                  have HEN := Lib.hid hen
                  clear hen
                  cases full with
                  | false =>
                    go_wp2
                    go_roundw
                    case rel => exact ⟨tp, t, so, other', false, false, true, on, i + 1, ws', rfl, E10.out, E11'.out, rfl, rfl, rfl, rfl, rfl, ⟨by omega, HW'.out, HL'.out.mono (by omega), HO'.out, fun h => (by cases h), fun _ => HEN.out false (by simp), HS'.out⟩⟩
                    case measure => simp [intOf]; omega
                  | true =>
                    cases on with
                    | true =>
                      go_wp2
                      go_roundw
                      case rel => exact ⟨tp, t, so, other', true, false, true, true, i + 1, ws', rfl, E10.out, E11'.out, rfl, rfl, rfl, rfl, rfl, ⟨by omega, HW'.out, HL'.out.mono (by omega), HO'.out, fun h => (by cases h), fun _ => HEN.out true (by simp), HS'.out⟩⟩
                      case measure => simp [intOf]; omega
                    | false =>
                      obtain ⟨fl, hfl⟩ : ∃ fl, freeN ws' (32 * m) = fl := ⟨_, rfl⟩
                      have HF := Lib.hid (Free_to HW'.out HS'.out hfl)
                      have hfn : fl.length ≤ 32 * m := by rw [← hfl]; exact freeN_len _ _
                      have HFL := Lib.hid hfl
                      clear hfl
                      go_wp2_with fail
                      refine HF.out.mono ?_
                      rintro e w7 ⟨v7, rfl, h7⟩
                      obtain ⟨a7, c7, rfl, _, _, _⟩ := Row.at h7
                      have H7 := Lib.hid h7.drop
                      clear h7
                      cases fl with
                      | nil =>
                        go_wp2
                        go_roundw
                        case rel => exact ⟨tp, t, so, other', true, false, true, false, i + 1, ws', rfl, E10.out, E11'.out, rfl, rfl, rfl, rfl, rfl, ⟨by omega, HW'.out, HL'.out.mono (by omega), HO'.out, fun h => (by cases h), fun _ => HEN.out true (by rw [HFL.out]; simp), H7.out⟩⟩
                        case measure => simp [intOf]; omega
                      | cons f0 fr =>
                        have hb : (((f0 :: fr).length : Int) == 0) = false := by simp; omega
                        go_wp2
                        go_roundw
                        case rel => exact ⟨tp, t, so, other', false, false, true, false, i + 1, ws', rfl, E10.out, E11'.out, rfl, rfl, rfl, rfl, rfl, ⟨by omega, HW'.out, HL'.out.mono (by omega), HO'.out, fun h => (by cases h), fun _ => HEN.out false (by rw [HFL.out]; simp), H7.out⟩⟩
                        case measure => simp [intOf]; omega
          | false =>
            have E11 := Lib.hid e11
            clear e11
            cases so with
            | none =>
              replace e10 : _ = Value.pointer none := e10
              subst e10
              cases over with
              | true =>
                cases hpar : (xwhat.tmod 2 == 0) with
                | true =>
                  obtain ⟨k1, k2, k3, k4, _⟩ := HR.out.ended rfl
                  have k4 := k4 rfl
                  have hwl : t.words.length ≤ 4294967296 := by rw [(k2.takes k3).1]; omega
                  have HSm := Lib.hid (Same_any (bp := bp) hwl k1 (HS.out.ac (permM8 _ _ _ _)))
                  have K := Lib.hid (And.intro k1 (And.intro k2 (And.intro k3 k4)))
                  clear k1 k2 k3 k4
                  go_wp2_with fail
                  refine HSm.out.mono ?_
                  rintro e w3 ⟨np, rfl, h3⟩
                  have H3 := Lib.hid ((h3.ac (permM9 _ _ _ _ _)).drop)
                  clear h3
                  go_wp2
                  go_roundw
                  case rel => exact ⟨tp, t, some (np, sameNew t), other, full, calm, true, false, i + 1, ws, rfl, rfl, E11.out, rfl, rfl, rfl, rfl, rfl, ⟨by omega, HR.out.words, HR.out.low.mono (by omega), HR.out.hother, fun h => (by cases h), fun _ => ⟨K.out.1, K.out.2.1, K.out.2.2.1, fun h => (by cases h), fun p hp => (by cases hp; exact ⟨sameNew_ok K.out.2.1 K.out.2.2.1 hm1, rfl, rfl, rfl, K.out.2.2.2.2, fun _ => rfl⟩)⟩, H3.out⟩⟩
                  case measure => simp [intOf]; omega
                | false =>
                  go_wp2
                  go_roundw
                  case rel => exact ⟨tp, t, none, other, full, calm, true, on, i + 1, ws, rfl, rfl, E11.out, rfl, rfl, rfl, rfl, rfl, ⟨by omega, HR.out.words, HR.out.low.mono (by omega), HR.out.hother, fun h => (by cases h), HR.out.ended, HS.out.drop⟩⟩
                  case measure => simp [intOf]; omega
              | false =>
                obtain ⟨_, k1, k2⟩ := HR.out.live rfl
                have hst := t_step HR.out.words k2
                have hdo := doS_ok HR.out.words k2.ok
                have hri := do_rises HR.out.words k2.ok HR.out.low (by omega)
                have htp := t_ports hm2 k2
                obtain ⟨ws', t', hpair⟩ : ∃ a b, doS ws t = (a, b) := ⟨_, _, rfl⟩
                have HD := Lib.hid (Do_to hT HR.out.words k2.ok (HS.out.ac (permMA _ _ _ _)) hpair rfl)
                rw [hpair] at hst hdo hri htp
                have HST := Lib.hid hst
                have HDO := Lib.hid hdo
                have HRI := Lib.hid hri
                have HTP := Lib.hid htp
                clear htp
                have K1 := Lib.hid k1
                clear hst hdo hri hpair k1 k2
                cases hd : t'.done with
                | false =>
                  go_wp2_with fail
                  refine HD.out.mono ?_
                  rintro e w6 ⟨rfl, h6⟩
                  have H6 := Lib.hid ((h6.ac (permMB _ _ _ _)).drop)
                  have HDN := Lib.hid hd
                  clear h6
                  simp only [hd]
                  clear hd
                  go_wp2
                  go_roundw
                  case rel => exact ⟨tp, t', none, other, full, calm, false, on, i + 1, ws', rfl, rfl, E11.out, rfl, rfl, rfl, rfl, rfl, ⟨by omega, HDO.out.1, HRI.out.2.mono (by omega), HR.out.hother, fun _ => ⟨rfl, K1.out, (by have h := HST.out.1 HDN.out; have h1 : ws' = ws := h.1; rw [h1]; exact h.2)⟩, fun h => (by cases h), H6.out⟩⟩
                  case measure => simp [intOf]; omega
                | true =>
                  cases hnn : noneS t' with
                  | true =>
                    obtain ⟨fl, hfl⟩ : ∃ fl, freeN ws' (32 * m) = fl := ⟨_, rfl⟩
                    have HFL := Lib.hid hfl
                    have hfn : fl.length ≤ 32 * m := by rw [← hfl]; exact freeN_len _ _
                    clear hfl
                    go_wp2_with fail
                    refine HD.out.mono ?_
                    rintro e w6 ⟨rfl, h6⟩
                    have hN := None_any h6.swap
                    rw [hnn] at hN
                    have HN' := Lib.hid hN
                    have HF := Lib.hid (Free_to HDO.out.1 h6 HFL.out)
                    have HDN := Lib.hid hd
                    have HNN := Lib.hid hnn
                    clear h6 hN
                    simp only [hd]
                    clear hd hnn
                    go_wp2_with fail
                    refine HN'.out.mono ?_
                    rintro e w7 ⟨rfl, rfl⟩
                    go_wp2_with fail
                    refine HF.out.mono ?_
                    rintro e w8 ⟨v8, rfl, h8⟩
                    obtain ⟨a8, c8, rfl, _, _, _⟩ := Row.at h8
                    have H8 := Lib.hid ((h8.drop.ac (permMB _ _ _ _)).drop)
                    clear h8
                    have hov : ∀ full' : Bool, full' = decide (fl = []) → Ov m ws' calm full' 0 t'.words := by
                      intro full' hf
                      obtain ⟨_, _, h3⟩ := HST.out.2 HDN.out HNN.out
                      have h1 : ws' = ws := (HST.out.2 HDN.out HNN.out).1
                      rw [← h1] at h3
                      exact Ov.now HDO.out.1 h3 (by rw [HFL.out]; exact hf)
                    have HOV := Lib.hid hov
                    clear hov
                    cases fl with
                    | nil =>
                      go_wp2
                      go_roundw
                      case rel => exact ⟨tp, t', none, other, true, calm, true, on, i + 1, ws', rfl, rfl, E11.out, rfl, rfl, rfl, rfl, rfl, ⟨by omega, HDO.out.1, HRI.out.2.mono (by omega), HR.out.hother, fun h => (by cases h), fun _ => ⟨HNN.out, HDO.out.2, (HST.out.2 HDN.out HNN.out).2.1, fun _ => ⟨K1.out, HOV.out true (by simp)⟩, fun p hp => (by cases hp)⟩, H8.out⟩⟩
                      case measure => simp [intOf]; omega
                    | cons f0 fr =>
                      have hb : (((f0 :: fr).length : Int) == 0) = false := by simp; omega
                      go_wp2
                      go_roundw
                      case rel => exact ⟨tp, t', none, other, false, calm, true, on, i + 1, ws', rfl, rfl, E11.out, rfl, rfl, rfl, rfl, rfl, ⟨by omega, HDO.out.1, HRI.out.2.mono (by omega), HR.out.hother, fun h => (by cases h), fun _ => ⟨HNN.out, HDO.out.2, (HST.out.2 HDN.out HNN.out).2.1, fun _ => ⟨K1.out, HOV.out false (by simp)⟩, fun p hp => (by cases hp)⟩, H8.out⟩⟩
                      case measure => simp [intOf]; omega
                  | false =>
                    have hpl : t'.ports.length ≤ 32 := HDO.out.2.ports
                    go_wp2_with fail
                    refine HD.out.mono ?_
                    rintro e w6 ⟨rfl, h6⟩
                    have hN := None_any h6.swap
                    rw [hnn] at hN
                    have HN' := Lib.hid hN
                    have HG := Lib.hid (Got_any (by omega) h6.swap)
                    clear h6 hN hnn
                    simp only [hd]
                    clear hd
                    go_wp2_with fail
                    refine HN'.out.mono ?_
                    rintro e w7 ⟨rfl, rfl⟩
                    go_wp2_with fail
                    refine HG.out.mono ?_
                    rintro e w8 ⟨v8, rfl, h8⟩
                    have h9 := h8.ac (permMD _ _ _ _ _)
                    rw [i64s_ints] at h9
                    obtain ⟨gl, hgl⟩ : ∃ gl, (t'.ports.map fun (x : Nat) => (x : Int)) = gl := ⟨_, rfl⟩
                    have hgn : t'.ports.length = gl.length := by rw [← hgl]; simp
                    have hgr : ∀ z ∈ gl, -9223372036854775808 ≤ z ∧ z ≤ 9223372036854775807 := by
                      intro z hz
                      rw [← hgl] at hz
                      obtain ⟨x, hx, rfl⟩ := List.mem_map.1 hz
                      have := HTP.out x hx
                      omega
                    rw [hgl, hgn] at h9
                    have hgb : gl.length ≤ 4096 := by omega
                    obtain ⟨a8, c8, rfl, _, _, _⟩ := Row.at h9
                    have HBk := Lib.hid (Back_any (n := n) (l := gl) (by omega) hgb hgr h9)
                    have HGN := Lib.hid hgn
                    clear h8 h9 hgl hgr hgn
                    go_wp2_with fail
                    refine HBk.out.mono ?_
                    rintro e w9 ⟨np, rfl, h10⟩
                    have hok4 := backNew_ok hnm gl
                    generalize backNew n gl = s4 at h10 hok4
                    have hR := run_any hT HDO.out.1 hok4 (h10.ac (permME _ _ _ _ _ _))
                    have hr := run_rises 299 1 _ ws' _ HDO.out.1 hok4 HRI.out.2 (by omega)
                    have ho := runS_ok HDO.out.1 hok4 299 1
                    generalize runS 299 1 ws' s4 = R at hR hr ho
                    have HR2 := Lib.hid hR
                    have HRR := Lib.hid hr
                    have HO2 := Lib.hid ho
                    clear hR hr ho h10 hok4
                    go_wp2_with fail
                    refine HR2.out.mono ?_
                    rintro e w10 ⟨rfl, h11⟩
                    have h12 := h11.ac (permMN _ _ _ _ _ _)
                    obtain ⟨_, _, y2, _, _⟩ := actB.cells h12.drop
                    have HT := Lib.hid (Take_any HO2.out.1 xfr 1 WF.out.1 WF.out.2 h12)
                    clear h11 h12
                    go_wp2_with fail
                    refine HT.out.mono ?_
                    rintro e w11 ⟨np2, rfl, h13⟩
                    have H13 := Lib.hid ((h13.ac (permMO _ _ _ _ _ _ _)).drop.drop.drop.drop)
                    clear h13
                    go_wp2
                    go_roundw
                    case rel => exact ⟨np2, takeNew xfr 1 m, none, other, full, true, false, on, i + 1, R.1.1, rfl, rfl, E11.out, rfl, rfl, rfl, rfl, rfl, ⟨by omega, HO2.out.1, HRR.out.2.mono (by omega), HR.out.hother, fun _ => ⟨rfl, K1.out, takeNew_live _ _ hm1⟩, fun h => (by cases h), H13.out⟩⟩
                    case measure => simp [intOf]; omega
            | some q =>
              obtain ⟨sq, s⟩ := q
              replace e10 : _ = Value.pointer (some ⟨sq, 0, none⟩) := e10
              subst e10
              cases over with
              | false => exact absurd (HR.out.live rfl).1 (by simp)
              | true =>
                obtain ⟨k1, k2, k3, _, k5⟩ := HR.out.ended rfl
                have hsl := k5 _ rfl
                simp only at hsl
                have K := Lib.hid (And.intro k1 (And.intro k2 k3))
                clear k1 k2 k3 k5
                have hst := s_step HR.out.words hsl
                have hdo := doS_ok HR.out.words hsl.ok
                have hri := do_rises HR.out.words hsl.ok HR.out.low (by omega)
                obtain ⟨ws', s', hpair⟩ : ∃ a b, doS ws s = (a, b) := ⟨_, _, rfl⟩
                have HD := Lib.hid (Do_to hT HR.out.words hsl.ok (HS.out.ac (permMH _ _ _ _ _)) hpair rfl)
                rw [hpair] at hst hdo hri
                have HST := Lib.hid hst
                have HDO := Lib.hid hdo
                have HRI := Lib.hid hri
                clear hst hdo hri hpair hsl
                cases hd : s'.done with
                | false =>
                  go_wp2_with fail
                  refine HD.out.mono ?_
                  rintro e w6 ⟨rfl, h6⟩
                  have H6 := Lib.hid ((h6.ac (permMI _ _ _ _ _)).drop)
                  have HDN := Lib.hid hd
                  clear h6
                  simp only [hd]
                  clear hd
                  go_wp2
                  go_roundw
                  case rel => exact ⟨tp, t, some (sq, s'), other, full, calm, true, true, i + 1, ws', rfl, rfl, E11.out, rfl, rfl, rfl, rfl, rfl, ⟨by omega, HDO.out.1, HRI.out.2.mono (by omega), HR.out.hother, fun h => (by cases h), fun _ => ⟨K.out.1, K.out.2.1, K.out.2.2, fun h => (by cases h), fun p hp => (by cases hp; have h1 : ws' = ws := HST.out.1; rw [h1]; exact HST.out.2.1 HDN.out)⟩, H6.out⟩⟩
                  case measure => simp [intOf]; omega
                | true =>
                  have HDN := Lib.hid hd
                  cases ha : s'.alike with
                  | true =>
                    have hfull : full = true := (HST.out.2.2 hd).1 ha
                    subst hfull
                    cases calm
                    all_goals
                      go_wp2_with fail
                      refine HD.out.mono ?_
                      rintro e w6 ⟨rfl, h6⟩
                      have hSA := StepSame_any h6.swap
                      rw [ha] at hSA
                      have HSA := Lib.hid hSA
                      obtain ⟨_, _, y2, _, _⟩ := actB.cells h6.drop.drop
                      have HT := Lib.hid (Take_any HDO.out.1 xfr 1 WF.out.1 WF.out.2 h6)
                      clear h6 hSA ha
                      simp only [hd]
                      clear hd
                      go_wp2_with (go_at_call 18; refine HSA.out.mono ?_; rintro e w7 ⟨rfl, rfl⟩)
                      refine HT.out.mono ?_
                      rintro e w8 ⟨np, rfl, h8⟩
                      have H8 := Lib.hid ((h8.ac (permMJ _ _ _ _ _ _)).drop.drop.drop)
                      clear h8
                      go_wp2
                      go_roundw
                      case rel => exact ⟨np, takeNew xfr 1 m, none, other, _, true, false, false, i + 1, ws', rfl, rfl, E11.out, rfl, rfl, rfl, rfl, rfl, ⟨by omega, HDO.out.1, HRI.out.2.mono (by omega), HR.out.hother, fun _ => ⟨rfl, rfl, takeNew_live _ _ hm1⟩, fun h => (by cases h), H8.out⟩⟩
                      case measure => simp [intOf]; omega
                  | false =>
                    cases calm with
                    | true => exact absurd ((HST.out.2.2 hd).2 rfl) (by rw [ha]; decide)
                    | false =>
                      go_wp2_with fail
                      refine HD.out.mono ?_
                      rintro e w6 ⟨rfl, h6⟩
                      have hSA := StepSame_any h6.swap
                      rw [ha] at hSA
                      have HSA := Lib.hid hSA
                      obtain ⟨_, _, y2, _, _⟩ := actB.cells h6.drop.drop
                      have HT := Lib.hid (Take_any HDO.out.1 xfr 1 WF.out.1 WF.out.2 h6)
                      clear h6 hSA ha
                      simp only [hd]
                      clear hd
                      go_wp2_with (go_at_call 18; refine HSA.out.mono ?_; rintro e w7 ⟨rfl, rfl⟩)
                      refine HT.out.mono ?_
                      rintro e w8 ⟨np, rfl, h8⟩
                      have H8 := Lib.hid ((h8.ac (permMJ _ _ _ _ _ _)).drop.drop.drop)
                      clear h8
                      go_wp2
                      go_roundw
                      case rel => exact ⟨np, takeNew xfr 1 m, none, other, _, true, false, false, i + 1, ws', rfl, rfl, E11.out, rfl, rfl, rfl, rfl, rfl, ⟨by omega, HDO.out.1, HRI.out.2.mono (by omega), HR.out.hother, fun _ => ⟨rfl, rfl, takeNew_live _ _ hm1⟩, fun h => (by cases h), H8.out⟩⟩
                      case measure => simp [intOf]; omega
        · go_wp2
          all_goals
            go_ret
            exact ⟨rfl, (hrel.sat.ac (SL.sep_emp _).symm).drop⟩

end Go.Proofs.YtcciijdnegjkjaaDoor
