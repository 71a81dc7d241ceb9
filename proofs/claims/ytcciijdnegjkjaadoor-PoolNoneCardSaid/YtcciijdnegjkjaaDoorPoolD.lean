/-
  Package pool: Back.
-/
import Derived.Test.YtcciijdnegjkjaaDoorPoolC
import Derived.Deep.RegionHeld3
import Derived.Deep.RegionLaw
import Derived.Deep.AppendLies
namespace Go.Proofs.YtcciijdnegjkjaaDoor
open Go.RowKit

variable {W w : World} {F : SL} {bp bc bg n sp m : Nat} {ws : List Nat} {s : PStep}

def ints (l : List Int) : List Value := l.map fun (z : Int) => .int .i64 z
theorem length_ints (l : List Int) : (ints l).length = l.length := by simp [ints]
theorem get_ints {l : List Int} {i : Nat} {z : Int} (h : l[i]? = some z) : (ints l)[i]? = some (.int .i64 z) := by simp [ints, h]
theorem i64s_ints (l : List Nat) : i64s l = ints (l.map fun (x : Nat) => (x : Int)) := by simp [i64s, ints]

/-- One number more to give back. -/
def addPart (ps : List (Nat × Nat)) (z : Nat) : List (Nat × Nat) :=
  match partAt ps (z / 32) with
  | some i => ps.set i ((ps.getD i (0, 0)).1, (ps.getD i (0, 0)).2 ||| 2 ^ (z % 32))
  | none => ps ++ [(z / 32, 2 ^ (z % 32))]
def backStep (n : Nat) (ps : List (Nat × Nat)) (z : Int) : List (Nat × Nat) := if 0 ≤ z ∧ z < n then addPart ps z.toNat else ps
def backParts (n : Nat) (l : List Int) : List (Nat × Nat) := l.foldl (backStep n) []
def backNew (n : Nat) (l : List Int) : PStep := { kind := 2, parts := backParts n l }

theorem backParts_snoc (n : Nat) (l : List Int) (z : Int) : backParts n (l ++ [z]) = backStep n (backParts n l) z := by simp [backParts]
theorem addPart_len (ps : List (Nat × Nat)) (z : Nat) : (addPart ps z).length ≤ ps.length + 1 := by
  unfold addPart; split <;> simp
theorem backStep_len (n : Nat) (ps : List (Nat × Nat)) (z : Int) : (backStep n ps z).length ≤ ps.length + 1 := by
  unfold backStep; split
  · exact addPart_len _ _
  · omega
theorem foldl_len (n : Nat) : ∀ (l : List Int) (ps : List (Nat × Nat)), (l.foldl (backStep n) ps).length ≤ ps.length + l.length
  | [], ps => by simp
  | z :: l, ps => by
    have := foldl_len n l (backStep n ps z)
    have := backStep_len n ps z
    simp only [List.foldl_cons, List.length_cons]
    omega
theorem backParts_len (n : Nat) (l : List Int) : (backParts n l).length ≤ l.length := by have := foldl_len n l []; simpa [backParts] using this

theorem pow_lt_32 (z : Nat) : 2 ^ (z % 32) < 4294967296 := pow_lt32 (Nat.mod_lt _ (by decide))

theorem addPart_ok {ps : List (Nat × Nat)} (h : ∀ p ∈ ps, p.1 < m ∧ p.2 < 4294967296) (z : Nat) (hz : z / 32 < m) : ∀ p ∈ addPart ps z, p.1 < m ∧ p.2 < 4294967296 := by
  intro p hp
  unfold addPart at hp
  split at hp
  · rename_i i hi
    have hi' : i < ps.length := by
      unfold partAt at hi
      obtain ⟨h', _⟩ := List.findIdx?_eq_some_iff_getElem.1 hi
      exact h'
    rcases List.mem_or_eq_of_mem_set hp with hp | rfl
    · exact h p hp
    · have := h ps[i] (List.getElem_mem hi')
      rw [List.getD_eq_getElem?_getD, List.getElem?_eq_getElem hi']
      exact ⟨this.1, or_lt this.2 (pow_lt_32 z)⟩
  · rcases List.mem_append.1 hp with hp | hp
    · exact h p hp
    · simp at hp
      subst hp
      exact ⟨hz, pow_lt_32 z⟩

theorem backParts_ok (hn : n ≤ 32 * m) : ∀ (l : List Int) (ps : List (Nat × Nat)), (∀ p ∈ ps, p.1 < m ∧ p.2 < 4294967296) → ∀ p ∈ l.foldl (backStep n) ps, p.1 < m ∧ p.2 < 4294967296
  | [], ps, h => by simpa using h
  | z :: l, ps, h => by
    rw [List.foldl_cons]
    refine backParts_ok hn l _ ?_
    unfold backStep
    split
    · exact addPart_ok h _ (by omega)
    · exact h

theorem backNew_ok (hn : n ≤ 32 * m) (l : List Int) : (backNew n l).Ok m where
  kind := .inr (.inr rfl)
  seen := by simp [backNew]
  words := by simp [backNew]
  takes := by simp [backNew]
  sames := by simp [backNew]
  parts := backParts_ok hn l [] (by simp)
  ports := by simp [backNew]

theorem elem_part : Elem Tryd.prog 53 58 (.agg #[.int .i64 0, .int .u64 0]) 2 16 := ⟨Tryd.underlying53, by kernel_rfl, rfl, Nat.zero_lt_two⟩

theorem partCells_snoc (ps : List (Nat × Nat)) (a b : Nat) : partCells (ps ++ [(a, b)]) = partCells ps ++ [.int .i64 (a : Int), .int .u64 (b : Int)] := by simp [partCells]
theorem partAt_lt {ps : List (Nat × Nat)} {c i : Nat} (h : partAt ps c = some i) : i < ps.length := by
  unfold partAt at h
  obtain ⟨h', _⟩ := List.findIdx?_eq_some_iff_getElem.1 h
  exact h'
theorem or_key {M i : Nat} (hM : M < 4294967296) (hi : i < 32) : bits BinOp.or IntKind.u64 (M : Int) ((2 : Int) ^ i) = ((M ||| 2 ^ i : Nat) : Int) := by
  have h1 := pow_lt32 hi
  rw [show ((2 : Int) ^ i) = ((2 ^ i : Nat) : Int) by norm_cast]
  exact u64_or_nat M _ (by omega) (by generalize 2 ^ i = p at *; omega)
theorem Row.free {e size : Nat} {v : Value} {xs : List Value} (h : Sat W w (Row e size v n xs * F)) {g cap : Nat} (hv : v = .slice (some ⟨g, 0, none⟩) n cap) (i : Nat) : w.frozen? ⟨g, i, none⟩ = false := by
  obtain ⟨hl, ⟨e1, _⟩ | ⟨g', cap', cur, e1, a1, a2, a3, a4, hs⟩⟩ := Row.open h
  · rw [hv] at e1; simp at e1
  · rw [hv] at e1
    simp at e1
    obtain ⟨rfl, rfl⟩ := e1
    exact hs.free i
theorem partCells_set (ps : List (Nat × Nat)) (i a b : Nat) (h : i < ps.length) (ha : (ps.getD i (0, 0)).1 = a) : (partCells ps).set (i * 2 + 1) (.int .u64 (b : Int)) = partCells (ps.set i (a, b)) := by
  induction ps generalizing i with
  | nil => simp at h
  | cons p ps ih =>
    cases i with
    | zero => simp at ha; subst ha; simp [partCells_cons]
    | succ i =>
      rw [partCells_cons, show (i + 1) * 2 + 1 = (i * 2 + 1) + 1 + 1 by omega]
      simp only [List.set_cons_succ, partCells_cons]
      rw [ih i (by simpa using h) (by simpa using ha)]

theorem sep_comm5 (A B C D E : SL) : A * (B * (C * (D * E))) = D * (A * (C * (B * E))) := by ac_rfl
theorem sep13 (A B C D : SL) : A * (B * (C * D)) = C * (B * (A * D)) := by ac_rfl
theorem j32 (j : Nat) : ((j / 32 : Nat) : Int) = (j : Int) / 32 := by omega

set_option maxRecDepth 100000 in
set_option maxHeartbeats 1600000 in
theorem Back_any {v : Value} {l : List Int} (hn : n ≤ 1024) (hll : l.length ≤ 4096) (hr : ∀ z ∈ l, -9223372036854775808 ≤ z ∧ z ≤ 9223372036854775807) (h : Sat W w (Row 3 1 v l.length (ints l) * (PoolSL bp bc bg n ws * F))) :
    Calls Tryd.prog 9 #[.pointer (some ⟨bp, 0, none⟩), v] w (NewStep W (backNew n l) (Row 3 1 v l.length (ints l) * (PoolSL bp bc bg n ws * F))) := by
  obtain ⟨av, cv, rfl, _, _, _⟩ := Row.at h
  have H := Lib.hid h
  have HRR := Lib.hid hr
  clear h hr
  go_enter Tryd.func9, Tryd.ntmps9
  go_wp2
  go_loopw [16] (fun v16 wr => ∃ k : Nat, ∃ vp : Value, k ≤ l.length ∧ v16 = .int .i64 (k : Int) ∧ 
      Sat W wr (Row 58 2 vp (backParts n (l.take k)).length (partCells (backParts n (l.take k))) * (StepB w.heap.size { kind := 2, parts := backParts n (l.take k) } (.slice none 0 0) vp (.slice none 0 0) *
        (Row 3 1 (.slice av l.length cv) l.length (ints l) * (PoolSL bp bc bg n ws * F))))) (fun v16 _ => l.length - (intOf v16).toNat)
  case atStart =>
    refine ⟨0, .slice none 0 0, Nat.zero_le _, rfl, ?_⟩
    exact Row.nil_in _ _ (H.out.alloc _)
  case round =>
    obtain ⟨k, vp, hk, rfl, hrel⟩ := hrel
    by_cases hkm : k < l.length
    · obtain ⟨ap, cp, rfl, _, _, _⟩ := Row.at hrel
      obtain ⟨g, rfl, hcell⟩ := Row.cellAt hrel.drop.drop (by omega)
      obtain ⟨z, hz⟩ : ∃ z, l[k]? = some z := ⟨l[k], List.getElem?_eq_getElem hkm⟩
      have c1 := hcell _ _ (get_ints hz)
      obtain ⟨p0, p1, _⟩ := PoolSL.facts (F := F) (W := W) (w := wr) (bp := bp) (bc := bc) (bg := bg) (n := n) (ws := ws) hrel.drop.drop.drop
      obtain ⟨_, _, _, _, _, _, _, s7, _, _, _, fs⟩ := StepB.facts hrel.drop
      obtain ⟨hz1, hz2⟩ := HRR.out z (List.mem_of_getElem? hz)
      have htk : l.take (k + 1) = l.take k ++ [z] := by rw [List.take_add_one, hz]; rfl
      have hbs := backParts_snoc n (l.take k) z
      rw [← htk] at hbs
      have hpl := backParts_len n (l.take k)
      have hPok : ∀ i, i < (backParts n (l.take k)).length → ((backParts n (l.take k)).getD i (0, 0)).2 < 4294967296 := fun i hi => by
        rw [List.getD_eq_getElem?_getD, List.getElem?_eq_getElem hi]
        exact (backParts_ok (m := 32) (n := n) (by omega) (l.take k) [] (by simp) _ (List.getElem_mem hi)).2
      rw [List.length_take] at hpl
      have b1 := World.block_lt_of_cell? _ _ c1
      have b2 := World.block_lt_of_cell? _ _ p0
      have b3 := World.block_lt_of_cell? _ _ s7
      simp only at b1 b2 b3
      have HR := Lib.hid hrel
      have HZ := Lib.hid hz
      have HTK := Lib.hid htk
      clear hrel hcell hz htk
      generalize hP : backParts n (l.take k) = P at *
      have HP := Lib.hid hP
      clear hP
      by_cases hneg : z < 0
      · have hst : backStep n P z = P := by unfold backStep; rw [if_neg (by omega)]
        rw [hst] at hbs
        have HB := Lib.hid hbs
        have hb1 : decide (z < 0) = true := by simpa using hneg
        clear hbs hst
        go_wp2
        go_quiet (fail)
        go_wp2
        go_roundw
        case rel => exact ⟨k + 1, _, by omega, by go_num, by rw [HB.out]; exact (HR.out.forget _).drewN _⟩
        case measure => simp [intOf]; omega
      · have hneg' : 0 ≤ z := by omega
        by_cases hge : (n : Int) ≤ z
        · have hst : backStep n P z = P := by unfold backStep; rw [if_neg (by omega)]
          rw [hst] at hbs
          have HB := Lib.hid hbs
          have hb1 : decide (z < 0) = false := by simpa using hneg
          clear hbs hst
          go_wp2
          go_quiet (fail)
          go_wp2
          go_roundw
          case rel => exact ⟨k + 1, _, by omega, by go_num, by rw [HB.out]; exact (HR.out.forget _).drewN _⟩
          case measure => simp [intOf]; omega
        · obtain ⟨j, rfl⟩ : ∃ j : Nat, z = (j : Int) := ⟨z.toNat, by omega⟩
          have hst : backStep n P (j : Int) = addPart P j := by unfold backStep; rw [if_pos (by omega)]; rfl
          rw [hst] at hbs
          have hb1 : decide ((j : Int) < 0) = false := by simp
          have hb2 : decide ((n : Int) ≤ (j : Int)) = false := by simp; omega
          have hjn : j < n := by omega
          have hpw := wrap_pow (i := j % 32) (Nat.mod_lt _ (by decide))
          have hpn := HR.out.alloc (.cells #[.int .i64 (j : Int)] 3)
          have HPN := Lib.hid hpn.swap
          have hmod : j % 32 < 32 := Nat.mod_lt _ (by decide)
          cases hpa : partAt P (j / 32) with
          | none =>
            have hIF := fun (w' : World) (F' : SL) (pn : Nat) hh => IndexFunc_any (W := W) (w := w') (F := F') (v := .slice ap P.length cp) (ps := P) (pn := pn) (z := j) (by omega) (by omega) hh
            have hadd : addPart P j = P ++ [(j / 32, 2 ^ (j % 32))] := by unfold addPart; rw [hpa]
            rw [hpa] at hIF
            rw [hadd] at hbs
            have HIF := Lib.hid hIF
            have HB := Lib.hid hbs
            have hq2 := j32 j
            clear hIF hpn hbs hst hneg hge hneg' hadd hpa
            go_wp2
            go_quiet (fail)
            go_wp2_with (go_at_call 23; refine (HIF.out _ _ _ (HPN.out.drewN _)).mono ?_; rintro e w' ⟨rfl, hq⟩)
            obtain ⟨_, _, _, _, _, _, _, t7, _, _, _, tf⟩ := StepB.facts hq.drop.drop
            have tc := hq.drop.cell 0
            simp only [List.getElem?_toArray, List.getElem?_cons_zero] at tc
            have tf7 := tf 7
            have HQ := Lib.hid hq
            clear hq tf
            have tb1 := World.block_lt_of_cell? _ _ t7
            have hwj : IntKind.i64.wrap ((j : Int) / 32) = (j : Int) / 32 := IntWalk.i64_in _ (by omega)
            have tb2 := World.block_lt_of_cell? _ _ tc
            simp only at tb1 tb2
            go_region_law (refine step_append_row (by rfl) _ _ 53 (by rfl) elem_part (by rfl) (HQ.out.drew.forget _) ⟨w'.heap.size, 0, none⟩ 1 1 [.int .i64 ((j : Int) / 32), .int .u64 ((2 : Int) ^ (j % 32))] (by rfl) (by rfl) (cell_two_new w'.drew _ _ _) (by simp [Value.oneCell']) (by unfold maxLen; omega) (by omega) ?_; intro a2 c2 w2 hs2 hsz; have uf7 := (StepB.facts hs2.drop.drop).2.2.2.2.2.2.2.2.2.2.2 7; have u7 := (StepB.facts hs2.drop.drop).2.2.2.2.2.2.2.1)
            all_goals
              go_wp2
              go_roundw
              case rel =>
                refine ⟨k + 1, .slice a2 (P.length + 1) c2, by omega, by go_num, ?_⟩
                rw [HB.out]
                have k1 := hs2.swap.drop.swap.stVparts (P ++ [(j / 32, 2 ^ (j % 32))]) (.slice a2 (P.length + 1) c2)
                have e1 : partCells P ++ [Value.int .i64 ((j : Int) / 32), .int .u64 ((2 : Int) ^ (j % 32))] = partCells (P ++ [(j / 32, 2 ^ (j % 32))]) := by rw [partCells_snoc]; simp
                rw [← e1, List.length_append]
                exact k1.swap
              case measure => simp [intOf]; omega
          | some i =>
            have hiP := partAt_lt hpa
            have hIF := fun (w' : World) (F' : SL) (pn : Nat) hh => IndexFunc_any (W := W) (w := w') (F := F') (v := .slice ap P.length cp) (ps := P) (pn := pn) (z := j) (by omega) (by omega) hh
            have hadd : addPart P j = P.set i ((P.getD i (0, 0)).1, (P.getD i (0, 0)).2 ||| 2 ^ (j % 32)) := by unfold addPart; rw [hpa]
            obtain ⟨gp, rfl, _⟩ := Row.cellAt HR.out (by omega)
            have hgp := get_partCells P i hiP
            have hmask : (P.getD i (0, 0)).2 < 4294967296 := by
              have := hPok i hiP
              exact this
            rw [hpa, show idxOr (some i) = (i : Int) from rfl] at hIF
            rw [hadd] at hbs
            generalize hA : (P.getD i (0, 0)).1 = A at *
            generalize hM : (P.getD i (0, 0)).2 = M at *
            have HIF := Lib.hid hIF
            have HB := Lib.hid hbs
            have HGP := Lib.hid hgp
            have hor := or_key hmask hmod
            have HA := Lib.hid hA
            clear hIF hpn hbs hst hneg hge hneg' hadd hpa hA hM hgp
            go_wp2
            go_quiet (fail)
            go_wp2_with (go_at_call 23; refine (HIF.out _ _ _ (HPN.out.drewN _)).mono ?_; rintro e w' ⟨rfl, hq⟩; obtain ⟨_, _, _, _, _, _, _, t7, _, _, _, _⟩ := StepB.facts hq.drop.drop; obtain ⟨_, hee, hcells⟩ := Row.cellAt hq (by omega); simp at hee; subst hee; have tc2 := hcells _ _ HGP.out.2; have tf2 := Row.free hq rfl (i * 2 + 1); have HQ := Lib.hid hq; clear hq hcells)
            go_roundw
            case rel =>
              refine ⟨k + 1, .slice (some ⟨gp, 0, none⟩) P.length cp, by omega, by go_num, ?_⟩
              rw [HB.out]
              have k1 := Row.store HQ.out rfl (i * 2 + 1) (.int .u64 ((M ||| 2 ^ (j % 32) : Nat) : Int))
              rw [partCells_set P i A _ hiP HA.out] at k1
              have k2 := k1.swap.drop.swap
              rw [List.length_set]
              exact k2.swap
            case measure => simp [intOf]; omega
    · have hkm : k = l.length := by omega
      have HR := Lib.hid hrel
      clear hrel
      go_wp2
      go_ret
      refine ⟨w.heap.size, rfl, ?_⟩
      have k1 := HR.out
      rw [hkm, List.take_length] at k1
      have k2 := (Row.nil_in 23 1 (Row.nil_in 3 1 (k1.left Row.le_at)))
      exact StepSL.make (k2.ac (sep_comm5 _ _ _ _ _)) rfl rfl rfl rfl rfl rfl rfl

end Go.Proofs.YtcciijdnegjkjaaDoor
