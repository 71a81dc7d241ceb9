/-
  Package pool: Free.
-/
import Derived.Test.YtcciijdnegjkjaaDoorPool9
namespace Go.Proofs.YtcciijdnegjkjaaDoor
open Go.RowKit

variable {W w : World} {F : SL} {bp bc bg n sp m : Nat} {ws : List Nat} {s : PStep}

/-- Is number j free? -/
def isFree (ws : List Nat) (j : Nat) : Bool := !(ws.getD (j / 32) 0).testBit (j % 32)
/-- The free ones below c. -/
def freeN (ws : List Nat) (c : Nat) : List Nat := (List.range c).filter (isFree ws)
theorem freeN_succ (ws : List Nat) (c : Nat) : freeN ws (c + 1) = freeN ws c ++ if isFree ws c then [c] else [] := by
  unfold freeN
  rw [List.range_succ, List.filter_append]
  congr 1
  by_cases h : isFree ws c <;> simp [h]
theorem freeN_len (ws : List Nat) (c : Nat) : (freeN ws c).length ≤ c := by
  have := List.length_filter_le (isFree ws) (List.range c)
  simpa [freeN] using this

theorem Row.cellAt {e size : Nat} {a : Option Addr} {cap : Nat} {xs : List Value} (h : Sat W w (Row e size (.slice a n cap) n xs * F)) (hn : 0 < n) : ∃ g, a = some ⟨g, 0, none⟩ ∧ ∀ i u, xs[i]? = some u → w.cell? ⟨g, i, none⟩ = some u := by
  obtain ⟨a', cap', e', _, _, hrow⟩ := Row.at h
  simp at e'
  obtain ⟨rfl, rfl⟩ := e'
  obtain ⟨g, rfl, hc, _⟩ := hrow hn
  exact ⟨g, rfl, hc⟩

theorem bit_test {u i : Nat} (hu : u < 18446744073709551616) : bits BinOp.and IntKind.u64 ((u : Int) / (2 : Int) ^ i) 1 = (((u / 2 ^ i % 2 : Nat)) : Int) := by
  have e : ((u : Int) / (2 : Int) ^ i) = ((u / 2 ^ i : Nat) : Int) := by norm_cast
  have hlt : u / 2 ^ i < 18446744073709551616 := Nat.lt_of_le_of_lt (Nat.div_le_self _ _) hu
  rw [e]
  have := u64_and_nat (u / 2 ^ i) 1 hlt (by decide)
  rw [show ((1 : Nat) : Int) = 1 from rfl] at this
  rw [this, nat_mask1]

theorem bit_no {u i : Nat} (h : u.testBit i = false) : ((u : Int) / (2 : Int) ^ i % 2 == 0) = true := by
  have e : ((u : Int) / (2 : Int) ^ i) = ((u / 2 ^ i : Nat) : Int) := by norm_cast
  rw [Nat.testBit_eq_decide_div_mod_eq] at h
  rw [e, beq_iff_eq]
  simp at h
  omega
theorem bit_yes {u i : Nat} (h : u.testBit i = true) : ((u : Int) / (2 : Int) ^ i % 2 == 0) = false := by
  have e : ((u : Int) / (2 : Int) ^ i) = ((u / 2 ^ i : Nat) : Int) := by norm_cast
  rw [Nat.testBit_eq_decide_div_mod_eq] at h
  rw [e, beq_eq_false_iff_ne]
  simp at h
  omega

set_option maxRecDepth 100000 in
set_option maxHeartbeats 1600000 in
theorem Free_any (hw : WordsOk m ws) (h : Sat W w (PoolSL bp bc bg n ws * F)) :
    Calls Tryd.prog 14 #[.pointer (some ⟨bp, 0, none⟩)] w (NewRow W 3 1 (freeN ws (32 * m)).length (i64s (freeN ws (32 * m))) (PoolSL bp bc bg n ws * F)) := by
  obtain ⟨p0, _⟩ := PoolSL.facts h
  have hm2 := hw.most
  have hm1 := hw.pos
  have HC := Lib.hid (CellsCopy_any hw h)
  have HW := Lib.hid hw
  clear h hw
  go_enter Tryd.func14, Tryd.ntmps14
  go_wp2_with (go_at_call 25; refine HC.out.mono ?_; rintro e w' ⟨v, rfl, hq⟩; obtain ⟨av, cv, rfl, _, _, hav⟩ := Row.at hq; obtain ⟨gv, rfl, _⟩ := hav (by omega); have HQ := Lib.hid hq; clear hq hav)
  go_loopw [3, 15] (fun v3 v15 wr => ∃ k : Nat, k ≤ m ∧ v15 = .int .i64 (k : Int) ∧ Sat W wr (Row 3 1 v3 (freeN ws (32 * k)).length (i64s (freeN ws (32 * k))) * (Row 23 1 (.slice (some ⟨gv, 0, none⟩) m cv) m (u64s ws) * (PoolSL bp bc bg n ws * F)))) (fun _ v15 _ => m - (intOf v15).toNat)
  case atStart => exact ⟨0, Nat.zero_le _, rfl, by simpa [i64s, freeN] using Row.nil_in 3 1 HQ.out⟩
  case round =>
    obtain ⟨k, hk, rfl, hrel⟩ := hrel
    by_cases hkm : k < m
    · obtain ⟨gv', e', hcell⟩ := Row.cellAt hrel.drop (by omega)
      simp at e'
      subst e'
      obtain ⟨hg, hlt⟩ := HW.out.get hkm
      have hv := hcell k _ (get_u64s hg)
      have HR := Lib.hid hrel
      clear hrel hcell hg
      generalize hu : ws.getD k 0 = u at *
      have HU := Lib.hid hu
      clear hu
      go_wp2
      go_loopw [3, 20] (fun v3 v20 wr => ∃ i : Nat, i ≤ 32 ∧ v20 = .int .i64 (i : Int) ∧ Sat W wr (Row 3 1 v3 (freeN ws (32 * k + i)).length (i64s (freeN ws (32 * k + i))) * (Row 23 1 (.slice (some ⟨gv, 0, none⟩) m cv) m (u64s ws) * (PoolSL bp bc bg n ws * F)))) (fun _ v20 _ => 32 - (intOf v20).toNat)
      case atStart => exact ⟨0, by omega, rfl, HR.out⟩
      case round =>
        obtain ⟨i, hi, rfl, hrel⟩ := hrel
        have HI := Lib.hid hrel
        clear hrel
        have hlen := freeN_len ws (32 * k + i)
        by_cases hi32 : i < 32
        · have hbt := bit_test (i := i) hlt
          have hfr : isFree ws (32 * k + i) = !u.testBit i := by
            unfold isFree
            rw [show (32 * k + i) / 32 = k by omega, show (32 * k + i) % 32 = i by omega, HU.out]
          have hsu := freeN_succ ws (32 * k + i)
          rw [hfr] at hsu
          cases ht : u.testBit i with
          | false =>
            have hb := bit_no ht
            rw [ht] at hsu
            have HS := Lib.hid hsu
            clear hsu ht hfr
            go_wp2_with (at_builtin; refine wpList_append_row rfl (.tmp 28) (.tmp 33) 30 rfl elem_i64 rfl (HI.out.forget _) ⟨wr.heap.size, 0, none⟩ 1 1 [_] rfl rfl (cell_one_new _ _ _) ?c3 ?c4 ?c5 ?_)
            case c3 => simp [Value.oneCell']
            case c4 => unfold maxLen; omega
            case c5 => omega
            intro v' w' hs' hsz
            go_wp2
            go_roundw
            case rel =>
              refine ⟨i + 1, by omega, by go_num, ?_⟩
              refine hs'.ac ?_
              rw [show 32 * k + (i + 1) = 32 * k + i + 1 by omega, HS.out]
              simp [i64s, Int.mul_comm]
            case measure => simp [intOf]; omega
          | true =>
            have hb := bit_yes ht
            rw [ht] at hsu
            have HS := Lib.hid hsu
            clear hsu ht hfr
            go_wp2
            go_roundw
            case rel =>
              refine ⟨i + 1, by omega, by go_num, ?_⟩
              refine HI.out.ac ?_
              rw [show 32 * k + (i + 1) = 32 * k + i + 1 by omega, HS.out]
              simp
            case measure => simp [intOf]; omega
        · have hi32 : i = 32 := by omega
          subst hi32
          go_wp2
          go_roundw
          case rel =>
            refine ⟨k + 1, by omega, by go_num, ?_⟩
            refine HI.out.ac ?_
            rw [show 32 * (k + 1) = 32 * k + 32 by omega]
          case measure => simp [intOf]; omega
    · have hkm : k = m := by omega
      subst hkm
      have HR := Lib.hid hrel
      clear hrel
      go_wp2
      go_ret
      exact ⟨_, rfl, HR.out.swap.drop⟩

end Go.Proofs.YtcciijdnegjkjaaDoor
