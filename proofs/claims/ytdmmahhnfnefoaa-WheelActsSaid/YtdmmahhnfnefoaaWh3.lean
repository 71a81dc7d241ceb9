/-
  Package wheel: slot, put, Add.
-/
import Derived.Test.YtdmmahhnfnefoaaWh2
import Derived.Test.YtdmmahhnfnefoaaSb
import Derived.Test.YtdmmahhnfnefoaaShelf
namespace Go.Proofs.Ytdmmahhnfnefoaa
open Go.RowKit
set_option maxRecDepth 10000
attribute [local irreducible] EK EX ER EN EL ES EG OpVal OpDoes OpSkip
variable {W : World} {F : SL} {X : Cx} {k : List KI} {σ : Env}

theorem Len_spec (u : Nat) (hu : u < 18446744073709551616) : Spec Try.prog 65 [.int .u64 (u : Int)] W F (fun _ : Unit => .int .i64 ((Lib.bitLen u : Nat) : Int)) (fun _ => F) := by
  intro w h
  refine (Try.bits_Len (u : Int) w (by omega) (by omega)).mono ?_
  rintro e w' ⟨rfl, rfl⟩
  exact ⟨(), by rw [Int.toNat_natCast], h⟩
theorem slot_val (a l : Nat) (ha : a < 4294967296) : bits .and .i64 ((a : Int) / 2 ^ (6 * (l : Int)).toNat) 63 = ((dg a l : Nat) : Int) := by
  have e : (6 * (l : Int)).toNat = 6 * l := by omega
  have h1 : ((a : Int) / 2 ^ (6 * l)) = ((a / 64 ^ l : Nat) : Int) := by rw [p64, Int.natCast_ediv]; simp
  have h2 : a / 64 ^ l ≤ a := Nat.div_le_self _ _
  rw [e, h1, show (63 : Int) = ((2 ^ 6 - 1 : Nat) : Int) from rfl, i64_low _ 6 (by omega) (by decide)]
  rfl
theorem slot_spec (a l : Nat) (ha : a < 4294967296) (hl : l ≤ 5) : Spec Try.prog 66 [.int .i64 (a : Int), .int .i64 (l : Int)] W F (fun _ : Unit => .int .i64 ((dg a l : Nat) : Int)) (fun _ => F) := by
  refine Spec.of Try.func66 rfl Try.ntmps66 rfl ?_
  repeat (first | refine go ?_ | (refine goX ?_; intro))
  exact EK_ret (ER_1 rfl rfl () (by rw [slot_val a l ha]) (Ent.sat Ent.last))
theorem lev_val (a b : Nat) (ha : a < 4294967296) (hb : b < 4294967296) : bits .xor .i64 (a : Int) (b : Int) = ((a ^^^ b : Nat) : Int) ∧ a ^^^ b < 4294967296 :=
  ⟨i64_xor_nat a b (by omega) (by omega), Nat.xor_lt_two_pow (n := 32) (by omega) (by omega)⟩
abbrev wenV (x : Wen) : Value := .agg (wenC x).toArray
theorem put_spec (p : Option Addr) (s : WSt) (x : Wen) (cnt : Int) (r : Slab) (q : Nat → Slab) (hs : s.now < 4294967296) (hx : x.at_ < 4294967296) (hl : ∀ k, k < 384 → (s.sl k).length ≤ 1000) (hr : s.ready.length ≤ 1000) :
    Spec Try.prog 39 [.pointer p, wenV x] W (WheelO p s cnt r q F) (fun _ : Slab × (Nat → Slab) => .tuple #[]) (fun g => WheelO p (putS s x) cnt g.1 g.2 F) := by
  obtain ⟨e1, e2⟩ := lev_val x.at_ s.now hx hs
  refine Spec.of Try.func39 rfl Try.ntmps39 rfl ?_
  simp only [WheelO, whV, wenV, wenC]
  repeat (first | refine go ?_ | (refine goX ?_; intro))
  refine EK_drawn rfl (by kernel_rfl) ?_
  repeat (refine goS ?_)
  repeat (first | refine go ?_ | (refine goX ?_; intro))
  rename_i px
  refine EK_cond_dec rfl (fun hle => ?_) (fun hle => ?_)
  · have ep : putS s x = ⟨s.now, s.turn, s.ready ++ [x], s.sl⟩ := if_pos (by omega)
    rw [ep]
    repeat (first | refine go ?_ | (refine goX ?_; intro))
    refine EK_sink 10 (Obj px 97 [.int .i64 x.id, .int .i64 (x.at_ : Int), .int .i64 (x.turn : Int)] * (Obj p 94 (.int .i64 (s.now : Int) :: .int .i64 (s.turn : Int) :: .int .i64 cnt :: .slice r.1 s.ready.length r.2 :: slV q s.sl) * 1)) rfl rfl rfl ?_
    repeat (first | refine goG ?_ | (refine goGX ?_; intro) | refine goGL ?_ | refine goGS ?_ | refine goGV ?_ | refine EG_done (by decide +kernel) ?_)
    repeat (first | refine go ?_ | (refine goX ?_; intro))
    rename_i g
    refine EK_ret (ER_0 rfl (g, q) rfl (Ent.sat (Ent.obj p (by simp) (Ent.row g.1 (by simp) (by rw [← entsR_snoc]; rfl) ?_))))
    repeat (first | exact Ent.last | refine Ent.cons ?_ | refine Ent.assoc ?_)
  · have hlt : s.now < x.at_ := by omega
    have ep : putS s x = ⟨s.now, s.turn, s.ready, upd s.sl (spot s.now x.at_) (s.sl (spot s.now x.at_) ++ [x])⟩ := if_neg (by omega)
    have hk := spot_lt hx hlt
    have hv0 : x.at_ ^^^ s.now ≠ 0 := fun e => by have := xor_zero e; omega
    have hb1 := (Lib.bitLenAux_bounds 64 (x.at_ ^^^ s.now) (by omega) hv0).1
    have hb2 : Lib.bitLen (x.at_ ^^^ s.now) ≤ 32 := Lib.bitLen_le _ 32 (by decide) (by omega)
    have hb1 : 1 ≤ Lib.bitLen (x.at_ ^^^ s.now) := hb1
    have hlv : lev x.at_ s.now ≤ 5 := by unfold lev; omega
    have eL : (((Lib.bitLen (x.at_ ^^^ s.now) : Nat) : Int) - 1) / 6 = ((lev x.at_ s.now : Nat) : Int) := by unfold lev; omega
    have ex : IntKind.u64.wrap (bits .xor .i64 (x.at_ : Int) (s.now : Int)) = ((x.at_ ^^^ s.now : Nat) : Int) := by rw [e1]; exact InK.wrap (by simp only [InK]; omega)
    have hdg : dg x.at_ (lev x.at_ s.now) < 64 := Nat.mod_lt _ (by decide)
    rw [ep]
    repeat (first | refine go ?_ | (refine goX ?_; intro))
    refine EK_drawn rfl (by kernel_rfl) ?_
    repeat (refine goS ?_)
    refine ES_call (vs := [.int .u64 ((x.at_ ^^^ s.now : Nat) : Int)]) (by rw [← e1]; rfl) (Len_spec _ (by omega)) ?_
    repeat (refine goS ?_)
    repeat (first | refine go ?_ | (refine goX ?_; intro))
    rw [eL]
    refine EK_drawn rfl (by kernel_rfl) ?_
    repeat (refine goS ?_)
    refine ES_call rfl (slot_spec x.at_ (lev x.at_ s.now) hx hlv) ?_
    repeat (refine goS ?_)
    repeat (first | refine go ?_ | (refine goX ?_; intro))
    have er := rowsS_at q s.sl hk
    rw [er, SL.sep_assoc]
    refine EK_sink 8 (Obj px 97 [.int .i64 x.id, .int .i64 (x.at_ : Int), .int .i64 (x.turn : Int)] * (Obj p 94 (.int .i64 (s.now : Int) :: .int .i64 (s.turn : Int) :: .int .i64 cnt :: .slice r.1 s.ready.length r.2 :: slV q s.sl) * 1)) rfl rfl rfl ?_
    have hl2 := hl _ hk
    have hk2 : lev x.at_ s.now * 64 + dg x.at_ (lev x.at_ s.now) < 384 := hk
    unfold spot at *
    repeat (first | refine goG ?_ | (refine goGX ?_; intro) | refine goGL ?_ | refine goGS ?_ | refine goGV ?_ | refine EG_done (by decide +kernel) ?_)
    repeat (first | refine go ?_ | (refine goX ?_; intro))
    rename_i g
    generalize lev x.at_ s.now * 64 + dg x.at_ (lev x.at_ s.now) = kk at *
    refine EK_end (EN_0 rfl (r, upd q kk g) rfl (Ent.sat ?_))
    dsimp only
    rw [rowsS_upd q s.sl hk2 g, SL.sep_assoc]
    refine Ent.obj p (by rw [← slV_set q s.sl hk2 g]; simp) (Ent.row r.1 rfl rfl (Ent.row g.1 (by simp) (by rw [← entsR_snoc]; rfl) ?_))
    repeat (first | exact Ent.last | refine Ent.cons ?_ | refine Ent.assoc ?_)
end Go.Proofs.Ytdmmahhnfnefoaa
