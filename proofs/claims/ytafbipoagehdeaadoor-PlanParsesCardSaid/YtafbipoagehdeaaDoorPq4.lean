/-
  The document's addresses and lines.
-/
import Derived.Test.YtafbipoagehdeaaDoorPq2
import Derived.Test.YtafbipoagehdeaaDoorPn5
import Derived.Test.YtafbipoagehdeaaDoorPl2
namespace Go.Proofs.YtafbipoagehdeaaDoor
open Go.RowKit
set_option maxRecDepth 10000
attribute [local irreducible] EK EX ER EN EL ES OpVal OpDoes OpSkip
variable {W : World} {F : SL} {X : Cx} {k : List KI} {σ : Env}

theorem take_lt (s w : List UInt8) (m : Nat) : (takeT s w m).1 < 10 ^ m := by
  have hp : 0 < 10 ^ m := Nat.pow_pos (by decide)
  unfold takeT
  split
  · exact hp
  · dsimp only
    unfold rnumT
    split
    · exact hp
    · exact Nat.lt_of_lt_of_le (digsN_lt _ (pre_all m _)) (Nat.pow_le_pow_right (by decide) (pre_len m _))
theorem take_len (s w : List UInt8) (m : Nat) : (takeT s w m).2.1.length ≤ s.length := by
  unfold takeT
  split
  · exact Nat.zero_le _
  · dsimp only
    rw [List.length_drop]; omega
def wdN (i : Nat) : List UInt8 := if i = 0 then [] else [46]
theorem rgo_step {i a : Nat} {t : List UInt8} (hi : i < 4) : rgoA (4 - i) a (wdN i) t = if (takeT t (wdN i) 3).2.2 = true ∧ (takeT t (wdN i) 3).1 ≤ 255 then rgoA (4 - (i + 1)) (a * 256 + (takeT t (wdN i) 3).1) (wdN (i + 1)) (takeT t (wdN i) 3).2.1 else none := by
  rw [show 4 - i = (4 - (i + 1)) + 1 by omega, rgoA]
  rfl
abbrev rAddrV (s : List UInt8) : Value := .tuple #[.int .u32 (((rAddrP s).1 : Nat) : Int), .bool (rAddrP s).2]
theorem raddr_none {s : List UInt8} (h : rgoA 4 0 [] s = none) : Value.tuple #[.int .u32 0, .bool false] = rAddrV s := by rw [rAddrV, rAddrP, h]; rfl
theorem rParseAddress_spec (s : List UInt8) (hs : s.length ≤ 100000) :
    Spec Tryd.prog 26 [str s] W F (fun _ : Unit => rAddrV s) (fun _ => F) := by
  refine Spec.of Tryd.func26 rfl Tryd.ntmps26 rfl ?_
  repeat (first | refine go ?_ | (refine goX ?_; intro))
  refine EK_loop (γ := Nat × Nat × List UInt8) (fun g => g.1 ≤ 4 ∧ g.2.1 < 256 ^ g.1 ∧ g.2.2.length ≤ 100000 ∧ rgoA (4 - g.1) g.2.1 (wdN g.1) g.2.2 = rgoA 4 0 [] s) (fun g => [(0, str g.2.2), (4, .int .u32 (g.2.1 : Int)), (5, .int .i64 (g.1 : Int))])
    (fun _ => F) (fun g => 4 - g.1) (0, 0, s) ⟨Nat.zero_le _, by dsimp only; decide, hs, rfl⟩ ⟨rfl, rfl, rfl, trivial⟩ (Ent.sat (Ent.refl _)) ?_
  intro ⟨i, a, t⟩ ⟨hi, ha, hl, hg⟩; dsimp only at hi ha hl hg ⊢
  repeat (first | refine go ?_ | (refine goX ?_; intro))
  refine EK_cond_dec rfl (fun hlt => ?_) (fun hge => ?_)
  · have hi' : i < 4 := by omega
    have ha' : a < 16777216 := by
      have : (256 : Nat) ^ i ≤ 256 ^ 3 := Nat.pow_le_pow_right (by decide) (by omega)
      omega
    have hst := rgo_step (a := a) (t := t) hi'
    have htl := take_len t (wdN i) 3
    have htn := take_lt t (wdN i) 3
    repeat (first | refine go ?_ | (refine goX ?_; intro))
    refine EK_cond_dec rfl (fun h0 => ?_) (fun h0 => ?_)
    · have hw : wdN i = [] := if_pos (by omega)
      rw [hw] at hst htl htn hg
      repeat (first | refine go ?_ | (refine goX ?_; intro))
      refine EL_call rfl (take_spec t [] 3 (by decide) hl (by decide)) ?_
      intro
      generalize takeT t [] 3 = q at *
      repeat (first | refine go ?_ | (refine goX ?_; intro))
      refine EL_guard_split rfl rfl (fun hb => ?_) (fun hb => ?_)
      · have hb : q.2.2 = false := by simpa using hb
        repeat (first | refine go ?_ | (refine goX ?_; intro))
        exact EK_ret (ER_2 rfl rfl rfl () (raddr_none (by rw [← hg, hst, if_neg (by rintro ⟨g1, g2⟩; first | (rw [g1] at hb; cases hb) | omega)])) (Ent.sat Ent.last))
      repeat (first | refine go ?_ | (refine goX ?_; intro))
      refine EK_cond_dec rfl (fun hb => ?_) (fun hb2 => ?_)
      · repeat (first | refine go ?_ | (refine goX ?_; intro))
        exact EK_ret (ER_2 rfl rfl rfl () (raddr_none (by rw [← hg, hst, if_neg (by rintro ⟨g1, g2⟩; first | (rw [g1] at hb; cases hb) | omega)])) (Ent.sat Ent.last))
      · repeat (first | refine go ?_ | (refine goX ?_; intro))
        refine EK_round (i + 1, a * 256 + q.1, q.2.1) ⟨by dsimp only; omega, ?_, by dsimp only; omega, ?_⟩ (by dsimp only; omega) ⟨rfl, by dsimp only; rw [← or_low a q.1 ha' (by omega)]; rfl, rfl, trivial⟩ (Ent.sat (Ent.refl _))
        · dsimp only
          rw [Nat.pow_succ]
          omega
        · rw [← hg, hst, if_pos ⟨by simpa using hb, by omega⟩]
    · have hw : wdN i = [46] := if_neg (by omega)
      rw [hw] at hst htl htn hg
      repeat (first | refine go ?_ | (refine goX ?_; intro))
      refine EL_call rfl (take_spec t [46] 3 (by decide) hl (by decide)) ?_
      intro
      generalize takeT t [46] 3 = q at *
      repeat (first | refine go ?_ | (refine goX ?_; intro))
      refine EL_guard_split rfl rfl (fun hb => ?_) (fun hb => ?_)
      · have hb : q.2.2 = false := by simpa using hb
        repeat (first | refine go ?_ | (refine goX ?_; intro))
        exact EK_ret (ER_2 rfl rfl rfl () (raddr_none (by rw [← hg, hst, if_neg (by rintro ⟨g1, g2⟩; first | (rw [g1] at hb; cases hb) | omega)])) (Ent.sat Ent.last))
      repeat (first | refine go ?_ | (refine goX ?_; intro))
      refine EK_cond_dec rfl (fun hb => ?_) (fun hb2 => ?_)
      · repeat (first | refine go ?_ | (refine goX ?_; intro))
        exact EK_ret (ER_2 rfl rfl rfl () (raddr_none (by rw [← hg, hst, if_neg (by rintro ⟨g1, g2⟩; first | (rw [g1] at hb; cases hb) | omega)])) (Ent.sat Ent.last))
      · repeat (first | refine go ?_ | (refine goX ?_; intro))
        refine EK_round (i + 1, a * 256 + q.1, q.2.1) ⟨by dsimp only; omega, ?_, by dsimp only; omega, ?_⟩ (by dsimp only; omega) ⟨rfl, by dsimp only; rw [← or_low a q.1 ha' (by omega)]; rfl, rfl, trivial⟩ (Ent.sat (Ent.refl _))
        · dsimp only
          rw [Nat.pow_succ]
          omega
        · rw [← hg, hst, if_pos ⟨by simpa using hb, by omega⟩]
  · have hi' : i = 4 := by omega
    subst hi'
    repeat (first | refine go ?_ | (refine goX ?_; intro))
    exact EK_ret (ER_2 rfl rfl rfl () (by rw [rAddrV, rAddrP, ← hg]; rfl) (Ent.sat Ent.last))

theorem and_w3 (a : Nat) (ha : a < 4294967296) : IntKind.i64.wrap ((a : Int) / 2 ^ 24) = ((byteN a 3 : Nat) : Int) := by
  have h1 : ((a : Int) / 2 ^ 24) = ((a / 2 ^ 24 : Nat) : Int) := by rw [Int.natCast_ediv]; rfl
  have h2 : byteN a 3 = a / 2 ^ 24 := by unfold byteN; omega
  rw [h1, h2]
  exact InK.wrap (by simp only [InK]; omega)
theorem and_w0 (a : Nat) (ha : a < 4294967296) : IntKind.i64.wrap (bits BinOp.and IntKind.u32 (a : Int) 255) = ((byteN a 0 : Nat) : Int) := by
  have := and_w a 0 ha
  simpa using this
theorem rAddress_spec (a : Nat) (ha : a < 4294967296) :
    Spec Tryd.prog 27 [.int .u32 (a : Int)] W F (fun _ : Unit => str (addrL a)) (fun _ => F) := by
  have hl := fun i => decDigits_len3 (n := byteN a i) (by have := byteN_lt a i; omega)
  have l0 := hl 0; have l1 := hl 1; have l2 := hl 2; have l3 := hl 3
  have b0 := byteN_lt a 0; have b1 := byteN_lt a 1; have b2 := byteN_lt a 2; have b3 := byteN_lt a 3
  refine Spec.of Tryd.func27 rfl Tryd.ntmps27 rfl ?_
  repeat (first | refine go ?_ | (refine goX ?_; intro))
  refine EL_call (vs := [.int .i64 ((byteN a 3 : Nat) : Int)]) (by rw [← and_w3 a ha]; first | rfl | (rw [and_w3 a ha, ← and_w3 a ha]; rfl)) (Digits_spec _ (by omega) _) ?_
  intro
  repeat (first | refine go ?_ | (refine goX ?_; intro))
  refine EL_call (vs := [.int .i64 ((byteN a 2 : Nat) : Int)]) (by rw [← and_w a 2 ha]; rfl) (Digits_spec _ (by omega) _) ?_
  intro
  repeat (first | refine go ?_ | (refine goX ?_; intro))
  refine EL_call (vs := [.int .i64 ((byteN a 1 : Nat) : Int)]) (by rw [← and_w a 1 ha]; rfl) (Digits_spec _ (by omega) _) ?_
  intro
  repeat (first | refine go ?_ | (refine goX ?_; intro))
  refine EL_call (vs := [.int .i64 ((byteN a 0 : Nat) : Int)]) (by rw [← and_w0 a ha]; rfl) (Digits_spec _ (by omega) _) ?_
  intro
  repeat (first | refine go ?_ | (refine goX ?_; intro))
  exact EK_ret (ER_1 rfl rfl () (by rw [addrL_eq]; simp) (Ent.sat Ent.last))
end Go.Proofs.YtafbipoagehdeaaDoor
