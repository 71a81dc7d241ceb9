/-
  fanlightlaw11: flows, run, made, finds; the document's spots.
-/
import Derived.Test.YtdmmahhnfnefoaaFt4
namespace Go.Proofs.Ytdmmahhnfnefoaa
open Go.RowKit
set_option maxRecDepth 10000
attribute [local irreducible] EK EX ER EN EL ES EG OpVal OpDoes OpSkip
variable {W : World} {F : SL} {X : Cx} {k : List KI} {σ : Env} {p pp g q : Option Addr} {ws cs pl : List Nat} {n np : Nat} {s : TStep}
theorem Flow0_spec : Spec Try.prog 25 [.int .i64 0] W F (fun _ : Unit => flowV 17 167772161 1000) (fun _ => F) := by
  refine Spec.of Try.func25 rfl Try.ntmps25 rfl ?_
  repeat (first | refine go ?_ | (refine goX ?_; intro))
  rw [show (0 : Nat) % 12 % 3 = 0 from rfl]
  repeat (first | refine go ?_ | (refine goX ?_; intro))
  exact EK_ret (ER_c1 (rv := .cell 2 67) rfl ⟨_, rfl, LoadsV.agg rfl⟩ () rfl (Ent.sat (Ent.trans Ent.drop Ent.drop)))
theorem Flow1_spec : Spec Try.prog 25 [.int .i64 1] W F (fun _ : Unit => flowV 6 167772161 1007) (fun _ => F) := by
  refine Spec.of Try.func25 rfl Try.ntmps25 rfl ?_
  repeat (first | refine go ?_ | (refine goX ?_; intro))
  exact EK_ret (ER_c1 (rv := .cell 2 67) rfl ⟨_, rfl, LoadsV.agg rfl⟩ () rfl (Ent.sat (Ent.trans Ent.drop Ent.drop)))
theorem Key_spec (a : Int) (b c : Nat) : Spec Try.prog 24 [flowV a b c] W F (fun _ : Unit => flowV a b c) (fun _ => F) := by
  refine Spec.of Try.func24 rfl Try.ntmps24 rfl ?_
  repeat (first | refine go ?_ | (refine goX ?_; intro))
  exact EK_ret (ER_c1 (rv := .cell 2 65) rfl ⟨_, rfl, LoadsV.agg rfl⟩ () rfl (Ent.sat Ent.last))
theorem TRun_spec (h : okRun n np pl 999 cs s = true) : Spec Try.prog 49 [.pointer p, .pointer q] W (TStepC q s * (TableC p pp n cs * (PlaceC pp pl * F))) (fun _ : Unit => .int .i64 (runT pl 999 1 cs s).2)
    (fun _ => TStepC q (runT pl 999 1 cs s).1.2 * (TableC p pp n (runT pl 999 1 cs s).1.1 * (PlaceC pp pl * F))) := by
  refine Spec.of Try.func49 rfl Try.ntmps49 rfl ?_
  repeat (first | refine go ?_ | (refine goX ?_; intro))
  refine EK_loop (γ := Nat × List Nat × TStep) (fun g => 1 ≤ g.1 ∧ g.1 ≤ 1000 ∧ okRun n np pl (1000 - g.1) g.2.1 g.2.2 = true ∧ runT pl 999 1 cs s = runT pl (1000 - g.1) g.1 g.2.1 g.2.2) (fun g => [(0, .pointer p), (1, .pointer q), (5, .int .i64 (g.1 : Int))])
    (fun g => TStepC q g.2.2 * (TableC p pp n g.2.1 * (PlaceC pp pl * F))) (fun g => 1000 - g.1) (1, cs, s) ⟨by dsimp only; omega, by dsimp only; omega, h, rfl⟩ ⟨rfl, rfl, rfl, trivial⟩ (Ent.sat (Ent.refl _)) ?_
  intro ⟨i, cs', s'⟩ ⟨h1, h2, h3, h4⟩; dsimp only at h1 h2 h3 h4 ⊢
  rw [h4]
  by_cases hi : i < 1000
  · obtain ⟨f, hf⟩ : ∃ f, 1000 - i = f + 1 := ⟨999 - i, by omega⟩
    rw [hf] at h3 ⊢
    unfold okRun at h3
    rw [Bool.and_eq_true] at h3
    repeat (first | refine go ?_ | (refine goX ?_; intro))
    refine EL_call rfl (TDo_spec (OkT.of h3.1)) ?_
    intro _
    cases hd : (searchS cs' pl s').2.done with
    | true =>
      repeat (first | refine go ?_ | (refine goX ?_; intro))
      have hr : runT pl (f + 1) i cs' s' = (searchS cs' pl s', (i : Int)) := by unfold runT; rw [if_pos hd]
      rw [hr]
      exact EK_ret (ER_1 rfl rfl () rfl (Ent.sat (Ent.refl _)))
    | false =>
      repeat (first | refine go ?_ | (refine goX ?_; intro))
      have h5 := h3.2
      rw [hd, Bool.false_or] at h5
      refine EK_round (i + 1, (searchS cs' pl s').1, (searchS cs' pl s').2) ⟨by dsimp only; omega, by dsimp only; omega, ?_, ?_⟩ (by dsimp only; omega) ⟨rfl, rfl, rfl, trivial⟩ (Ent.sat (Ent.refl _))
      · dsimp only; rw [show 1000 - (i + 1) = f by omega]; exact h5
      · dsimp only; rw [show 1000 - (i + 1) = f by omega, runT, if_neg (by simp [hd])]
  · rw [show 1000 - i = 0 by omega] at h3
    exact absurd h3 (by simp [okRun])
def places1 : List Nat := [0, 0, 65537, keyN 17 167772161 1000, 0, 0]
theorem made_spec : Spec Try.prog 48 [.pointer p, .int .i64 1, flowV 17 167772161 1000] W (PlaceC p (List.replicate 6 0) * F) (fun _ : Unit => .bool true) (fun _ => PlaceC p places1 * F) := by
  refine Spec.of Try.func48 rfl Try.ntmps48 rfl ?_
  have hb : ∀ j, (List.replicate 6 0).getD j 0 < 18446744073709551616 := fun j => by
    rw [List.getD_eq_getElem?_getD, List.getElem?_replicate]; split <;> simp
  repeat (first | refine go ?_ | (refine goX ?_; intro))
  refine EL_call rfl (Spec.at1 p (PLoad_spec (n := 3) (i := 1) rfl (by decide) (by decide) hb)) ?_
  intro _
  rw [show PWord.of ((List.replicate 6 0).getD (2 * 1) 0) = w0 from rfl]
  repeat (first | refine go ?_ | (refine goX ?_; intro))
  refine EL_call rfl (Key_spec 17 167772161 1000) ?_
  intro _
  repeat (first | refine go ?_ | (refine goX ?_; intro))
  refine EL_call rfl (Spec.at1 p (SetKey_spec (n := 3) (i := 1) (a := 17) (b := 167772161) (c := 1000) rfl (by decide) (by decide) (by decide) (by decide) (by decide))) ?_
  intro _
  repeat (first | refine go ?_ | (refine goX ?_; intro))
  refine EL_call rfl (Spec.at1 p (PCas_spec (n := 3) (i := 1) (a := w0) (b := ⟨1, 1, 0, 0⟩) (by simp) (by decide) (by decide) (by decide) (by decide))) ?_
  intro _
  rw [show (mayW w0 ⟨1, 1, 0, 0⟩ && decide (((List.replicate 6 0).set (2 * 1 + 1) (keyN 17 167772161 1000)).getD (2 * 1) 0 = w0.num)) = true from by decide +kernel,
    show (if mayW w0 ⟨1, 1, 0, 0⟩ = true ∧ ((List.replicate 6 0).set (2 * 1 + 1) (keyN 17 167772161 1000)).getD (2 * 1) 0 = w0.num then ((List.replicate 6 0).set (2 * 1 + 1) (keyN 17 167772161 1000)).set (2 * 1) (PWord.num ⟨1, 1, 0, 0⟩) else (List.replicate 6 0).set (2 * 1 + 1) (keyN 17 167772161 1000)) = places1 from by decide +kernel]
  repeat (first | refine go ?_ | (refine goX ?_; intro))
  exact EK_ret (ER_1 rfl rfl () rfl (Ent.sat (by first | exact Ent.refl _ | exact Ent.last | (repeat (first | refine Ent.cons ?_ | exact Ent.any | exact Ent.last)))))
def fineU : Nat → Int → Bool
  | 0, _ => false
  | j + 1, b => fineU j b || decide (((2 ^ (j + 1) : Nat) : Int) = b)
theorem fineU_all (b : Int) : fineU 10 b = fineN b := by
  rw [Bool.eq_iff_iff]
  unfold fineN
  simp only [fineU, Bool.or_eq_true, decide_eq_true_eq, Bool.false_eq_true, false_or, Nat.reduceAdd, Nat.reducePow]
  omega
theorem rkey_val {x b c : Nat} (hb : b < 4294967296) (hc : c < 65536) : IntKind.u64.wrap (IntKind.u64.wrap (IntKind.u64.wrap ((x : Int) * 281474976710656) + (b : Int) * 65536) + (c : Int)) = (keyN (x % 65536) b c : Int) := by
  rw [IntKind.wrap_u64, IntKind.wrap_u64, IntKind.wrap_u64]
  unfold keyN
  omega
theorem spread_steps (q : Nat) : ∃ Y Z, q * 11400714819323198485 % 18446744073709551616 = Y ∧ (Y ^^^ Y / 4294967296) * 13787848793156543929 % 18446744073709551616 = Z ∧ Y < 18446744073709551616 ∧ Z < 18446744073709551616 ∧ spreadN q = (Z ^^^ Z / 4294967296) :=
  ⟨_, _, rfl, rfl, Nat.mod_lt _ (by decide), Nat.mod_lt _ (by decide), rfl⟩
theorem RSpots_spec (a : Int) {b c : Nat} (k : Int) (hb : b < 4294967296) (hc : c < 65536) : Spec Try.prog 34 [flowV a b c, .int .i64 k] W F (fun _ : Unit => .tuple #[.int .i64 (spotsI a b c k).1, .int .i64 (spotsI a b c k).2]) (fun _ => F) := by
  refine Spec.of Try.func34 rfl Try.ntmps34 rfl ?_
  repeat (first | refine go ?_ | (refine goX ?_; intro))
  rename_i x
  refine EK_exits (γ := Unit) (fun _ => True) (fun _ => [(1, .int .i64 k), (2, .pointer x), (6, .bool (fineN k))]) (fun _ => Obj x 67 [.int .i64 a, .int .u32 (b : Int), .int .u16 (c : Int)] * F) ?_ ?_
  · refine EK_loop (γ := Nat) (fun j => j ≤ 10) (fun j => [(1, .int .i64 k), (2, .pointer x), (6, .bool (fineU j k)), (7, .int .i64 ((2 ^ (j + 1) : Nat) : Int))]) (fun _ => Obj x 67 [.int .i64 a, .int .u32 (b : Int), .int .u16 (c : Int)] * F) (fun j => 10 - j) 0 (Nat.zero_le _) ⟨rfl, rfl, rfl, rfl, trivial⟩ (Ent.sat (Ent.refl _)) ?_
    intro j hj
    by_cases hj10 : j < 10
    · have hp : 2 ^ (j + 1) ≤ 2 ^ 10 := Nat.pow_le_pow_right (by decide) (by omega)
      have hP : ∃ P, 2 ^ (j + 1) = P := ⟨_, rfl⟩
      obtain ⟨P, hP⟩ := hP
      have e3 : 2 ^ (j + 1 + 1) = 2 * P := by rw [Nat.pow_succ 2 (j + 1), hP]; omega
      have hp2 : P ≤ 1024 := by rw [← hP]; exact hp
      rw [hP]
      cases hfu : fineU j k with
      | true =>
        repeat (first | refine go ?_ | (refine goX ?_; intro))
        exact EK_round (j + 1) (by omega) (by omega) ⟨rfl, rfl, by rw [fineU, hfu]; rfl, by rw [e3]; rfl, trivial⟩ (Ent.sat (Ent.refl _))
      | false =>
        repeat (first | refine go ?_ | (refine goX ?_; intro))
        exact EK_round (j + 1) (by omega) (by omega) ⟨rfl, rfl, by rw [fineU, hfu, hP]; rfl, by rw [e3]; rfl, trivial⟩ (Ent.sat (Ent.refl _))
    · have hjj : j = 10 := by omega
      subst hjj
      repeat (first | refine go ?_ | (refine goX ?_; intro))
      exact EK_meet () trivial ⟨rfl, rfl, by rw [fineU_all]; rfl, trivial⟩ (Ent.sat (Ent.refl _))
  · intro _ _
    cases hf : fineN k with
    | false =>
      repeat (first | refine go ?_ | (refine goX ?_; intro))
      exact EK_ret (ER_2 rfl rfl rfl () (by unfold spotsI; rw [hf]; rfl) (Ent.sat Ent.last))
    | true =>
      have hk : 2 ≤ k ∧ k ≤ 1024 := by unfold fineN at hf; have := of_decide_eq_true hf; omega
      obtain ⟨n, rfl⟩ : ∃ n : Nat, k = (n : Int) := ⟨k.toNat, by omega⟩
      haveI : Pos n := ⟨by omega⟩
      obtain ⟨m, hm⟩ : ∃ m, n = m + 1 := ⟨n - 1, by omega⟩
      haveI : Pos m := ⟨by omega⟩
      obtain ⟨y, hy, hy2⟩ : ∃ y : Nat, IntKind.u64.wrap a = (y : Int) ∧ y % 65536 = (a % 65536).toNat := ⟨(a % 18446744073709551616).toNat, by rw [IntKind.wrap_u64]; omega, by omega⟩
      repeat (first | refine go ?_ | (refine goX ?_; intro))
      rw [hy, rkey_val hb hc, hy2, show ∀ u : Nat, (u : Int) * 11400714819323198485 = (u : Int) * ((11400714819323198485 : Nat) : Int) from fun _ => rfl, mul_val]
      repeat (first | refine go ?_ | (refine goX ?_; intro))
      obtain ⟨Y, Z, hY, hZ, h1, h2, hz⟩ := spread_steps (keyN (a % 65536).toNat b c)
      have hzl := spreadN_lt (keyN (a % 65536).toNat b c)
      have hsp : spotsI a b c (n : Int) = (((spotsN (keyN (a % 65536).toNat b c) n).1 : Int), ((spotsN (keyN (a % 65536).toNat b c) n).2 : Int)) := by unfold spotsI keyI; rw [if_pos hf]; rfl
      rw [hsp]
      unfold spotsN
      generalize spreadN (keyN (a % 65536).toNat b c) = z at *
      rw [hY, show bits .xor .u64 (Y : Int) ((Y : Int) / 4294967296) = ((Y ^^^ Y / 4294967296 : Nat) : Int) from xsh_val h1, show ∀ u : Nat, (u : Int) * 13787848793156543929 = (u : Int) * ((13787848793156543929 : Nat) : Int) from fun _ => rfl, mul_val, hZ]
      repeat (first | refine go ?_ | (refine goX ?_; intro))
      rw [show bits .xor .u64 (Z : Int) ((Z : Int) / 4294967296) = ((Z ^^^ Z / 4294967296 : Nat) : Int) from xsh_val h2, ← hz]
      have hyn : z % n < n := Nat.mod_lt _ (by omega)
      have hdm : z / 4294967296 % m < m := Nat.mod_lt _ (by omega)
      repeat (first | refine go ?_ | (refine goX ?_; intro))
      have e64 : IntKind.i64.wrap ((z : Int) % (n : Int) + 1 + IntKind.i64.wrap ((z : Int) / 4294967296 % ((n : Int) - 1))) = ((z % n + 1 + z / 4294967296 % m : Nat) : Int) := by
        rw [show ((n : Int) - 1) = (m : Int) by omega, show (z : Int) / 4294967296 % (m : Int) = ((z / 4294967296 % m : Nat) : Int) by rw [Int.natCast_emod, Int.natCast_ediv]; rfl, i64_nat (a := z / 4294967296 % m) (by omega),
          ← Int.natCast_emod, show ((z % n : Nat) : Int) + 1 + ((z / 4294967296 % m : Nat) : Int) = ((z % n + 1 + z / 4294967296 % m : Nat) : Int) by omega, i64_nat (by omega)]
      rw [e64]
      repeat (first | refine go ?_ | (refine goX ?_; intro))
      refine EK_ret (ER_2 rfl rfl rfl () ?_ (Ent.sat Ent.last))
      rw [show n - 1 = m by omega, ← Int.natCast_emod, ← Int.natCast_emod]
end Go.Proofs.Ytdmmahhnfnefoaa
