/-
  Package table: spots, and a bucket's four.
-/
import Derived.Test.YtdmmahhnfnefoaaFt0
import Derived.Test.YtdmmahhnfnefoaaFp
namespace Go.Proofs.Ytdmmahhnfnefoaa
open Go.RowKit
set_option maxRecDepth 10000
attribute [local irreducible] EK EX ER EN EL ES EG OpVal OpDoes OpSkip
variable {W : World} {F : SL} {X : Cx} {k : List KI} {σ : Env} {p g : Option Addr} {ws : List Nat}
theorem spread_spec {n : Nat} : Spec Try.prog 63 [.int .u64 (n : Int)] W F (fun _ : Unit => .int .u64 (spreadN n : Int)) (fun _ => F) := by
  refine Spec.of Try.func63 rfl Try.ntmps63 rfl ?_
  repeat (first | refine go ?_ | (refine goX ?_; intro))
  refine EK_ret (ER_1 rfl rfl () ?_ (Ent.sat Ent.last))
  have h1 : n * 11400714819323198485 % 18446744073709551616 < 18446744073709551616 := Nat.mod_lt _ (by decide)
  rw [show (n : Int) * 11400714819323198485 = (n : Int) * ((11400714819323198485 : Nat) : Int) from rfl, mul_val, xsh_val h1]
  have h2 := xsh_lt h1
  rw [show ∀ a : Nat, (a : Int) * 13787848793156543929 = (a : Int) * ((13787848793156543929 : Nat) : Int) from fun _ => rfl, mul_val, xsh_val (Nat.mod_lt _ (by decide))]
  rfl
theorem fine_spec (b : Int) : Spec Try.prog 46 [.int .i64 b] W F (fun _ : Unit => .bool (fineN b)) (fun _ => F) := by
  refine Spec.of Try.func46 rfl Try.ntmps46 rfl ?_
  by_cases h1 : 2 ≤ b
  · by_cases h2 : b ≤ 1024
    · obtain ⟨k, rfl⟩ : ∃ k : Nat, b = (k : Int) := ⟨b.toNat, by omega⟩
      repeat (first | refine go ?_ | (refine goX ?_; intro))
      exact EK_ret (ER_1 rfl rfl () (by rw [fine_val (by omega) (by omega)]) (Ent.sat Ent.last))
    · repeat (first | refine go ?_ | (refine goX ?_; intro))
      exact EK_ret (ER_1 rfl rfl () (by rw [fine_no (fun e => h2 e.2)]) (Ent.sat Ent.last))
  · repeat (first | refine go ?_ | (refine goX ?_; intro))
    exact EK_ret (ER_1 rfl rfl () (by rw [fine_no (fun e => h1 e.1)]) (Ent.sat Ent.last))
theorem ref_val {u i : Nat} (hu : u < 18446744073709551616) : IntKind.i64.wrap (bits .and .u64 ((u : Int) / 2 ^ (12 * (i : Int)).toNat) 4095) = ((u / 2 ^ (12 * i) % 4096 : Nat) : Int) := by
  have h1 : u / 2 ^ (12 * i) < 18446744073709551616 := Nat.lt_of_le_of_lt (Nat.div_le_self _ _) hu
  rw [show (12 * (i : Int)) = ((12 * i : Nat) : Int) by omega, shr_nat, show bits .and .u64 ((u / 2 ^ (12 * i) : Nat) : Int) 4095 = ((u / 2 ^ (12 * i) % 2 ^ 12 : Nat) : Int) from u64_low 12 h1 (by decide), i64_nat (by omega)]
theorem ref_spec {u i : Nat} (hu : u < 18446744073709551616) (hi : i < 4) : Spec Try.prog 61 [.int .u64 (u : Int), .int .i64 (i : Int)] W F (fun _ : Unit => .int .i64 (refN u i)) (fun _ => F) := by
  refine Spec.of Try.func61 rfl Try.ntmps61 rfl ?_
  repeat (first | refine go ?_ | (refine goX ?_; intro))
  exact EK_ret (ER_1 rfl rfl () (by rw [ref_val hu]; exact congrArg _ (InK.wrap (by simp only [InK]; omega))) (Ent.sat Ent.last))
theorem where_spec {u : Nat} (id : Int) (hu : u < 18446744073709551616) : Spec Try.prog 79 [.int .u64 (u : Int), .int .i64 id] W F (fun _ : Unit => .int .i64 (whereN u id)) (fun _ => F) := by
  refine Spec.of Try.func79 rfl Try.ntmps79 rfl ?_
  repeat (first | refine go ?_ | (refine goX ?_; intro))
  refine EK_loop (γ := Nat) (fun i => i ≤ 4 ∧ ∀ j, j < i → refN u j ≠ id) (fun i => [(0, .int .u64 (u : Int)), (1, .int .i64 id), (6, .int .i64 (i : Int))]) (fun _ => F) (fun i => 4 - i) 0 ⟨Nat.zero_le _, fun j hj => by omega⟩ ⟨rfl, rfl, rfl, trivial⟩ (Ent.sat (Ent.refl _)) ?_
  intro i ⟨hi, hj⟩
  by_cases hi4 : i < 4
  · repeat (first | refine go ?_ | (refine goX ?_; intro))
    refine EL_call rfl (ref_spec hu hi4) ?_
    intro _
    by_cases hx : refN u i = id
    · repeat (first | refine go ?_ | (refine goX ?_; intro))
      refine EK_ret (ER_1 rfl rfl () ?_ (Ent.sat (Ent.refl _)))
      unfold whereN
      match i, hi4, hx, hj with
      | 0, _, hx, _ => rw [if_pos hx]; rfl
      | 1, _, hx, hj => rw [if_neg (hj 0 (by decide)), if_pos hx]; rfl
      | 2, _, hx, hj => rw [if_neg (hj 0 (by decide)), if_neg (hj 1 (by decide)), if_pos hx]; rfl
      | 3, _, hx, hj => rw [if_neg (hj 0 (by decide)), if_neg (hj 1 (by decide)), if_neg (hj 2 (by decide)), if_pos hx]; rfl
    · repeat (first | refine go ?_ | (refine goX ?_; intro))
      refine EK_round (i + 1) ⟨by omega, fun j h => ?_⟩ (by omega) ⟨rfl, rfl, rfl, trivial⟩ (Ent.sat (Ent.refl _))
      rcases Nat.lt_succ_iff_lt_or_eq.1 h with h | rfl
      · exact hj j h
      · exact hx
  · repeat (first | refine go ?_ | (refine goX ?_; intro))
    refine EK_ret (ER_1 rfl rfl () ?_ (Ent.sat (Ent.refl _)))
    unfold whereN
    rw [if_neg (hj 0 (by omega)), if_neg (hj 1 (by omega)), if_neg (hj 2 (by omega)), if_neg (hj 3 (by omega))]
theorem pow_lt64 {i v : Nat} (hi : i < 4) (hv : v < 4096) : v * 2 ^ (12 * i) < 281474976710656 := by
  match i, hi with
  | 0, _ => omega
  | 1, _ => omega
  | 2, _ => omega
  | 3, _ => omega
theorem chg_val {u i v : Nat} (hu : u < 18446744073709551616) (hi : i < 4) (hv : v < 4096) : IntKind.u64.wrap (bits .or .u64 (bits .andNot .u64 (u : Int) (IntKind.u64.wrap (4095 * 2 ^ (12 * (i : Int)).toNat))) (IntKind.u64.wrap ((v : Int) * 2 ^ (12 * (i : Int)).toNat)) + 281474976710656) = (chgN u i v : Int) := by
  have h1 := pow_lt64 hi hv
  have h2 := pow_lt64 hi (v := 4095) (by decide)
  rw [show (12 * (i : Int)) = ((12 * i : Nat) : Int) by omega, show IntKind.u64.wrap ((4095 : Int) * 2 ^ ((12 * i : Nat) : Int).toNat) = ((4095 * 2 ^ (12 * i) : Nat) : Int) from u64_shl 4095 (12 * i) (by omega), u64_shl v (12 * i) (by omega),
    u64_andNot_nat _ _ hu (by omega), u64_or_nat _ _ (Nat.lt_of_le_of_lt Nat.and_le_left hu) (by omega), IntKind.wrap_u64]
  unfold chgN
  omega
theorem changed_spec {u i v : Nat} (hu : u < 18446744073709551616) (hi : i < 4) (hv : v < 4096) : Spec Try.prog 104 [.int .u64 (u : Int), .int .i64 (i : Int), .int .u64 (v : Int)] W F (fun _ : Unit => .int .u64 (chgN u i v : Int)) (fun _ => F) := by
  refine Spec.of Try.func104 rfl Try.ntmps104 rfl ?_
  repeat (first | refine go ?_ | (refine goX ?_; intro))
  exact EK_ret (ER_1 rfl rfl () (by rw [chg_val hu hi hv]) (Ent.sat Ent.last))
theorem refN_ge (u i : Nat) : -1 ≤ refN u i ∧ refN u i ≤ 4094 := by unfold refN; omega
theorem whereN_lt (u : Nat) (id : Int) : whereN u id < 4 ∧ -1 ≤ whereN u id := by
  unfold whereN
  repeat (first | (split; · omega) | omega)
theorem full_spec {u : Nat} (hu : u < 18446744073709551616) : Spec Try.prog 87 [.int .u64 (u : Int)] W F (fun _ : Unit => .bool (fullB u)) (fun _ => F) := by
  refine Spec.of Try.func87 rfl Try.ntmps87 rfl ?_
  repeat (first | refine go ?_ | (refine goX ?_; intro))
  refine EL_call rfl (where_spec _ hu) ?_
  intro _
  repeat (first | refine go ?_ | (refine goX ?_; intro))
  exact EK_ret (ER_1 rfl rfl () rfl (Ent.sat Ent.last))
theorem with_spec {u : Nat} {id : Int} (hu : u < 18446744073709551616) (h1 : 0 ≤ id) (h2 : id < 4095) (hf : fullB u = false) : Spec Try.prog 94 [.int .u64 (u : Int), .int .i64 id] W F (fun _ : Unit => .int .u64 (withN u id : Int)) (fun _ => F) := by
  refine Spec.of Try.func94 rfl Try.ntmps94 rfl ?_
  have hw := whereN_lt u (-1)
  have hw0 : 0 ≤ whereN u (-1) := by unfold fullB at hf; have := of_decide_eq_false hf; omega
  obtain ⟨i, hi⟩ : ∃ i : Nat, whereN u (-1) = (i : Int) := ⟨(whereN u (-1)).toNat, by omega⟩
  obtain ⟨k, rfl⟩ : ∃ k : Nat, id = (k : Int) := ⟨id.toNat, by omega⟩
  have hwn : withN u (k : Int) = chgN u i (k + 1) := by unfold withN; rw [hi]; rfl
  repeat (first | refine go ?_ | (refine goX ?_; intro))
  refine EL_call rfl (where_spec _ hu) ?_
  intro _
  rw [hi]
  repeat (first | refine go ?_ | (refine goX ?_; intro))
  rw [show ((k : Int) + 1) = ((k + 1 : Nat) : Int) by omega]
  refine EL_call rfl (changed_spec hu (by omega) (by omega)) ?_
  intro _
  repeat (first | refine go ?_ | (refine goX ?_; intro))
  exact EK_ret (ER_1 rfl rfl () (by rw [hwn]) (Ent.sat Ent.last))
/-! ### Spots -/
abbrev flowV (a : Int) (b c : Nat) : Value := .agg #[.int .i64 a, .int .u32 (b : Int), .int .u16 (c : Int)]
def keyI (a : Int) (b c : Nat) : Nat := keyN ((a % 65536).toNat) b c
def spotsI (a : Int) (b c : Nat) (k : Int) : Int × Int := if fineN k = true then (((spotsN (keyI a b c) k.toNat).1 : Int), ((spotsN (keyI a b c) k.toNat).2 : Int)) else (0, 0)
theorem Spots_spec (a : Int) {b c : Nat} (k : Int) (hb : b < 4294967296) (hc : c < 65536) : Spec Try.prog 33 [flowV a b c, .int .i64 k] W F (fun _ : Unit => .tuple #[.int .i64 (spotsI a b c k).1, .int .i64 (spotsI a b c k).2]) (fun _ => F) := by
  refine Spec.of Try.func33 rfl Try.ntmps33 rfl ?_
  repeat (first | refine go ?_ | (refine goX ?_; intro))
  refine EL_call rfl (fine_spec k) ?_
  intro _
  cases hf : fineN k with
  | false =>
    repeat (first | refine go ?_ | (refine goX ?_; intro))
    exact EK_ret (ER_2 rfl rfl rfl () (by unfold spotsI; rw [hf]; rfl) (Ent.sat Ent.last))
  | true =>
    have hk : 2 ≤ k ∧ k ≤ 1024 := by unfold fineN at hf; have := of_decide_eq_true hf; omega
    obtain ⟨n, rfl⟩ : ∃ n : Nat, k = (n : Int) := ⟨k.toNat, by omega⟩
    repeat (first | refine go ?_ | (refine goX ?_; intro))
    obtain ⟨x, hx, hx2⟩ : ∃ x : Nat, IntKind.u64.wrap a = (x : Int) ∧ x % 65536 = (a % 65536).toNat := ⟨(a % 18446744073709551616).toNat, by rw [IntKind.wrap_u64]; omega, by omega⟩
    rw [hx, u64_shl48 x, show IntKind.u64.wrap ((b : Int) * 2 ^ Int.toNat 16) = ((b * 2 ^ 16 : Nat) : Int) from u64_shl b 16 (by omega), key_or (Nat.mod_lt _ (by decide)) hb hc, hx2]
    refine EL_call rfl spread_spec ?_
    intro _
    have hs := spreadN_lt (keyN (a % 65536).toNat b c)
    have hsp : spotsI a b c (n : Int) = (((spotsN (keyN (a % 65536).toNat b c) n).1 : Int), ((spotsN (keyN (a % 65536).toNat b c) n).2 : Int)) := by unfold spotsI keyI; rw [if_pos hf]; rfl
    rw [hsp]
    unfold spotsN
    generalize spreadN (keyN (a % 65536).toNat b c) = y at *
    haveI : Pos n := ⟨by omega⟩
    have hyn : y % n < n := Nat.mod_lt _ (by omega)
    obtain ⟨m, hm⟩ : ∃ m, n = m + 1 := ⟨n - 1, by omega⟩
    haveI : Pos m := ⟨by omega⟩
    have hdm : y / 4294967296 % m < m := Nat.mod_lt _ (by omega)
    have hdi : (y : Int) / 2 ^ Int.toNat 32 = ((y / 4294967296 : Nat) : Int) := shr_nat y 32
    have hdj : ((y / 4294967296 : Nat) : Int) % (m : Int) = ((y / 4294967296 % m : Nat) : Int) := (Int.natCast_emod _ _).symm
    repeat (first | refine go ?_ | (refine goX ?_; intro))
    rw [show (y : Int) % (n : Int) = ((y % n : Nat) : Int) from (Int.natCast_emod _ _).symm]
    refine EK_drawn rfl (by kernel_rfl) ?_
    repeat (refine goS ?_)
    rw [hdi, show ((n : Int) - 1) = (m : Int) by omega]
    repeat (refine goS ?_)
    rw [hdj, i64_nat (a := y / 4294967296 % m) (by omega), show ((y % n : Nat) : Int) + 1 + ((y / 4294967296 % m : Nat) : Int) = ((y % n + 1 + y / 4294967296 % m : Nat) : Int) by omega, i64_nat (by omega)]
    repeat (refine goS ?_)
    repeat (first | refine go ?_ | (refine goX ?_; intro))
    refine EK_ret (ER_2 rfl rfl rfl () ?_ (Ent.sat Ent.last))
    rw [show n - 1 = m by omega, ← Int.natCast_emod]
end Go.Proofs.Ytdmmahhnfnefoaa
