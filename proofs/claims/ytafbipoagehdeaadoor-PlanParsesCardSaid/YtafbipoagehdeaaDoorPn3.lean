/-
  Package plan: Address, ParseAddress.
-/
import Derived.Test.YtafbipoagehdeaaDoorPn1
import Derived.Test.YtafbipoagehdeaaDoorPn2
namespace Go.Proofs.YtafbipoagehdeaaDoor
open Go.RowKit
set_option maxRecDepth 10000
attribute [local irreducible] EK EX ER EN EL ES OpVal OpDoes OpSkip
variable {W : World} {F : SL} {X : Cx} {k : List KI} {σ : Env}

theorem goA_drop {l : List (List UInt8)} {i a : Nat} (hi : i < l.length) : goA (l.drop i) a = match numT 3 (l.getD i []) with
    | none => none
    | some n => if 255 < n then none else goA (l.drop (i + 1)) (a * 256 + n) := by
  rw [List.drop_eq_getElem_cons hi, goA, List.getD_eq_getElem?_getD, List.getElem?_eq_getElem hi]
  rfl
theorem ParseAddress_spec [PlanW W] (l : List UInt8) (hl : l.length < 4294967281) :
    Spec Tryd.prog 25 [str l] W F (fun _ : Unit => addrV (addrT l)) (fun _ => F) := by
  refine Spec.of Tryd.func25 rfl Tryd.ntmps25 rfl ?_
  repeat (first | refine go ?_ | (refine goX ?_; intro))
  refine EL_call rfl (Split_spec l 46 hl) ?_
  intro p
  repeat (first | refine go ?_ | (refine goX ?_; intro))
  refine EK_cond_ndec rfl (fun h4 => ?_) (fun h4 => ?_)
  · repeat (first | refine go ?_ | (refine goX ?_; intro))
    exact EK_ret (ER_2 rfl rfl rfl () (by rw [addrT, if_neg (by omega)]; rfl) (Ent.sat Ent.last))
  have h4' : (splitL 46 l).length = 4 := by omega
  have hT : addrT l = goA (splitL 46 l) 0 := by rw [addrT, if_pos h4']
  generalize hP : splitL 46 l = ps at *
  rw [h4']
  repeat (first | refine go ?_ | (refine goX ?_; intro))
  refine EK_loop (γ := Nat × Nat) (fun g => g.1 ≤ 4 ∧ g.2 < 256 ^ g.1 ∧ goA (ps.drop g.1) g.2 = addrT l) (fun g => [(5, .int .u32 (g.2 : Int)), (15, .slice p 4 4), (16, .int .i64 4), (17, .int .i64 (g.1 : Int))])
    (fun _ => RowC 9 1 p 4 4 (strsR ps) * F) (fun g => 4 - g.1) (0, 0) ⟨Nat.zero_le _, by decide, by rw [hT]; rfl⟩ ⟨rfl, rfl, rfl, rfl, trivial⟩ (Ent.sat (Ent.refl _)) ?_
  intro ⟨i, a⟩ ⟨hi, ha, hg⟩; dsimp only at hi ha hg ⊢
  repeat (first | refine go ?_ | (refine goX ?_; intro))
  refine EK_cond_dec rfl (fun hlt => ?_) (fun hge => ?_)
  · have hi' : i < 4 := by omega
    have ha' : a < 16777216 := by
      have : (256 : Nat) ^ i ≤ 256 ^ 3 := Nat.pow_le_pow_right (by decide) (by omega)
      omega
    have hd := goA_drop (l := ps) (i := i) (a := a) (by omega)
    repeat (first | refine go ?_ | (refine goX ?_; intro))
    refine EL_call rfl (number_spec (ps.getD i []) 3 (by decide)) ?_
    intro
    generalize hn : numT 3 (ps.getD i []) = o at *
    cases o with
    | none =>
      simp only [numV, Option.getD_none, Option.isSome_none]
      repeat (first | refine go ?_ | (refine goX ?_; intro))
      exact EK_ret (ER_2 rfl rfl rfl () (by rw [← hg, hd]; rfl) (Ent.sat Ent.last))
    | some n =>
      have hn3 : n < 1000 := numT_lt hn
      simp only [numV, Option.getD_some, Option.isSome_some]
      repeat (first | refine go ?_ | (refine goX ?_; intro))
      refine EK_cond_dec rfl (fun h5 => ?_) (fun h5 => ?_)
      · repeat (first | refine go ?_ | (refine goX ?_; intro))
        exact EK_ret (ER_2 rfl rfl rfl () (by rw [← hg, hd]; dsimp only; rw [if_pos (by omega)]; rfl) (Ent.sat Ent.last))
      repeat (first | refine go ?_ | (refine goX ?_; intro))
      refine EK_round (i + 1, a * 256 + n) ⟨by dsimp only; omega, ?_, by rw [← hg, hd]; dsimp only; rw [if_neg (by omega)]⟩ (by dsimp only; omega) ⟨by dsimp only; rw [← or_low a n ha' (by omega)]; rfl, rfl, rfl, rfl, trivial⟩ (Ent.sat (Ent.refl _))
      dsimp only
      rw [Nat.pow_succ]
      omega
  · have hi' : i = 4 := by omega
    subst hi'
    rw [show ps.drop 4 = [] from List.drop_eq_nil_of_le (by omega)] at hg
    repeat (first | refine go ?_ | (refine goX ?_; intro))
    exact EK_ret (ER_2 rfl rfl rfl () (by rw [← hg]; rfl) (Ent.sat Ent.last))

/-- The shifts of the rounds. -/
def shV : Nat → Int
  | 0 => 24
  | 1 => 16
  | 2 => 8
  | 3 => 0
  | _ => -8
theorem and_w (a i : Nat) (ha : a < 4294967296) : IntKind.i64.wrap (bits BinOp.and IntKind.u32 ((a : Int) / 2 ^ (8 * i)) 255) = ((byteN a i : Nat) : Int) := by
  rw [and_255 a i ha]
  have := byteN_lt a i
  exact InK.wrap (by simp only [InK]; omega)
theorem Address_spec [PlanT W] (a : Nat) (ha : a < 4294967296) :
    Spec Tryd.prog 24 [.int .u32 (a : Int)] W F (fun _ : Unit => str (addrL a)) (fun _ => F) := by
  refine Spec.of Tryd.func24 rfl Tryd.ntmps24 rfl ?_
  repeat (first | refine go ?_ | (refine goX ?_; intro))
  refine EK_loop (γ := (Option Addr × Nat) × Nat) (fun g => g.2 ≤ 4) (fun g => [(0, .int .u32 (a : Int)), (3, .slice g.1.1 g.2 g.1.2), (4, .int .i64 (shV g.2))])
    (fun g => RowC 9 1 g.1.1 g.2 g.1.2 (strsR ((addrP a).take g.2)) * F) (fun g => 4 - g.2) ((none, 0), 0) (Nat.zero_le _) ⟨rfl, rfl, rfl, trivial⟩ (Ent.sat (Ent.none (Ent.refl _))) ?_
  intro ⟨⟨q, c⟩, i⟩ hi; dsimp only at hi ⊢
  have hc : i = 0 ∨ i = 1 ∨ i = 2 ∨ i = 3 ∨ i = 4 := by omega
  rcases hc with rfl | rfl | rfl | rfl | rfl
  · dsimp only [shV]
    repeat (first | refine go ?_ | (refine goX ?_; intro))
    have hb := byteN_lt a 3
    refine EL_call (vs := [.int .i64 ((byteN a 3 : Nat) : Int)]) (by rw [← and_w a 3 ha]; rfl) (Itoa_spec _ (by omega) (by omega)) ?_
    intro
    rw [itoa_nat]
    repeat (first | refine go ?_ | (refine goX ?_; intro))
    rename_i r
    refine EK_round (r, 1) (by dsimp only; omega) (by dsimp only; omega) ⟨rfl, rfl, rfl, trivial⟩ (Ent.sat (Ent.row r.1 rfl rfl ?_))
    repeat (first | exact Ent.last | refine Ent.cons ?_ | refine Ent.assoc ?_)
  · dsimp only [shV]
    repeat (first | refine go ?_ | (refine goX ?_; intro))
    have hb := byteN_lt a 2
    refine EL_call (vs := [.int .i64 ((byteN a 2 : Nat) : Int)]) (by rw [← and_w a 2 ha]; rfl) (Itoa_spec _ (by omega) (by omega)) ?_
    intro
    rw [itoa_nat]
    repeat (first | refine go ?_ | (refine goX ?_; intro))
    rename_i r
    refine EK_round (r, 2) (by dsimp only; omega) (by dsimp only; omega) ⟨rfl, rfl, rfl, trivial⟩ (Ent.sat (Ent.row r.1 rfl rfl ?_))
    repeat (first | exact Ent.last | refine Ent.cons ?_ | refine Ent.assoc ?_)
  · dsimp only [shV]
    repeat (first | refine go ?_ | (refine goX ?_; intro))
    have hb := byteN_lt a 1
    refine EL_call (vs := [.int .i64 ((byteN a 1 : Nat) : Int)]) (by rw [← and_w a 1 ha]; rfl) (Itoa_spec _ (by omega) (by omega)) ?_
    intro
    rw [itoa_nat]
    repeat (first | refine go ?_ | (refine goX ?_; intro))
    rename_i r
    refine EK_round (r, 3) (by dsimp only; omega) (by dsimp only; omega) ⟨rfl, rfl, rfl, trivial⟩ (Ent.sat (Ent.row r.1 rfl rfl ?_))
    repeat (first | exact Ent.last | refine Ent.cons ?_ | refine Ent.assoc ?_)
  · dsimp only [shV]
    repeat (first | refine go ?_ | (refine goX ?_; intro))
    have hb := byteN_lt a 0
    refine EL_call (vs := [.int .i64 ((byteN a 0 : Nat) : Int)]) (by rw [← and_w a 0 ha]; rfl) (Itoa_spec _ (by omega) (by omega)) ?_
    intro
    rw [itoa_nat]
    repeat (first | refine go ?_ | (refine goX ?_; intro))
    rename_i r
    refine EK_round (r, 4) (by dsimp only; omega) (by dsimp only; omega) ⟨rfl, rfl, rfl, trivial⟩ (Ent.sat (Ent.row r.1 rfl rfl ?_))
    repeat (first | exact Ent.last | refine Ent.cons ?_ | refine Ent.assoc ?_)
  · dsimp only [shV]
    repeat (first | refine go ?_ | (refine goX ?_; intro))
    refine EL_call rfl (Join_spec q 4 c (addrP a) [46] (by decide) (by have := addrL_len a; unfold addrL at this; omega) (by decide)) ?_
    intro
    repeat (first | refine go ?_ | (refine goX ?_; intro))
    exact EK_ret (ER_1 rfl rfl () rfl (Ent.sat Ent.last))
end Go.Proofs.YtafbipoagehdeaaDoor
