/-
  Package plan: Parse.
-/
import Derived.Test.YtafbipoagehdeaaDoorPn3
import Derived.Test.YtafbipoagehdeaaDoorPn4
import Derived.Test.YtafbipoagehdeaaDoorPl1
namespace Go.Proofs.YtafbipoagehdeaaDoor
open Go.RowKit
set_option maxRecDepth 10000
attribute [local irreducible] EK EX ER EN EL ES OpVal OpDoes OpSkip
variable {W : World} {F : SL} {X : Cx} {k : List KI} {σ : Env}

theorem EK_cond_cdec {H : SL} {c : Operand} {x y : Code} {p : Prop} (hc : ev σ c = some (.bool (@decide p (Classical.propDecidable p)))) (h1 : p → EK X (.code x :: k) σ H) (h2 : ¬ p → EK X (.code y :: k) σ H) : EK X (.code (.cond c x y) :: k) σ H := @EK_cond_dec _ _ _ _ _ _ _ _ (Classical.propDecidable p) hc h1 h2
theorem EK_cond_cndec {H : SL} {c : Operand} {x y : Code} {p : Prop} (hc : ev σ c = some (.bool (!@decide p (Classical.propDecidable p)))) (h1 : ¬ p → EK X (.code x :: k) σ H) (h2 : p → EK X (.code y :: k) σ H) : EK X (.code (.cond c x y) :: k) σ H := @EK_cond_ndec _ _ _ _ _ _ _ _ (Classical.propDecidable p) hc h1 h2
abbrev zeroV : List Value := [.int .i64 0, .int .u32 0, .int .i64 0, .int .i64 0, .int .i64 0, .int .i64 0]
theorem parse_none {l : List UInt8} (h : rawT l = none) : Value.tuple #[.agg zeroV.toArray, .int .i64 3] = .tuple #[(parseT l).1.val, .int .i64 (parseT l).2] := by rw [parseT, h]; rfl
/-- The names. -/
abbrev namesV : List Value := [.string ⟨#[119, 111, 114, 107, 101, 114, 115, 61]⟩, .string ⟨#[111, 117, 116, 101, 114, 61]⟩, .string ⟨#[112, 111, 114, 116, 115, 61]⟩, .string ⟨#[98, 117, 99, 107, 101, 116, 115, 61]⟩, .string ⟨#[114, 105, 110, 103, 61]⟩]
set_option maxHeartbeats 4000000 in
theorem Parse_spec [PlanW W] (l : List UInt8) (hl : l.length < 4294967281) :
    Spec Tryd.prog 29 [str l] W F (fun _ : Unit => .tuple #[(parseT l).1.val, .int .i64 (parseT l).2]) (fun _ => F) := by
  refine Spec.of Tryd.func29 rfl Tryd.ntmps29 rfl ?_
  repeat (first | refine go ?_ | (refine goX ?_; intro))
  refine EL_call rfl (Split_spec l 32 hl) ?_
  intro p
  repeat (first | refine go ?_ | (refine goX ?_; intro))
  refine EK_cond_ndec rfl (fun h5 => ?_) (fun h5 => ?_)
  · repeat (first | refine go ?_ | (refine goX ?_; intro))
    exact EK_ret (ER_cn (rs := [.cell 2 25, .tmp 3]) (v := .agg zeroV.toArray) (u := .int .i64 3) (vs := []) rfl ⟨⟨_, rfl, LoadsV.agg rfl⟩, rfl, trivial⟩ () (parse_none (by rw [rawT, if_neg (by omega)])) (Ent.sat Ent.last))
  have h5' : (splitL 32 l).length = 5 := by omega
  have hT : rawT l = partsC (splitL 32 l) := by rw [rawT, if_pos h5']
  generalize hP : splitL 32 l = ps at *
  rw [h5']
  repeat (first | refine go ?_ | (refine goX ?_; intro))
  rename_i pr pc pv
  refine EK_loop (γ := Nat) (fun i => i ≤ 5) (fun i => [(2, .pointer pr), (4, .slice p 5 5), (5, .pointer pc), (6, .bool (goodN ps i)), (7, .pointer pv), (23, .agg namesV.toArray), (24, .int .i64 (i : Int))])
    (fun i => Obj pv 63 (valsN ps i) * (Obj pc 25 zeroV * (RowC 9 1 p 5 5 (strsR ps) * (Obj pr 25 zeroV * F)))) (fun i => 5 - i) 0 (Nat.zero_le _) ⟨rfl, rfl, rfl, rfl, rfl, rfl, rfl, trivial⟩ (Ent.sat (Ent.refl _)) ?_
  intro i hi; dsimp only at hi ⊢
  have hc : i = 0 ∨ i = 1 ∨ i = 2 ∨ i = 3 ∨ i = 4 ∨ i = 5 := by omega
  rcases hc with rfl | rfl | rfl | rfl | rfl | rfl
  · simp only [valsN, goodN]
    repeat (first | refine go ?_ | (refine goX ?_; intro))
    refine EL_call rfl (CutPrefix_spec (ps.getD 0 []) (nameL 0)) ?_
    intro
    repeat (first | refine go ?_ | (refine goX ?_; intro))
    exact EK_round 1 (by decide) (by decide) ⟨rfl, rfl, rfl, rfl, rfl, rfl, rfl, trivial⟩ (Ent.sat (Ent.refl _))
  · simp only [valsN]
    repeat (first | refine go ?_ | (refine goX ?_; intro))
    refine EL_call rfl (CutPrefix_spec (ps.getD 1 []) (nameL 1)) ?_
    intro
    repeat (first | refine go ?_ | (refine goX ?_; intro))
    refine EL_guard_split rfl rfl (fun hg => ?_) (fun hg => ?_)
    · repeat (first | refine go ?_ | (refine goX ?_; intro))
      exact EK_round 2 (by decide) (by decide) ⟨rfl, rfl, rfl, by rw [show goodN ps 2 = (goodN ps 1 && hOf ps 1) from rfl, hg, Bool.true_and]; rfl, rfl, rfl, rfl, trivial⟩ (Ent.sat (Ent.refl _))
    · repeat (first | refine go ?_ | (refine goX ?_; intro))
      exact EK_round 2 (by decide) (by decide) ⟨rfl, rfl, rfl, by rw [show goodN ps 2 = (goodN ps 1 && hOf ps 1) from rfl, hg, Bool.false_and]; rfl, rfl, rfl, rfl, trivial⟩ (Ent.sat (Ent.refl _))
  · simp only [valsN]
    repeat (first | refine go ?_ | (refine goX ?_; intro))
    refine EL_call rfl (CutPrefix_spec (ps.getD 2 []) (nameL 2)) ?_
    intro
    repeat (first | refine go ?_ | (refine goX ?_; intro))
    refine EL_guard_split rfl rfl (fun hg => ?_) (fun hg => ?_)
    · repeat (first | refine go ?_ | (refine goX ?_; intro))
      exact EK_round 3 (by decide) (by decide) ⟨rfl, rfl, rfl, by rw [show goodN ps 3 = (goodN ps 2 && hOf ps 2) from rfl, hg, Bool.true_and]; rfl, rfl, rfl, rfl, trivial⟩ (Ent.sat (Ent.refl _))
    · repeat (first | refine go ?_ | (refine goX ?_; intro))
      exact EK_round 3 (by decide) (by decide) ⟨rfl, rfl, rfl, by rw [show goodN ps 3 = (goodN ps 2 && hOf ps 2) from rfl, hg, Bool.false_and]; rfl, rfl, rfl, rfl, trivial⟩ (Ent.sat (Ent.refl _))
  · simp only [valsN]
    repeat (first | refine go ?_ | (refine goX ?_; intro))
    refine EL_call rfl (CutPrefix_spec (ps.getD 3 []) (nameL 3)) ?_
    intro
    repeat (first | refine go ?_ | (refine goX ?_; intro))
    refine EL_guard_split rfl rfl (fun hg => ?_) (fun hg => ?_)
    · repeat (first | refine go ?_ | (refine goX ?_; intro))
      exact EK_round 4 (by decide) (by decide) ⟨rfl, rfl, rfl, by rw [show goodN ps 4 = (goodN ps 3 && hOf ps 3) from rfl, hg, Bool.true_and]; rfl, rfl, rfl, rfl, trivial⟩ (Ent.sat (Ent.refl _))
    · repeat (first | refine go ?_ | (refine goX ?_; intro))
      exact EK_round 4 (by decide) (by decide) ⟨rfl, rfl, rfl, by rw [show goodN ps 4 = (goodN ps 3 && hOf ps 3) from rfl, hg, Bool.false_and]; rfl, rfl, rfl, rfl, trivial⟩ (Ent.sat (Ent.refl _))
  · simp only [valsN]
    repeat (first | refine go ?_ | (refine goX ?_; intro))
    refine EL_call rfl (CutPrefix_spec (ps.getD 4 []) (nameL 4)) ?_
    intro
    repeat (first | refine go ?_ | (refine goX ?_; intro))
    refine EL_guard_split rfl rfl (fun hg => ?_) (fun hg => ?_)
    · repeat (first | refine go ?_ | (refine goX ?_; intro))
      exact EK_round 5 (by decide) (by decide) ⟨rfl, rfl, rfl, by rw [show goodN ps 5 = (goodN ps 4 && hOf ps 4) from rfl, hg, Bool.true_and]; rfl, rfl, rfl, rfl, trivial⟩ (Ent.sat (Ent.refl _))
    · repeat (first | refine go ?_ | (refine goX ?_; intro))
      exact EK_round 5 (by decide) (by decide) ⟨rfl, rfl, rfl, by rw [show goodN ps 5 = (goodN ps 4 && hOf ps 4) from rfl, hg, Bool.false_and]; rfl, rfl, rfl, rfl, trivial⟩ (Ent.sat (Ent.refl _))
  · simp only [valsN]
    repeat (first | refine go ?_ | (refine goX ?_; intro))
    have hvl := fun j => vOf_le 32 l j
    rw [hP] at hvl
    have hv2 : (vOf ps 2).length < 4294967281 := by have := hvl 2; omega
    refine EL_call rfl (Cut_spec (vOf ps 2) [45] hv2) ?_
    intro
    generalize hcut : Lib.cut (vOf ps 2) [45] = ct at *
    repeat (first | refine go ?_ | (refine goX ?_; intro))
    refine EL_call rfl (number_spec (vOf ps 0) 5 (by decide)) ?_
    intro
    generalize ew0 : numT 5 (vOf ps 0) = w0 at *
    dsimp only [numV]
    repeat (first | refine go ?_ | (refine goX ?_; intro))
    refine EL_call rfl (ParseAddress_spec (vOf ps 1) (by have := hvl 1; omega)) ?_
    intro
    generalize eo0 : addrT (vOf ps 1) = o0 at *
    dsimp only [addrV]
    repeat (first | refine go ?_ | (refine goX ?_; intro))
    refine EL_call rfl (number_spec ct.1 5 (by decide)) ?_
    intro
    generalize el0 : numT 5 ct.1 = l0 at *
    dsimp only [numV]
    repeat (first | refine go ?_ | (refine goX ?_; intro))
    refine EL_call rfl (number_spec ct.2.1 5 (by decide)) ?_
    intro
    generalize eh0 : numT 5 ct.2.1 = h0 at *
    dsimp only [numV]
    repeat (first | refine go ?_ | (refine goX ?_; intro))
    refine EL_call rfl (number_spec (vOf ps 3) 5 (by decide)) ?_
    intro
    generalize eb0 : numT 5 (vOf ps 3) = b0 at *
    dsimp only [numV]
    repeat (first | refine go ?_ | (refine goX ?_; intro))
    refine EL_call rfl (number_spec (vOf ps 4) 5 (by decide)) ?_
    intro
    generalize er0 : numT 5 (vOf ps 4) = r0 at *
    dsimp only [numV]
    repeat (first | refine go ?_ | (refine goX ?_; intro))
    have hE := partsC_eq hcut ew0 eo0 el0 eh0 eb0 er0
    refine EL_guard_split rfl rfl (fun hg => ?_) (fun hg => ?_)
    · repeat (first | refine go ?_ | (refine goX ?_; intro))
      exact EK_ret (ER_cn (rs := [.cell 2 25, .tmp 3]) (v := .agg zeroV.toArray) (u := .int .i64 3) (vs := []) rfl ⟨⟨_, rfl, LoadsV.agg rfl⟩, rfl, trivial⟩ () (parse_none (by rw [hT, hE, if_neg (by intro g; rw [g.1] at hg; cases hg)])) (Ent.sat Ent.last))
    repeat (first | refine go ?_ | (refine goX ?_; intro))
    refine EL_guard_split rfl rfl (fun hg2 => ?_) (fun hg2 => ?_)
    · repeat (first | refine go ?_ | (refine goX ?_; intro))
      exact EK_ret (ER_cn (rs := [.cell 2 25, .tmp 3]) (v := .agg zeroV.toArray) (u := .int .i64 3) (vs := []) rfl ⟨⟨_, rfl, LoadsV.agg rfl⟩, rfl, trivial⟩ () (parse_none (by rw [hT, hE, if_neg (by intro g; rw [g.2] at hg2; cases hg2)])) (Ent.sat Ent.last))
    repeat (first | refine go ?_ | (refine goX ?_; intro))
    refine EK_cond_cndec rfl (fun hq => ?_) (fun hq => ?_)
    · repeat (first | refine go ?_ | (refine goX ?_; intro))
      exact EK_ret (ER_cn (rs := [.cell 2 25, .tmp 3]) (v := .agg zeroV.toArray) (u := .int .i64 3) (vs := []) rfl ⟨⟨_, rfl, LoadsV.agg rfl⟩, rfl, trivial⟩ () (parse_none (by rw [hT, hE]; exact parts_none hq)) (Ent.sat Ent.last))
    simp only [List.cons.injEq, Value.bool.injEq, Option.isSome_iff_exists, and_true] at hq
    obtain ⟨⟨w, rfl⟩, ⟨o, rfl⟩, ⟨lo, rfl⟩, ⟨hi2, rfl⟩, ⟨b, rfl⟩, ⟨r, rfl⟩⟩ := hq
    rw [if_pos ⟨by simpa using hg, by simpa using hg2⟩] at hE
    rw [hE] at hT
    have f1 := numT_lt ew0
    have f2 := addrT_lt eo0
    have f3 := numT_lt el0
    have f4 := numT_lt eh0
    have f5 := numT_lt eb0
    have f6 := numT_lt er0
    simp only [Option.getD_some]
    have hfit : (⟨w, o, lo, hi2, b, r⟩ : Cfg).Fit := ⟨by unfold I64; dsimp only; omega, by dsimp only; omega, by unfold I64; dsimp only; omega, by unfold I64; dsimp only; omega, by unfold I64; dsimp only; omega, by unfold I64; dsimp only; omega⟩
    repeat (first | refine go ?_ | (refine goX ?_; intro))
    refine EL_call rfl (Wrong_spec ⟨w, o, lo, hi2, b, r⟩ hfit) ?_
    intro
    repeat (first | refine go ?_ | (refine goX ?_; intro))
    refine EK_cond_ndec rfl (fun hw => ?_) (fun hw => ?_)
    · repeat (first | refine go ?_ | (refine goX ?_; intro))
      exact EK_ret (ER_cn (rs := [.cell 2 25, .tmp 3]) (v := .agg zeroV.toArray) (u := .int .i64 1) (vs := []) rfl ⟨⟨_, rfl, LoadsV.agg rfl⟩, rfl, trivial⟩ () (by rw [parse_some hT, if_neg hw]; rfl) (Ent.sat Ent.last))
    · repeat (first | refine go ?_ | (refine goX ?_; intro))
      exact EK_ret (ER_cn (rs := [.cell 2 25, .tmp 3]) (v := (⟨w, o, lo, hi2, b, r⟩ : Cfg).val) (u := .int .i64 0) (vs := []) rfl ⟨⟨_, rfl, LoadsV.agg rfl⟩, rfl, trivial⟩ () (by rw [parse_some hT, if_pos hw]) (Ent.sat Ent.last))
end Go.Proofs.YtafbipoagehdeaaDoor
