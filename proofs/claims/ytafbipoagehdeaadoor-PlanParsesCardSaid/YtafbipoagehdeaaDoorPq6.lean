/-
  The laws PlanAddresses, PlanTexts, PlanParses: their walks.
-/
import Derived.Test.YtafbipoagehdeaaDoorPq5
import Derived.Test.YtafbipoagehdeaaDoorPn6
namespace Go.Proofs.YtafbipoagehdeaaDoor
open Go.RowKit
set_option maxRecDepth 10000
attribute [local irreducible] EK EX ER EN EL ES OpVal OpDoes OpSkip
variable {W : World} {F : SL} {X : Cx} {k : List KI} {σ : Env}

theorem radd_none {s : List UInt8} (h : addrT s = none) : ∃ d, rAddrP s = (d, false) := by
  rw [← raddr_eq, rAddrP_eq] at h
  split at h
  · cases h
  · rename_i g
    exact ⟨(rAddrP s).1, by rw [← eq_false_of_ne_true g]⟩
theorem radd_some {s : List UInt8} {n : Nat} (h : addrT s = some n) : rAddrP s = (n, true) := by
  rw [← raddr_eq, rAddrP_eq] at h
  split at h
  · rename_i g
    simp only [Option.some.injEq] at h
    rw [← h, ← g]
  · cases h
theorem Addresses_walk [PlanW W] [PlanT W] (a : Nat) (ha : a < 4294967296) (l : List UInt8) : Spec Tryd.prog 5 [.int .u32 (a : Int), str l] W F (fun _ : Unit => .bool true) (fun _ => F) := by
  refine Spec.of Tryd.func5 rfl Tryd.ntmps5 rfl ?_
  repeat (first | refine go ?_ | (refine goX ?_; intro))
  have hs : (l.take (min l.length 40)).length ≤ 40 := by rw [List.length_take]; omega
  generalize l.take (min l.length 40) = s at *
  refine EL_call rfl (Address_spec a ha) ?_
  intro
  have hl := addrL_len a
  repeat (first | refine go ?_ | (refine goX ?_; intro))
  refine EL_call rfl (ParseAddress_spec (addrL a) (by omega)) ?_
  intro
  rw [addr_back ha]
  simp only [addrV, Option.getD_some, Option.isSome_some]
  repeat (first | refine go ?_ | (refine goX ?_; intro))
  refine EL_call rfl (ParseAddress_spec s (by omega)) ?_
  intro
  cases hc : addrT s with
  | none =>
    obtain ⟨d, hd⟩ := radd_none hc
    simp only [addrV, Option.getD_none, Option.isSome_none]
    repeat (first | refine go ?_ | (refine goX ?_; intro))
    refine EL_call rfl (rParseAddress_spec s (by omega)) ?_
    intro
    rw [rAddrV, hd]
    repeat (first | refine go ?_ | (refine goX ?_; intro))
    refine EL_call rfl plans_spec ?_
    intro
    repeat (first | refine go ?_ | (refine goX ?_; intro))
    refine EL_call rfl (rAddress_spec a ha) ?_
    intro
    repeat (first | refine go ?_ | (refine goX ?_; intro))
    refine EL_guard_dec rfl rfl (fun _ => ?_) (fun h => absurd rfl h)
    repeat (first | refine go ?_ | (refine goX ?_; intro))
    exact EK_ret (ER_1 rfl rfl () rfl (Ent.sat Ent.last))
  | some n =>
    have hd := radd_some hc
    obtain ⟨ht, hn⟩ := (addr_iff.1 hc).text
    simp only [addrV, Option.getD_some, Option.isSome_some]
    repeat (first | refine go ?_ | (refine goX ?_; intro))
    refine EL_call rfl (rParseAddress_spec s (by omega)) ?_
    intro
    rw [rAddrV, hd]
    repeat (first | refine go ?_ | (refine goX ?_; intro))
    refine EL_call rfl plans_spec ?_
    intro
    repeat (first | refine go ?_ | (refine goX ?_; intro))
    refine EL_call rfl (rAddress_spec a ha) ?_
    intro
    repeat (first | refine go ?_ | (refine goX ?_; intro))
    refine EL_guard_dec rfl rfl (fun _ => ?_) (fun h => absurd rfl h)
    repeat (first | refine go ?_ | (refine goX ?_; intro))
    refine EL_call rfl (Address_spec n hn) ?_
    intro
    rw [ht]
    repeat (first | refine go ?_ | (refine goX ?_; intro))
    exact EK_ret (ER_1 rfl rfl () (by simp) (Ent.sat Ent.last))
theorem cval_inj {c d : Cfg} : (c.cells = d.cells) ↔ c = d := by
  constructor
  · intro h
    obtain ⟨a, b, e, f, g, i⟩ := c
    obtain ⟨a', b', e', f', g', i'⟩ := d
    simp only [Cfg.cells, List.cons.injEq, Value.int.injEq, true_and, and_true] at h
    obtain ⟨rfl, rfl, rfl, rfl, rfl, rfl⟩ := h
    rfl
  · rintro rfl; rfl
theorem textT_len {c : Cfg} (hc : c.Fit) : (textT c).length < 4294967281 := by
  unfold textT
  split
  · rename_i hw
    have hg := wrongT_nil.1 hw
    obtain ⟨w, o, lo, hi, b, r, rfl⟩ := good_nats hg hc.o.1
    obtain ⟨k1, k2, k3, k4, k5⟩ := hg
    have k6 := hc.o
    have hb : (b : Int) ≤ 1024 := by unfold pow2 at k4; dsimp only at k4; omega
    dsimp only at k1 k2 k3 k5 k6
    have l1 := dec_len20 (n := w) (by omega)
    have l2 := dec_len20 (n := lo) (by omega)
    have l3 := dec_len20 (n := hi) (by omega)
    have l4 := dec_len20 (n := b) (by omega)
    have l5 := dec_len20 (n := r) (by omega)
    have l6 := addrL_len o
    unfold lineL
    simp only [Int.toNat_natCast, List.length_append, List.length_cons, nameL, outerW, portsW, bucketsW, ringW, List.length_nil]
    omega
  · simp
theorem Texts_walk [PlanW W] [PlanT W] (c : Cfg) (hc : c.Fit) : Spec Tryd.prog 6 [c.val] W F (fun _ : Unit => .bool true) (fun _ => F) := by
  have hl := textT_len hc
  have hp := parse_text (c := c) hc.o
  have ht : ¬ wrongT c = [] → textT c = [] := fun h => by rw [textT, if_neg h]
  refine Spec.of Tryd.func6 rfl Tryd.ntmps6 rfl ?_
  repeat (first | refine go ?_ | (refine goX ?_; intro))
  refine EL_call rfl (To_spec c) ?_
  intro
  repeat (first | refine go ?_ | (refine goX ?_; intro))
  refine EL_call rfl (Text_spec c hc) ?_
  intro
  repeat (first | refine go ?_ | (refine goX ?_; intro))
  refine EL_call rfl (Parse_spec (textT c) hl) ?_
  intro
  rw [hp]
  by_cases hw : wrongT c = []
  · rw [if_pos hw]
    repeat (first | refine go ?_ | (refine goX ?_; intro))
    refine EL_call rfl plans_spec ?_
    intro
    repeat (first | refine go ?_ | (refine goX ?_; intro))
    refine EL_call rfl (rText_spec c hc) ?_
    intro
    repeat (first | refine go ?_ | (refine goX ?_; intro))
    refine EK_cond_ndec rfl (fun h => absurd rfl h) (fun _ => ?_)
    repeat (first | refine go ?_ | (refine goX ?_; intro))
    refine EL_call rfl (rWrong_spec c hc) ?_
    intro
    rw [hw]
    repeat (first | refine go ?_ | (refine goX ?_; intro))
    refine EK_drawn rfl (by kernel_rfl) ?_
    repeat (refine goS ?_)
    refine ES_call rfl (From_spec c) ?_
    repeat (refine goS ?_)
    repeat (first | refine go ?_ | (refine goX ?_; intro))
    exact EK_ret (ER_1 rfl rfl () (by simp) (Ent.sat Ent.last))
  · rw [if_neg hw, ht hw]
    repeat (first | refine go ?_ | (refine goX ?_; intro))
    refine EL_call rfl plans_spec ?_
    intro
    repeat (first | refine go ?_ | (refine goX ?_; intro))
    refine EL_call rfl (rText_spec c hc) ?_
    intro
    rw [ht hw]
    repeat (first | refine go ?_ | (refine goX ?_; intro))
    refine EL_call rfl (rWrong_spec c hc) ?_
    intro
    repeat (first | refine go ?_ | (refine goX ?_; intro))
    refine EK_cond_ndec rfl (fun _ => ?_) (fun h => absurd h hw)
    repeat (first | refine go ?_ | (refine goX ?_; intro))
    exact EK_ret (ER_1 rfl rfl () (by simp [zeroC]) (Ent.sat Ent.last))
theorem parse_fit {l : List UInt8} : (parseT l).1.Fit := by
  have hz : zeroC.Fit := ⟨by unfold I64 zeroC; decide, by unfold zeroC; decide, by unfold I64 zeroC; decide, by unfold I64 zeroC; decide, by unfold I64 zeroC; decide, by unfold I64 zeroC; decide⟩
  unfold parseT
  cases h : rawT l with
  | none => exact hz
  | some c =>
    dsimp only
    split
    · rename_i hw
      have hg := wrongT_nil.1 hw
      obtain ⟨k1, k2, k3, k4, k5⟩ := hg
      obtain ⟨W, O, L, H, B, R, w, o, l, h, b, r, _, _, e2, _, _, _, _, rfl⟩ := raw_iff.1 h
      have ho := e2.text.2
      have hb : (b : Int) ≤ 1024 := by unfold pow2 at k4; dsimp only at k4; omega
      dsimp only at k1 k2 k3 k5
      exact ⟨by unfold I64; dsimp only; omega, by dsimp only; omega, by unfold I64; dsimp only; omega, by unfold I64; dsimp only; omega, by unfold I64; dsimp only; omega, by unfold I64; dsimp only; omega⟩
    · exact hz
theorem Parses_walk [PlanW W] [PlanT W] (l : List UInt8) : Spec Tryd.prog 7 [str l] W F (fun _ : Unit => .bool true) (fun _ => F) := by
  refine Spec.of Tryd.func7 rfl Tryd.ntmps7 rfl ?_
  repeat (first | refine go ?_ | (refine goX ?_; intro))
  have hs : (l.take (min l.length 200)).length ≤ 200 := by rw [List.length_take]; omega
  generalize l.take (min l.length 200) = s at *
  refine EL_call rfl (Parse_spec s (by omega)) ?_
  intro
  have hf := parse_fit (l := s)
  have ht := text_parse (s := s)
  have hr := rparse_eq s
  generalize parseT s = p at *
  obtain ⟨c, e⟩ := p
  dsimp only at hf ht
  repeat (first | refine go ?_ | (refine goX ?_; intro))
  refine EL_call rfl (rParse_spec s (by omega)) ?_
  intro
  rw [hr]
  repeat (first | refine go ?_ | (refine goX ?_; intro))
  refine EK_drawn rfl (by kernel_rfl) ?_
  repeat (refine goS ?_)
  refine ES_call rfl plans_spec ?_
  repeat (refine goS ?_)
  refine ES_call rfl (From_spec c) ?_
  repeat (refine goS ?_)
  repeat (first | refine go ?_ | (refine goX ?_; intro))
  refine EK_cond_cndec rfl (fun h => absurd rfl h) (fun _ => ?_)
  repeat (first | refine go ?_ | (refine goX ?_; intro))
  refine EL_guard_ndec rfl rfl (fun h0 => ?_) (fun h0 => ?_)
  · repeat (first | refine go ?_ | (refine goX ?_; intro))
    exact EK_ret (ER_1 rfl rfl () rfl (Ent.sat Ent.last))
  · repeat (first | refine go ?_ | (refine goX ?_; intro))
    refine EL_call rfl (Text_spec c hf) ?_
    intro
    rw [ht h0]
    repeat (first | refine go ?_ | (refine goX ?_; intro))
    exact EK_ret (ER_1 rfl rfl () (by simp) (Ent.sat Ent.last))
end Go.Proofs.YtafbipoagehdeaaDoor
