/-
  The laws PlanChecks, PlanPlaces: their walks.
-/
import Derived.Test.YtafbipoagehdeaaDoorPn5
import Derived.Test.YtafbipoagehdeaaDoorPl5
namespace Go.Proofs.YtafbipoagehdeaaDoor
open Go.RowKit
set_option maxRecDepth 10000
attribute [local irreducible] EK EX ER EN EL ES OpVal OpDoes OpSkip
variable {W : World} {F : SL} {X : Cx} {k : List KI} {σ : Env}

theorem To_spec (c : Cfg) : Spec Tryd.prog 8 [c.val] W F (fun _ : Unit => c.val) (fun _ => F) := by
  refine Spec.of Tryd.func8 rfl Tryd.ntmps8 rfl ?_
  repeat (first | refine go ?_ | (refine goX ?_; intro))
  exact EK_ret (ER_c1 (rv := .cell 2 25) (v := c.val) rfl ⟨_, rfl, LoadsV.agg rfl⟩ () rfl (Ent.sat Ent.last))
def plT : List UInt8 := [119, 111, 114, 107, 101, 114, 115, 61, 50, 32, 111, 117, 116, 101, 114, 61, 49, 57, 50, 46, 48, 46, 50, 46, 49, 32, 112, 111, 114, 116, 115, 61, 49, 48, 48, 48, 45, 49, 57, 57, 57, 32, 98, 117, 99, 107, 101, 116, 115, 61, 54, 52, 32, 114, 105, 110, 103, 61, 49, 54]
def plC : Cfg := ⟨2, 3221225985, 1000, 1999, 64, 16⟩
theorem plans_text : parseT plT = (plC, 0) := by kernel_rfl
theorem plC_fit : plC.Fit := ⟨by unfold I64 plC; decide, by unfold plC; decide, by unfold I64 plC; decide, by unfold I64 plC; decide, by unfold I64 plC; decide, by unfold I64 plC; decide⟩
theorem plC_ports : portsN plC = 1000 := by decide
theorem plC_words : wordsN plC = 32 := by decide
theorem plC_bound : boundN plC = 2640 := by decide
theorem plC_place : placeN plC 17 1000 = 2000 := by decide
theorem plans_spec [PlanW W] : Spec Tryd.prog 11 [] W F (fun _ : Unit => .bool true) (fun _ => F) := by
  refine Spec.of Tryd.func11 rfl Tryd.ntmps11 rfl ?_
  repeat (first | refine go ?_ | (refine goX ?_; intro))
  refine EL_call rfl (Parse_spec plT (by decide)) ?_
  intro
  rw [plans_text]
  simp only [plC]
  repeat (first | refine go ?_ | (refine goX ?_; intro))
  refine EL_call rfl (Places_spec plC plC_fit) ?_
  intro
  rw [plC_ports]
  repeat (first | refine go ?_ | (refine goX ?_; intro))
  refine EL_call rfl (Words_spec plC plC_fit) ?_
  intro
  rw [plC_words]
  repeat (first | refine go ?_ | (refine goX ?_; intro))
  refine EL_call rfl (Place_spec plC plC_fit 17 1000 (by unfold I64; decide)) ?_
  intro
  rw [plC_place]
  repeat (first | refine go ?_ | (refine goX ?_; intro))
  refine EL_call rfl (Bound_spec plC plC_fit) ?_
  intro
  rw [plC_bound]
  repeat (first | refine go ?_ | (refine goX ?_; intro))
  exact EK_ret (ER_1 rfl rfl () rfl (Ent.sat Ent.last))
theorem bound_pos (c : Cfg) : boundN c = if 0 < portsN c then 2000 + 20 * wordsN c else 0 := by
  unfold boundN portsN
  split
  · rename_i h
    have := (wrongT_nil.1 h).p
    rw [if_pos (by omega)]
  · rfl
theorem Checks_walk [PlanW W] (c : Cfg) (hc : c.Fit) : Spec Tryd.prog 3 [c.val] W F (fun _ : Unit => .bool true) (fun _ => F) := by
  obtain ⟨n1, n2⟩ := portsN_le c
  have hwd : wordsN c = (portsN c + 31) / 32 := rfl
  have hbd := bound_pos c
  refine Spec.of Tryd.func3 rfl Tryd.ntmps3 rfl ?_
  repeat (first | refine go ?_ | (refine goX ?_; intro))
  refine EL_call rfl (To_spec c) ?_
  intro
  repeat (first | refine go ?_ | (refine goX ?_; intro))
  refine EL_call rfl (rPorts_spec c hc) ?_
  intro
  repeat (first | refine go ?_ | (refine goX ?_; intro))
  refine EK_cond_dec rfl (fun hn => ?_) (fun hn => ?_)
  · rw [if_pos (by omega)] at hbd
    repeat (first | refine go ?_ | (refine goX ?_; intro))
    refine EL_call rfl (rWords_spec c hc) ?_
    intro
    repeat (first | refine go ?_ | (refine goX ?_; intro))
    refine EK_drawn rfl (by kernel_rfl) ?_
    repeat (refine goS ?_)
    refine ES_call rfl plans_spec ?_
    repeat (refine goS ?_)
    refine ES_call rfl (Wrong_spec c hc) ?_
    repeat (refine goS ?_)
    refine ES_call rfl (rWrong_spec c hc) ?_
    repeat (refine goS ?_)
    refine ES_guard_dec (t := 24) rfl (fun _ => ?_) (fun hno => ?_)
    rotate_left
    · exact absurd rfl hno
    repeat (refine goS ?_)
    refine ES_call rfl (Ports_spec c hc) ?_
    repeat (refine goS ?_)
    refine ES_call rfl (Places_spec c hc) ?_
    repeat (refine goS ?_)
    refine ES_call rfl (Words_spec c hc) ?_
    repeat (refine goS ?_)
    refine ES_call rfl (rWords_spec c hc) ?_
    repeat (refine goS ?_)
    refine ES_call rfl (Bound_spec c hc) ?_
    repeat (refine goS ?_)
    repeat (first | refine go ?_ | (refine goX ?_; intro))
    exact EK_ret (ER_1 rfl rfl () rfl (Ent.sat Ent.last))
  · rw [if_neg (by omega)] at hbd
    repeat (first | refine go ?_ | (refine goX ?_; intro))
    refine EK_drawn rfl (by kernel_rfl) ?_
    repeat (refine goS ?_)
    refine ES_call rfl plans_spec ?_
    repeat (refine goS ?_)
    refine ES_call rfl (Wrong_spec c hc) ?_
    repeat (refine goS ?_)
    refine ES_call rfl (rWrong_spec c hc) ?_
    repeat (refine goS ?_)
    refine ES_guard_dec (t := 24) rfl (fun _ => ?_) (fun hno => ?_)
    rotate_left
    · exact absurd rfl hno
    repeat (refine goS ?_)
    refine ES_call rfl (Ports_spec c hc) ?_
    repeat (refine goS ?_)
    refine ES_call rfl (Places_spec c hc) ?_
    repeat (refine goS ?_)
    refine ES_call rfl (Words_spec c hc) ?_
    repeat (refine goS ?_)
    refine ES_call rfl (rWords_spec c hc) ?_
    repeat (refine goS ?_)
    refine ES_call rfl (Bound_spec c hc) ?_
    repeat (refine goS ?_)
    repeat (first | refine go ?_ | (refine goX ?_; intro))
    exact EK_ret (ER_1 rfl rfl () rfl (Ent.sat Ent.last))
theorem portN_in {c : Cfg} (hc : c.Fit) (q : Int) : I64 (portN c q).1 ∧ I64 (portN c q).2 := by
  unfold portN
  split
  · exact ⟨by unfold I64; decide, by unfold I64; decide⟩
  · rename_i hn
    have hw : wrongT c = [] := by
      rcases Decidable.em (wrongT c = []) with h | h
      · exact h
      · exact absurd (.inl (by rw [portsN, if_neg h])) hn
    have hp := (wrongT_nil.1 hw).p
    have h3 := portsN_le c
    have hm := Int.emod_lt_of_pos q (show 0 < portsN c by omega)
    have hm0 := Int.emod_nonneg q (show portsN c ≠ 0 by omega)
    refine ⟨?_, by unfold I64; dsimp only; omega⟩
    unfold I64 protoN
    dsimp only
    repeat' split <;> omega
theorem placeN_in {c : Cfg} (p q : Int) : I64 (placeN c p q) := by
  unfold placeN
  split
  · unfold I64; decide
  · rename_i hn
    obtain ⟨m1, m2⟩ := kind_mul c p
    have hw : wrongT c = [] := by
      rcases Decidable.em (wrongT c = []) with h | h
      · exact h
      · exact absurd (.inl (by rw [portsN, if_neg h])) hn
    have hp := (wrongT_nil.1 hw).p
    unfold I64
    omega
theorem Places_walk [PlanW W] (c : Cfg) (hc : c.Fit) (a b z : Int) (ha : I64 a) (hb : I64 b) (hz : I64 z) :
    Spec Tryd.prog 4 [c.val, .agg #[.int .i64 a, .int .i64 b], .int .i64 z] W F (fun _ : Unit => .bool true) (fun _ => F) := by
  have hpi := portN_in hc z
  have hpl := placeN_in (c := c) a b
  refine Spec.of Tryd.func4 rfl Tryd.ntmps4 rfl ?_
  repeat (first | refine go ?_ | (refine goX ?_; intro))
  refine EL_call rfl (To_spec c) ?_
  intro
  repeat (first | refine go ?_ | (refine goX ?_; intro))
  refine EL_call rfl (Place_spec c hc a b hb) ?_
  intro
  repeat (first | refine go ?_ | (refine goX ?_; intro))
  refine EL_call rfl (Port_spec c hc z) ?_
  intro
  repeat (first | refine go ?_ | (refine goX ?_; intro))
  refine EL_call rfl (rPort_spec c hc z) ?_
  intro
  repeat (first | refine go ?_ | (refine goX ?_; intro))
  refine EK_drawn rfl (by kernel_rfl) ?_
  repeat (refine goS ?_)
  refine ES_call rfl plans_spec ?_
  repeat (refine goS ?_)
  refine ES_call rfl (rPlace_spec c hc a b hb) ?_
  repeat (refine goS ?_)
  refine ES_call rfl (Kind_spec a) ?_
  repeat (refine goS ?_)
  refine ES_call rfl (rKind_spec a) ?_
  repeat (refine goS ?_)
  repeat (first | refine go ?_ | (refine goX ?_; intro))
  refine EK_cond_dec rfl (fun hi => ?_) (fun hi => ?_)
  · repeat (first | refine go ?_ | (refine goX ?_; intro))
    refine EL_call rfl (Port_spec c hc (placeN c a b)) ?_
    intro
    rw [port_of_place hi]
    repeat (first | refine go ?_ | (refine goX ?_; intro))
    refine EL_guard_dec rfl rfl (fun h0 => ?_) (fun h0 => ?_)
    · repeat (first | refine go ?_ | (refine goX ?_; intro))
      exact EK_ret (ER_1 rfl rfl () rfl (Ent.sat Ent.last))
    repeat (first | refine go ?_ | (refine goX ?_; intro))
    refine EL_call rfl (Place_spec c hc (portN c z).1 (portN c z).2 hpi.2) ?_
    intro
    rw [place_of_port h0]
    repeat (first | refine go ?_ | (refine goX ?_; intro))
    exact EK_ret (ER_1 rfl rfl () rfl (Ent.sat Ent.last))
  · repeat (first | refine go ?_ | (refine goX ?_; intro))
    refine EL_guard_dec rfl rfl (fun h0 => ?_) (fun h0 => ?_)
    · repeat (first | refine go ?_ | (refine goX ?_; intro))
      exact EK_ret (ER_1 rfl rfl () rfl (Ent.sat Ent.last))
    repeat (first | refine go ?_ | (refine goX ?_; intro))
    refine EL_call rfl (Place_spec c hc (portN c z).1 (portN c z).2 hpi.2) ?_
    intro
    rw [place_of_port h0]
    repeat (first | refine go ?_ | (refine goX ?_; intro))
    exact EK_ret (ER_1 rfl rfl () rfl (Ent.sat Ent.last))
end Go.Proofs.YtafbipoagehdeaaDoor
