/-
  Package plan: a port's place, a place's port; and the document's.
-/
import Derived.Test.YtafbipoagehdeaaDoorPl3
namespace Go.Proofs.YtafbipoagehdeaaDoor
open Go.RowKit
set_option maxRecDepth 10000
attribute [local irreducible] EK EX ER EN EL ES OpVal OpDoes OpSkip
variable {W : World} {F : SL} {X : Cx} {k : List KI} {σ : Env}

theorem kindN_le (p : Int) : -1 ≤ kindN p ∧ kindN p ≤ 2 := by unfold kindN; repeat' split <;> omega
theorem kind_mul (c : Cfg) (p : Int) : -1024 ≤ kindN p * portsN c ∧ kindN p * portsN c ≤ 2048 := by
  have h1 := kindN_le p
  have h2 := portsN_le c
  have : kindN p = -1 ∨ kindN p = 0 ∨ kindN p = 1 ∨ kindN p = 2 := by omega
  rcases this with h | h | h | h <;> rw [h] <;> omega

theorem Place_spec (c : Cfg) (hc : c.Fit) (p q : Int) (hq : I64 q) :
    Spec Tryd.prog 18 [c.val, .int .i64 p, .int .i64 q] W F (fun _ : Unit => .int .i64 (placeN c p q)) (fun _ => F) := by
  have h0 := hc
  obtain ⟨⟨w1, w2⟩, ⟨o1, o2⟩, ⟨l1, l2⟩, ⟨h1, h2⟩, ⟨b1, b2⟩, ⟨r1, r2⟩⟩ := hc
  obtain ⟨q1, q2⟩ := hq
  obtain ⟨n1, n2⟩ := portsN_le c
  obtain ⟨m1, m2⟩ := kind_mul c p
  refine Spec.of Tryd.func18 rfl Tryd.ntmps18 rfl ?_
  repeat (first | refine go ?_ | (refine goX ?_; intro))
  refine EL_call rfl (Ports_spec c h0) ?_
  intro
  repeat (first | refine go ?_ | (refine goX ?_; intro))
  refine EL_call rfl (Kind_spec p) ?_
  intro
  repeat (first | refine go ?_ | (refine goX ?_; intro))
  refine EL_guard_dec rfl rfl (fun hn => ?_) (fun hn => ?_)
  · repeat (first | refine go ?_ | (refine goX ?_; intro))
    exact EK_ret (ER_1 rfl rfl () (by rw [placeN, if_pos (.inl hn)]) (Ent.sat Ent.last))
  repeat (first | refine go ?_ | (refine goX ?_; intro))
  refine EL_guard_dec rfl rfl (fun hk => ?_) (fun hk => ?_)
  · repeat (first | refine go ?_ | (refine goX ?_; intro))
    exact EK_ret (ER_1 rfl rfl () (by rw [placeN, if_pos (.inr (.inl hk))]) (Ent.sat Ent.last))
  repeat (first | refine go ?_ | (refine goX ?_; intro))
  refine EL_call rfl (between_spec _ _ _) ?_
  intro
  repeat (first | refine go ?_ | (refine goX ?_; intro))
  refine EK_cond_ndec rfl (fun hb => ?_) (fun hb => ?_)
  · repeat (first | refine go ?_ | (refine goX ?_; intro))
    exact EK_ret (ER_1 rfl rfl () (by rw [placeN, if_pos (.inr (.inr hb))]) (Ent.sat Ent.last))
  have hp : portsN c = c.hi - c.lo + 1 := by
    unfold portsN at hn ⊢
    split
    · rfl
    · rename_i hw
      rw [if_neg hw] at hn
      omega
  have hw : 1 ≤ c.lo ∧ c.hi ≤ 65535 ∧ c.lo ≤ c.hi := by
    have : wrongT c = [] := by
      rcases Decidable.em (wrongT c = []) with h | h
      · exact h
      · exact absurd (by rw [portsN, if_neg h]) hn
    have := (wrongT_nil.1 this).p
    omega
  repeat (first | refine go ?_ | (refine goX ?_; intro))
  exact EK_ret (ER_1 rfl rfl () (by rw [placeN, if_neg (by omega)]) (Ent.sat Ent.last))
theorem rPlace_spec (c : Cfg) (hc : c.Fit) (p q : Int) (hq : I64 q) :
    Spec Tryd.prog 21 [c.val, .int .i64 p, .int .i64 q] W F (fun _ : Unit => .int .i64 (placeN c p q)) (fun _ => F) := by
  have h0 := hc
  obtain ⟨⟨w1, w2⟩, ⟨o1, o2⟩, ⟨l1, l2⟩, ⟨h1, h2⟩, ⟨b1, b2⟩, ⟨r1, r2⟩⟩ := hc
  obtain ⟨q1, q2⟩ := hq
  obtain ⟨n1, n2⟩ := portsN_le c
  obtain ⟨m1, m2⟩ := kind_mul c p
  refine Spec.of Tryd.func21 rfl Tryd.ntmps21 rfl ?_
  repeat (first | refine go ?_ | (refine goX ?_; intro))
  refine EL_call rfl (rPorts_spec c h0) ?_
  intro
  repeat (first | refine go ?_ | (refine goX ?_; intro))
  refine EL_guard_dec rfl rfl (fun hn => ?_) (fun hn => ?_)
  · repeat (first | refine go ?_ | (refine goX ?_; intro))
    exact EK_ret (ER_1 rfl rfl () (by rw [placeN, if_pos (.inl hn)]) (Ent.sat Ent.last))
  repeat (first | refine go ?_ | (refine goX ?_; intro))
  refine EL_call rfl (rKind_spec p) ?_
  intro
  repeat (first | refine go ?_ | (refine goX ?_; intro))
  refine EL_guard_dec rfl rfl (fun hk => ?_) (fun hk => ?_)
  · repeat (first | refine go ?_ | (refine goX ?_; intro))
    exact EK_ret (ER_1 rfl rfl () (by rw [placeN, if_pos (.inr (.inl hk))]) (Ent.sat Ent.last))
  repeat (first | refine go ?_ | (refine goX ?_; intro))
  refine EL_guard_dec rfl rfl (fun hb => ?_) (fun hb => ?_)
  · repeat (first | refine go ?_ | (refine goX ?_; intro))
    exact EK_ret (ER_1 rfl rfl () (by rw [placeN, if_pos (by omega)]) (Ent.sat Ent.last))
  repeat (first | refine go ?_ | (refine goX ?_; intro))
  refine EK_cond_dec rfl (fun hb2 => ?_) (fun hb2 => ?_)
  · repeat (first | refine go ?_ | (refine goX ?_; intro))
    exact EK_ret (ER_1 rfl rfl () (by rw [placeN, if_pos (by omega)]) (Ent.sat Ent.last))
  have hp : portsN c = c.hi - c.lo + 1 := by
    unfold portsN at hn ⊢
    split
    · rfl
    · rename_i hw
      rw [if_neg hw] at hn
      omega
  have hw : 1 ≤ c.lo ∧ c.hi ≤ 65535 ∧ c.lo ≤ c.hi := by
    have : wrongT c = [] := by
      rcases Decidable.em (wrongT c = []) with h | h
      · exact h
      · exact absurd (by rw [portsN, if_neg h]) hn
    have := (wrongT_nil.1 this).p
    omega
  repeat (first | refine go ?_ | (refine goX ?_; intro))
  refine EK_drawn rfl (by kernel_rfl) ?_
  repeat (refine goS ?_)
  refine ES_call rfl (rKind_spec p) ?_
  repeat (refine goS ?_)
  refine ES_call rfl (rPorts_spec c h0) ?_
  repeat (refine goS ?_)
  repeat (first | refine go ?_ | (refine goX ?_; intro))
  exact EK_ret (ER_1 rfl rfl () (by rw [placeN, if_neg (by omega)]) (Ent.sat Ent.last))
theorem Port_spec (c : Cfg) (hc : c.Fit) (q : Int) :
    Spec Tryd.prog 19 [c.val, .int .i64 q] W F (fun _ : Unit => .tuple #[.int .i64 (portN c q).1, .int .i64 (portN c q).2]) (fun _ => F) := by
  have h0 := hc
  obtain ⟨⟨w1, w2⟩, ⟨o1, o2⟩, ⟨l1, l2⟩, ⟨h1, h2⟩, ⟨b1, b2⟩, ⟨r1, r2⟩⟩ := hc
  obtain ⟨n1, n2⟩ := portsN_le c
  refine Spec.of Tryd.func19 rfl Tryd.ntmps19 rfl ?_
  repeat (first | refine go ?_ | (refine goX ?_; intro))
  refine EL_call rfl (Ports_spec c h0) ?_
  intro
  repeat (first | refine go ?_ | (refine goX ?_; intro))
  refine EL_guard_dec rfl rfl (fun hn => ?_) (fun hn => ?_)
  · repeat (first | refine go ?_ | (refine goX ?_; intro))
    exact EK_ret (ER_2 rfl rfl rfl () (by rw [portN, if_pos (.inl hn)]) (Ent.sat Ent.last))
  repeat (first | refine go ?_ | (refine goX ?_; intro))
  refine EL_call rfl (between_spec _ _ _) ?_
  intro
  repeat (first | refine go ?_ | (refine goX ?_; intro))
  refine EK_cond_ndec rfl (fun hb => ?_) (fun hb => ?_)
  · repeat (first | refine go ?_ | (refine goX ?_; intro))
    exact EK_ret (ER_2 rfl rfl rfl () (by rw [portN, if_pos (.inr hb)]) (Ent.sat Ent.last))
  have hw : 1 ≤ c.lo ∧ c.hi ≤ 65535 ∧ c.lo ≤ c.hi := by
    have : wrongT c = [] := by
      rcases Decidable.em (wrongT c = []) with h | h
      · exact h
      · exact absurd (by rw [portsN, if_neg h]) hn
    have := (wrongT_nil.1 this).p
    omega
  have hm := Int.emod_lt_of_pos q (show 0 < portsN c by omega)
  have hm0 := Int.emod_nonneg q (show portsN c ≠ 0 by omega)
  repeat (first | refine go ?_ | (refine goX ?_; intro))
  refine EK_drawn rfl (by kernel_rfl) ?_
  repeat (refine goS ?_)
  refine ES_call rfl (protocol_spec _) ?_
  repeat (refine goS ?_)
  repeat (first | refine go ?_ | (refine goX ?_; intro))
  exact EK_ret (ER_2 rfl rfl rfl () (by rw [portN, if_neg (by omega)]) (Ent.sat Ent.last))
end Go.Proofs.YtafbipoagehdeaaDoor
