/-
  Package plan: ports, places, words; and the document's.
-/
import Derived.Test.YtafbipoagehdeaaDoorPl2
namespace Go.Proofs.YtafbipoagehdeaaDoor
open Go.RowKit
set_option maxRecDepth 10000
attribute [local irreducible] EK EX ER EN EL ES OpVal OpDoes OpSkip
variable {W : World} {F : SL} {X : Cx} {k : List KI} {σ : Env}

theorem Ports_spec (c : Cfg) (hc : c.Fit) :
    Spec Tryd.prog 14 [c.val] W F (fun _ : Unit => .int .i64 (portsN c)) (fun _ => F) := by
  have h0 := hc
  obtain ⟨⟨w1, w2⟩, ⟨o1, o2⟩, ⟨l1, l2⟩, ⟨h1, h2⟩, ⟨b1, b2⟩, ⟨r1, r2⟩⟩ := hc
  refine Spec.of Tryd.func14 rfl Tryd.ntmps14 rfl ?_
  repeat (first | refine go ?_ | (refine goX ?_; intro))
  refine EL_call rfl (Wrong_spec c h0) ?_
  intro
  repeat (first | refine go ?_ | (refine goX ?_; intro))
  refine EK_cond_ndec rfl (fun hw => ?_) (fun hw => ?_)
  · repeat (first | refine go ?_ | (refine goX ?_; intro))
    exact EK_ret (ER_1 rfl rfl () (by rw [portsN, if_neg hw]) (Ent.sat Ent.last))
  have hg := (wrongT_nil.1 hw).p
  repeat (first | refine go ?_ | (refine goX ?_; intro))
  exact EK_ret (ER_1 rfl rfl () (by rw [portsN, if_pos hw]) (Ent.sat Ent.last))
theorem rPorts_spec (c : Cfg) (hc : c.Fit) :
    Spec Tryd.prog 9 [c.val] W F (fun _ : Unit => .int .i64 (portsN c)) (fun _ => F) := by
  have h0 := hc
  obtain ⟨⟨w1, w2⟩, ⟨o1, o2⟩, ⟨l1, l2⟩, ⟨h1, h2⟩, ⟨b1, b2⟩, ⟨r1, r2⟩⟩ := hc
  refine Spec.of Tryd.func9 rfl Tryd.ntmps9 rfl ?_
  repeat (first | refine go ?_ | (refine goX ?_; intro))
  refine EL_call rfl (rWrong_spec c h0) ?_
  intro
  repeat (first | refine go ?_ | (refine goX ?_; intro))
  refine EK_cond_ndec rfl (fun hw => ?_) (fun hw => ?_)
  · repeat (first | refine go ?_ | (refine goX ?_; intro))
    exact EK_ret (ER_1 rfl rfl () (by rw [portsN, if_neg hw]) (Ent.sat Ent.last))
  have hg := (wrongT_nil.1 hw).p
  repeat (first | refine go ?_ | (refine goX ?_; intro))
  exact EK_ret (ER_1 rfl rfl () (by rw [portsN, if_pos hw]) (Ent.sat Ent.last))
theorem Places_spec (c : Cfg) (hc : c.Fit) :
    Spec Tryd.prog 15 [c.val] W F (fun _ : Unit => .int .i64 (3 * portsN c)) (fun _ => F) := by
  obtain ⟨n1, n2⟩ := portsN_le c
  refine Spec.of Tryd.func15 rfl Tryd.ntmps15 rfl ?_
  repeat (first | refine go ?_ | (refine goX ?_; intro))
  refine EL_call rfl (Ports_spec c hc) ?_
  intro
  repeat (first | refine go ?_ | (refine goX ?_; intro))
  exact EK_ret (ER_1 rfl rfl () rfl (Ent.sat Ent.last))
theorem Words_spec (c : Cfg) (hc : c.Fit) :
    Spec Tryd.prog 16 [c.val] W F (fun _ : Unit => .int .i64 (wordsN c)) (fun _ => F) := by
  obtain ⟨n1, n2⟩ := portsN_le c
  refine Spec.of Tryd.func16 rfl Tryd.ntmps16 rfl ?_
  repeat (first | refine go ?_ | (refine goX ?_; intro))
  refine EL_call rfl (Ports_spec c hc) ?_
  intro
  repeat (first | refine go ?_ | (refine goX ?_; intro))
  exact EK_ret (ER_1 rfl rfl () (by rw [wordsN, show portsN c + 32 - 1 = portsN c + 31 by omega]) (Ent.sat Ent.last))
theorem rWords_spec (c : Cfg) (hc : c.Fit) :
    Spec Tryd.prog 10 [c.val] W F (fun _ : Unit => .int .i64 (wordsN c)) (fun _ => F) := by
  obtain ⟨n1, n2⟩ := portsN_le c
  refine Spec.of Tryd.func10 rfl Tryd.ntmps10 rfl ?_
  repeat (first | refine go ?_ | (refine goX ?_; intro))
  refine EL_call rfl (rPorts_spec c hc) ?_
  intro
  repeat (first | refine go ?_ | (refine goX ?_; intro))
  exact EK_ret (ER_1 rfl rfl () rfl (Ent.sat Ent.last))
def boundN (c : Cfg) : Int := if wrongT c = [] then 2000 + 20 * wordsN c else 0
theorem Bound_spec (c : Cfg) (hc : c.Fit) :
    Spec Tryd.prog 17 [c.val] W F (fun _ : Unit => .int .i64 (boundN c)) (fun _ => F) := by
  obtain ⟨n1, n2⟩ := portsN_le c
  refine Spec.of Tryd.func17 rfl Tryd.ntmps17 rfl ?_
  repeat (first | refine go ?_ | (refine goX ?_; intro))
  refine EL_call rfl (Wrong_spec c hc) ?_
  intro
  repeat (first | refine go ?_ | (refine goX ?_; intro))
  refine EK_cond_ndec rfl (fun hw => ?_) (fun hw => ?_)
  · repeat (first | refine go ?_ | (refine goX ?_; intro))
    exact EK_ret (ER_1 rfl rfl () (by rw [boundN, if_neg hw]) (Ent.sat Ent.last))
  repeat (first | refine go ?_ | (refine goX ?_; intro))
  refine EL_call rfl (Words_spec c hc) ?_
  intro
  have hwn : wordsN c = (portsN c + 31) / 32 := rfl
  repeat (first | refine go ?_ | (refine goX ?_; intro))
  exact EK_ret (ER_1 rfl rfl () (by rw [boundN, if_pos hw]) (Ent.sat Ent.last))
theorem Kind_spec (p : Int) :
    Spec Tryd.prog 22 [.int .i64 p] W F (fun _ : Unit => .int .i64 (kindN p)) (fun _ => F) := by
  refine Spec.of Tryd.func22 rfl Tryd.ntmps22 rfl ?_
  repeat (first | refine go ?_ | (refine goX ?_; intro))
  refine EK_cond_dec rfl (fun h1 => ?_) (fun h1 => ?_)
  · repeat (first | refine go ?_ | (refine goX ?_; intro))
    exact EK_ret (ER_1 rfl rfl () (by rw [kindN, if_pos h1]) (Ent.sat Ent.last))
  repeat (first | refine go ?_ | (refine goX ?_; intro))
  refine EK_cond_dec rfl (fun h2 => ?_) (fun h2 => ?_)
  · repeat (first | refine go ?_ | (refine goX ?_; intro))
    exact EK_ret (ER_1 rfl rfl () (by rw [kindN, if_neg h1, if_pos h2]) (Ent.sat Ent.last))
  repeat (first | refine go ?_ | (refine goX ?_; intro))
  refine EK_cond_dec rfl (fun h3 => ?_) (fun h3 => ?_)
  · repeat (first | refine go ?_ | (refine goX ?_; intro))
    exact EK_ret (ER_1 rfl rfl () (by rw [kindN, if_neg h1, if_neg h2, if_pos h3]) (Ent.sat Ent.last))
  repeat (first | refine go ?_ | (refine goX ?_; intro))
  exact EK_ret (ER_1 rfl rfl () (by rw [kindN, if_neg h1, if_neg h2, if_neg h3]) (Ent.sat Ent.last))
theorem rKind_spec (p : Int) :
    Spec Tryd.prog 23 [.int .i64 p] W F (fun _ : Unit => .int .i64 (kindN p)) (fun _ => F) := by
  refine Spec.of Tryd.func23 rfl Tryd.ntmps23 rfl ?_
  repeat (first | refine go ?_ | (refine goX ?_; intro))
  refine EK_cond_dec rfl (fun h1 => ?_) (fun h1 => ?_)
  · repeat (first | refine go ?_ | (refine goX ?_; intro))
    exact EK_ret (ER_1 rfl rfl () (by rw [kindN, if_pos h1]) (Ent.sat Ent.last))
  repeat (first | refine go ?_ | (refine goX ?_; intro))
  refine EK_cond_dec rfl (fun h2 => ?_) (fun h2 => ?_)
  · repeat (first | refine go ?_ | (refine goX ?_; intro))
    exact EK_ret (ER_1 rfl rfl () (by rw [kindN, if_neg h1, if_pos h2]) (Ent.sat Ent.last))
  repeat (first | refine go ?_ | (refine goX ?_; intro))
  refine EK_cond_dec rfl (fun h3 => ?_) (fun h3 => ?_)
  · repeat (first | refine go ?_ | (refine goX ?_; intro))
    exact EK_ret (ER_1 rfl rfl () (by rw [kindN, if_neg h1, if_neg h2, if_pos h3]) (Ent.sat Ent.last))
  repeat (first | refine go ?_ | (refine goX ?_; intro))
  exact EK_ret (ER_1 rfl rfl () (by rw [kindN, if_neg h1, if_neg h2, if_neg h3]) (Ent.sat Ent.last))
theorem protocol_spec (p : Int) :
    Spec Tryd.prog 34 [.int .i64 p] W F (fun _ : Unit => .int .i64 (protoN p)) (fun _ => F) := by
  refine Spec.of Tryd.func34 rfl Tryd.ntmps34 rfl ?_
  repeat (first | refine go ?_ | (refine goX ?_; intro))
  refine EK_cond_dec rfl (fun h1 => ?_) (fun h1 => ?_)
  · repeat (first | refine go ?_ | (refine goX ?_; intro))
    exact EK_ret (ER_1 rfl rfl () (by rw [protoN, if_pos h1]) (Ent.sat Ent.last))
  repeat (first | refine go ?_ | (refine goX ?_; intro))
  refine EK_cond_dec rfl (fun h2 => ?_) (fun h2 => ?_)
  · repeat (first | refine go ?_ | (refine goX ?_; intro))
    exact EK_ret (ER_1 rfl rfl () (by rw [protoN, if_neg h1, if_pos h2]) (Ent.sat Ent.last))
  repeat (first | refine go ?_ | (refine goX ?_; intro))
  exact EK_ret (ER_1 rfl rfl () (by rw [protoN, if_neg h1, if_neg h2]) (Ent.sat Ent.last))
end Go.Proofs.YtafbipoagehdeaaDoor
