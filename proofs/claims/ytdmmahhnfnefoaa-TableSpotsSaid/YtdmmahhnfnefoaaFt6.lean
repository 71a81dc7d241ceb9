/-
  TableSpots: finds, and the law's walk.
-/
import Derived.Test.YtdmmahhnfnefoaaFt5
namespace Go.Proofs.Ytdmmahhnfnefoaa
open Go.RowKit
set_option maxRecDepth 10000
attribute [local irreducible] EK EX ER EN EL ES EG OpVal OpDoes OpSkip
variable {W : World} {F : SL} {X : Cx} {k : List KI} {σ : Env} {p pp g q : Option Addr} {ws cs pl : List Nat} {n np : Nat} {s : TStep}
def put1 : TStep := tbegin 1 17 167772161 1000 1 0 2
def find1 : TStep := tbegin 0 17 167772161 1000 (-1) 0 2
def find2 : TStep := tbegin 0 6 167772161 1007 (-1) 0 2
def cells0 : List Nat := List.replicate 3 0
def cells1 : List Nat := (runT places1 999 1 cells0 put1).1.1
theorem put_ok : okRun 2 3 places1 999 cells0 put1 = true := by decide +kernel
theorem find1_ok : okRun 2 3 places1 999 cells1 find1 = true := by decide +kernel
theorem find2_ok : okRun 2 3 places1 999 cells1 find2 = true := by decide +kernel
theorem put_is : 0 < (runT places1 999 1 cells0 put1).2 ∧ (runT places1 999 1 cells0 put1).1.2.end_ = 0 := by decide +kernel
theorem find1_is : 0 < (runT places1 999 1 cells1 find1).2 ∧ (runT places1 999 1 cells1 find1).1.2.end_ = 0 ∧ (runT places1 999 1 cells1 find1).1.2.found = 1 ∧ (runT places1 999 1 cells1 find1).1.2.foundAs.st = 1 ∧ (runT places1 999 1 cells1 find1).1.1 = cells1 := by decide +kernel
theorem find2_is : 0 < (runT places1 999 1 cells1 find2).2 ∧ (runT places1 999 1 cells1 find2).1.2.end_ = 7 := by decide +kernel
theorem finds11_spec : Spec Try.prog 23 [] W F (fun _ : Unit => .bool true) (fun _ => F) := by
  refine Spec.of Try.func23 rfl Try.ntmps23 rfl ?_
  repeat (first | refine go ?_ | (refine goX ?_; intro))
  refine EL_call rfl (PNew_spec (n := 3) (by decide) (by decide)) ?_
  intro p
  repeat (first | refine go ?_ | (refine goX ?_; intro))
  refine EL_call rfl (TNew_spec (n := 2) (m := 3) (by decide) rfl (by decide)) ?_
  intro t
  repeat (first | refine go ?_ | (refine goX ?_; intro))
  refine EL_call rfl Flow0_spec ?_
  intro _
  repeat (first | refine go ?_ | (refine goX ?_; intro))
  refine EL_call rfl (Spec.at1 p made_spec) ?_
  intro _
  repeat (first | refine go ?_ | (refine goX ?_; intro))
  refine EL_call rfl Flow0_spec ?_
  intro _
  repeat (first | refine go ?_ | (refine goX ?_; intro))
  refine EL_call rfl (Key_spec _ _ _) ?_
  intro _
  repeat (first | refine go ?_ | (refine goX ?_; intro))
  refine EL_call rfl (Spec.at1 t (TPut_spec (f1 := 17) (by decide) (by decide) (by decide) (by decide))) ?_
  intro s1
  repeat (first | refine go ?_ | (refine goX ?_; intro))
  obtain ⟨a1, a2⟩ := put_is
  obtain ⟨b1, b2, b3, b4, b5⟩ := find1_is
  obtain ⟨c1, c2⟩ := find2_is
  refine EL_call rfl (Spec.at3 s1 t p (TRun_spec (np := 3) put_ok)) ?_
  intro _
  rw [show (runT places1 999 1 cells0 put1).1.1 = cells1 from rfl]
  generalize runT places1 999 1 cells0 put1 = D1 at *
  repeat (first | refine go ?_ | (refine goX ?_; intro))
  refine EL_call rfl Flow0_spec ?_
  intro _
  repeat (first | refine go ?_ | (refine goX ?_; intro))
  refine EL_call rfl (Key_spec _ _ _) ?_
  intro _
  repeat (first | refine go ?_ | (refine goX ?_; intro))
  refine EL_call rfl (Spec.at1 t (TFind_spec (f1 := 17) (by decide) (by decide) (by decide) (by decide))) ?_
  intro s2
  repeat (first | refine go ?_ | (refine goX ?_; intro))
  refine EL_call rfl Flow1_spec ?_
  intro _
  repeat (first | refine go ?_ | (refine goX ?_; intro))
  refine EL_call rfl (Key_spec _ _ _) ?_
  intro _
  repeat (first | refine go ?_ | (refine goX ?_; intro))
  refine EL_call rfl (Spec.at1 t (TFind_spec (f1 := 6) (by decide) (by decide) (by decide) (by decide))) ?_
  intro s3
  repeat (first | refine go ?_ | (refine goX ?_; intro))
  refine EL_call rfl (Spec.at3 s2 t p (TRun_spec (np := 3) (cs := cells1) (s := find1) find1_ok)) ?_
  intro _
  rw [b5]
  generalize runT places1 999 1 cells1 find1 = D2 at *
  repeat (first | refine go ?_ | (refine goX ?_; intro))
  refine EL_call rfl (Spec.at3 s3 t p (TRun_spec (np := 3) (cs := cells1) (s := find2) find2_ok)) ?_
  intro _
  generalize runT places1 999 1 cells1 find2 = D3 at *
  repeat (first | refine go ?_ | (refine goX ?_; intro))
  refine EL_call rfl (Spec.at1 s2 Found_spec) ?_
  intro _
  repeat (first | refine go ?_ | (refine goX ?_; intro))
  refine EL_call rfl (Spec.at1 s1 End_spec) ?_
  intro _
  rw [a2]
  repeat (first | refine go ?_ | (refine goX ?_; intro))
  refine EL_call rfl (Spec.at1 s2 End_spec) ?_
  intro _
  rw [b2]
  repeat (first | refine go ?_ | (refine goX ?_; intro))
  rw [b3, b4]
  repeat (first | refine go ?_ | (refine goX ?_; intro))
  refine EL_call rfl (Spec.at1 s3 End_spec) ?_
  intro _
  rw [c2]
  repeat (first | refine go ?_ | (refine goX ?_; intro))
  exact EK_ret (ER_1 rfl rfl () rfl (Ent.sat Ent.last))
theorem none11_spec : Spec Try.prog 35 [] W F (fun _ : Unit => .tuple #[.pointer none, .pointer none]) (fun _ => F) := by
  refine Spec.of Try.func35 rfl Try.ntmps35 rfl ?_
  repeat (first | refine go ?_ | (refine goX ?_; intro))
  exact EK_ret (ER_2 rfl rfl rfl () rfl (Ent.sat (Ent.refl _)))
theorem Spots_walk (a : Int) {b c : Nat} (k : Int) (hb : b < 4294967296) (hc : c < 65536) : Spec Try.prog 8 [flowV a b c, .int .i64 k] W F (fun _ : Unit => .bool true) (fun _ => F) := by
  refine Spec.of Try.func8 rfl Try.ntmps8 rfl ?_
  repeat (first | refine go ?_ | (refine goX ?_; intro))
  refine EL_call rfl (Key_spec _ _ _) ?_
  intro _
  repeat (first | refine go ?_ | (refine goX ?_; intro))
  refine EL_call rfl (Spots_spec a k hb hc) ?_
  intro _
  repeat (first | refine go ?_ | (refine goX ?_; intro))
  refine EL_call rfl (RSpots_spec a k hb hc) ?_
  intro _
  repeat (first | refine go ?_ | (refine goX ?_; intro))
  refine EL_call rfl none11_spec ?_
  intro _
  repeat (first | refine go ?_ | (refine goX ?_; intro))
  refine EL_call rfl Found_nil ?_
  intro _
  repeat (first | refine go ?_ | (refine goX ?_; intro))
  refine EL_call rfl TNew_nil ?_
  intro _
  repeat (first | refine go ?_ | (refine goX ?_; intro))
  refine EL_call rfl finds11_spec ?_
  intro _
  repeat (first | refine go ?_ | (refine goX ?_; intro))
  refine EL_call rfl (Key_spec _ _ _) ?_
  intro _
  repeat (first | refine go ?_ | (refine goX ?_; intro))
  refine EL_call rfl TFind_nil ?_
  intro _
  repeat (first | refine go ?_ | (refine goX ?_; intro))
  refine EL_call rfl (Key_spec _ _ _) ?_
  intro _
  repeat (first | refine go ?_ | (refine goX ?_; intro))
  refine EL_call rfl TPut_nil ?_
  intro _
  repeat (first | refine go ?_ | (refine goX ?_; intro))
  refine EL_call rfl (Key_spec _ _ _) ?_
  intro _
  repeat (first | refine go ?_ | (refine goX ?_; intro))
  refine EL_call rfl TDrop_nil ?_
  intro _
  repeat (first | refine go ?_ | (refine goX ?_; intro))
  refine EL_call rfl TDo_nil ?_
  intro _
  repeat (first | refine go ?_ | (refine goX ?_; intro))
  refine EL_call rfl TAll_nil ?_
  intro _
  repeat (first | refine go ?_ | (refine goX ?_; intro))
  refine EL_call rfl TCopy_nil ?_
  intro _
  repeat (first | refine go ?_ | (refine goX ?_; intro))
  refine EL_call rfl End_nil ?_
  intro _
  repeat (first | refine go ?_ | (refine goX ?_; intro))
  refine EK_cond_not rfl (fun e => absurd rfl (@of_decide_eq_false _ (Classical.propDecidable _) e)) (fun _ => ?_)
  repeat (first | refine go ?_ | (refine goX ?_; intro))
  refine EL_call rfl (PNew_spec (n := 1) (by decide) (by decide)) ?_
  intro p
  repeat (first | refine go ?_ | (refine goX ?_; intro))
  cases hf : fineN k with
  | false =>
    refine EL_call rfl (Spec.at1 p (TNew_bad hf)) ?_
    intro _
    rw [show spotsI a b c k = (0, 0) by unfold spotsI; rw [hf]; rfl]
    repeat (first | refine go ?_ | (refine goX ?_; intro))
    exact EK_ret (ER_1 rfl rfl () rfl (Ent.sat Ent.last))
  | true =>
    have hk : 2 ≤ k ∧ k ≤ 1024 := by unfold fineN at hf; have := of_decide_eq_true hf; omega
    obtain ⟨n, rfl⟩ : ∃ n : Nat, k = (n : Int) := ⟨k.toNat, by omega⟩
    obtain ⟨_, _, h3⟩ := spots_lt (n := keyI a b c) (b := n) (by omega)
    refine EL_call rfl (Spec.at1 p (TNew_spec (m := 1) hf rfl (by decide))) ?_
    intro t
    rw [show spotsI a b c (n : Int) = (((spotsN (keyI a b c) n).1 : Int), ((spotsN (keyI a b c) n).2 : Int)) by unfold spotsI; rw [if_pos hf]; rfl]
    generalize spotsN (keyI a b c) n = sp at *
    repeat (first | refine go ?_ | (refine goX ?_; intro))
    exact EK_ret (ER_1 rfl rfl () rfl (Ent.sat Ent.last))
end Go.Proofs.Ytdmmahhnfnefoaa
