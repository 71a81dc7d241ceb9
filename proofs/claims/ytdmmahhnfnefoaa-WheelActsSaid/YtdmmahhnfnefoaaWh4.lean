/-
  Package wheel: New, Add, passed, Now, Len.
-/
import Derived.Test.YtdmmahhnfnefoaaWh3
namespace Go.Proofs.Ytdmmahhnfnefoaa
open Go.RowKit
set_option maxRecDepth 10000
attribute [local irreducible] EK EX ER EN EL ES EG OpVal OpDoes OpSkip
variable {W : World} {F : SL} {X : Cx} {k : List KI} {σ : Env}

def whZ : List Value := .int .i64 0 :: .int .i64 0 :: .int .i64 0 :: .slice none 0 0 :: List.replicate 384 (.slice none 0 0)
theorem slV_zero : slV (fun _ => (none, 0)) (fun _ => []) = List.replicate 384 (.slice none 0 0) := by
  unfold slV
  rw [List.map_const']
  simp
theorem rowsS_zero : ∀ n, SL.big ((List.range n).map (rowW (fun _ => (none, 0)) (fun _ => []))) = SL.big (List.replicate n (RowC 97 3 none 0 0 [])) := by
  intro n
  rw [show (List.range n).map (rowW (fun _ => (none, 0)) (fun _ => [])) = List.replicate n (RowC 97 3 none 0 0 []) from by
    have : rowW (fun _ => (none, 0)) (fun _ => []) = fun _ => RowC 97 3 none 0 0 [] := by
      funext i; rfl
    rw [this, List.map_const']; simp]
theorem ent_big {H G : SL} {e sz : Nat} (k : Ent H G) : ∀ n, Ent H (SL.big (List.replicate n (RowC e sz none 0 0 [])) * G)
  | 0 => by rw [List.replicate_zero, SL.big_nil, SL.emp_sep]; exact k
  | n + 1 => by
    rw [List.replicate_succ, SL.big_cons, SL.sep_assoc]
    exact Ent.none (ent_big k n)
instance (priority := 3000) TZero.wh : TZero Try.prog 94 whZ := ⟨⟨.agg whZ.toArray, by kernel_rfl, rfl⟩⟩
theorem WNew_spec : Spec Try.prog 9 [] W F (fun p : Option Addr => .pointer p) (fun p => WheelC p newS * F) := by
  refine Spec.of Try.func9 rfl Try.ntmps9 rfl ?_
  repeat (first | refine go ?_ | (refine goX ?_; intro))
  rename_i p
  refine EK_ret (ER_1 rfl rfl p rfl (Ent.sat (Ent.trans ?_ (WheelC.shut (r := (none, 0)) (q := fun _ => (none, 0)) (by rw [new_all])))))
  refine Ent.obj p (by rw [newS, whV, slV_zero]; rfl) (Ent.none ?_)
  unfold rowsS
  rw [show newS.sl = fun _ => [] from rfl, rowsS_zero]
  exact ent_big (Ent.refl _) 384
theorem sl_len {s : WSt} {k : Nat} (hk : k < 384) : (s.sl k).length ≤ s.all.length := by
  have h : ∀ n, k < n → (s.sl k).length ≤ ((List.range n).flatMap s.sl).length := by
    intro n
    induction n with
    | zero => intro h; omega
    | succ n ih =>
      intro h
      rw [List.range_succ, List.flatMap_append, List.length_append]
      rcases Nat.lt_or_ge k n with g | g
      · have := ih g; omega
      · obtain rfl : k = n := by omega
        simp
  have := h 384 hk
  unfold WSt.all flatS
  rw [List.length_append]; omega
theorem ready_len (s : WSt) : s.ready.length ≤ s.all.length := by unfold WSt.all; rw [List.length_append]; omega
theorem Add_spec (p : Option Addr) (s : WSt) (id : Int) (a : Nat) (hg : WGood s) (ha : a < 4294967296) (hn : s.all.length ≤ 1000) (ht : s.turn ≤ 1000000) :
    Spec Try.prog 11 [.pointer p, .int .i64 id, .int .i64 (a : Int)] W (WheelC p s * F) (fun _ : Unit => .int .i64 0) (fun _ => WheelC p (addS s id a) * F) := by
  have hperm := (add_good (id := id) hg ha).2.2.2.length_eq
  refine Spec.of Try.func11 rfl Try.ntmps11 rfl ?_
  refine WheelC.open fun r q => ?_
  simp only [WheelO, whV]
  repeat (first | refine go ?_ | (refine goX ?_; intro))
  refine EL_call (vs := [.pointer p, wenV ⟨id, a, s.turn + 1⟩]) rfl (Spec.pre (put_spec p { s with turn := s.turn + 1 } ⟨id, a, s.turn + 1⟩ ((s.all.length : Int) + 1) r q hg.pos.now ha (fun k hk => by have := sl_len (s := s) hk; dsimp only; omega) (by have := ready_len s; dsimp only; omega)) (Ent.obj p rfl (Ent.refl _))) ?_
  intro g
  repeat (first | refine go ?_ | (refine goX ?_; intro))
  refine EK_ret (ER_1 rfl rfl () rfl (Ent.sat (WheelC.shut (s := addS s id a) (r := g.1) (q := g.2) ?_)))
  rw [hperm]; simp
theorem Add_bad (p : Option Addr) (s : WSt) (id a : Int) (ha : a < 0 ∨ 4294967295 < a) :
    Spec Try.prog 11 [.pointer p, .int .i64 id, .int .i64 a] W (WheelC p s * F) (fun _ : Unit => .int .i64 1) (fun _ => WheelC p s * F) := by
  refine Spec.of Try.func11 rfl Try.ntmps11 rfl ?_
  repeat (first | refine go ?_ | (refine goX ?_; intro))
  refine EL_guard_dec rfl rfl (fun h1 => ?_) (fun h1 => ?_)
  · repeat (first | refine go ?_ | (refine goX ?_; intro))
    exact EK_ret (ER_1 rfl rfl () rfl (Ent.sat Ent.last))
  · repeat (first | refine go ?_ | (refine goX ?_; intro))
    exact EK_ret (ER_1 rfl rfl () rfl (Ent.sat Ent.last))
theorem Add_nil (id a : Int) : Spec Try.prog 11 [.pointer none, .int .i64 id, .int .i64 a] W F (fun _ : Unit => .int .i64 1) (fun _ => F) := by
  refine Spec.of Try.func11 rfl Try.ntmps11 rfl ?_
  repeat (first | refine go ?_ | (refine goX ?_; intro))
  exact EK_ret (ER_1 rfl rfl () rfl (Ent.sat Ent.last))
theorem Now_spec (p : Option Addr) (s : WSt) : Spec Try.prog 14 [.pointer p] W (WheelC p s * F) (fun _ : Unit => .int .i64 (s.now : Int)) (fun _ => WheelC p s * F) := by
  refine Spec.of Try.func14 rfl Try.ntmps14 rfl ?_
  refine WheelC.open fun r q => ?_
  simp only [WheelO, whV]
  repeat (first | refine go ?_ | (refine goX ?_; intro))
  exact EK_ret (ER_1 rfl rfl () rfl (Ent.sat (WheelC.shut rfl)))
theorem Now_nil : Spec Try.prog 14 [.pointer none] W F (fun _ : Unit => .int .i64 0) (fun _ => F) := by
  refine Spec.of Try.func14 rfl Try.ntmps14 rfl ?_
  repeat (first | refine go ?_ | (refine goX ?_; intro))
  exact EK_ret (ER_1 rfl rfl () rfl (Ent.sat Ent.last))
theorem Len_w (p : Option Addr) (s : WSt) : Spec Try.prog 13 [.pointer p] W (WheelC p s * F) (fun _ : Unit => .int .i64 (s.all.length : Int)) (fun _ => WheelC p s * F) := by
  refine Spec.of Try.func13 rfl Try.ntmps13 rfl ?_
  refine WheelC.open fun r q => ?_
  simp only [WheelO, whV]
  repeat (first | refine go ?_ | (refine goX ?_; intro))
  exact EK_ret (ER_1 rfl rfl () rfl (Ent.sat (WheelC.shut rfl)))
theorem Len_nil : Spec Try.prog 13 [.pointer none] W F (fun _ : Unit => .int .i64 0) (fun _ => F) := by
  refine Spec.of Try.func13 rfl Try.ntmps13 rfl ?_
  repeat (first | refine go ?_ | (refine goX ?_; intro))
  exact EK_ret (ER_1 rfl rfl () rfl (Ent.sat Ent.last))
end Go.Proofs.Ytdmmahhnfnefoaa
