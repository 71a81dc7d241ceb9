/-
  Package table: search, Do, End, Found; of none.
-/
import Derived.Test.YtdmmahhnfnefoaaFt3
import Derived.Test.YtdmmahhnfnefoaaSc
namespace Go.Proofs.Ytdmmahhnfnefoaa
open Go.RowKit
set_option maxRecDepth 10000
attribute [local irreducible] EK EX ER EN EL ES EG OpVal OpDoes OpSkip
variable {W : World} {F : SL} {X : Cx} {k : List KI} {σ : Env} {p pp g q : Option Addr} {ws cs pl : List Nat} {n np : Nat} {s : TStep}
set_option maxHeartbeats 2000000 in
theorem search_spec (h : OkT n np cs pl s) : Spec Try.prog 59 [.pointer p, .pointer q] W (TStepC q s * (TableC p pp n cs * (PlaceC pp pl * F))) (fun _ : Unit => .tuple #[])
    (fun _ => TStepC q (searchS cs pl s).2 * (TableC p pp n (searchS cs pl s).1 * (PlaceC pp pl * F))) := by
  refine Spec.of Try.func59 rfl Try.ntmps59 rfl ?_
  have ha := h.a
  have hb := h.b
  have hcl := h.clen
  have hn2 := h.n2
  have hnx := h.next
  refine EK_at p (TableC.open fun g => ?_)
  simp only [TableO]
  refine EK_at q (TStepC.open ?_)
  have hcase : s.next = 0 ∨ s.next = 1 ∨ s.next = 2 ∨ s.next = 3 ∨ s.next = 4 ∨ s.next = 5 := by omega
  rcases hcase with e | e | e | e | e | e
  · have es : searchS cs pl s = (cs, throughS { s with first := cs.getD s.a 0 } (cs.getD s.a 0) 1) := by unfold searchS; rw [if_pos e]
    rw [es]
    repeat (first | refine go ?_ | (refine goX ?_; intro))
    refine EK_sink 12 (Obj p 110 [.pointer pp, .pointer g, .int .i64 (n : Int)] * (Obj q 123 (tsL s) * 1)) rfl rfl rfl ?_
    repeat (first | refine goQ ?_ | refine EG_done (by decide +kernel) ?_)
    refine EG_callQ rfl rfl rfl rfl rfl (Spec.at1 g (Load_spec g cs s.a (by omega) (by omega))) (fun _ => by first | exact Ent.refl _ | exact Ent.last | (repeat (first | refine Ent.cons ?_ | exact Ent.any | exact Ent.last))) ?_
    intro _
    repeat (first | refine goQ ?_ | refine EG_done (by decide +kernel) ?_)
    repeat (first | refine goG ?_ | (refine goGX ?_; intro) | refine goGL ?_ | refine goGS ?_ | refine goGV ?_ | refine EG_done (by decide +kernel) ?_)
    repeat (first | refine go ?_ | (refine goX ?_; intro))
    refine EL_call rfl (Spec.pre (through_spec (p := q) (s := { s with first := cs.getD s.a 0 }) (u := cs.getD s.a 0) (nx := 1)) (TStepC.ent (by rfl) (Ent.refl _))) ?_
    intro _
    repeat (first | refine go ?_ | (refine goX ?_; intro))
    exact EK_end (EN_0 rfl () rfl (Ent.sat (Ent.cons (Ent.trans (by first | exact Ent.refl _ | exact Ent.last | (repeat (first | refine Ent.cons ?_ | exact Ent.any | exact Ent.last))) (TableC.shut (g := g))))))
  · repeat (first | refine go ?_ | (refine goX ?_; intro))
    refine EL_call rfl (Spec.pre (look_spec h (p := p) (q := q) (g := g) (pp := pp) (F := CellsSL g cs * F)) (TStepC.ent (by rfl) (by first | exact Ent.refl _ | exact Ent.last | (repeat (first | refine Ent.cons ?_ | exact Ent.any | exact Ent.last))))) ?_
    intro _
    have es : searchS cs pl s = (cs, if (lookS pl s).2 = true then { (lookS pl s).1 with next := 2 } else (lookS pl s).1) := by unfold searchS; simp only [e]; rfl
    rw [es]
    have hlf : (lookS pl s).1.first = s.first ∧ (lookS pl s).1.kind = s.kind := by
      unfold lookS lookR
      split
      · exact ⟨rfl, rfl⟩
      · dsimp only
        split
        · split <;> exact ⟨rfl, rfl⟩
        · split <;> exact ⟨rfl, rfl⟩
    generalize lookS pl s = L at *
    cases hL : L.2 with
    | true =>
      refine TStepC.openL ?_
      repeat (first | refine go ?_ | (refine goX ?_; intro))
      rw [if_pos rfl]
      exact EK_end (EN_0 rfl () rfl (Ent.sat (TStepC.ent (by rfl) (Ent.trans (by first | exact Ent.refl _ | exact Ent.last | (repeat (first | refine Ent.cons ?_ | exact Ent.any | exact Ent.last))) (TableC.shut (g := g))))))
    | false =>
      repeat (first | refine go ?_ | (refine goX ?_; intro))
      rw [if_neg (by decide)]
      exact EK_end (EN_0 rfl () rfl (Ent.sat (Ent.cons (Ent.trans (by first | exact Ent.refl _ | exact Ent.last | (repeat (first | refine Ent.cons ?_ | exact Ent.any | exact Ent.last))) (TableC.shut (g := g))))))
  · have es : searchS cs pl s = (cs, throughS s (cs.getD s.b 0) 3) := by unfold searchS; simp only [e]; rfl
    rw [es]
    repeat (first | refine go ?_ | (refine goX ?_; intro))
    refine EK_sink 10 (Obj p 110 [.pointer pp, .pointer g, .int .i64 (n : Int)] * (Obj q 123 (tsL s) * 1)) rfl rfl rfl ?_
    repeat (first | refine goQ ?_ | refine EG_done (by decide +kernel) ?_)
    refine EG_callQ rfl rfl rfl rfl rfl (Spec.at1 g (Load_spec g cs s.b (by omega) (by omega))) (fun _ => by first | exact Ent.refl _ | exact Ent.last | (repeat (first | refine Ent.cons ?_ | exact Ent.any | exact Ent.last))) ?_
    intro _
    repeat (first | refine goQ ?_ | refine EG_done (by decide +kernel) ?_)
    refine EG_callL rfl rfl rfl rfl (Spec.at1 q (Spec.pre (through_spec (p := q) (s := s) (u := cs.getD s.b 0) (nx := 3)) (TStepC.ent (by rfl) (Ent.refl _)))) ?_
    intro _
    repeat (first | refine goQ ?_ | refine EG_done (by decide +kernel) ?_)
    repeat (first | refine go ?_ | (refine goX ?_; intro))
    exact EK_end (EN_0 rfl () rfl (Ent.sat (Ent.cons (Ent.trans (by first | exact Ent.refl _ | exact Ent.last | (repeat (first | refine Ent.cons ?_ | exact Ent.any | exact Ent.last))) (TableC.shut (g := g))))))
  · repeat (first | refine go ?_ | (refine goX ?_; intro))
    refine EL_call rfl (Spec.pre (look_spec h (p := p) (q := q) (g := g) (pp := pp) (F := CellsSL g cs * F)) (TStepC.ent (by rfl) (by first | exact Ent.refl _ | exact Ent.last | (repeat (first | refine Ent.cons ?_ | exact Ent.any | exact Ent.last))))) ?_
    intro _
    have es : searchS cs pl s = (cs, if (lookS pl s).2 = true then { (lookS pl s).1 with next := behindS (lookS pl s).1 } else (lookS pl s).1) := by unfold searchS; simp only [e]; rfl
    rw [es]
    have hlf : (lookS pl s).1.first = s.first ∧ (lookS pl s).1.kind = s.kind := by
      unfold lookS lookR
      split
      · exact ⟨rfl, rfl⟩
      · dsimp only
        split
        · split <;> exact ⟨rfl, rfl⟩
        · split <;> exact ⟨rfl, rfl⟩
    generalize lookS pl s = L at *
    cases hL : L.2 with
    | true =>
      repeat (first | refine go ?_ | (refine goX ?_; intro))
      refine EL_call rfl (behind_spec (by rw [hlf.2]; exact h.kind) (by rw [hlf.1]; exact h.first)) ?_
      intro _
      refine TStepC.openL ?_
      repeat (first | refine go ?_ | (refine goX ?_; intro))
      rw [if_pos rfl]
      exact EK_end (EN_0 rfl () rfl (Ent.sat (TStepC.ent (by rfl) (Ent.trans (by first | exact Ent.refl _ | exact Ent.last | (repeat (first | refine Ent.cons ?_ | exact Ent.any | exact Ent.last))) (TableC.shut (g := g))))))
    | false =>
      repeat (first | refine go ?_ | (refine goX ?_; intro))
      rw [if_neg (by decide)]
      exact EK_end (EN_0 rfl () rfl (Ent.sat (Ent.cons (Ent.trans (by first | exact Ent.refl _ | exact Ent.last | (repeat (first | refine Ent.cons ?_ | exact Ent.any | exact Ent.last))) (TableC.shut (g := g))))))
  · have es : searchS cs pl s = (cs, if cs.getD s.a 0 = s.first then finishS s 7 else throughS { s with first := cs.getD s.a 0 } (cs.getD s.a 0) 1) := by unfold searchS; simp only [e]; rfl
    rw [es]
    repeat (first | refine go ?_ | (refine goX ?_; intro))
    refine EK_drawnT 8 rfl (by kernel_rfl) rfl rfl ?_
    repeat (refine goS ?_)
    refine EL_call rfl (Spec.at1 g (Load_spec g cs s.a (by omega) (by omega))) ?_
    intro _
    by_cases hu : cs.getD s.a 0 = s.first
    · rw [if_pos hu]
      repeat (first | refine go ?_ | (refine goX ?_; intro))
      refine EL_call rfl (Spec.at1 q (Spec.pre (finish_spec (p := q) (e := 7) (s := s)) (TStepC.ent (by rfl) (Ent.refl _)))) ?_
      intro _
      repeat (first | refine go ?_ | (refine goX ?_; intro))
      exact EK_ret (ER_0 rfl () rfl (Ent.sat (Ent.cons (Ent.trans (by first | exact Ent.refl _ | exact Ent.last | (repeat (first | refine Ent.cons ?_ | exact Ent.any | exact Ent.last))) (TableC.shut (g := g))))))
    · rw [if_neg hu]
      repeat (first | refine go ?_ | (refine goX ?_; intro))
      refine EL_call rfl (Spec.pre (through_spec (p := q) (s := { s with first := cs.getD s.a 0 }) (u := cs.getD s.a 0) (nx := 1)) (TStepC.ent (by rfl) (Ent.refl _))) ?_
      intro _
      repeat (first | refine go ?_ | (refine goX ?_; intro))
      exact EK_end (EN_0 rfl () rfl (Ent.sat (Ent.cons (Ent.trans (by first | exact Ent.refl _ | exact Ent.last | (repeat (first | refine Ent.cons ?_ | exact Ent.any | exact Ent.last))) (TableC.shut (g := g))))))
  · have es : searchS cs pl s = if cs.getD s.a 0 = s.first then (cs.set s.a (withN s.first s.id), finishS { s with next := 0 } 0) else (cs, { s with next := 0 }) := by unfold searchS; simp only [e]; rfl
    rw [es]
    repeat (first | refine go ?_ | (refine goX ?_; intro))
    refine EK_sink 99 (Obj p 110 [.pointer pp, .pointer g, .int .i64 (n : Int)] * (Obj q 123 (tsL { s with next := 0 }) * 1)) rfl rfl rfl ?_
    repeat (first | refine goQ ?_ | refine EG_done (by decide +kernel) ?_)
    refine EG_callQ rfl rfl rfl rfl rfl (with_spec (id := s.id) h.first (h.link e).1 (by have := h.id2; have := h.np2; omega) (h.link e).2) (fun _ => by first | exact Ent.refl _ | exact Ent.last | (repeat (first | refine Ent.cons ?_ | exact Ent.any | exact Ent.last))) ?_
    intro _
    repeat (first | refine goQ ?_ | refine EG_done (by decide +kernel) ?_)
    refine EG_callQ rfl rfl rfl rfl rfl (Spec.at1 g (Cas_spec g cs s.a s.first (withN s.first s.id) (by omega) (by omega))) (fun _ => by first | exact Ent.refl _ | exact Ent.last | (repeat (first | refine Ent.cons ?_ | exact Ent.any | exact Ent.last))) ?_
    intro _
    repeat (first | refine goQ ?_ | refine EG_done (by decide +kernel) ?_)
    by_cases hu : cs.getD s.a 0 = s.first
    · rw [if_pos hu, if_pos hu, decide_eq_true hu]
      repeat (first | refine go ?_ | (refine goX ?_; intro))
      refine EL_call rfl (Spec.at1 q (Spec.pre (finish_spec (p := q) (e := 0) (s := { s with next := 0 })) (TStepC.ent (by rfl) (Ent.refl _)))) ?_
      intro _
      repeat (first | refine go ?_ | (refine goX ?_; intro))
      exact EK_end (EN_0 rfl () rfl (Ent.sat (Ent.cons (Ent.trans (by first | exact Ent.refl _ | exact Ent.last | (repeat (first | refine Ent.cons ?_ | exact Ent.any | exact Ent.last))) (TableC.shut (g := g))))))
    · rw [if_neg hu, if_neg hu, decide_eq_false hu]
      repeat (first | refine go ?_ | (refine goX ?_; intro))
      refine EK_end (EN_0 rfl () rfl (Ent.sat ?_))
      have hq : ∀ A B C : SL, A * (B * C) = B * (A * C) := fun A B C => by ac_rfl
      rw [hq]
      exact TStepC.ent (by rfl) (Ent.trans (by first | exact Ent.refl _ | exact Ent.last | (repeat (first | refine Ent.cons ?_ | exact Ent.any | exact Ent.last))) (TableC.shut (g := g)))
theorem TDo_spec (h : OkT n np cs pl s) : Spec Try.prog 31 [.pointer p, .pointer q] W (TStepC q s * (TableC p pp n cs * (PlaceC pp pl * F))) (fun _ : Unit => .bool (searchS cs pl s).2.done)
    (fun _ => TStepC q (searchS cs pl s).2 * (TableC p pp n (searchS cs pl s).1 * (PlaceC pp pl * F))) := by
  refine Spec.of Try.func31 rfl Try.ntmps31 rfl ?_
  have hnx := h.next
  have hdn := h.done
  refine EK_at q (TStepC.open ?_)
  repeat (first | refine go ?_ | (refine goX ?_; intro))
  rw [hdn]
  repeat (first | refine go ?_ | (refine goX ?_; intro))
  refine EL_call rfl (Spec.pre (search_spec h (p := p) (q := q) (pp := pp) (F := F)) (TStepC.ent (by unfold tsV; rw [hdn]) (Ent.refl _))) ?_
  intro _
  generalize searchS cs pl s = D at *
  refine TStepC.openL ?_
  repeat (first | refine go ?_ | (refine goX ?_; intro))
  exact EK_ret (ER_1 rfl rfl () rfl (Ent.sat (TStepC.ent (by rfl) (Ent.refl _))))
theorem End_spec : Spec Try.prog 38 [.pointer q] W (TStepC q s * F) (fun _ : Unit => .int .i64 (s.end_ : Int)) (fun _ => TStepC q s * F) := by
  refine Spec.of Try.func38 rfl Try.ntmps38 rfl ?_
  refine TStepC.open ?_
  repeat (first | refine go ?_ | (refine goX ?_; intro))
  exact EK_ret (ER_1 rfl rfl () rfl (Ent.sat (TStepC.ent (by rfl) (Ent.refl _))))
theorem Found_spec : Spec Try.prog 36 [.pointer q] W (TStepC q s * F) (fun _ : Unit => .tuple #[.int .i64 s.found, wordV s.foundAs]) (fun _ => TStepC q s * F) := by
  refine Spec.of Try.func36 rfl Try.ntmps36 rfl ?_
  refine TStepC.open ?_
  repeat (first | refine go ?_ | (refine goX ?_; intro))
  refine EK_sink 9 (Obj q 123 (tsL s) * 1) rfl rfl rfl ?_
  repeat (first | refine goQ ?_ | refine EG_done (by decide +kernel) ?_)
  repeat (first | refine goG ?_ | (refine goGX ?_; intro) | refine goGL ?_ | refine goGS ?_ | refine goGV ?_ | refine EG_done (by decide +kernel) ?_)
  repeat (first | refine go ?_ | (refine goX ?_; intro))
  refine EK_ret (ER_cn (rs := [.tmp 2, .cell 3 83]) (v := .int .i64 s.found) (u := wordV s.foundAs) (vs := []) rfl ⟨rfl, ⟨_, rfl, LoadsV.agg rfl⟩, trivial⟩ () rfl (Ent.sat ?_))
  exact Ent.trans Ent.drop (TStepC.ent (by rfl) (Ent.refl _))
theorem End_nil : Spec Try.prog 38 [.pointer none] W F (fun _ : Unit => .int .i64 11) (fun _ => F) := by
  refine Spec.of Try.func38 rfl Try.ntmps38 rfl ?_
  repeat (first | refine go ?_ | (refine goX ?_; intro))
  exact EK_ret (ER_1 rfl rfl () rfl (Ent.sat (Ent.refl _)))
theorem Found_nil : Spec Try.prog 36 [.pointer none] W F (fun _ : Unit => .tuple #[.int .i64 (-1), wordV w0]) (fun _ => F) := by
  refine Spec.of Try.func36 rfl Try.ntmps36 rfl ?_
  repeat (first | refine go ?_ | (refine goX ?_; intro))
  exact EK_ret (ER_cn (rs := [.tmp 2, .cell 3 83]) (v := .int .i64 (-1)) (u := wordV w0) (vs := []) rfl ⟨rfl, ⟨_, rfl, LoadsV.agg rfl⟩, trivial⟩ () rfl (Ent.sat Ent.last))
theorem TDo_nil : Spec Try.prog 31 [.pointer none, .pointer none] W F (fun _ : Unit => .bool true) (fun _ => F) := by
  refine Spec.of Try.func31 rfl Try.ntmps31 rfl ?_
  repeat (first | refine go ?_ | (refine goX ?_; intro))
  exact EK_ret (ER_1 rfl rfl () rfl (Ent.sat (Ent.refl _)))
theorem tbegin_nil {v1 v4 v5 : Value} {a : Int} {b c : Nat} : Spec Try.prog 50 [.pointer none, v1, flowV a b c, v4, v5] W F (fun _ : Unit => .pointer none) (fun _ => F) := by
  refine Spec.of Try.func50 rfl Try.ntmps50 rfl ?_
  repeat (first | refine go ?_ | (refine goX ?_; intro))
  exact EK_ret (ER_1 rfl rfl () rfl (Ent.sat Ent.last))
theorem TFind_nil {a : Int} {b c : Nat} : Spec Try.prog 26 [.pointer none, flowV a b c] W F (fun _ : Unit => .pointer none) (fun _ => F) := by
  refine Spec.of Try.func26 rfl Try.ntmps26 rfl ?_
  repeat (first | refine go ?_ | (refine goX ?_; intro))
  refine EL_call rfl tbegin_nil ?_
  intro _
  repeat (first | refine go ?_ | (refine goX ?_; intro))
  exact EK_ret (ER_1 rfl rfl () rfl (Ent.sat Ent.last))
theorem TPut_nil {a i : Int} {b c : Nat} : Spec Try.prog 27 [.pointer none, flowV a b c, .int .i64 i] W F (fun _ : Unit => .pointer none) (fun _ => F) := by
  refine Spec.of Try.func27 rfl Try.ntmps27 rfl ?_
  repeat (first | refine go ?_ | (refine goX ?_; intro))
  refine EL_call rfl tbegin_nil ?_
  intro _
  repeat (first | refine go ?_ | (refine goX ?_; intro))
  exact EK_ret (ER_1 rfl rfl () rfl (Ent.sat Ent.last))
theorem TDrop_nil {a i : Int} {b c : Nat} : Spec Try.prog 28 [.pointer none, flowV a b c, .int .i64 i] W F (fun _ : Unit => .pointer none) (fun _ => F) := by
  refine Spec.of Try.func28 rfl Try.ntmps28 rfl ?_
  repeat (first | refine go ?_ | (refine goX ?_; intro))
  refine EL_call rfl tbegin_nil ?_
  intro _
  repeat (first | refine go ?_ | (refine goX ?_; intro))
  exact EK_ret (ER_1 rfl rfl () rfl (Ent.sat Ent.last))
theorem TAll_nil : Spec Try.prog 32 [.pointer none] W F (fun _ : Unit => .slice none 0 0) (fun _ => F) := by
  refine Spec.of Try.func32 rfl Try.ntmps32 rfl ?_
  repeat (first | refine go ?_ | (refine goX ?_; intro))
  exact EK_ret (ER_1 rfl rfl () rfl (Ent.sat (Ent.refl _)))
theorem TCopy_nil : Spec Try.prog 37 [.pointer none] W F (fun _ : Unit => .slice none 0 0) (fun _ => F) := by
  refine Spec.of Try.func37 rfl Try.ntmps37 rfl ?_
  repeat (first | refine go ?_ | (refine goX ?_; intro))
  exact EK_ret (ER_1 rfl rfl () rfl (Ent.sat (Ent.refl _)))
end Go.Proofs.Ytdmmahhnfnefoaa
