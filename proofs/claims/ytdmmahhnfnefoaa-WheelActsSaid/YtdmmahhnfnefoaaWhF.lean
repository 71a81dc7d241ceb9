/-
  WheelLong: the plain law, the walk.
-/
import Derived.Test.YtdmmahhnfnefoaaWhE
import Derived.Test.YtdmmahhnfnefoaaWh9
namespace Go.Proofs.Ytdmmahhnfnefoaa
open Go.RowKit
set_option maxRecDepth 10000
attribute [local irreducible] EK EX ER EN EL ES EG OpVal OpDoes OpSkip
variable {W : World} {F : SL} {X : Cx} {k : List KI} {σ : Env}

structure LongI (s : WSt) (a i : Nat) : Prop where
  good : WGood s
  one : sI s = [(5, (a : Int))]
  now : s.now < a ∨ s.now = 0
  turn : s.turn = i + 1
theorem LongI.len {s : WSt} {a i : Nat} (h : LongI s a i) : s.all.length = 1 := by rw [← sI_len, h.one]; rfl
theorem LongI.zero (a : Nat) (ha : a < 4294967296) : LongI (addS newS 5 a) a 0 := by
  obtain ⟨g1, g2, g3, g4⟩ := add_good (id := 5) new_good ha
  refine ⟨g1, ?_, ?_, g3⟩
  · rw [sI, add_items new_good ha, new_all, srt_nil]; rfl
  · rw [g2]; exact .inr rfl
theorem told_none (t a : Int) (h : t < a) : toldI t [(5, a)] = [] ∧ leftI t [(5, a)] = [(5, a)] := by
  have : ¬ a ≤ t := by omega
  simp [toldI, leftI, cntI, this]
theorem told_one (t a : Int) (h : a ≤ t) : toldI t [(5, a)] = [(5, a)] ∧ leftI t [(5, a)] = [] := by
  simp [toldI, leftI, cntI, h]
theorem LongI.early {s : WSt} {a i : Nat} (h : LongI s a i) (ha : 0 < a) (hb : a < 4294967296) : LongI (dueS s ((a : Int) - 1)).2 a i ∧ (dueS s ((a : Int) - 1)).1.length = 0 := by
  obtain ⟨d1, d2, d3, d4, d5, d6⟩ := due_told (n := (a : Int) - 1) h.good
  have hn : dueN s ((a : Int) - 1) < a := by
    unfold dueN
    have := h.now
    omega
  obtain ⟨t1, t2⟩ := told_none (dueN s ((a : Int) - 1) : Int) a (by omega)
  rw [h.one] at d2 d5
  rw [t2] at d2
  rw [t1] at d5
  exact ⟨⟨d6, d2, by rw [d3]; exact .inl hn, by rw [d4, h.turn]⟩, d5⟩
theorem LongI.told {s : WSt} {a i : Nat} (h : LongI s a i) (hb : a < 4294967296) :
    itemsE (srt (dueS s (a : Int)).1) = [(5, (a : Int))] ∧ (dueS s (a : Int)).1.length = 1 ∧ (dueS s (a : Int)).2.all.length = 0 ∧ (dueS s (a : Int)).2.turn = i + 1 ∧ WGood (dueS s (a : Int)).2 ∧ (dueS s (a : Int)).2.now ≤ a ∧ sI (dueS s (a : Int)).2 = [] := by
  obtain ⟨d1, d2, d3, d4, d5, d6⟩ := due_told (n := (a : Int)) h.good
  have hn : dueN s (a : Int) = a := by
    unfold dueN
    have := h.now
    omega
  rw [hn, h.one] at d1 d2 d5
  obtain ⟨t1, t2⟩ := told_one (a : Int) a (Int.le_refl _)
  rw [t1] at d1 d5
  rw [t2] at d2
  refine ⟨d1, d5, ?_, by rw [d4, h.turn], d6, by rw [d3, hn]; exact Nat.le_refl _, d2⟩
  rw [← sI_len, d2]; rfl
theorem LongI.next {s : WSt} {a b i : Nat} (hg : WGood s) (h0 : sI s = []) (ht : s.turn = i + 1) (hn : s.now ≤ a) (hab : a < b) (hb : b < 4294967296) : LongI (addS s 5 b) b (i + 1) := by
  obtain ⟨g1, g2, g3, g4⟩ := add_good (id := 5) hg hb
  refine ⟨g1, ?_, by rw [g2]; left; omega, by rw [g3, ht]⟩
  rw [sI, add_items hg hb]
  unfold sI at h0
  rw [h0]; rfl

theorem Long_walk (z1 z2 : Int) : Spec Try.prog 5 [.int .i64 z1, .int .i64 z2] W F (fun _ : Unit => .bool true) (fun _ => F) := by
  refine Spec.of Try.func5 rfl Try.ntmps5 rfl ?_
  repeat (first | refine go ?_ | (refine goX ?_; intro))
  refine EL_call rfl WNew_spec ?_
  intro pw
  repeat (first | refine go ?_ | (refine goX ?_; intro))
  refine EL_call rfl turns_spec ?_
  intro _
  obtain ⟨a0, ha0, ea0⟩ := modI z1 1000 (by decide) (by decide)
  have ea0 : IntKind.i64.wrap ((IntKind.u64.wrap z1).tmod 1000) = (a0 : Int) := ea0
  obtain ⟨y, hy, ey⟩ := modI z2 100000 (by decide) (by decide)
  have ey : IntKind.i64.wrap ((IntKind.u64.wrap z2).tmod 100000) = (y : Int) := ey
  rw [ea0, ey]
  have est : IntKind.i64.wrap (1 + (y : Int)) = ((y + 1 : Nat) : Int) := by
    rw [InK.wrap (by simp only [InK]; omega)]; omega
  rw [est]
  generalize hst : y + 1 = st
  repeat (first | refine go ?_ | (refine goX ?_; intro))
  refine EL_call rfl (Add_spec pw newS 5 a0 new_good (by omega) (by rw [new_all]; decide) (by decide)) ?_
  intro _
  repeat (first | refine go ?_ | (refine goX ?_; intro))
  refine EK_loop (γ := Nat × Nat × WSt) (fun g => g.1 ≤ 30 ∧ g.2.1 ≤ 1000 + g.1 * 100000 ∧ LongI g.2.2 g.2.1 g.1) (fun g => [(5, .pointer pw), (6, .int .i64 (g.2.1 : Int)), (7, .int .i64 (st : Int)), (8, .int .i64 (g.1 : Int))])
    (fun g => WheelC pw g.2.2 * F) (fun g => 30 - g.1) (0, a0, addS newS 5 a0) ⟨Nat.zero_le _, by dsimp only; omega, LongI.zero a0 (by omega)⟩ ⟨rfl, rfl, rfl, rfl, trivial⟩ (Ent.sat (by repeat (first | exact Ent.last | refine Ent.cons ?_ | refine Ent.assoc ?_))) ?_
  intro ⟨i, a, s⟩ ⟨hi, ha, hL⟩; dsimp only at hi ha hL ⊢
  repeat (first | refine go ?_ | (refine goX ?_; intro))
  refine EK_cond_dec rfl (fun hlt => ?_) (fun hge => ?_)
  · repeat (first | refine EK_seq ?_ | refine EK_skip ?_ | refine EK_block ?_)
    refine EK_join (γ := WSt) (fun s => LongI s a i) (fun _ => [(5, .pointer pw), (6, .int .i64 (a : Int)), (7, .int .i64 (st : Int)), (8, .int .i64 (i : Int)), (43, .bool false)]) (fun s => WheelC pw s * F) ?_ ?_
    · repeat (first | refine go ?_ | (refine goX ?_; intro))
      refine EL_guard_dec rfl rfl (fun h0 => ?_) (fun h0 => ?_)
      · repeat (first | refine go ?_ | (refine goX ?_; intro))
        obtain ⟨e1, e2⟩ := hL.early (by omega) (by omega)
        refine EL_call rfl (Due_spec pw s ((a : Int) - 1) hL.good (by rw [hL.len]; decide)) ?_
        intro q
        rw [e2]
        repeat (first | refine go ?_ | (refine goX ?_; intro))
        exact EK_meet (dueS s ((a : Int) - 1)).2 e1 ⟨rfl, rfl, rfl, rfl, rfl, trivial⟩ (Ent.sat Ent.drop)
      · repeat (first | refine go ?_ | (refine goX ?_; intro))
        exact EK_meet s hL ⟨rfl, rfl, rfl, rfl, rfl, trivial⟩ (Ent.sat (Ent.refl _))
    intro s hL
    have hab : a < 4294967296 := by omega
    repeat (first | refine go ?_ | (refine goX ?_; intro))
    refine EL_call rfl (Next_spec pw s (by rw [hL.len]; decide)) ?_
    intro _
    rw [hL.one, show nextI [(5, (a : Int))] = (a : Int) from rfl, show decide (0 < [((5 : Int), (a : Int))].length) = true from rfl]
    repeat (first | refine go ?_ | (refine goX ?_; intro))
    obtain ⟨t1, t2, t3, t4, t5, t6, t7⟩ := hL.told hab
    refine EL_call rfl (Due_spec pw s (a : Int) hL.good (by rw [hL.len]; decide)) ?_
    intro q
    rw [t1, t2]
    generalize (dueS s (a : Int)).2 = s2 at *
    repeat (first | refine go ?_ | (refine goX ?_; intro))
    refine EL_val (OpVal_loadAggR rfl rfl (show 0 < [((5 : Int), (a : Int))].length from Nat.one_pos) Nat.one_pos) rfl ?_
    repeat (first | refine go ?_ | (refine goX ?_; intro))
    refine EK_cond_not rfl (fun h => absurd rfl (@of_decide_eq_false _ (Classical.propDecidable _) h)) (fun _ => ?_)
    repeat (first | refine go ?_ | (refine goX ?_; intro))
    have eat : (a : Int) + (st : Int) = ((a + st : Nat) : Int) := by omega
    rw [eat]
    refine EL_call rfl (Spec.pre (Add_spec pw s2 5 (a + st) t5 (by omega) (by omega) (by omega) (F := F)) Ent.drop) ?_
    intro _
    repeat (first | refine go ?_ | (refine goX ?_; intro))
    exact EK_round (i + 1, a + st, addS s2 5 (a + st)) ⟨by dsimp only; omega, by dsimp only; omega, LongI.next t5 t7 t4 t6 (by omega) (by omega)⟩ (by dsimp only; omega) ⟨rfl, rfl, rfl, rfl, trivial⟩ (Ent.sat (Ent.refl _))
  · repeat (first | refine go ?_ | (refine goX ?_; intro))
    refine EL_call rfl (Len_w pw s) ?_
    intro _
    rw [hL.len]
    repeat (first | refine go ?_ | (refine goX ?_; intro))
    exact EK_ret (ER_1 rfl rfl () rfl (Ent.sat Ent.drop))
end Go.Proofs.Ytdmmahhnfnefoaa
