/-
  Package wheel: items, Due, entries, All.
-/
import Derived.Test.YtdmmahhnfnefoaaWh6
import Derived.Test.YtdmmahhnfnefoaaWo1
namespace Go.Proofs.Ytdmmahhnfnefoaa
open Go.RowKit
set_option maxRecDepth 10000
attribute [local irreducible] EK EX ER EN EL ES EG OpVal OpDoes OpSkip
variable {W : World} {F : SL} {X : Cx} {k : List KI} {σ : Env}

theorem itemsE_len (l : List Wen) : (itemsE l).length = l.length := by simp [itemsE]
theorem items_spec (p : Option Addr) (n c : Nat) (l : List Wen) (hl : l.length = n) (ht : Turns l) (hsm : n ≤ 100000) :
    Spec Try.prog 41 [.slice p n c] W (RowC 97 3 p n c (entsR l) * F) (fun q : Slab => .slice q.1 n q.2) (fun q => RowC 33 2 q.1 n q.2 (itemsR (itemsE (srt l))) * F) := by
  subst hl
  have hs := srt_len l
  refine Spec.of Try.func41 rfl Try.ntmps41 rfl ?_
  repeat (first | refine go ?_ | (refine goX ?_; intro))
  refine EL_call rfl (SortFunc_spec p l.length c l ht (by omega)) ?_
  intro
  generalize srt l = m at *
  repeat (first | refine go ?_ | (refine goX ?_; intro))
  refine EK_loop (γ := Slab × Nat) (fun g => g.2 ≤ l.length) (fun g => [(3, .slice g.1.1 g.2 g.1.2), (8, .slice p l.length c), (9, .int .i64 (l.length : Int)), (10, .int .i64 (g.2 : Int))])
    (fun g => RowC 33 2 g.1.1 g.2 g.1.2 (itemsR ((itemsE m).take g.2)) * (RowC 97 3 p l.length c (entsR m) * F)) (fun g => l.length - g.2) ((none, 0), 0) (Nat.zero_le _) ⟨rfl, rfl, rfl, rfl, trivial⟩ (Ent.sat (Ent.none (Ent.refl _))) ?_
  intro ⟨q, i⟩ hi; dsimp only at hi ⊢
  repeat (first | refine go ?_ | (refine goX ?_; intro))
  refine EK_cond_dec rfl (fun hlt => ?_) (fun hge => ?_)
  · repeat (first | refine go ?_ | (refine goX ?_; intro))
    rename_i q2
    have hm : i < m.length := by omega
    refine EK_round (q2, i + 1) (by dsimp only; omega) (by dsimp only; omega) ⟨rfl, rfl, rfl, rfl, trivial⟩ (Ent.sat (Ent.row q2.1 rfl ?_ ?_))
    · rw [← take_snocD (d := (0, 0)) (l := itemsE m) (by rw [itemsE_len]; exact hm), ← itemsR_snoc]
      congr 1
      have e1 : (itemsE m).getD i (0, 0) = (m.getD i wen0).item := by
        simp only [itemsE, List.getD_eq_getElem?_getD, List.getElem?_map, List.getElem?_eq_getElem hm, Option.map_some, Option.getD_some]
      rw [e1]; rfl
    · repeat (first | exact Ent.last | refine Ent.cons ?_ | refine Ent.assoc ?_)
  · have e : i = l.length := by omega
    subst e
    repeat (first | refine go ?_ | (refine goX ?_; intro))
    refine EK_ret (ER_1 rfl rfl q rfl (Ent.sat (Ent.row q.1 rfl (by rw [List.take_of_length_le (by rw [itemsE_len]; omega)]) ?_)))
    repeat (first | exact Ent.last | refine Ent.cons ?_ | refine Ent.assoc ?_)

theorem turns_left {R A l : List Wen} (ht : Turns l) (hp : (R ++ A).Perm l) : Turns R := by
  have h := ht.perm hp
  unfold Turns at *
  rw [List.map_append] at h
  exact (List.nodup_append.1 h).1
theorem Due_nil (n : Int) : Spec Try.prog 12 [.pointer none, .int .i64 n] W F (fun _ : Unit => .slice none 0 0) (fun _ => F) := by
  refine Spec.of Try.func12 rfl Try.ntmps12 rfl ?_
  repeat (first | refine go ?_ | (refine goX ?_; intro))
  exact EK_ret (ER_1 rfl rfl () rfl (Ent.sat Ent.last))
theorem due_pos {s : WSt} {t : Nat} (h : WPos s) (ht : s.now < t) (ht2 : t < 4294967296) : WPos ⟨t, s.turn, [], (grab (idx s.now t) s.sl []).2⟩ := by
  have hsl := grab_sl (idx s.now t) s.sl []
  refine ⟨ht2, fun x hx => by simp at hx, fun k hk x hx => ?_⟩
  dsimp only at hx ⊢
  rw [hsl k] at hx
  split at hx
  · simp at hx
  · rename_i hk2
    obtain ⟨q1, q2, q3⟩ := h.sl k hk x hx
    have hl := (lev_spec q2 h.now (show x.at_ ≠ s.now by omega)).1
    have hn : dg x.at_ (lev x.at_ s.now) ∉ pIdx (lev x.at_ s.now) s.now t := fun hm => by
      refine hk2 (List.mem_flatMap.2 ⟨lev x.at_ s.now, List.mem_range.2 (by omega), List.mem_map.2 ⟨_, hm, ?_⟩⟩)
      rw [← q3]; rfl
    obtain ⟨r1, r2⟩ := stays q2 ht2 q1 hn
    refine ⟨r1, q2, ?_⟩
    rw [← q3]
    unfold spot
    rw [r2]
set_option maxHeartbeats 1600000 in
theorem Due_spec (p : Option Addr) (s : WSt) (n : Int) (hg : WGood s) (hn : s.all.length ≤ 300) :
    Spec Try.prog 12 [.pointer p, .int .i64 n] W (WheelC p s * F) (fun q : Slab => .slice q.1 (dueS s n).1.length q.2)
      (fun q => RowC 33 2 q.1 (dueS s n).1.length q.2 (itemsR (itemsE (srt (dueS s n).1))) * (WheelC p (dueS s n).2 * F)) := by
  have hd := dueS_ok (n := n) hg.pos
  have hT := turns_left hg.turns hd.perm
  have hlen := hd.perm.length_eq
  rw [List.length_append] at hlen
  have hnow := hg.pos.now
  have hrl := ready_len s
  have hfl : (flatS s.sl).length + s.ready.length = s.all.length := by unfold WSt.all; rw [List.length_append]; omega
  refine Spec.of Try.func12 rfl Try.ntmps12 rfl ?_
  refine WheelC.open fun r q => ?_
  simp only [WheelO, whV]
  repeat (first | refine go ?_ | (refine goX ?_; intro))
  refine EK_cond_dec rfl (fun hlt => ?_) (fun hge => ?_)
  · have ht0 : 0 ≤ min n 4294967295 := by omega
    obtain ⟨t, ht⟩ := Int.eq_ofNat_of_zero_le ht0
    have ht2 : t < 4294967296 := by omega
    have hst : s.now < t := by omega
    have eD : dueS s n = dueT s t := by
      unfold dueS
      rw [if_pos (by omega), ht]; rfl
    rw [eD] at hlen hT ⊢
    rw [ht]
    have eO : (dueT s t).1 = s.ready ++ ((lvOut s.sl s.now t 6).foldl putS ⟨t, s.turn, [], lvSl s.sl s.now t 6⟩).ready := by
      unfold dueT lvOut lvSl
      rw [idxL_six]
    have eS : (dueT s t).2 = { ((lvOut s.sl s.now t 6).foldl putS ⟨t, s.turn, [], lvSl s.sl s.now t 6⟩) with ready := [] } := by
      unfold dueT lvOut lvSl
      rw [idxL_six]
    have hlv := lv_len s.sl s.now t
    have hmem : ∀ x ∈ lvOut s.sl s.now t 6, x.at_ < 4294967296 := fun x hx => by
      obtain ⟨i, hi, hx⟩ := lv_mem (Nat.le_refl _) hx
      exact (hg.pos.sl i hi x hx).2.1
    have hpos : WPos ⟨t, s.turn, [], lvSl s.sl s.now t 6⟩ := by
      have h3 := (due_pos hg.pos hst ht2)
      unfold lvSl
      rw [idxL_six]
      exact h3
    rw [eO] at hlen hT ⊢
    rw [eS] at hlen ⊢
    clear eO eS eD
    repeat (first | refine go ?_ | (refine goX ?_; intro))
    refine EK_exits (γ := Slab × (Nat → Slab)) (fun _ => True) (fun g => [(0, .pointer p), (1, .int .i64 (t : Int)), (5, .slice r.1 s.ready.length r.2), (6, .slice g.1.1 (lvOut s.sl s.now t 6).length g.1.2)])
      (fun g => RowC 97 3 g.1.1 (lvOut s.sl s.now t 6).length g.1.2 (entsR (lvOut s.sl s.now t 6)) * (Obj p 94 (.int .i64 s.now :: .int .i64 s.turn :: .int .i64 (s.all.length : Int) :: .slice none 0 0 :: slV g.2 (lvSl s.sl s.now t 6)) * (RowC 97 3 r.1 s.ready.length r.2 (entsR s.ready) * (rowsS g.2 (lvSl s.sl s.now t 6) * F)))) ?_ ?_
    · refine EK_loop (γ := Nat × Slab × (Nat → Slab)) (fun g => g.1 ≤ 6) (fun g => [(0, .pointer p), (1, .int .i64 (t : Int)), (5, .slice r.1 s.ready.length r.2), (6, .slice g.2.1.1 (lvOut s.sl s.now t g.1).length g.2.1.2), (27, .int .i64 (g.1 : Int))])
        (fun g => RowC 97 3 g.2.1.1 (lvOut s.sl s.now t g.1).length g.2.1.2 (entsR (lvOut s.sl s.now t g.1)) * (Obj p 94 (.int .i64 s.now :: .int .i64 s.turn :: .int .i64 (s.all.length : Int) :: .slice none 0 0 :: slV g.2.2 (lvSl s.sl s.now t g.1)) * (RowC 97 3 r.1 s.ready.length r.2 (entsR s.ready) * (rowsS g.2.2 (lvSl s.sl s.now t g.1) * F))))
        (fun g => 6 - g.1) (0, (none, 0), q) (Nat.zero_le _) ⟨rfl, rfl, rfl, rfl, rfl, trivial⟩ (Ent.sat (Ent.none (Ent.refl _))) ?_
      intro ⟨j, o, q'⟩ hj; dsimp only at hj ⊢
      have hlvj := hlv j hj
      repeat (first | refine go ?_ | (refine goX ?_; intro))
      refine EK_cond_dec rfl (fun hlt6 => ?_) (fun hge6 => ?_)
      · obtain ⟨q1, q2⟩ := lv_succ s.sl s.now t j
        have hgp := (grab_perm (lIdx j s.now t) (lvSl s.sl s.now t j) [] fun i hi => by
          obtain ⟨z, hz, rfl⟩ := List.mem_map.1 hi
          have := pIdx_lt hz
          omega).length_eq
        simp only [List.length_append, List.nil_append] at hgp
        repeat (first | refine go ?_ | (refine goX ?_; intro))
        refine EL_call rfl (Spec.pre (passed_spec p { s with ready := [], sl := lvSl s.sl s.now t j } j s.now t (s.all.length : Int) (none, 0) q' (by omega) hnow ht2 (by dsimp only; omega) (F := RowC 97 3 o.1 (lvOut s.sl s.now t j).length o.2 (entsR (lvOut s.sl s.now t j)) * (RowC 97 3 r.1 s.ready.length r.2 (entsR s.ready) * F))) (Ent.obj p rfl (Ent.none (Ent.trans (Ent.refl _) (by
          repeat (first | exact Ent.last | refine Ent.cons ?_ | refine Ent.assoc ?_)))))) ?_
        intro g
        dsimp only
        repeat (first | refine go ?_ | (refine goX ?_; intro))
        rename_i o2
        refine EK_round (j + 1, o2, g.2) (by dsimp only; omega) (by dsimp only; omega) ⟨rfl, rfl, rfl, by rw [q1, List.length_append]; rfl, rfl, trivial⟩ (Ent.sat ?_)
        dsimp only
        rw [q1, q2]
        refine Ent.row o2.1 (by simp) (entsR_app _ _) (Ent.obj p rfl (Ent.row r.1 rfl rfl ?_))
        repeat (first | exact Ent.last | refine Ent.cons ?_ | refine Ent.assoc ?_)
      · have e : j = 6 := by omega
        subst e
        repeat (first | refine go ?_ | (refine goX ?_; intro))
        exact EK_meet (o, q') trivial ⟨rfl, rfl, rfl, rfl, trivial⟩ (Ent.sat (Ent.refl _))
    intro ⟨o, q'⟩ _; dsimp only
    have hlv6 := hlv 6 (Nat.le_refl _)
    clear hlv
    generalize lvOut s.sl s.now t 6 = A at *
    generalize lvSl s.sl s.now t 6 = L at *
    have hfoldl := fun j => foldl_take_succ putS (⟨t, s.turn, [], L⟩ : WSt) A wen0 (j := j)
    have hsz : ∀ j, WPos ((A.take j).foldl putS ⟨t, s.turn, [], L⟩) ∧ ((A.take j).foldl putS ⟨t, s.turn, [], L⟩).all.length ≤ 300 := fun j => by
      have hm : ∀ x ∈ A.take j, x.at_ < 4294967296 := fun x hx => hmem x (List.mem_of_mem_take hx)
      refine ⟨(puts_ok _ _ hpos hm).1, ?_⟩
      rw [puts_sizes _ _ hpos hm, List.length_take]
      unfold WSt.all
      dsimp only
      rw [List.nil_append]
      omega
    repeat (first | refine go ?_ | (refine goX ?_; intro))
    refine EK_exits (γ := Slab × (Nat → Slab)) (fun _ => True) (fun _ => [(0, .pointer p), (5, .slice r.1 s.ready.length r.2)])
      (fun g => WheelO p (A.foldl putS ⟨t, s.turn, [], L⟩) (s.all.length : Int) g.1 g.2 (RowC 97 3 r.1 s.ready.length r.2 (entsR s.ready) * F)) ?_ ?_
    · refine EK_loop (γ := Nat × Slab × (Nat → Slab)) (fun g => g.1 ≤ A.length) (fun g => [(0, .pointer p), (5, .slice r.1 s.ready.length r.2), (45, .slice o.1 A.length o.2), (46, .int .i64 (A.length : Int)), (47, .int .i64 (g.1 : Int))])
        (fun g => WheelO p ((A.take g.1).foldl putS ⟨t, s.turn, [], L⟩) (s.all.length : Int) g.2.1 g.2.2 (RowC 97 3 o.1 A.length o.2 (entsR A) * (RowC 97 3 r.1 s.ready.length r.2 (entsR s.ready) * F)))
        (fun g => A.length - g.1) (0, (none, 0), q') (Nat.zero_le _) ⟨rfl, rfl, rfl, rfl, rfl, trivial⟩ (Ent.sat (Ent.obj p rfl (Ent.none (by
          show Ent _ (rowsS q' L * (RowC 97 3 o.1 A.length o.2 (entsR A) * (RowC 97 3 r.1 s.ready.length r.2 (entsR s.ready) * F)))
          repeat (first | exact Ent.last | refine Ent.cons ?_ | refine Ent.assoc ?_))))) ?_
      intro ⟨j, r1, q1⟩ hj; dsimp only at hj ⊢
      obtain ⟨hp1, hp2⟩ := hsz j
      have hst2 := hfoldl j
      generalize hS1 : (A.take j).foldl putS ⟨t, s.turn, [], L⟩ = S1 at *
      simp only [WheelO, whV]
      repeat (first | refine go ?_ | (refine goX ?_; intro))
      refine EK_cond_dec rfl (fun hlt2 => ?_) (fun hge2 => ?_)
      · have hjA : j < A.length := by omega
        have hxa : (A.getD j wen0).at_ < 4294967296 := hmem _ (by
          rw [List.getD_eq_getElem?_getD, List.getElem?_eq_getElem hjA]
          exact List.getElem_mem hjA)
        repeat (first | refine go ?_ | (refine goX ?_; intro))
        rename_i px
        refine EL_call (vs := [.pointer p, wenV (A.getD j wen0)]) rfl (Spec.pre (put_spec p S1 (A.getD j wen0) (s.all.length : Int) r1 q1 hp1.now hxa (fun k hk => by have := sl_len (s := S1) hk; omega) (by have := ready_len S1; omega) (F := RowC 97 3 o.1 A.length o.2 (entsR A) * (RowC 97 3 r.1 s.ready.length r.2 (entsR s.ready) * F))) (Ent.obj p rfl (by
          repeat (first | exact Ent.last | refine Ent.cons ?_ | refine Ent.assoc ?_)))) ?_
        intro g
        repeat (first | refine go ?_ | (refine goX ?_; intro))
        exact EK_round (j + 1, g.1, g.2) (by dsimp only; omega) (by dsimp only; omega) ⟨rfl, rfl, rfl, rfl, rfl, trivial⟩ (Ent.sat (by dsimp only; rw [hst2 hjA]; exact Ent.refl _))
      · have e : j = A.length := by omega
        subst e
        rw [List.take_length] at hS1
        repeat (first | refine go ?_ | (refine goX ?_; intro))
        refine EK_meet (r1, q1) trivial ⟨rfl, rfl, trivial⟩ (Ent.sat ?_)
        dsimp only
        rw [hS1]
        repeat (first | exact Ent.last | refine Ent.cons ?_ | refine Ent.assoc ?_)
    intro ⟨r2, q2⟩ _
    have hszA := hsz A.length
    rw [List.take_length] at hszA
    have hrl2 := ready_len (A.foldl putS ⟨t, s.turn, [], L⟩)
    generalize A.foldl putS ⟨t, s.turn, [], L⟩ = S2 at *
    obtain ⟨hp2, hp3⟩ := hszA
    dsimp only at hlen hT ⊢
    simp only [WheelO, whV]
    repeat (first | refine go ?_ | (refine goX ?_; intro))
    rename_i o3
    refine EL_call rfl (Spec.at1 o3.1 (Spec.pre (items_spec o3.1 (s.ready.length + S2.ready.length) o3.2 (s.ready ++ S2.ready) (by simp) hT (by omega)) (Ent.row o3.1 rfl (entsR_app _ _) (Ent.refl _)))) ?_
    intro g
    repeat (first | refine go ?_ | (refine goX ?_; intro))
    refine EK_ret (ER_1 rfl rfl g (by simp) (Ent.sat (Ent.row g.1 (by simp) rfl (Ent.trans (Ent.obj p rfl (Ent.none ?_)) (WheelC.shut (s := { S2 with ready := [] }) (r := (none, 0)) (q := q2) (cnt := (s.all.length : Int) - ((s.ready.length + S2.ready.length : Nat) : Int)) ?_)))))
    · repeat (first | exact Ent.last | refine Ent.cons ?_ | refine Ent.assoc ?_)
    · rw [List.length_append] at hlen
      omega
  · have eD : dueS s n = (s.ready, { s with ready := [] }) := by
      unfold dueS
      rw [if_neg (by omega)]
    rw [eD] at hlen hT ⊢
    dsimp only at hlen hT ⊢
    repeat (first | refine go ?_ | (refine goX ?_; intro))
    refine EL_call rfl (Spec.at1 r.1 (items_spec r.1 s.ready.length r.2 s.ready rfl hT (by omega))) ?_
    intro g
    repeat (first | refine go ?_ | (refine goX ?_; intro))
    refine EK_ret (ER_1 rfl rfl g rfl (Ent.sat (Ent.row g.1 rfl rfl (Ent.trans (Ent.obj p rfl (Ent.none ?_)) (WheelC.shut (s := { s with ready := [] }) (r := (none, 0)) (q := q) (cnt := (s.all.length : Int) - (s.ready.length : Int)) ?_)))))
    · repeat (first | exact Ent.last | refine Ent.cons ?_ | refine Ent.assoc ?_)
    · omega
end Go.Proofs.Ytdmmahhnfnefoaa
