/-
  slices.MinFunc of entries; Next, All.
-/
import Derived.Test.YtdmmahhnfnefoaaWhC
import Derived.Test.YtdmmahhnfnefoaaWhD
namespace Go.Proofs.Ytdmmahhnfnefoaa
open Go.RowKit Go.Sort
set_option maxRecDepth 10000
attribute [local irreducible] EK EX ER EN EL ES EG OpVal OpDoes OpSkip
variable {W : World} {F : SL} {X : Cx} {k : List KI} {σ : Env}

theorem Sat.grow {w : World} (h : Sat W w F) (os : Array Go.Obj) : Sat W (grow w os) F := by
  refine h.keep ?_ rfl rfl rfl (fun k hk => ?_)
  · simp [Go.Sort.grow]
  · simp [Go.Sort.grow, Array.getElem?_append_left hk]
theorem order_spec (x y : Wen) : Spec Try.prog 44 [wenV x, wenV y] W F (fun _ : Unit => .int .i64 (cfW x y)) (fun _ => F) := by
  intro w h
  refine (order_calls x y w).mono ?_
  rintro e w' ⟨rfl, q, os, rfl⟩
  exact ⟨(), rfl, (h.drewN q).grow os⟩
theorem cfW_lt (x y : Wen) : cfW x y < 0 ↔ eLt x y = true := by
  have := lt_cfW x y
  unfold ltOf at this
  rw [← this]
  simp
theorem MinFunc_spec (p : Option Addr) (n c : Nat) (l : List Wen) (hl : l.length = n) (h0 : 0 < n) (hn : n ≤ 100000) :
    Spec Try.prog 42 [.slice p n c, .func (.func 44) #[] #[]] W (RowC 97 3 p n c (entsR l) * F) (fun _ : Unit => wenV (minN l (n - 1)))
      (fun _ => RowC 97 3 p n c (entsR l) * F) := by
  subst hl
  refine Spec.of Try.func42 rfl Try.ntmps42 rfl ?_
  repeat (first | refine go ?_ | (refine goX ?_; intro))
  rename_i p4 p5
  refine EK_loop (γ := Nat) (fun i => i + 1 ≤ l.length) (fun i => [(0, .slice p l.length c), (1, .func (.func 44) #[] #[]), (4, .pointer p4), (5, .pointer p5), (6, .int .i64 ((i + 1 : Nat) : Int))])
    (fun i => Obj p5 97 (wenC (minN l i)) * (Obj p4 97 [.int .i64 0, .int .i64 0, .int .i64 0] * (RowC 97 3 p l.length c (entsR l) * F))) (fun i => l.length - i) 0 (by omega) ⟨rfl, rfl, rfl, rfl, rfl, trivial⟩ (Ent.sat (Ent.refl _)) ?_
  intro i hi
  generalize hm : minN l i = m
  obtain ⟨m1, m2, m3⟩ := m
  simp only [wenC]
  repeat (first | refine go ?_ | (refine goX ?_; intro))
  refine EK_cond_dec rfl (fun hlt => ?_) (fun hge => ?_)
  · repeat (first | refine go ?_ | (refine goX ?_; intro))
    refine EK_drawnT 6 rfl (by kernel_rfl) rfl rfl ?_
    repeat (refine goS ?_)
    refine EL_callv rfl rfl (order_spec (l.getD (i + 1) wen0) ⟨m1, m2, m3⟩) ?_
    intro _
    repeat (first | refine go ?_ | (refine goX ?_; intro))
    refine EK_cond_dec rfl (fun hc => ?_) (fun hc => ?_)
    · have hs : minN l (i + 1) = l.getD (i + 1) wen0 := by
        unfold minN
        rw [hm, if_pos ((cfW_lt _ _).1 hc)]
      repeat (first | refine go ?_ | (refine goX ?_; intro))
      exact EK_round (i + 1) (by omega) (by omega) ⟨rfl, rfl, rfl, rfl, rfl, trivial⟩ (Ent.sat (by rw [hs]; exact Ent.refl _))
    · have hs : minN l (i + 1) = ⟨m1, m2, m3⟩ := by
        unfold minN
        rw [hm, if_neg (fun h => hc ((cfW_lt _ _).2 h))]
      repeat (first | refine go ?_ | (refine goX ?_; intro))
      exact EK_round (i + 1) (by omega) (by omega) ⟨rfl, rfl, rfl, rfl, rfl, trivial⟩ (Ent.sat (by rw [hs]; exact Ent.refl _))
  · have e : l.length - 1 = i := by omega
    repeat (first | refine go ?_ | (refine goX ?_; intro))
    refine EK_ret (ER_c1 (v := wenV ⟨m1, m2, m3⟩) rfl ⟨_, rfl, LoadsV.agg rfl⟩ () (by rw [e, hm]) (Ent.sat ?_))
    repeat (first | exact Ent.last | refine Ent.cons ?_ | refine Ent.assoc ?_)
theorem Next_nil : Spec Try.prog 15 [.pointer none] W F (fun _ : Unit => .tuple #[.int .i64 0, .bool false]) (fun _ => F) := by
  refine Spec.of Try.func15 rfl Try.ntmps15 rfl ?_
  repeat (first | refine go ?_ | (refine goX ?_; intro))
  exact EK_ret (ER_2 rfl rfl rfl () rfl (Ent.sat Ent.last))
theorem Next_spec (p : Option Addr) (s : WSt) (hn : s.all.length ≤ 300) :
    Spec Try.prog 15 [.pointer p] W (WheelC p s * F) (fun _ : Unit => .tuple #[.int .i64 (nextI (sI s)), .bool (decide (0 < (sI s).length))]) (fun _ => WheelC p s * F) := by
  have hl := sI_len s
  refine Spec.of Try.func15 rfl Try.ntmps15 rfl ?_
  by_cases h0 : s.all.length = 0
  · have hs : sI s = [] := List.eq_nil_of_length_eq_zero (by omega)
    rw [hs]
    refine WheelC.open fun r q => ?_
    simp only [WheelO, whV]
    repeat (first | refine go ?_ | (refine goX ?_; intro))
    exact EK_ret (ER_2 rfl rfl rfl () rfl (Ent.sat (WheelC.shut rfl)))
  · have hm := min_next (l := s.all) (by omega)
    have hd : decide (0 < (sI s).length) = true := decide_eq_true (by omega)
    rw [hd]
    refine WheelC.open fun r q => ?_
    simp only [WheelO, whV]
    repeat (first | refine go ?_ | (refine goX ?_; intro))
    refine EL_call rfl (Spec.pre (entries_spec p s hn (F := F)) (WheelC.shut rfl)) ?_
    intro q2
    repeat (first | refine go ?_ | (refine goX ?_; intro))
    refine EL_call rfl (MinFunc_spec q2.1 s.all.length q2.2 s.all rfl (by omega) (by omega)) ?_
    intro _
    repeat (first | refine go ?_ | (refine goX ?_; intro))
    refine EL_val (OpVal_fieldA (us := [.int .i64 (minN s.all (s.all.length - 1)).id, .int .i64 ((minN s.all (s.all.length - 1)).at_ : Int)]) rfl rfl rfl) rfl ?_
    repeat (first | refine go ?_ | (refine goX ?_; intro))
    refine EK_ret (ER_2 rfl rfl rfl () (by rw [hm]) (Ent.sat ?_))
    repeat (first | exact Ent.last | refine Ent.cons ?_ | refine Ent.assoc ?_)
theorem All_nil : Spec Try.prog 17 [.pointer none] W F (fun _ : Unit => .slice none 0 0) (fun _ => F) := by
  refine Spec.of Try.func17 rfl Try.ntmps17 rfl ?_
  repeat (first | refine go ?_ | (refine goX ?_; intro))
  exact EK_ret (ER_1 rfl rfl () rfl (Ent.sat Ent.last))
theorem All_spec (p : Option Addr) (s : WSt) (hg : WGood s) (hn : s.all.length ≤ 300) :
    Spec Try.prog 17 [.pointer p] W (WheelC p s * F) (fun q : Slab => .slice q.1 s.all.length q.2) (fun q => RowC 33 2 q.1 s.all.length q.2 (itemsR (sI s)) * (WheelC p s * F)) := by
  refine Spec.of Try.func17 rfl Try.ntmps17 rfl ?_
  repeat (first | refine go ?_ | (refine goX ?_; intro))
  refine EL_call rfl (entries_spec p s hn) ?_
  intro q
  repeat (first | refine go ?_ | (refine goX ?_; intro))
  refine EL_call rfl (items_spec q.1 s.all.length q.2 s.all rfl hg.turns (by omega)) ?_
  intro q2
  repeat (first | refine go ?_ | (refine goX ?_; intro))
  exact EK_ret (ER_1 rfl rfl q2 rfl (Ent.sat (Ent.refl _)))
end Go.Proofs.Ytdmmahhnfnefoaa
