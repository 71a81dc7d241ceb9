/-
  CacheStacks: the walk.
-/
import Derived.Test.YtdmmahhnfnefoaaDoorCcQ
import Derived.Test.YtdmmahhnfnefoaaDoorRd
namespace Go.Proofs.YtdmmahhnfnefoaaDoor
open Go.RowKit
set_option maxRecDepth 10000
attribute [local irreducible] EK EX ER EN EL ES EG OpVal OpDoes OpSkip
variable {W : World} {F : SL} {X : Cx} {k : List KI} {σ : Env} {n m : Nat}
attribute [local simp] natsR_len
structure SG where
  ws : List Nat
  h : Nat
  l : List Nat
  held : List Nat
  q1 : Slab
  q2 : Slab
def StSt (pc pp : Option Addr) (r : Nat) (g : SG) (F : SL) : SL := CacheC pc pp g.h g.l none * (PoolC pp r g.ws * (RowC 3 1 g.q1.1 g.l.length g.q1.2 (natsR .i64 g.l) * (RowC 3 1 g.q2.1 g.held.length g.q2.2 (natsR .i64 g.held) * F)))
theorem Stacks_walk (hT : Tab W) (p : Option Addr) (c : Nat) (l0 : List Int) [Ro W p l0.length (intsR .i64 l0)] (z : Int) :
    Spec Tryd.prog 6 [.int .i64 z, .slice p l0.length c] W F (fun _ : Unit => .bool true) (fun _ => F) := by
  refine Spec.of Tryd.func6 rfl Tryd.ntmps6 rfl ?_
  have hz0 : 0 ≤ IntKind.u64.wrap z := by rw [IntKind.wrap_u64]; omega
  repeat (first | refine go ?_ | (refine goX ?_; intro))
  obtain ⟨r, hr, er⟩ : ∃ r : Nat, (40 ≤ r ∧ r ≤ 139) ∧ 40 + IntKind.u64.wrap z % 100 = (r : Int) := ⟨(40 + IntKind.u64.wrap z % 100).toNat, by omega, by omega⟩
  rw [er]
  refine EL_call rfl (New_spec (n := r) (by omega) (by omega)) ?_
  intro pp
  repeat (first | refine go ?_ | (refine goX ?_; intro))
  refine EL_call rfl (CaNew_spec 0) ?_
  intro pc
  repeat (first | refine go ?_ | (refine goX ?_; intro))
  refine EL_call rfl (fills_spec hT) ?_
  intro _
  repeat (first | refine go ?_ | (refine goX ?_; intro))
  refine EK_exits (γ := SG) (fun g => OnceI r ((r + 31) / 32) g.ws (lone g.h g.l .idle) g.held ∧ g.l.length ≤ 16) (fun g => [(5, .int .i64 (r : Int)), (6, .pointer pp), (8, .pointer pc), (11, .slice g.q2.1 g.held.length g.q2.2)])
    (fun g => StSt pc pp r g F) ?_ ?_
  · refine EK_loop (γ := Nat × SG) (fun g => g.1 ≤ l0.length ∧ g.1 ≤ 100 ∧ OnceI r ((r + 31) / 32) g.2.ws (lone g.2.h g.2.l .idle) g.2.held ∧ g.2.l.length ≤ 16) (fun g => [(1, .slice p l0.length c), (5, .int .i64 (r : Int)), (6, .pointer pp), (8, .pointer pc), (10, .slice g.2.q1.1 g.2.l.length g.2.q1.2), (11, .slice g.2.q2.1 g.2.held.length g.2.q2.2), (12, .int .i64 (g.1 : Int))])
      (fun g => StSt pc pp r g.2 F) (fun g => l0.length - g.1) (0, ⟨newWords r, 0, [], [], (none, 0), (none, 0)⟩) ⟨Nat.zero_le _, Nat.zero_le _, OnceI.lone_new (by omega) (by omega), by simp⟩ ⟨rfl, rfl, rfl, rfl, rfl, rfl, rfl, trivial⟩ (Ent.sat ?_) ?_
    · unfold StSt
      exact Ent.cons (Ent.cons (Ent.none (Ent.none (Ent.refl _))))
    intro ⟨i, ws, h, l, held, q1, q2⟩ ⟨hi, hi2, hI, hl⟩; dsimp only at hi hi2 hI hl ⊢
    unfold StSt; dsimp only
    have hlens := hI.lens
    have hwm := hI.words.most
    by_cases hin : i < l0.length
    · by_cases hi3 : i < 100
      · refine EK_seq ?_
        refine EK_join (γ := Unit) (fun _ => True) (fun _ => [(1, .slice p l0.length c), (5, .int .i64 (r : Int)), (6, .pointer pp), (8, .pointer pc), (10, .slice q1.1 l.length q1.2), (11, .slice q2.1 held.length q2.2), (12, .int .i64 (i : Int))]) (fun _ => StSt pc pp r ⟨ws, h, l, held, q1, q2⟩ F) ?_ ?_
        · repeat (first | refine go ?_ | (refine goX ?_; intro))
          exact EK_meet () trivial ⟨rfl, rfl, rfl, rfl, rfl, rfl, rfl, trivial⟩ (Ent.sat (Ent.refl _))
        intro _ _
        unfold StSt; dsimp only
        refine EK_seq (EK_block (EK_seq ?_))
        refine EK_join (γ := SG) (fun g => OnceI r ((r + 31) / 32) g.ws (lone g.h g.l .idle) g.held ∧ g.l.length ≤ 16) (fun g => [(1, .slice p l0.length c), (5, .int .i64 (r : Int)), (6, .pointer pp), (8, .pointer pc), (10, .slice g.q1.1 g.l.length g.q1.2), (11, .slice g.q2.1 g.held.length g.q2.2), (12, .int .i64 (i : Int))]) (fun g => StSt pc pp r g F) ?_ ?_
        · by_cases ht : (l0.getD i 0).tmod 3 = 0 ∧ 0 < held.length
          · obtain ⟨ht0, ht1⟩ := ht
            obtain ⟨d, hd⟩ : ∃ d, held.length = d + 1 := ⟨held.length - 1, by omega⟩
            have hwo : without held d = held.take d := by unfold without; rw [List.drop_of_length_le (by omega), List.append_nil]
            have htl : (held.take d).length = d := by rw [List.length_take]; omega
            have hhe : held = held.take d ++ [held.getD d 0] := by rw [take_snocD (by omega), ← hd, List.take_length]
            repeat (first | refine go ?_ | (refine goX ?_; intro))
            rw [show ((held.length : Int) - 1) = (d : Int) by omega]
            repeat (first | refine go ?_ | (refine goX ?_; intro))
            rename_i y1 o1
            rw [show ((held.length : Int) - 1) = (d : Int) by omega]
            repeat (first | refine go ?_ | (refine goX ?_; intro))
            by_cases hl6 : l.length < 16
            · refine EL_call rfl (Spec.at1 pc (Put_still (held.getD d 0) hl6)) ?_
              intro g
              repeat (first | refine go ?_ | (refine goX ?_; intro))
              refine EL_call rfl (Spec.at2 pc g CRun_still) ?_
              intro _
              repeat (first | refine go ?_ | (refine goX ?_; intro))
              rw [show ((held.length : Int) - 1) = (d : Int) by omega]
              repeat (first | refine go ?_ | (refine goX ?_; intro))
              have hP := hI.put (w := 0) (c := ⟨h, l, .idle⟩) (j := d) (by decide) rfl rfl (by omega) hl6
              rw [lone_set, hwo] at hP
              have hQ := hP.quiet (w := 0) (c := ⟨h, l ++ [held.getD d 0], .still⟩) (by decide) rfl rfl .idle rfl ⟨by simp; omega, trivial⟩
              rw [lone_set] at hQ
              refine EK_meet ⟨ws, h, l ++ [held.getD d 0], held.take d, o1, q2⟩ ⟨hQ, by simp; omega⟩ ⟨rfl, rfl, rfl, rfl, by dsimp only; rw [len_snoc]; rfl, by dsimp only; rw [htl]; rfl, rfl, trivial⟩ (Ent.sat ?_)
              unfold StSt; dsimp only
              refine Ent.at pc rfl (Ent.at pp rfl (Ent.row o1.1 (by rw [len_snoc]) (by simp [natsR]) (Ent.rowHi q2.1 d (by omega) (Ent.row q2.1 htl.symm (by simp [natsR]) ?_))))
              first | exact Ent.refl _ | exact Ent.last | (repeat (first | refine Ent.cons ?_ | exact Ent.any | exact Ent.last))
            · refine EL_call rfl (Spec.pre (Put_leave (held.getD d 0) (by omega) (by omega) (n := r) (ws := ws) (pp := pp) (pc := pc) (h := h) (l := l) (F := RowC 3 1 o1.1 (l.length + 1) o1.2 (natsR .i64 l ++ [.int .i64 ((held.getD d 0 : Nat) : Int)]) * (RowC 3 1 q2.1 held.length q2.2 (natsR .i64 held) * F))) ?_) ?_
              · first | exact Ent.refl _ | exact Ent.last | (repeat (first | refine Ent.cons ?_ | exact Ent.any | exact Ent.last))
              intro g
              have hJ := hI.leave (w := 0) (c := ⟨h, l, .idle⟩) (out' := held.take d) (by decide) rfl rfl ((l ++ [held.getD d 0]).take 8) ((l ++ [held.getD d 0]).drop 8) (by simp; omega) (by simp; omega) (fun x => by
                have e := congrArg (List.count x) hhe
                rw [List.count_append] at e
                rw [List.take_append_drop, List.count_append]
                dsimp only
                omega)
              rw [lone_set] at hJ
              have hJr := (hJ.each 0 (by decide)).run
              generalize hB : backNew r (((l ++ [held.getD d 0]).take 8).map fun (x : Nat) => (x : Int)) = B at *
              have hBp : B.parts.length ≤ 8 := by
                rw [← hB]
                have h1 := backParts_len r (((l ++ [held.getD d 0]).take 8).map fun (x : Nat) => (x : Int))
                rw [List.length_map, List.length_take] at h1
                show (backParts r _).length ≤ 8
                omega
              have hend : 0 < (runS 299 1 ws B).2 := back_ends _ 299 1 ws _ rfl (by rw [← hB]; rfl) (by rw [← hB]; rfl) (by rw [← hB]; rfl) (by omega) (by omega)
              have hK := OnceI.runBack 299 1 h ws _ _ hJ hend (by omega)
              repeat (first | refine go ?_ | (refine goX ?_; intro))
              refine EL_call rfl (Spec.pre (CRun_back hT hI.words hJr.1 hend (n := r) (pp := pp) (pc := pc) (ps := g.1) (h := h) (l := (l ++ [held.getD d 0]).drop 8) (qo := g.2) (sp := g.2) (F := RowC 3 1 o1.1 (l.length + 1) o1.2 (natsR .i64 l ++ [.int .i64 ((held.getD d 0 : Nat) : Int)]) * (RowC 3 1 q2.1 held.length q2.2 (natsR .i64 held) * F))) ?_) ?_
              · first | exact Ent.refl _ | exact Ent.last | (repeat (first | refine Ent.cons ?_ | exact Ent.any | exact Ent.last))
              intro _
              generalize runS 299 1 ws B = D at *
              repeat (first | refine go ?_ | (refine goX ?_; intro))
              rw [show ((held.length : Int) - 1) = (d : Int) by omega]
              repeat (first | refine go ?_ | (refine goX ?_; intro))
              have e2 : (natsR .i64 l ++ [Value.int .i64 ((held.getD d 0 : Nat) : Int)]).drop (8 * 1) = natsR .i64 ((l ++ [held.getD d 0]).drop 8) := by simp [natsR, List.map_drop]
              have hdl : ((l ++ [held.getD d 0]).drop 8).length = l.length + 1 - 8 := by simp
              refine EL_does (OpDoes_append rfl rfl rfl (r2 := Src.lo inferInstance 8 (by omega)) (h1 := by rw [e2]; infer_instance) (by rw [e2, natsR_len, hdl]; omega) (by omega) (by decide)) rfl ?_
              intro o2
              rw [e2]
              repeat (first | refine go ?_ | (refine goX ?_; intro))
              refine EK_meet ⟨D.1.1, h, (l ++ [held.getD d 0]).drop 8, held.take d, o2, q2⟩ ⟨hK, by dsimp only; omega⟩ ⟨rfl, rfl, rfl, rfl, by dsimp only; rw [hdl, Nat.zero_add]; rfl, by dsimp only; rw [htl]; rfl, rfl, trivial⟩ (Ent.sat ?_)
              unfold StSt; dsimp only
              refine Ent.at pc rfl (Ent.at pp rfl (Ent.row o2.1 (by rw [hdl, Nat.zero_add]) (by rw [List.nil_append]) (Ent.rowHi q2.1 d (by omega) (Ent.row q2.1 htl.symm (by simp [natsR]) ?_))))
              first | exact Ent.refl _ | exact Ent.last | (repeat (first | refine Ent.cons ?_ | exact Ent.any | exact Ent.last))
          · have hcase : (¬ (l0.getD i 0).tmod 3 = 0) ∨ ((l0.getD i 0).tmod 3 = 0 ∧ held.length = 0) := by omega
            rcases hcase with e0 | ⟨e0, e1⟩ <;> (
              repeat (first | refine go ?_ | (refine goX ?_; intro))
              by_cases hl0 : l.length = 0
              · have hle : l = [] := List.eq_nil_of_length_eq_zero hl0
                subst hle
                have hF := hI.quiet (w := 0) (c := ⟨h, [], .idle⟩) (by decide) rfl rfl (.fill (takeNew (h : Int) 8 ((r + 31) / 32))) rfl ⟨by simp, rfl, takeNew_ok _ _ (by omega), rfl, rfl, rfl⟩
                rw [lone_set] at hF
                have hend : 0 < (runS 299 1 ws (takeNew (h : Int) 8 ((r + 31) / 32))).2 := take_ends _ 299 1 _ rfl rfl rfl rfl (by show (r + 31) / 32 + 2 ≤ 299; omega) (by omega)
                have hK := OnceI.runFill 299 1 h ws _ hF hend (by omega)
                have hmo := (take_most (ws := ws) (s := takeNew (h : Int) 8 ((r + 31) / 32)) rfl (by simp [takeNew]) 299 1).1
                rw [show (takeNew (h : Int) 8 ((r + 31) / 32)).most = 8 from rfl] at hmo
                refine EL_call rfl (Spec.pre (Fill_take hI.words (n := r) (pp := pp) (pc := pc) (h := h) (F := RowC 3 1 q1.1 0 q1.2 (natsR .i64 []) * (RowC 3 1 q2.1 held.length q2.2 (natsR .i64 held) * F))) ?_) ?_
                · first | exact Ent.refl _ | exact Ent.last | (repeat (first | refine Ent.cons ?_ | exact Ent.any | exact Ent.last))
                intro g
                repeat (first | refine go ?_ | (refine goX ?_; intro))
                refine EL_call rfl (Spec.pre (CRun_fill hT hI.words (takeNew_ok (h : Int) 8 (by omega)) (by simp) hend (n := r) (pp := pp) (pc := pc) (ps := g.1) (h := h) (l := []) (qo := none) (sp := g.2) (F := RowC 3 1 q1.1 0 q1.2 (natsR .i64 []) * (RowC 3 1 q2.1 held.length q2.2 (natsR .i64 held) * F))) ?_) ?_
                · first | exact Ent.refl _ | exact Ent.last | (repeat (first | refine Ent.cons ?_ | exact Ent.any | exact Ent.last))
                intro _
                generalize runS 299 1 ws (takeNew (h : Int) 8 ((r + 31) / 32)) = D at *
                repeat (first | refine go ?_ | (refine goX ?_; intro))
                have hml : D.1.2.ports.length ≤ 8 := by omega
                generalize hm : ([] ++ D.1.2.ports.reverse : List Nat) = mn at *
                have hmn : mn.length = D.1.2.ports.length := by rw [← hm, List.nil_append, List.length_reverse]
                haveI : RLen (natsR .i64 mn) mn.length := ⟨natsR_len _ _⟩
                refine EL_call rfl (Spec.at1 pc (All_spec (by omega))) ?_
                intro a
                repeat (first | refine go ?_ | (refine goX ?_; intro))
                rename_i o1
                refine EL_call rfl (Spec.at1 pc (Pop_spec (by omega))) ?_
                intro _
                unfold topV
                rw [show ([] : List Nat).length + mn.length = mn.length by simp, show natsR .i64 [] ++ natsR .i64 mn = natsR .i64 mn from rfl]
                by_cases hm0 : mn.length = 0
                · rw [decide_eq_false (show ¬ 0 < mn.length by omega)]
                  repeat (first | refine go ?_ | (refine goX ?_; intro))
                  have hle : mn = [] := List.eq_nil_of_length_eq_zero hm0
                  refine EK_meet ⟨D.1.1, cameH h D.1.2, mn, held, o1, q2⟩ ⟨hK, by dsimp only; omega⟩ ⟨rfl, rfl, rfl, rfl, rfl, rfl, rfl, trivial⟩ (Ent.sat ?_)
                  unfold StSt; dsimp only
                  rw [hle, show (([] : List Nat).take (([] : List Nat).length - 1)) = [] from rfl]
                  first | exact Ent.refl _ | exact Ent.last | (repeat (first | refine Ent.cons ?_ | exact Ent.any | exact Ent.last))
                · rw [decide_eq_true (show 0 < mn.length by omega)]
                  obtain ⟨d, hd⟩ : ∃ d, mn.length = d + 1 := ⟨mn.length - 1, by omega⟩
                  rw [show mn.length - 1 = d by omega]
                  repeat (first | refine go ?_ | (refine goX ?_; intro))
                  rw [show ((mn.length : Int) - 1) = (d : Int) by omega]
                  repeat (first | refine go ?_ | (refine goX ?_; intro))
                  refine EK_sink 99 (RowC 3 1 o1.1 mn.length o1.2 (natsR .i64 mn) * 1) rfl rfl rfl ?_
                  repeat (first | refine goQ ?_ | refine EG_done (by decide +kernel) ?_)
                  rw [show ((mn.length : Int) - 1) = (d : Int) by omega]
                  repeat (first | refine goQ ?_ | refine EG_done (by decide +kernel) ?_)
                  repeat (first | refine goG ?_ | (refine goGX ?_; intro) | refine goGL ?_ | refine goGS ?_ | refine goGV ?_ | refine EG_done (by decide +kernel) ?_)
                  repeat (first | refine go ?_ | (refine goX ?_; intro))
                  rename_i y2 o2
                  have htl : (mn.take d).length = d := by rw [List.length_take]; omega
                  have hP := hK.pop (w := 0) (c := ⟨(cameH h D.1.2), mn, .idle⟩) (by decide) rfl rfl (by show 0 < mn.length; omega)
                  rw [lone_set] at hP
                  dsimp only at hP
                  rw [show mn.length - 1 = d by omega] at hP
                  refine EK_meet ⟨D.1.1, (cameH h D.1.2), mn.take d, held ++ [mn.getD d 0], o1, o2⟩ ⟨hP, by dsimp only; omega⟩ ⟨rfl, rfl, rfl, rfl, by dsimp only; rw [htl]; rfl, by dsimp only; rw [len_snoc]; rfl, rfl, trivial⟩ (Ent.sat ?_)
                  unfold StSt; dsimp only
                  refine Ent.at pc rfl (Ent.at pp rfl (Ent.rowHi o1.1 d (by omega) (Ent.row o1.1 htl.symm (by simp [natsR]) (Ent.row o2.1 (by rw [len_snoc]) (by simp [natsR]) ?_))))
                  first | exact Ent.refl _ | exact Ent.last | (repeat (first | refine Ent.cons ?_ | exact Ent.any | exact Ent.last))
              · refine EL_call rfl (Spec.at1 pc (Fill_still (by omega))) ?_
                intro g
                repeat (first | refine go ?_ | (refine goX ?_; intro))
                refine EL_call rfl (Spec.at2 pc g CRun_still) ?_
                intro _
                repeat (first | refine go ?_ | (refine goX ?_; intro))
                refine EL_call rfl (Spec.at1 pc (Pop_spec (by omega))) ?_
                intro _
                unfold topV
                rw [decide_eq_true (show 0 < l.length by omega)]
                obtain ⟨d, hd⟩ : ∃ d, l.length = d + 1 := ⟨l.length - 1, by omega⟩
                rw [show l.length - 1 = d by omega]
                repeat (first | refine go ?_ | (refine goX ?_; intro))
                rw [show ((l.length : Int) - 1) = (d : Int) by omega]
                repeat (first | refine go ?_ | (refine goX ?_; intro))
                refine EK_sink 99 (RowC 3 1 q1.1 l.length q1.2 (natsR .i64 l) * 1) rfl rfl rfl ?_
                repeat (first | refine goQ ?_ | refine EG_done (by decide +kernel) ?_)
                rw [show ((l.length : Int) - 1) = (d : Int) by omega]
                repeat (first | refine goQ ?_ | refine EG_done (by decide +kernel) ?_)
                repeat (first | refine goG ?_ | (refine goGX ?_; intro) | refine goGL ?_ | refine goGS ?_ | refine goGV ?_ | refine EG_done (by decide +kernel) ?_)
                repeat (first | refine go ?_ | (refine goX ?_; intro))
                rename_i y2 o2
                have htl : (l.take d).length = d := by rw [List.length_take]; omega
                have hP := hI.pop (w := 0) (c := ⟨h, l, .idle⟩) (by decide) rfl rfl (by show 0 < l.length; omega)
                rw [lone_set] at hP
                dsimp only at hP
                rw [show l.length - 1 = d by omega] at hP
                refine EK_meet ⟨ws, h, l.take d, held ++ [l.getD d 0], q1, o2⟩ ⟨hP, by dsimp only; omega⟩ ⟨rfl, rfl, rfl, rfl, by dsimp only; rw [htl]; rfl, by dsimp only; rw [len_snoc]; rfl, rfl, trivial⟩ (Ent.sat ?_)
                unfold StSt; dsimp only
                refine Ent.at pc rfl (Ent.at pp rfl (Ent.rowHi q1.1 d (by omega) (Ent.row q1.1 htl.symm (by simp [natsR]) (Ent.row o2.1 (by rw [len_snoc]) (by simp [natsR]) ?_))))
                first | exact Ent.refl _ | exact Ent.last | (repeat (first | refine Ent.cons ?_ | exact Ent.any | exact Ent.last)))
        intro ⟨ws, h, l, held, q1, q2⟩ ⟨hI, hl⟩
        unfold StSt; dsimp only at hI hl ⊢
        have hlens := hI.lens
        have hwm := hI.words.most
        repeat (first | refine go ?_ | (refine goX ?_; intro))
        refine EL_call rfl (All_spec (by omega)) ?_
        intro a
        repeat (first | refine go ?_ | (refine goX ?_; intro))
        refine EL_call rfl (Spec.at2 a.1 q1.1 (Alike_spec a.1 q1.1 a.2 q1.2 l l l.length l.length rfl rfl (by omega))) ?_
        intro _
        rw [decide_eq_true rfl]
        repeat (first | refine go ?_ | (refine goX ?_; intro))
        refine EL_call rfl (Spec.at1 pp (Free_spec hI.words)) ?_
        intro b
        repeat (first | refine go ?_ | (refine goX ?_; intro))
        refine EL_call rfl (Spec.at1 pc Leaving_none) ?_
        intro _
        repeat (first | refine go ?_ | (refine goX ?_; intro))
        refine EK_round (i + 1, ⟨ws, h, l, held, q1, q2⟩) ⟨by dsimp only; omega, by dsimp only; omega, hI, hl⟩ (by dsimp only; omega) ⟨rfl, rfl, rfl, rfl, rfl, rfl, rfl, trivial⟩ (Ent.sat ?_)
        dsimp only
        first | exact Ent.refl _ | exact Ent.last | (repeat (first | refine Ent.cons ?_ | exact Ent.any | exact Ent.last))
      · repeat (first | refine go ?_ | (refine goX ?_; intro))
        exact EK_meet ⟨ws, h, l, held, q1, q2⟩ ⟨hI, hl⟩ ⟨rfl, rfl, rfl, rfl, trivial⟩ (Ent.sat (Ent.refl _))
    · repeat (first | refine go ?_ | (refine goX ?_; intro))
      exact EK_meet ⟨ws, h, l, held, q1, q2⟩ ⟨hI, hl⟩ ⟨rfl, rfl, rfl, rfl, trivial⟩ (Ent.sat (Ent.refl _))
  intro ⟨ws, h, l, held, q1, q2⟩ ⟨hI, hl⟩
  unfold StSt; dsimp only at hI hl ⊢
  repeat (first | refine go ?_ | (refine goX ?_; intro))
  have hwm := hI.words.most
  refine EL_call rfl (Spec.pre (Flush_spec (by omega) (by omega) (n := r) (ws := ws) (pp := pp) (pc := pc) (h := h) (l := l) (F := RowC 3 1 q1.1 l.length q1.2 (natsR .i64 l) * (RowC 3 1 q2.1 held.length q2.2 (natsR .i64 held) * F))) (by first | exact Ent.refl _ | exact Ent.last | (repeat (first | refine Ent.cons ?_ | exact Ent.any | exact Ent.last)))) ?_
  intro g
  have hJ := hI.leave (w := 0) (c := ⟨h, l, .idle⟩) (out' := held) (by decide) rfl rfl l [] (by omega) (by simp) (fun x => by simp)
  rw [lone_set] at hJ
  have hJr := (hJ.each 0 (by decide)).run
  have hend : 0 < (runS 299 1 ws (backNew r (l.map fun (x : Nat) => (x : Int)))).2 := by
    have h1 := backParts_len r (l.map fun (x : Nat) => (x : Int))
    rw [List.length_map] at h1
    exact back_ends _ 299 1 ws _ rfl rfl rfl rfl (by show 2 * (backParts r (l.map fun (x : Nat) => (x : Int))).length + 2 ≤ 299; omega) (by omega)
  have hK := OnceI.runBack 299 1 h ws [] _ hJ hend (by omega)
  have hlens := hK.lens
  repeat (first | refine go ?_ | (refine goX ?_; intro))
  refine EL_call rfl (Spec.pre (CRun_back hT hI.words hJr.1 hend (n := r) (pp := pp) (pc := pc) (ps := g.1) (h := h) (l := []) (qo := g.2) (sp := g.2) (F := RowC 3 1 q1.1 l.length q1.2 (natsR .i64 l) * (RowC 3 1 q2.1 held.length q2.2 (natsR .i64 held) * F))) (by first | exact Ent.refl _ | exact Ent.last | (repeat (first | refine Ent.cons ?_ | exact Ent.any | exact Ent.last)))) ?_
  intro _
  generalize runS 299 1 ws (backNew r (l.map fun (x : Nat) => (x : Int))) = D at *
  repeat (first | refine go ?_ | (refine goX ?_; intro))
  refine EL_call rfl (Spec.at1 pc (All_spec (by simp))) ?_
  intro a
  rw [List.length_nil] at hlens ⊢
  repeat (first | refine go ?_ | (refine goX ?_; intro))
  refine EL_call rfl (Spec.at1 pp (Free_spec hK.words)) ?_
  intro b
  repeat (first | refine go ?_ | (refine goX ?_; intro))
  exact EK_ret (ER_1 rfl rfl () rfl (Ent.sat Ent.last))
end Go.Proofs.YtdmmahhnfnefoaaDoor
