/-
  PoolOwns: the walk.
-/
import Derived.Test.YtdmmahhnfnefoaaDoorPpX
namespace Go.Proofs.YtdmmahhnfnefoaaDoor
open Go.RowKit
set_option maxRecDepth 10000
attribute [local irreducible] EK EX ER EN EL ES EG OpVal OpDoes OpSkip
variable {W : World} {F : SL} {X : Cx} {k : List KI} {σ : Env} {p sp : Option Addr} {n m : Nat} {ws o : List Nat} {s : PStep} {ss : List (Option PStep)} {bs : List Bool}

structure OwnG where
  i : Nat
  ws : List Nat
  o : List Nat
  ps : List (Option Addr)
  ss : List (Option PStep)
  bs : List Bool
theorem EK_nonnil {H : SL} {q : Option Addr} [n : NN H q] (h : q ≠ none → EK X k σ H) : EK X k σ H := by
  unfold EK at h ⊢
  exact fun a w ha hs => h (n.nn _ w hs) a w ha hs
def OwnSt (p9 p10 pp po : Option Addr) (r : Nat) (g : OwnG) (F : SL) : SL := StAll g.ps g.ss * (PoolC pp r g.ws * (RowC 3 1 po r r (natsR .i64 g.o) * (Obj p9 47 (ptrR g.ps) * (Obj p10 48 (boolR g.bs) * F))))
theorem StAll.start : Ent F (StAll (List.replicate 4 none) (List.replicate 4 none) * F) := by
  unfold StAll
  exact Ent.assoc (Ent.pure rfl (Ent.assoc (Ent.pure rfl (Ent.assoc (Ent.pure rfl (Ent.pure rfl (Ent.refl _)))))))
theorem Owns_walk (hT : Tab W) (p : Option Addr) (n c : Nat) (f : Nat → ActN) [Ro W p n (actsR n f)] (hf : ∀ i, i < n → Ro W (f i).p (f i).l.length (intsR .i64 (f i).l)) (z : Int) :
    Spec Tryd.prog 4 [.int .i64 z, .slice p n c] W F (fun _ : Unit => .bool true) (fun _ => F) := by
  refine Spec.of Tryd.func4 rfl Tryd.ntmps4 rfl ?_
  have hz0 : 0 ≤ IntKind.u64.wrap z := by rw [IntKind.wrap_u64]; omega
  repeat (first | refine go ?_ | (refine goX ?_; intro))
  obtain ⟨r, hr, er⟩ : ∃ r : Nat, (1 ≤ r ∧ r ≤ 100) ∧ 1 + IntKind.u64.wrap z % 100 = (r : Int) := ⟨(1 + IntKind.u64.wrap z % 100).toNat, by omega, by omega⟩
  rw [er]
  refine EL_call rfl (New_spec (n := r) (by omega) (by omega)) ?_
  intro pp
  repeat (first | refine go ?_ | (refine goX ?_; intro))
  refine EL_call rfl (takes_spec hT) ?_
  intro _
  repeat (first | refine go ?_ | (refine goX ?_; intro))
  rename_i po p9 p10
  refine EK_loop (γ := OwnG) (fun g => g.i ≤ n ∧ g.ps.length = 4 ∧ OwnI r ((r + 31) / 32) g.ws g.o g.ss g.bs) (fun g => [(1, .slice p n c), (5, .int .i64 (r : Int)), (6, .pointer pp), (8, .slice po r r), (9, .pointer p9), (10, .pointer p10), (11, .int .i64 (g.i : Int))])
    (fun g => OwnSt p9 p10 pp po r g F) (fun g => n - g.i) ⟨0, newWords r, List.replicate r 0, List.replicate 4 none, List.replicate 4 none, List.replicate 4 false⟩ ⟨Nat.zero_le _, rfl, OwnI.new (by omega) (by omega)⟩ ⟨rfl, rfl, rfl, rfl, rfl, rfl, rfl, trivial⟩ (Ent.sat ?_) ?_
  · unfold OwnSt
    refine Ent.trans ?_ StAll.start
    refine Ent.at pp rfl (Ent.row po rfl ?_ (Ent.obj p9 rfl (Ent.obj p10 rfl (Ent.refl _))))
    rw [reps_one]; simp [natsR]
  intro ⟨i, ws, o, ps, ss, bs⟩ ⟨hi, hps, hI⟩; dsimp only at hi hps hI ⊢
  have hbs := hI.bsl
  have hol := hI.len
  unfold OwnSt; dsimp only
  haveI : Pos (ptrR ps).length := ⟨by simp [ptrR]; omega⟩
  by_cases hin : i < n
  · by_cases hi2 : i < 200
    · have hz1 : 0 ≤ IntKind.u64.wrap ((f i).z 1) := by rw [IntKind.wrap_u64]; omega
      obtain ⟨w, hw, ew⟩ : ∃ w : Nat, w < 4 ∧ IntKind.u64.wrap ((f i).z 1) % 4 = (w : Int) := ⟨(IntKind.u64.wrap ((f i).z 1) % 4).toNat, by omega, by omega⟩
      rw [StAll.at ps ss hw, SL.sep_assoc]
      unfold sA
      cases hs : ss.getD w none with
      | none =>
        refine EK_pure fun hp => ?_
        have hz2 : 0 ≤ IntKind.u64.wrap ((f i).z 0) := by rw [IntKind.wrap_u64]; omega
        repeat (first | refine go ?_ | (refine goX ?_; intro))
        rename_i px
        rw [ew]
        repeat (first | refine go ?_ | (refine goX ?_; intro))
        rw [show 0 + w * 1 = w by omega, decide_eq_true hp]
        repeat (first | refine go ?_ | (refine goX ?_; intro))
        rw [show 0 + w * 1 = w by omega]
        cases hb : decide (IntKind.u64.wrap ((f i).z 0) % 3 = 0) with
        | false =>
          have hb1 : (bs.set w false).length = 4 := by simp [hbs]
          repeat (first | refine go ?_ | (refine goX ?_; intro))
          rw [show (bs.set w false).getD (0 + w * 1) false = false by rw [show 0 + w * 1 = w by omega, getD_setO _ _ _ _ _ (by omega), if_pos rfl]]
          repeat (first | refine go ?_ | (refine goX ?_; intro))
          refine EL_call rfl (Spec.at1 pp (Take_spec ((f i).z 2) ((f i).z 3) hI.words)) ?_
          intro g
          repeat (first | refine go ?_ | (refine goX ?_; intro))
          rw [show 0 + w * 1 = w by omega]
          refine EK_round ⟨i + 1, ws, o, ps.set w g, ss.set w (some (takeNew ((f i).z 2) ((f i).z 3) ((r + 31) / 32))), bs.set w false⟩ ⟨by dsimp only; omega, by dsimp only; simp [hps], ?_⟩ (by dsimp only; omega) ⟨rfl, rfl, rfl, rfl, rfl, rfl, rfl, trivial⟩ (Ent.sat ?_)
          · exact hI.begin hw false (StepI.take _ _ (by omega))
          · dsimp only
            rw [StAll.set ps ss hw hps hI.ssl, SL.sep_assoc]
            refine Ent.at g rfl ?_
            first | exact Ent.refl _ | exact Ent.last | (repeat (first | refine Ent.cons ?_ | exact Ent.any | exact Ent.last))
        | true =>
          have hb1 : (bs.set w true).length = 4 := by simp [hbs]
          repeat (first | refine go ?_ | (refine goX ?_; intro))
          rw [show (bs.set w true).getD (0 + w * 1) false = true by rw [show 0 + w * 1 = w by omega, getD_setO _ _ _ _ _ (by omega), if_pos rfl]]
          repeat (first | refine go ?_ | (refine goX ?_; intro))
          haveI := hf i hin
          refine EK_loop (γ := Nat × Slab) (fun g => g.1 ≤ (f i).l.length ∧ g.1 ≤ 40) (fun g => [(1, .slice p n c), (5, .int .i64 (r : Int)), (6, .pointer pp), (8, .slice po r r), (9, .pointer p9), (10, .pointer p10), (11, .int .i64 (i : Int)), (12, .pointer px), (13, .int .i64 (w : Int)), (14, .slice g.2.1 (ownL o r (w + 1) ((f i).l.take g.1)).length g.2.2), (15, .int .i64 (g.1 : Int))])
            (fun g => RowC 3 1 g.2.1 (ownL o r (w + 1) ((f i).l.take g.1)).length g.2.2 (intsR .i64 (ownL o r (w + 1) ((f i).l.take g.1))) * (Obj p10 48 (boolR (bs.set w true)) * (Obj px 50 [.int .i64 ((f i).z 0), .int .i64 ((f i).z 1), .int .i64 ((f i).z 2), .int .i64 ((f i).z 3), .slice (f i).p (f i).l.length (f i).c] *
              (StRest w ps ss * (PoolC pp r ws * (RowC 3 1 po r r (natsR .i64 o) * (Obj p9 47 (ptrR ps) * F)))))))
            (fun g => (f i).l.length - g.1) (0, (none, 0)) ⟨Nat.zero_le _, Nat.zero_le _⟩ ⟨rfl, rfl, rfl, rfl, rfl, rfl, rfl, rfl, rfl, rfl, rfl, trivial⟩ (Ent.sat (Ent.none (Ent.refl _))) ?_
          intro ⟨j, q⟩ ⟨hj1, hj2⟩; dsimp only at hj1 hj2 ⊢
          have hll : (ownL o r (w + 1) ((f i).l.take j)).length ≤ 40 := by
            have := List.length_filter_le (fun (x : Int) => decide (0 ≤ x) && decide (x < (r : Int)) && decide (o.getD x.toNat 0 = w + 1)) ((f i).l.take j)
            rw [List.length_take] at this
            unfold ownL; omega
          by_cases hjl : j < (f i).l.length
          · by_cases hj4 : j < 40
            · have hsn := ownL_succ o r (w + 1) (f i).l hjl
              have hrow : ∀ (_ : ¬ (0 ≤ (f i).l.getD j 0 ∧ (f i).l.getD j 0 < r ∧ o.getD ((f i).l.getD j 0).toNat 0 = w + 1)), ownL o r (w + 1) ((f i).l.take (j + 1)) = ownL o r (w + 1) ((f i).l.take j) := fun h => by
                rw [hsn, if_neg h, List.append_nil]
              by_cases h1 : 0 ≤ (f i).l.getD j 0
              · by_cases h2 : (f i).l.getD j 0 < r
                · obtain ⟨y, hy⟩ := Int.eq_ofNat_of_zero_le h1
                  have hyr : y < o.length := by omega
                  have hyo : ((f i).l.getD j 0).toNat = y := by omega
                  by_cases h3 : o.getD y 0 = w + 1
                  · repeat (first | refine go ?_ | (refine goX ?_; intro))
                    rw [hy]
                    repeat (first | refine go ?_ | (refine goX ?_; intro))
                    rename_i u2 q2
                    have hrow2 : ownL o r (w + 1) ((f i).l.take (j + 1)) = ownL o r (w + 1) ((f i).l.take j) ++ [(y : Int)] := by
                      rw [hsn, if_pos ⟨h1, h2, by rw [hyo]; exact h3⟩, hy]
                    refine EK_round (j + 1, q2) ⟨by dsimp only; omega, by dsimp only; omega⟩ (by dsimp only; omega) ⟨rfl, rfl, rfl, rfl, rfl, rfl, rfl, rfl, rfl, ?_, rfl, trivial⟩ (Ent.sat (Ent.row q2.1 ?_ ?_ (Ent.refl _)))
                    · dsimp only; rw [hrow2, len_snoc]; rfl
                    · dsimp only; rw [hrow2, len_snoc]
                    · dsimp only; rw [hrow2]; simp [intsR]
                  · repeat (first | refine go ?_ | (refine goX ?_; intro))
                    rw [hy]
                    repeat (first | refine go ?_ | (refine goX ?_; intro))
                    have h3' := hrow (fun h => h3 (by rw [← hyo]; exact h.2.2))
                    refine EK_round (j + 1, q) ⟨by dsimp only; omega, by dsimp only; omega⟩ (by dsimp only; omega) ⟨rfl, rfl, rfl, rfl, rfl, rfl, rfl, rfl, rfl, ?_, rfl, trivial⟩ (Ent.sat (Ent.row q.1 ?_ ?_ (Ent.refl _)))
                    · dsimp only; rw [h3']; rfl
                    · dsimp only; rw [h3']
                    · dsimp only; rw [h3']
                · repeat (first | refine go ?_ | (refine goX ?_; intro))
                  refine EK_round (j + 1, q) ⟨by dsimp only; omega, by dsimp only; omega⟩ (by dsimp only; omega) ⟨rfl, rfl, rfl, rfl, rfl, rfl, rfl, rfl, rfl, ?_, rfl, trivial⟩ (Ent.sat (Ent.row q.1 ?_ ?_ (Ent.refl _)))
                  · dsimp only; rw [hrow (fun h => h2 h.2.1)]; rfl
                  · dsimp only; rw [hrow (fun h => h2 h.2.1)]
                  · dsimp only; rw [hrow (fun h => h2 h.2.1)]
              · repeat (first | refine go ?_ | (refine goX ?_; intro))
                refine EK_round (j + 1, q) ⟨by dsimp only; omega, by dsimp only; omega⟩ (by dsimp only; omega) ⟨rfl, rfl, rfl, rfl, rfl, rfl, rfl, rfl, rfl, ?_, rfl, trivial⟩ (Ent.sat (Ent.row q.1 ?_ ?_ (Ent.refl _)))
                · dsimp only; rw [hrow (fun h => h1 h.1)]; rfl
                · dsimp only; rw [hrow (fun h => h1 h.1)]
                · dsimp only; rw [hrow (fun h => h1 h.1)]
            · repeat (first | refine go ?_ | (refine goX ?_; intro))
              refine EL_call rfl (Spec.at2 pp q.1 (Back_spec q.1 _ q.2 (ownL o r (w + 1) ((f i).l.take j)) rfl (by omega) (by omega))) ?_
              intro g
              repeat (first | refine go ?_ | (refine goX ?_; intro))
              rw [show 0 + w * 1 = w by omega]
              refine EK_round ⟨i + 1, ws, o, ps.set w g, ss.set w (some (backNew r (ownL o r (w + 1) ((f i).l.take j)))), bs.set w true⟩ ⟨by dsimp only; omega, by dsimp only; simp [hps], ?_⟩ (by dsimp only; omega) ⟨rfl, rfl, rfl, rfl, rfl, rfl, rfl, trivial⟩ (Ent.sat ?_)
              · exact hI.begin hw true (StepI.back (by omega) (by rw [List.length_take]; omega))
              · dsimp only
                rw [StAll.set ps ss hw hps hI.ssl, SL.sep_assoc]
                refine Ent.at g rfl ?_
                first | exact Ent.refl _ | exact Ent.last | (repeat (first | refine Ent.cons ?_ | exact Ent.any | exact Ent.last))
          · repeat (first | refine go ?_ | (refine goX ?_; intro))
            refine EL_call rfl (Spec.at2 pp q.1 (Back_spec q.1 _ q.2 (ownL o r (w + 1) ((f i).l.take j)) rfl (by omega) (by omega))) ?_
            intro g
            repeat (first | refine go ?_ | (refine goX ?_; intro))
            rw [show 0 + w * 1 = w by omega]
            refine EK_round ⟨i + 1, ws, o, ps.set w g, ss.set w (some (backNew r (ownL o r (w + 1) ((f i).l.take j)))), bs.set w true⟩ ⟨by dsimp only; omega, by dsimp only; simp [hps], ?_⟩ (by dsimp only; omega) ⟨rfl, rfl, rfl, rfl, rfl, rfl, rfl, trivial⟩ (Ent.sat ?_)
            · exact hI.begin hw true (StepI.back (by omega) (by rw [List.length_take]; omega))
            · dsimp only
              rw [StAll.set ps ss hw hps hI.ssl, SL.sep_assoc]
              refine Ent.at g rfl ?_
              first | exact Ent.refl _ | exact Ent.last | (repeat (first | refine Ent.cons ?_ | exact Ent.any | exact Ent.last))
      | some s =>
        dsimp only [StA]
        refine EK_nonnil (q := ps.getD w none) fun hp => ?_
        repeat (first | refine go ?_ | (refine goX ?_; intro))
        rename_i px
        rw [ew]
        repeat (first | refine go ?_ | (refine goX ?_; intro))
        rw [show 0 + w * 1 = w by omega, decide_eq_false hp]
        repeat (first | refine go ?_ | (refine goX ?_; intro))
        rw [show 0 + w * 1 = w by omega]
        have hS := hI.step w s hw hs
        have hpts := hS.ok.parts
        obtain ⟨hw2, hs2⟩ := doS_ok hI.words hS.ok
        obtain ⟨d1, d2, d3, d4, d5, d6⟩ := hI.does hw hs
        have hm32 := hI.words.most
        have hpts2 := hs2.parts
        have hL1 := leftS_small hS.plen
        have hL2 := leftS_small d4
        refine EL_call rfl (Spec.at1 (ps.getD w none) (Left_spec2 (by have := hS.plen; omega) (fun x hx => by have := hpts x hx; omega))) ?_
        intro g1
        repeat (first | refine go ?_ | (refine goX ?_; intro))
        rw [show 0 + w * 1 = w by omega]
        refine EL_call rfl (Spec.at2 pp (ps.getD w none) (Do_spec hT hI.words hS.ok)) ?_
        intro _
        generalize doS ws s = D at *
        repeat (first | refine go ?_ | (refine goX ?_; intro))
        rw [show 0 + w * 1 = w by omega]
        refine EL_call rfl (Spec.at1 (ps.getD w none) (Left_spec2 (by omega) (fun x hx => by have := hpts2 x hx; omega))) ?_
        intro g2
        repeat (first | refine go ?_ | (refine goX ?_; intro))
        refine EK_exits (γ := Unit) (fun _ => True) (fun _ => [(1, .slice p n c), (5, .int .i64 (r : Int)), (6, .pointer pp), (8, .slice po r r), (9, .pointer p9), (10, .pointer p10), (11, .int .i64 (i : Int)), (13, .int .i64 (w : Int)), (18, .bool D.2.done)]) (fun _ => StepC (ps.getD w none) D.2 * (PoolC pp r D.1 * (StRest w ps ss * (RowC 3 1 po r r (natsR .i64 (ownNext w (bs.getD w false) s D.2 o)) * (Obj p9 47 (ptrR ps) * (Obj p10 48 (boolR bs) * F)))))) ?_ ?_
        · refine EK_loop (γ := Nat) (fun j => j ≤ (leftS s.parts).length ∧ (bs.getD w false = false → j = 0)) (fun j => [(1, .slice p n c), (5, .int .i64 (r : Int)), (6, .pointer pp), (8, .slice po r r), (9, .pointer p9), (10, .pointer p10), (11, .int .i64 (i : Int)), (13, .int .i64 (w : Int)), (17, .slice g1.1 (leftS s.parts).length g1.2), (18, .bool D.2.done), (19, .slice g2.1 (leftS D.2.parts).length g2.2), (20, .int .i64 (j : Int))])
            (fun j => RowC 3 1 g2.1 (leftS D.2.parts).length g2.2 (natsR .i64 (leftS D.2.parts)) * (StepC (ps.getD w none) D.2 * (PoolC pp r D.1 * (RowC 3 1 g1.1 (leftS s.parts).length g1.2 (natsR .i64 (leftS s.parts)) * (StRest w ps ss * (RowC 3 1 po r r (natsR .i64 (ownBack ((leftS s.parts).take j) (leftS D.2.parts) o)) * (Obj p9 47 (ptrR ps) * (Obj p10 48 (boolR bs) * F)))))))) (fun j => (leftS s.parts).length - j) 0 ⟨Nat.zero_le _, fun _ => rfl⟩ ⟨rfl, rfl, rfl, rfl, rfl, rfl, rfl, rfl, rfl, rfl, rfl, rfl, trivial⟩ (Ent.sat ?_) ?_
          · refine Ent.row g2.1 rfl rfl (Ent.at (ps.getD w none) rfl (Ent.at pp rfl (Ent.row g1.1 rfl rfl (Ent.trans Ent.drop ?_))))
            rw [List.take_zero, show ownBack [] (leftS D.2.parts) o = o from rfl]
            exact Ent.refl _
          intro j ⟨hj, hj0⟩; dsimp only at hj hj0 ⊢
          have hol2 := ownBack_len ((leftS s.parts).take j) (leftS D.2.parts) o
          by_cases hjl : j < (leftS s.parts).length
          · cases hbw : bs.getD w false with
            | false =>
              repeat (first | refine go ?_ | (refine goX ?_; intro))
              rw [show 0 + w * 1 = w by omega, hbw]
              repeat (first | refine go ?_ | (refine goX ?_; intro))
              have e0 : ownBack ((leftS s.parts).take j) (leftS D.2.parts) o = ownNext w false s D.2 o := by rw [hj0 hbw]; rfl
              rw [e0]
              exact EK_meet () trivial ⟨rfl, rfl, rfl, rfl, rfl, rfl, rfl, rfl, rfl, trivial⟩ (Ent.sat (by first | exact Ent.refl _ | exact Ent.last | (repeat (first | refine Ent.cons ?_ | exact Ent.any | exact Ent.last))))
            | true =>
              repeat (first | refine go ?_ | (refine goX ?_; intro))
              rw [show 0 + w * 1 = w by omega, hbw]
              repeat (first | refine go ?_ | (refine goX ?_; intro))
              refine EK_loop (γ := Nat) (fun m => m ≤ (leftS D.2.parts).length) (fun m => [(1, .slice p n c), (5, .int .i64 (r : Int)), (6, .pointer pp), (8, .slice po r r), (9, .pointer p9), (10, .pointer p10), (11, .int .i64 (i : Int)), (13, .int .i64 (w : Int)), (17, .slice g1.1 (leftS s.parts).length g1.2), (18, .bool D.2.done), (19, .slice g2.1 (leftS D.2.parts).length g2.2), (20, .int .i64 (j : Int)), (21, .bool (decide ((leftS s.parts).getD j 0 ∉ (leftS D.2.parts).take m))), (22, .int .i64 (m : Int))])
                (fun _ => RowC 3 1 g2.1 (leftS D.2.parts).length g2.2 (natsR .i64 (leftS D.2.parts)) * (StepC (ps.getD w none) D.2 * (PoolC pp r D.1 * (RowC 3 1 g1.1 (leftS s.parts).length g1.2 (natsR .i64 (leftS s.parts)) * (StRest w ps ss * (RowC 3 1 po r r (natsR .i64 (ownBack ((leftS s.parts).take j) (leftS D.2.parts) o)) * (Obj p9 47 (ptrR ps) * (Obj p10 48 (boolR bs) * F)))))))) (fun m => (leftS D.2.parts).length - m) 0 (Nat.zero_le _) ⟨rfl, rfl, rfl, rfl, rfl, rfl, rfl, rfl, rfl, rfl, rfl, rfl, by simp; rfl, rfl, trivial⟩ (Ent.sat (Ent.refl _)) ?_
              intro m hm; dsimp only at hm ⊢
              by_cases hml : m < (leftS D.2.parts).length
              · have hgs := gone_succ ((leftS s.parts).getD j 0) (leftS D.2.parts) hml
                cases hg : decide ((leftS s.parts).getD j 0 ∉ (leftS D.2.parts).take m) with
                | true =>
                  rw [hg, Bool.true_and] at hgs
                  repeat (first | refine go ?_ | (refine goX ?_; intro))
                  refine EK_sink 99 (RowC 3 1 g2.1 (leftS D.2.parts).length g2.2 (natsR .i64 (leftS D.2.parts)) * (RowC 3 1 g1.1 (leftS s.parts).length g1.2 (natsR .i64 (leftS s.parts)) * 1)) rfl rfl rfl ?_
                  repeat (first | refine goQ ?_ | refine EG_done (by decide +kernel) ?_)
                  repeat (first | refine go ?_ | (refine goX ?_; intro))
                  refine EK_round (m + 1) (by omega) (by omega) ⟨rfl, rfl, rfl, rfl, rfl, rfl, rfl, rfl, rfl, rfl, rfl, rfl, ?_, rfl, trivial⟩ (Ent.sat (Ent.refl _))
                  rw [hgs]
                  have : decide ((leftS D.2.parts).getD m 0 ≠ (leftS s.parts).getD j 0) = !decide ((((leftS D.2.parts).getD m 0 : Nat) : Int) = (((leftS s.parts).getD j 0 : Nat) : Int)) := by
                    rw [← decide_not]; exact decide_eq_decide.2 (by omega)
                  rw [this]; rfl
                | false =>
                  rw [hg, Bool.false_and] at hgs
                  repeat (first | refine go ?_ | (refine goX ?_; intro))
                  refine EK_sink 99 (RowC 3 1 g2.1 (leftS D.2.parts).length g2.2 (natsR .i64 (leftS D.2.parts)) * (RowC 3 1 g1.1 (leftS s.parts).length g1.2 (natsR .i64 (leftS s.parts)) * 1)) rfl rfl rfl ?_
                  repeat (first | refine goQ ?_ | refine EG_done (by decide +kernel) ?_)
                  repeat (first | refine go ?_ | (refine goX ?_; intro))
                  refine EK_round (m + 1) (by omega) (by omega) ⟨rfl, rfl, rfl, rfl, rfl, rfl, rfl, rfl, rfl, rfl, rfl, rfl, ?_, rfl, trivial⟩ (Ent.sat (Ent.refl _))
                  rw [hgs]; rfl
              · have hbk := d5 ((leftS s.parts).getD j 0) (by rw [List.getD_eq_getElem?_getD, List.getElem?_eq_getElem hjl]; exact List.getElem_mem hjl) hbw
                have hme : m = (leftS D.2.parts).length := by omega
                have hsu := ownBack_succ (leftS s.parts) (leftS D.2.parts) o hjl
                rw [hme, List.take_length]
                by_cases hbm : (leftS s.parts).getD j 0 ∈ leftS D.2.parts
                · rw [if_pos hbm] at hsu
                  rw [decide_eq_false (not_not_intro hbm)]
                  repeat (first | refine go ?_ | (refine goX ?_; intro))
                  refine EK_round (j + 1) ⟨by omega, fun h => by simp [hbw] at h⟩ (by omega) ⟨rfl, rfl, rfl, rfl, rfl, rfl, rfl, rfl, rfl, rfl, rfl, rfl, trivial⟩ (Ent.sat ?_)
                  rw [hsu]
                  first | exact Ent.refl _ | exact Ent.last | (repeat (first | refine Ent.cons ?_ | exact Ent.any | exact Ent.last))
                · rw [if_neg hbm] at hsu
                  rw [decide_eq_true hbm]
                  repeat (first | refine go ?_ | (refine goX ?_; intro))
                  refine EK_round (j + 1) ⟨by omega, fun h => by simp [hbw] at h⟩ (by omega) ⟨rfl, rfl, rfl, rfl, rfl, rfl, rfl, rfl, rfl, rfl, rfl, rfl, trivial⟩ (Ent.sat ?_)
                  rw [hsu]
                  first | exact Ent.refl _ | exact Ent.last | (repeat (first | refine Ent.cons ?_ | exact Ent.any | exact Ent.last))
          · repeat (first | refine go ?_ | (refine goX ?_; intro))
            have e0 : ownBack ((leftS s.parts).take j) (leftS D.2.parts) o = ownNext w (bs.getD w false) s D.2 o := by
              have hje : j = (leftS s.parts).length := by omega
              unfold ownNext
              split
              · rw [hje, List.take_length]
              · rename_i hb
                rw [hj0 (by simpa using hb)]; rfl
            rw [e0]
            exact EK_meet () trivial ⟨rfl, rfl, rfl, rfl, rfl, rfl, rfl, rfl, rfl, trivial⟩ (Ent.sat (by first | exact Ent.refl _ | exact Ent.last | (repeat (first | refine Ent.cons ?_ | exact Ent.any | exact Ent.last))))
        intro _ _
        repeat (first | refine go ?_ | (refine goX ?_; intro))
        refine EK_join (γ := List (Option Addr)) (fun pl => pl.length = 4) (fun _ => [(1, .slice p n c), (5, .int .i64 (r : Int)), (6, .pointer pp), (8, .slice po r r), (9, .pointer p9), (10, .pointer p10), (11, .int .i64 (i : Int))])
          (fun pl => StAll pl (ssNext w D.2 ss) * (PoolC pp r D.1 * (RowC 3 1 po r r (natsR .i64 (ownTake w D.2.ports (ownNext w (bs.getD w false) s D.2 o))) * (Obj p9 47 (ptrR pl) * (Obj p10 48 (boolR bs) * F))))) ?_ ?_
        · cases hdn : D.2.done with
          | false =>
            repeat (first | refine go ?_ | (refine goX ?_; intro))
            refine EK_meet (ps.set w (ps.getD w none)) (by simp [hps]) ⟨rfl, rfl, rfl, rfl, rfl, rfl, rfl, trivial⟩ (Ent.sat ?_)
            unfold ssNext
            rw [StAll.set ps ss hw hps hI.ssl, SL.sep_assoc, hdn, if_neg (by decide), set_self, d3 hdn, show ownTake w [] (ownNext w (bs.getD w false) s D.2 o) = ownNext w (bs.getD w false) s D.2 o from rfl]
            dsimp only [StA]
            first | exact Ent.refl _ | exact Ent.last | (repeat (first | refine Ent.cons ?_ | exact Ent.any | exact Ent.last))
          | true =>
            repeat (first | refine go ?_ | (refine goX ?_; intro))
            rw [show 0 + w * 1 = w by omega]
            refine EL_call rfl (Spec.at1 (ps.getD w none) (Got_spec (ps.getD w none) D.2 (by have := hs2.ports; omega))) ?_
            intro g3
            repeat (first | refine go ?_ | (refine goX ?_; intro))
            have hp32 := hs2.ports
            generalize ho1 : ownNext w (bs.getD w false) s D.2 o = o1 at *
            have hl1 : o1.length = r := by
              have := d6.len
              rw [ownTake_len] at this; exact this
            refine EK_loop (γ := Nat) (fun j => j ≤ D.2.ports.length) (fun j => [(1, .slice p n c), (5, .int .i64 (r : Int)), (6, .pointer pp), (8, .slice po r r), (9, .pointer p9), (10, .pointer p10), (11, .int .i64 (i : Int)), (13, .int .i64 (w : Int)), (23, .slice g3.1 D.2.ports.length g3.2), (24, .int .i64 (j : Int))])
              (fun j => RowC 3 1 g3.1 D.2.ports.length g3.2 (natsR .i64 D.2.ports) * (StepC (ps.getD w none) D.2 * (PoolC pp r D.1 * (StRest w ps ss * (RowC 3 1 po r r (natsR .i64 (ownTake w (D.2.ports.take j) o1)) * (Obj p9 47 (ptrR ps) * (Obj p10 48 (boolR bs) * F))))))) (fun j => D.2.ports.length - j) 0 (Nat.zero_le _) ⟨rfl, rfl, rfl, rfl, rfl, rfl, rfl, rfl, rfl, rfl, trivial⟩ (Ent.sat ?_) ?_
            · rw [List.take_zero, show ownTake w [] o1 = o1 from rfl]; first | exact Ent.refl _ | exact Ent.last | (repeat (first | refine Ent.cons ?_ | exact Ent.any | exact Ent.last))
            intro j hj
            have hot := ownTake_len w (D.2.ports.take j) o1
            by_cases hjl : j < D.2.ports.length
            · obtain ⟨d11, d12⟩ := d1 j hjl
              have hst := ownTake_succ w D.2.ports o1 hjl
              repeat (first | refine go ?_ | (refine goX ?_; intro))
              refine EK_round (j + 1) (by omega) (by omega) ⟨rfl, rfl, rfl, rfl, rfl, rfl, rfl, rfl, rfl, rfl, trivial⟩ (Ent.sat ?_)
              rw [hst]
              first | exact Ent.refl _ | exact Ent.last | (repeat (first | refine Ent.cons ?_ | exact Ent.any | exact Ent.last))
            · have hje : j = D.2.ports.length := by omega
              rw [hje, List.take_length]
              have hfin : ∀ {H : SL}, Ent H (StRest w ps ss * (PoolC pp r D.1 * (RowC 3 1 po r r (natsR .i64 (ownTake w D.2.ports o1)) * (Obj p9 47 (ptrR (ps.set w none)) * (Obj p10 48 (boolR bs) * F))))) →
                  Ent H (StAll (ps.set w none) (ssNext w D.2 ss) * (PoolC pp r D.1 * (RowC 3 1 po r r (natsR .i64 (ownTake w D.2.ports o1)) * (Obj p9 47 (ptrR (ps.set w none)) * (Obj p10 48 (boolR bs) * F))))) := fun h => by
                unfold ssNext
                rw [hdn, if_pos rfl, StAll.set ps ss hw hps hI.ssl, SL.sep_assoc]
                exact h.trans (Ent.pure rfl (Ent.refl _))
              repeat (first | refine go ?_ | (refine goX ?_; intro))
              rw [show 0 + w * 1 = w by omega]
              cases hbw : bs.getD w false with
              | false =>
                repeat (first | refine go ?_ | (refine goX ?_; intro))
                rw [show 0 + w * 1 = w by omega]
                refine EK_meet (ps.set w none) (by simp [hps]) ⟨rfl, rfl, rfl, rfl, rfl, rfl, rfl, trivial⟩ (Ent.sat (hfin ?_))
                first | exact Ent.refl _ | exact Ent.last | (repeat (first | refine Ent.cons ?_ | exact Ent.any | exact Ent.last))
              | true =>
                have hp0 : D.2.ports.length = 0 := by rw [d2 hbw]; rfl
                repeat (first | refine go ?_ | (refine goX ?_; intro))
                rw [show 0 + w * 1 = w by omega]
                refine EK_meet (ps.set w none) (by simp [hps]) ⟨rfl, rfl, rfl, rfl, rfl, rfl, rfl, trivial⟩ (Ent.sat (hfin ?_))
                first | exact Ent.refl _ | exact Ent.last | (repeat (first | refine Ent.cons ?_ | exact Ent.any | exact Ent.last))
        intro pl hpl
        generalize hss : ssNext w D.2 ss = ss2 at *
        generalize ownTake w D.2.ports (ownNext w (bs.getD w false) s D.2 o) = o2 at *
        have hl2 := d6.len
        repeat (first | refine go ?_ | (refine goX ?_; intro))
        refine EL_call rfl (Spec.at1 pp (Free_spec d6.words)) ?_
        intro gf
        repeat (first | refine go ?_ | (refine goX ?_; intro))
        have hft := freeN_tail D.1 (x := r) (c := (r + 31) / 32 * 32) (by omega) (fun y h1 h2 => d6.tail y h1 h2)
        have hfl := freeN_len D.1 r
        rw [hft]
        refine EK_loop (γ := Nat) (fun x => x ≤ r) (fun x => [(1, .slice p n c), (5, .int .i64 (r : Int)), (6, .pointer pp), (8, .slice po r r), (9, .pointer p9), (10, .pointer p10), (11, .int .i64 (i : Int)), (25, .slice gf.1 (freeN D.1 r).length gf.2), (26, .int .i64 ((freeN D.1 x).length : Int)), (27, .int .i64 (x : Int))])
          (fun _ => RowC 3 1 gf.1 (freeN D.1 r).length gf.2 (natsR .i64 (freeN D.1 r)) * (PoolC pp r D.1 * (StAll pl ss2 * (RowC 3 1 po r r (natsR .i64 o2) * (Obj p9 47 (ptrR pl) * (Obj p10 48 (boolR bs) * F)))))) (fun x => r - x) 0 (Nat.zero_le _) ⟨rfl, rfl, rfl, rfl, rfl, rfl, rfl, rfl, rfl, rfl, trivial⟩ (Ent.sat (Ent.refl _)) ?_
        intro x hx
        by_cases hxl : x < r
        · have hfx := d6.free x hxl
          have hfs := freeN_succ D.1 x
          cases hfr : isFree D.1 x with
          | true =>
            have h0 := hfx.2 hfr
            obtain ⟨a1, a2⟩ := freeN_at D.1 hxl hfr
            rw [hfr, if_pos rfl] at hfs
            have hfs2 := congrArg List.length hfs
            rw [len_snoc] at hfs2
            repeat (first | refine go ?_ | (refine goX ?_; intro))
            refine EK_round (x + 1) (by omega) (by omega) ⟨rfl, rfl, rfl, rfl, rfl, rfl, rfl, rfl, ?_, rfl, trivial⟩ (Ent.sat (Ent.refl _))
            rw [hfs2]; rfl
          | false =>
            have h0 : ¬ o2.getD x 0 = 0 := fun e => by have := hfx.1 e; rw [hfr] at this; simp at this
            rw [hfr, if_neg (by decide), List.append_nil] at hfs
            repeat (first | refine go ?_ | (refine goX ?_; intro))
            refine EK_round (x + 1) (by omega) (by omega) ⟨rfl, rfl, rfl, rfl, rfl, rfl, rfl, rfl, ?_, rfl, trivial⟩ (Ent.sat (Ent.refl _))
            rw [hfs]; rfl
        · have hxr : x = r := by omega
          rw [hxr]
          repeat (first | refine go ?_ | (refine goX ?_; intro))
          refine EK_round ⟨i + 1, D.1, o2, pl, ss2, bs⟩ ⟨by dsimp only; omega, hpl, d6⟩ (by dsimp only; omega) ⟨rfl, rfl, rfl, rfl, rfl, rfl, rfl, trivial⟩ (Ent.sat ?_)
          dsimp only
          refine Ent.trans Ent.drop ?_
          first | exact Ent.refl _ | exact Ent.last | (repeat (first | refine Ent.cons ?_ | exact Ent.any | exact Ent.last))
    · repeat (first | refine go ?_ | (refine goX ?_; intro))
      exact EK_ret (ER_1 rfl rfl () rfl (Ent.sat Ent.last))
  · repeat (first | refine go ?_ | (refine goX ?_; intro))
    exact EK_ret (ER_1 rfl rfl () rfl (Ent.sat Ent.last))
end Go.Proofs.YtdmmahhnfnefoaaDoor
