/-
  CacheOwns: the walk.
-/
import Derived.Test.YtdmmahhnfnefoaaDoorCcA
import Derived.Test.YtdmmahhnfnefoaaDoorRe
namespace Go.Proofs.YtdmmahhnfnefoaaDoor
open Go.RowKit
set_option maxRecDepth 10000
attribute [local irreducible] EK EX ER EN EL ES EG OpVal OpDoes OpSkip
variable {W : World} {F : SL} {X : Cx} {k : List KI} {σ : Env} {pp pc sp qo : Option Addr} {n m h : Nat} {ws l : List Nat} {s : PStep} {c : CSt}

theorem Put_big (x : Nat) (hl : 16 ≤ l.length) (hl2 : l.length ≤ 900) (hn : n ≤ 1024) : Spec Tryd.prog 14 [.pointer pc, .int .i64 (x : Int)] W (CacheC pc pp h l none * (PoolC pp n ws * F)) (fun g : Option Addr × Option Addr => .pointer g.1)
    (fun g => CStO g.1 2 g.2 false * (StepC g.2 (backNew n (((l ++ [x]).take 8).map fun (x : Nat) => (x : Int))) * (CacheC pc pp h ((l ++ [x]).drop 8) g.2 * (PoolC pp n ws * F)))) := by
  refine Spec.of Tryd.func14 rfl Tryd.ntmps14 rfl ?_
  refine CacheC.open fun q => ?_
  simp only [CacheO]
  repeat (first | refine go ?_ | (refine goX ?_; intro))
  rename_i y o
  refine EL_call rfl (Spec.pre (leave_spec (W := W) (F := F) (pp := pp) (pc := pc) (h := h) (ws := ws) (l := l ++ [x]) 8 (by simp; omega) (by simp; omega) hn) ?_) ?_
  · refine Ent.trans ?_ (CacheC.shut (q := o))
    exact Ent.obj pc (by rw [len_snoc]) (Ent.row o.1 (by rw [len_snoc]) (by simp [natsR]) (Ent.refl _))
  intro g
  repeat (first | refine go ?_ | (refine goX ?_; intro))
  exact EK_ret (ER_1 rfl rfl g rfl (Ent.sat (Ent.refl _)))
theorem OnceI.new (h1 : 1 ≤ n) (h2 : n ≤ 1024) : OnceI n ((n + 31) / 32) (newWords n) [⟨0, [], .idle⟩, ⟨1, [], .idle⟩, ⟨2, [], .idle⟩] [] where
  words := newWords_ok h1 h2
  nm := by omega
  tail := fun x h3 h4 => (newWords_free h1).2 h3 h4
  csl := rfl
  each := fun i hi => by
    match i, hi with
    | 0, _ => exact ⟨by simp, trivial⟩
    | 1, _ => exact ⟨by simp, trivial⟩
    | 2, _ => exact ⟨by simp, trivial⟩
  tot := fun x => by
    have e : ∀ i, cntC x ⟨i, [], .idle⟩ = 0 := fun i => by rw [cntC_none x rfl]; rfl
    unfold total
    simp only [List.map_cons, List.map_nil, e, List.sum_cons, List.sum_nil, List.count_nil]
    unfold cntF
    rw [Nat.add_zero]
    exact one_iff ⟨fun e => e.1, fun e => ⟨e, (newWords_free h1).1 e⟩⟩
/-! ### The caches at the start -/
def CUp (pp : Option Addr) (pl : List (Option Addr)) : Nat → SL
  | 0 => 1
  | i + 1 => CacheC (pl.getD i none) pp i [] none * CUp pp pl i
theorem CUp_set (pp : Option Addr) (pl : List (Option Addr)) (g : Option Addr) (j : Nat) : ∀ i, i ≤ j → CUp pp (pl.set j g) i = CUp pp pl i
  | 0, _ => rfl
  | i + 1, h => by
    have ih := CUp_set pp pl g j i (by omega)
    unfold CUp
    rw [ih]
    congr 2
    simp only [List.getD_eq_getElem?_getD, List.getElem?_set]
    rw [if_neg (by omega)]
theorem CUp_all (pp : Option Addr) (pl : List (Option Addr)) : Ent (CUp pp pl 3 * F) (CAll pp pl [none, none, none] [⟨0, [], .idle⟩, ⟨1, [], .idle⟩, ⟨2, [], .idle⟩] * F) := by
  unfold CAll CUp CUp CUp CUp
  refine Ent.assoc (Ent.trans ?_ (CA.ent_idle (c := ⟨0, [], .idle⟩) rfl))
  have e : ∀ A B C H : SL, A * (B * (C * 1)) * H = C * (B * (A * H)) := fun A B C H => by
    rw [SL.sep_emp]; ac_rfl
  rw [e]
  refine Ent.cons (Ent.assoc (Ent.trans ?_ (CA.ent_idle (c := ⟨1, [], .idle⟩) rfl)))
  refine Ent.cons (Ent.trans ?_ (CA.ent_idle (c := ⟨2, [], .idle⟩) rfl))
  exact Ent.refl _
structure CG where
  i : Nat
  ws : List Nat
  ps : List (Option Addr)
  cs : List CSt
  out : List Nat
  q : Slab
section
variable {ps : Option Addr}
theorem EK_idle (hr : c.run = .idle) (H : ps = none → EK X k σ (CacheC pc pp c.home c.l none * F)) : EK X k σ (CA pc pp ps c * F) := by
  unfold EK at H ⊢
  exact fun a w ha hs => let ⟨e, hs'⟩ := CA.get_idle hr hs; H e a w ha hs'
theorem EK_still (hr : c.run = .still) (H : EK X k σ (CStO ps 3 none false * (CacheC pc pp c.home c.l none * F))) : EK X k σ (CA pc pp ps c * F) := by
  unfold EK at H ⊢
  exact fun a w ha hs => H a w ha (CA.get_still hr hs)
theorem EK_fill (hr : c.run = .fill s) (H : ∀ q, EK X k σ (CStO ps 0 q false * (StepC q s * (CacheC pc pp c.home c.l none * F)))) : EK X k σ (CA pc pp ps c * F) := by
  unfold EK at H ⊢
  exact fun a w ha hs => let ⟨q, hs'⟩ := CA.get_fill hr hs; H q a w ha hs'
theorem EK_back (hr : c.run = .back s) (H : ∀ q, EK X k σ (CStO ps 2 q false * (StepC q s * (CacheC pc pp c.home c.l q * F)))) : EK X k σ (CA pc pp ps c * F) := by
  unfold EK at H ⊢
  exact fun a w ha hs => let ⟨q, hs'⟩ := CA.get_back hr hs; H q a w ha hs'
theorem EK_nonnil {H : SL} {q : Option Addr} [n : NN H q] (h : q ≠ none → EK X k σ H) : EK X k σ H := by
  unfold EK at h ⊢
  exact fun a w ha hs => h (n.nn _ w hs) a w ha hs
end
def COwnSt (p8 p9 pp : Option Addr) (r : Nat) (pl : List (Option Addr)) (g : CG) (F : SL) : SL := CAll pp pl g.ps g.cs * (PoolC pp r g.ws * (Obj p8 55 (ptrR pl) * (Obj p9 56 (ptrR g.ps) * (RowC 3 1 g.q.1 g.out.length g.q.2 (natsR .i64 g.out) * F))))
theorem COwns_walk (hT : Tab W) (p : Option Addr) (n c : Nat) (f : Nat → Nat → Int) [Ro W p n (tabR 3 n f)] (z : Int) :
    Spec Tryd.prog 5 [.int .i64 z, .slice p n c] W F (fun _ : Unit => .bool true) (fun _ => F) := by
  refine Spec.of Tryd.func5 rfl Tryd.ntmps5 rfl ?_
  have hz0 : 0 ≤ IntKind.u64.wrap z := by rw [IntKind.wrap_u64]; omega
  repeat (first | refine go ?_ | (refine goX ?_; intro))
  obtain ⟨r, hr, er⟩ : ∃ r : Nat, (1 ≤ r ∧ r ≤ 100) ∧ 1 + IntKind.u64.wrap z % 100 = (r : Int) := ⟨(1 + IntKind.u64.wrap z % 100).toNat, by omega, by omega⟩
  rw [er]
  refine EL_call rfl (New_spec (n := r) (by omega) (by omega)) ?_
  intro pp
  repeat (first | refine go ?_ | (refine goX ?_; intro))
  refine EL_call rfl (fills_spec hT) ?_
  intro _
  repeat (first | refine go ?_ | (refine goX ?_; intro))
  rename_i p8 p9
  refine EK_exits (γ := List (Option Addr)) (fun pl => pl.length = 3) (fun _ => [(0, .int .i64 z), (1, .slice p n c), (5, .int .i64 (r : Int)), (6, .pointer pp), (8, .pointer p8), (9, .pointer p9), (10, .slice none 0 0)])
    (fun pl => CUp pp pl 3 * (PoolC pp r (newWords r) * (Obj p8 55 (ptrR pl) * (Obj p9 56 [.pointer none, .pointer none, .pointer none] * F)))) ?_ ?_
  · refine EK_loop (γ := Nat × List (Option Addr)) (fun g => g.1 ≤ 3 ∧ g.2.length = 3) (fun g => [(0, .int .i64 z), (1, .slice p n c), (5, .int .i64 (r : Int)), (6, .pointer pp), (8, .pointer p8), (9, .pointer p9), (10, .slice none 0 0), (11, .int .i64 (g.1 : Int))])
      (fun g => CUp pp g.2 g.1 * (PoolC pp r (newWords r) * (Obj p8 55 (ptrR g.2) * (Obj p9 56 [.pointer none, .pointer none, .pointer none] * F)))) (fun g => 3 - g.1) (0, [none, none, none]) ⟨Nat.zero_le _, rfl⟩ ⟨rfl, rfl, rfl, rfl, rfl, rfl, rfl, rfl, trivial⟩ (Ent.sat ?_) ?_
    · dsimp only [CUp]
      rw [SL.sep_comm 1, SL.sep_emp]
      refine Ent.at pp rfl (Ent.obj p8 rfl (Ent.obj p9 rfl (Ent.refl _)))
    intro ⟨i, pl⟩ ⟨hi, hpl⟩; dsimp only at hi hpl ⊢
    by_cases hi3 : i < 3
    · repeat (first | refine go ?_ | (refine goX ?_; intro))
      refine EL_call rfl (Spec.at1 pp (CaNew_spec i)) ?_
      intro g
      repeat (first | refine go ?_ | (refine goX ?_; intro))
      rw [show 0 + i * 1 = i by omega]
      refine EK_round (i + 1, pl.set i g) ⟨by dsimp only; omega, by simp [hpl]⟩ (by dsimp only; omega) ⟨rfl, rfl, rfl, rfl, rfl, rfl, rfl, rfl, trivial⟩ (Ent.sat ?_)
      dsimp only
      rw [show CUp pp (pl.set i g) (i + 1) = CacheC ((pl.set i g).getD i none) pp i [] none * CUp pp (pl.set i g) i from rfl, CUp_set pp pl g i i (Nat.le_refl _), getD_setO _ _ _ _ _ (by omega), if_pos rfl, SL.sep_assoc]
      first | exact Ent.refl _ | exact Ent.last | (repeat (first | refine Ent.cons ?_ | exact Ent.any | exact Ent.last))
    · have hii : i = 3 := by omega
      subst hii
      repeat (first | refine go ?_ | (refine goX ?_; intro))
      exact EK_meet pl hpl ⟨rfl, rfl, rfl, rfl, rfl, rfl, rfl, trivial⟩ (Ent.sat (Ent.refl _))
  intro pl hpl
  refine EK_ent (CUp_all pp pl) ?_
  repeat (first | refine go ?_ | (refine goX ?_; intro))
  refine EK_loop (γ := CG) (fun g => g.i ≤ n ∧ g.i ≤ 200 ∧ g.ps.length = 3 ∧ OnceI r ((r + 31) / 32) g.ws g.cs g.out ∧ g.out.length ≤ g.i) (fun g => [(0, .int .i64 z), (1, .slice p n c), (5, .int .i64 (r : Int)), (6, .pointer pp), (8, .pointer p8), (9, .pointer p9), (10, .slice g.q.1 g.out.length g.q.2), (12, .int .i64 (g.i : Int))])
    (fun g => COwnSt p8 p9 pp r pl g F) (fun g => n - g.i) ⟨0, newWords r, [none, none, none], [⟨0, [], .idle⟩, ⟨1, [], .idle⟩, ⟨2, [], .idle⟩], [], (none, 0)⟩ ⟨Nat.zero_le _, Nat.zero_le _, rfl, OnceI.new (by omega) (by omega), by simp⟩ ⟨rfl, rfl, rfl, rfl, rfl, rfl, rfl, rfl, trivial⟩ (Ent.sat ?_) ?_
  · unfold COwnSt
    refine Ent.cons (Ent.cons (Ent.cons (Ent.trans ?_ (Ent.of_eq rfl))))
    refine Ent.obj p9 rfl (Ent.none (Ent.refl _))
  intro ⟨i, ws, ps, cs, out, q⟩ ⟨hi, hi2, hps, hI, hol⟩; dsimp only at hi hi2 hps hI hol ⊢
  unfold COwnSt; dsimp only
  by_cases hin : i < n
  · by_cases hi3 : i < 200
    · refine EK_seq ?_
      refine EK_join (γ := Unit) (fun _ => True) (fun _ => [(0, .int .i64 z), (1, .slice p n c), (5, .int .i64 (r : Int)), (6, .pointer pp), (8, .pointer p8), (9, .pointer p9), (10, .slice q.1 out.length q.2), (12, .int .i64 (i : Int))]) (fun _ => CAll pp pl ps cs * (PoolC pp r ws * (Obj p8 55 (ptrR pl) * (Obj p9 56 (ptrR ps) * (RowC 3 1 q.1 out.length q.2 (natsR .i64 out) * F))))) ?_ ?_
      · repeat (first | refine go ?_ | (refine goX ?_; intro))
        exact EK_meet () trivial ⟨rfl, rfl, rfl, rfl, rfl, rfl, rfl, rfl, trivial⟩ (Ent.sat (Ent.refl _))
      intro _ _
      refine EK_seq (EK_block (EK_seq ?_))
      refine EK_join (γ := Option Addr) (fun _ => True) (fun px => [(13, .pointer px), (0, .int .i64 z), (1, .slice p n c), (5, .int .i64 (r : Int)), (6, .pointer pp), (8, .pointer p8), (9, .pointer p9), (10, .slice q.1 out.length q.2), (12, .int .i64 (i : Int))]) (fun px => CAll pp pl ps cs * ((Obj px 39 [.int .i64 (f i 0), .int .i64 (f i 1), .int .i64 (f i 2)]) * (PoolC pp r ws * (Obj p8 55 (ptrR pl) * (Obj p9 56 (ptrR ps) * (RowC 3 1 q.1 out.length q.2 (natsR .i64 out) * F)))))) ?_ ?_
      · repeat (first | refine go ?_ | (refine goX ?_; intro))
        rename_i px
        exact EK_meet px trivial ⟨rfl, rfl, rfl, rfl, rfl, rfl, rfl, rfl, rfl, trivial⟩ (Ent.sat (by first | exact Ent.refl _ | exact Ent.last | (repeat (first | refine Ent.cons ?_ | exact Ent.any | exact Ent.last))))
      intro px _
      refine EK_seq ?_
      have hz1 : 0 ≤ IntKind.u64.wrap (f i 1) := by rw [IntKind.wrap_u64]; omega
      obtain ⟨w, hw, ew⟩ : ∃ w : Nat, w < 3 ∧ IntKind.u64.wrap (f i 1) % 3 = (w : Int) := ⟨(IntKind.u64.wrap (f i 1) % 3).toNat, by omega, by omega⟩
      refine EK_join (γ := Unit) (fun _ => True) (fun _ => [(14, .int .i64 (w : Int)), (13, .pointer px), (0, .int .i64 z), (1, .slice p n c), (5, .int .i64 (r : Int)), (6, .pointer pp), (8, .pointer p8), (9, .pointer p9), (10, .slice q.1 out.length q.2), (12, .int .i64 (i : Int))]) (fun _ => CAll pp pl ps cs * ((Obj px 39 [.int .i64 (f i 0), .int .i64 (f i 1), .int .i64 (f i 2)]) * (PoolC pp r ws * (Obj p8 55 (ptrR pl) * (Obj p9 56 (ptrR ps) * (RowC 3 1 q.1 out.length q.2 (natsR .i64 out) * F)))))) ?_ ?_
      · repeat (first | refine go ?_ | (refine goX ?_; intro))
        rw [ew]
        exact EK_meet () trivial ⟨rfl, rfl, rfl, rfl, rfl, rfl, rfl, rfl, rfl, rfl, trivial⟩ (Ent.sat (Ent.refl _))
      intro _ _
      refine EK_seq ?_
      refine EK_join (γ := CG) (fun g => g.i = i ∧ g.ps.length = 3 ∧ OnceI r ((r + 31) / 32) g.ws g.cs g.out ∧ g.out.length ≤ i + 1) (fun g => [(0, .int .i64 z), (1, .slice p n c), (5, .int .i64 (r : Int)), (6, .pointer pp), (8, .pointer p8), (9, .pointer p9), (10, .slice g.q.1 g.out.length g.q.2), (12, .int .i64 (i : Int))])
        (fun g => COwnSt p8 p9 pp r pl g F) ?_ ?_
      · refine EK_ent (G := cA pp pl ps cs w * (CRest w pp pl ps cs * ((Obj px 39 [.int .i64 (f i 0), .int .i64 (f i 1), .int .i64 (f i 2)]) * (PoolC pp r ws * (Obj p8 55 (ptrR pl) * (Obj p9 56 (ptrR ps) * (RowC 3 1 q.1 out.length q.2 (natsR .i64 out) * F))))))) ?_ ?_
        · rw [← SL.sep_assoc (cA pp pl ps cs w) (CRest w pp pl ps cs), ← CAll.at pp pl ps cs hw]
          exact Ent.refl _
        unfold cA
        have hcI := hI.each w hw
        have hcsl := hI.csl
        generalize hc : cs.getD w cs0 = cc at *
        cases hr : cc.run with
        | still =>
          refine EK_still hr (EK_nonnil (q := ps.getD w none) fun hnn => ?_)
          repeat (first | refine go ?_ | (refine goX ?_; intro))
          rw [show 0 + w * 1 = w by omega]
          rw [decide_eq_false hnn]
          repeat (first | refine go ?_ | (refine goX ?_; intro))
          refine EK_drawnT 6 rfl (by kernel_rfl) rfl rfl ?_
          repeat (refine goS ?_)
          rw [show 0 + w * 1 = w by omega]
          refine EL_call rfl (Spec.at2 (pl.getD w none) (ps.getD w none) Do_still) ?_
          intro _
          repeat (first | refine go ?_ | (refine goX ?_; intro))
          rw [show 0 + w * 1 = w by omega]
          refine EK_meet ⟨i, ws, ps.set w none, cs.set w ⟨cc.home, cc.l, .idle⟩, out, q⟩ ⟨rfl, by simp [hps], ?_, ?_⟩ ⟨rfl, rfl, rfl, rfl, rfl, rfl, rfl, rfl, trivial⟩ (Ent.sat ?_)
          · exact hI.quiet hw hc (by rw [hr]; rfl) .idle rfl ⟨hcI.len, trivial⟩
          · dsimp only; (try simp only [List.length_append, List.length_cons, List.length_nil, without, List.length_take, List.length_drop]); omega
          · unfold COwnSt; dsimp only
            rw [CAll.set pp pl ps cs hw hps hcsl, SL.sep_assoc]
            refine Ent.trans ?_ (CA.ent_idle (c := ⟨cc.home, cc.l, .idle⟩) rfl)
            first | exact Ent.refl _ | exact Ent.last | (repeat (first | refine Ent.cons ?_ | exact Ent.any | exact Ent.last))
        | idle =>
          refine EK_idle hr fun hnn => ?_
          repeat (first | refine go ?_ | (refine goX ?_; intro))
          rw [show 0 + w * 1 = w by omega, hnn, show (!decide ((none : Option Addr) = none)) = false from rfl]
          have hcl := hcI.len
          by_cases t01 : (f i 0).tmod 5 = 0 ∨ (f i 0).tmod 5 = 1
          · rcases t01 with e0 | e0 <;> (
              repeat (first | refine go ?_ | (refine goX ?_; intro))
              rw [show 0 + w * 1 = w by omega]
              by_cases hl0 : cc.l.length = 0
              · have hl : cc.l = [] := List.eq_nil_of_length_eq_zero hl0
                rw [hl]
                refine EL_call rfl (Spec.pre (Fill_take hI.words (n := r) (pp := pp) (pc := pl.getD w none) (h := cc.home) (F := CRest w pp pl ps cs * (Obj p8 55 (ptrR pl) * (Obj p9 56 (ptrR ps) * (RowC 3 1 q.1 out.length q.2 (natsR .i64 out) * F))))) ?_) ?_
                · first | exact Ent.refl _ | exact Ent.last | (repeat (first | refine Ent.cons ?_ | exact Ent.any | exact Ent.last))
                intro g
                repeat (first | refine go ?_ | (refine goX ?_; intro))
                rw [show 0 + w * 1 = w by omega]
                refine EK_meet ⟨i, ws, ps.set w g.1, cs.set w ⟨cc.home, cc.l, .fill (takeNew (cc.home : Int) 8 ((r + 31) / 32))⟩, out, q⟩ ⟨rfl, by simp [hps], ?_, ?_⟩ ⟨rfl, rfl, rfl, rfl, rfl, rfl, rfl, rfl, trivial⟩ (Ent.sat ?_)
                · exact hI.quiet hw hc (by rw [hr]; rfl) _ rfl ⟨hcl, hl, takeNew_ok _ _ (by omega), rfl, rfl, rfl⟩
                · dsimp only; (try simp only [List.length_append, List.length_cons, List.length_nil, without, List.length_take, List.length_drop]); omega
                · unfold COwnSt; dsimp only
                  rw [CAll.set pp pl ps cs hw hps hcsl, SL.sep_assoc]
                  refine Ent.trans ?_ (CA.ent_fill (q := g.2) (c := ⟨cc.home, cc.l, .fill (takeNew (cc.home : Int) 8 ((r + 31) / 32))⟩) rfl)
                  rw [hl]; first | exact Ent.refl _ | exact Ent.last | (repeat (first | refine Ent.cons ?_ | exact Ent.any | exact Ent.last))
              · refine EL_call rfl (Spec.at1 (pl.getD w none) (Fill_still (by omega))) ?_
                intro g
                repeat (first | refine go ?_ | (refine goX ?_; intro))
                rw [show 0 + w * 1 = w by omega]
                refine EK_meet ⟨i, ws, ps.set w g, cs.set w ⟨cc.home, cc.l, .still⟩, out, q⟩ ⟨rfl, by simp [hps], ?_, ?_⟩ ⟨rfl, rfl, rfl, rfl, rfl, rfl, rfl, rfl, trivial⟩ (Ent.sat ?_)
                · exact hI.quiet hw hc (by rw [hr]; rfl) .still rfl ⟨hcl, trivial⟩
                · dsimp only; (try simp only [List.length_append, List.length_cons, List.length_nil, without, List.length_take, List.length_drop]); omega
                · unfold COwnSt; dsimp only
                  rw [CAll.set pp pl ps cs hw hps hcsl, SL.sep_assoc]
                  refine Ent.trans ?_ (CA.ent_still (c := ⟨cc.home, cc.l, .still⟩) rfl)
                  first | exact Ent.refl _ | exact Ent.last | (repeat (first | refine Ent.cons ?_ | exact Ent.any | exact Ent.last)))
          · by_cases t23 : (f i 0).tmod 5 = 2 ∨ (f i 0).tmod 5 = 3
            · have e4 : ¬ (f i 0).tmod 5 = 0 := by omega
              have e5 : ¬ (f i 0).tmod 5 = 1 := by omega
              have hsn : ps.set w none = ps := by have := set_self ps w none; rwa [hnn] at this
              have hz2 : 0 ≤ IntKind.u64.wrap (f i 2) := by rw [IntKind.wrap_u64]; omega
              rcases t23 with e6 | e6 <;> (
                repeat (first | refine go ?_ | (refine goX ?_; intro))
                rw [show 0 + w * 1 = w by omega]
                refine EL_call rfl (Spec.at1 (pl.getD w none) (Pop_spec (by omega))) ?_
                intro _
                unfold topV
                by_cases hl : 0 < cc.l.length
                · rw [decide_eq_true hl]
                  repeat (first | refine go ?_ | (refine goX ?_; intro))
                  rename_i y o
                  refine EK_meet ⟨i, ws, ps.set w none, cs.set w ⟨cc.home, cc.l.take (cc.l.length - 1), .idle⟩, out ++ [cc.l.getD (cc.l.length - 1) 0], o⟩ ⟨rfl, by simp [hps], ?_, ?_⟩ ⟨rfl, rfl, rfl, rfl, rfl, rfl, ?_, rfl, trivial⟩ (Ent.sat ?_)
                  · exact hI.pop hw hc hr hl
                  · dsimp only; (try simp only [List.length_append, List.length_cons, List.length_nil, without, List.length_take, List.length_drop]); omega
                  · dsimp only; (try rw [len_snoc]); rfl
                  · unfold COwnSt; dsimp only
                    rw [CAll.set pp pl ps cs hw hps hcsl, SL.sep_assoc]
                    refine Ent.trans ?_ (CA.ent_idle (c := ⟨cc.home, cc.l.take (cc.l.length - 1), .idle⟩) rfl)
                    rw [hsn, len_snoc, show natsR .i64 (out ++ [cc.l.getD (cc.l.length - 1) 0]) = natsR .i64 out ++ [.int .i64 ((cc.l.getD (cc.l.length - 1) 0 : Nat) : Int)] by simp [natsR]]; first | exact Ent.refl _ | exact Ent.last | (repeat (first | refine Ent.cons ?_ | exact Ent.any | exact Ent.last))
                · rw [decide_eq_false hl]
                  have htk : cc.l.take (cc.l.length - 1) = cc.l := by rw [List.eq_nil_of_length_eq_zero (show cc.l.length = 0 by omega)]; rfl
                  by_cases ho : 0 < out.length
                  · haveI : Pos out.length := ⟨ho⟩
                    have hm1 : 0 ≤ IntKind.u64.wrap (f i 2) % (out.length : Int) := Int.emod_nonneg _ (by omega)
                    have hm2 : IntKind.u64.wrap (f i 2) % (out.length : Int) < out.length := Int.emod_lt_of_pos _ (by omega)
                    obtain ⟨j, hj, ej⟩ : ∃ j : Nat, j < out.length ∧ IntKind.u64.wrap (f i 2) % (out.length : Int) = (j : Int) := ⟨(IntKind.u64.wrap (f i 2) % (out.length : Int)).toNat, by omega, by omega⟩
                    repeat (first | refine go ?_ | (refine goX ?_; intro))
                    rw [ej, htk]
                    refine EK_sink 10 (Obj p8 55 (ptrR pl) * (Obj p9 56 (ptrR ps) * (RowC 3 1 q.1 out.length q.2 (natsR .i64 out) * 1))) rfl rfl rfl ?_
                    repeat (first | refine goQ ?_ | refine EG_done (by decide +kernel) ?_)
                    rw [show 0 + w * 1 = w by omega]
                    refine EG_callQ rfl rfl rfl rfl rfl (Spec.at1 (pl.getD w none) (Put_still (out.getD j 0) (by omega))) (fun _ => by first | exact Ent.refl _ | exact Ent.last | (repeat (first | refine Ent.cons ?_ | exact Ent.any | exact Ent.last))) ?_
                    intro g
                    repeat (first | refine goQ ?_ | refine EG_done (by decide +kernel) ?_)
                    repeat (first | refine goG ?_ | (refine goGX ?_; intro) | refine goGL ?_ | refine goGS ?_ | refine goGV ?_ | refine EG_done (by decide +kernel) ?_)
                    repeat (first | refine go ?_ | (refine goX ?_; intro))
                    rw [show 0 + w * 1 = w by omega]
                    refine EK_sink 99 (RowC 3 1 q.1 out.length q.2 (natsR .i64 out) * 1) rfl rfl rfl ?_
                    repeat (first | refine goQ ?_ | refine EG_done (by decide +kernel) ?_)
                    repeat (first | refine goG ?_ | (refine goGX ?_; intro) | refine goGL ?_ | refine goGS ?_ | refine goGV ?_ | refine EG_done (by decide +kernel) ?_)
                    have e1 : (natsR .i64 out).take (j * 1) = natsR .i64 (out.take j) := by simp [natsR, List.map_take]
                    have e2 : (natsR .i64 out).drop ((j + 1) * 1) = natsR .i64 (out.drop (j + 1)) := by simp [natsR, List.map_drop]
                    have hwl : (without out j).length = 0 + j + (out.length - (j + 1)) := by unfold without; rw [List.length_append, List.length_take, List.length_drop]; omega
                    refine EG_does rfl rfl rfl (OpDoes_append rfl rfl rfl (r2 := Src.hi inferInstance 1 j (by omega)) (h1 := by rw [e1]; infer_instance) (by rw [e1, natsR_len, List.length_take]; omega) (by omega) (by decide)) (by decide +kernel) rfl (fun _ => by first | exact Ent.refl _ | exact Ent.last | (repeat (first | refine Ent.cons ?_ | exact Ent.any | exact Ent.last))) ?_
                    intro o1
                    refine EG_does rfl rfl rfl (OpDoes_append rfl rfl rfl (r2 := Src.lo inferInstance (j + 1) (by omega)) (h1 := by rw [e2]; infer_instance) (by rw [e2, natsR_len, List.length_drop]; omega) (by omega) (by decide)) (by decide +kernel) rfl (fun _ => by first | exact Ent.refl _ | exact Ent.last | (repeat (first | refine Ent.cons ?_ | exact Ent.any | exact Ent.last))) ?_
                    intro o2
                    repeat (first | refine goQ ?_ | refine EG_done (by decide +kernel) ?_)
                    repeat (first | refine go ?_ | (refine goX ?_; intro))
                    refine EK_meet ⟨i, ws, ps.set w g, cs.set w ⟨cc.home, cc.l ++ [out.getD j 0], .still⟩, without out j, o2⟩ ⟨rfl, by simp [hps], ?_, ?_⟩ ⟨rfl, rfl, rfl, rfl, rfl, rfl, ?_, rfl, trivial⟩ (Ent.sat ?_)
                    · exact hI.put hw hc hr hj (by omega)
                    · dsimp only; (try simp only [List.length_append, List.length_cons, List.length_nil, without, List.length_take, List.length_drop]); omega
                    · dsimp only; rw [hwl]; rfl
                    · unfold COwnSt; dsimp only
                      rw [CAll.set pp pl ps cs hw hps hcsl, SL.sep_assoc]
                      refine Ent.trans ?_ (CA.ent_still (c := ⟨cc.home, cc.l ++ [out.getD j 0], .still⟩) rfl)
                      refine Ent.at g rfl (Ent.at (pl.getD w none) rfl ?_); rw [e1, e2, hwl, show natsR .i64 (without out j) = [] ++ natsR .i64 (out.take j) ++ natsR .i64 (out.drop (j + 1)) by simp [without, natsR]]; first | exact Ent.refl _ | exact Ent.last | (repeat (first | refine Ent.cons ?_ | exact Ent.any | exact Ent.last))
                  · repeat (first | refine go ?_ | (refine goX ?_; intro))
                    rw [htk]
                    refine EK_meet ⟨i, ws, ps.set w none, cs.set w ⟨cc.home, cc.l, .idle⟩, out, q⟩ ⟨rfl, by simp [hps], ?_, ?_⟩ ⟨rfl, rfl, rfl, rfl, rfl, rfl, rfl, rfl, trivial⟩ (Ent.sat ?_)
                    · exact hI.quiet hw hc (by rw [hr]; rfl) .idle rfl ⟨hcl, trivial⟩
                    · dsimp only; (try simp only [List.length_append, List.length_cons, List.length_nil, without, List.length_take, List.length_drop]); omega
                    · unfold COwnSt; dsimp only
                      rw [CAll.set pp pl ps cs hw hps hcsl, SL.sep_assoc]
                      refine Ent.trans ?_ (CA.ent_idle (c := ⟨cc.home, cc.l, .idle⟩) rfl)
                      rw [hsn]; first | exact Ent.refl _ | exact Ent.last | (repeat (first | refine Ent.cons ?_ | exact Ent.any | exact Ent.last)))
            · have e4 : ¬ (f i 0).tmod 5 = 0 := by omega
              have e5 : ¬ (f i 0).tmod 5 = 1 := by omega
              have e6 : ¬ (f i 0).tmod 5 = 2 := by omega
              have e7 : ¬ (f i 0).tmod 5 = 3 := by omega
              repeat (first | refine go ?_ | (refine goX ?_; intro))
              rw [show 0 + w * 1 = w by omega]
              refine EL_call rfl (Spec.pre (Flush_spec (by omega) (by omega) (n := r) (ws := ws) (pp := pp) (pc := pl.getD w none) (h := cc.home) (l := cc.l) (F := CRest w pp pl ps cs * (Obj p8 55 (ptrR pl) * (Obj p9 56 (ptrR ps) * (RowC 3 1 q.1 out.length q.2 (natsR .i64 out) * F))))) ?_) ?_
              · first | exact Ent.refl _ | exact Ent.last | (repeat (first | refine Ent.cons ?_ | exact Ent.any | exact Ent.last))
              intro g
              repeat (first | refine go ?_ | (refine goX ?_; intro))
              rw [show 0 + w * 1 = w by omega]
              refine EK_meet ⟨i, ws, ps.set w g.1, cs.set w ⟨cc.home, [], .back (backNew r (cc.l.map fun (x : Nat) => (x : Int)))⟩, out, q⟩ ⟨rfl, by simp [hps], ?_, ?_⟩ ⟨rfl, rfl, rfl, rfl, rfl, rfl, rfl, rfl, trivial⟩ (Ent.sat ?_)
              · exact hI.leave hw hc (by rw [hr]; rfl) cc.l [] hcl (by simp) fun x => by simp
              · dsimp only; (try simp only [List.length_append, List.length_cons, List.length_nil, without, List.length_take, List.length_drop]); omega
              · unfold COwnSt; dsimp only
                rw [CAll.set pp pl ps cs hw hps hcsl, SL.sep_assoc]
                refine Ent.trans ?_ (CA.ent_back (q := g.2) (c := ⟨cc.home, [], .back (backNew r (cc.l.map fun (x : Nat) => (x : Int)))⟩) rfl)
                first | exact Ent.refl _ | exact Ent.last | (repeat (first | refine Ent.cons ?_ | exact Ent.any | exact Ent.last))
        | fill s =>
          refine EK_fill hr fun sq => (EK_nonnil (q := ps.getD w none) fun hnn => ?_)
          repeat (first | refine go ?_ | (refine goX ?_; intro))
          rw [show 0 + w * 1 = w by omega]
          rw [decide_eq_false hnn]
          have hrun := hcI.run
          rw [hr] at hrun
          have hfI := hI.fills hw hc hr
          repeat (first | refine go ?_ | (refine goX ?_; intro))
          refine EK_drawnT 6 rfl (by kernel_rfl) rfl rfl ?_
          repeat (refine goS ?_)
          rw [show 0 + w * 1 = w by omega]
          refine EL_call rfl (Spec.pre (Do_fill hT hI.words hrun.2.1 (by have := hcI.len; omega) (n := r) (pp := pp) (pc := pl.getD w none) (ps := ps.getD w none) (h := cc.home) (l := cc.l) (qo := none) (sp := sq) (F := CRest w pp pl ps cs * (Obj p8 55 (ptrR pl) * (Obj p9 56 (ptrR ps) * (RowC 3 1 q.1 out.length q.2 (natsR .i64 out) * F))))) ?_) ?_
          · first | exact Ent.refl _ | exact Ent.last | (repeat (first | refine Ent.cons ?_ | exact Ent.any | exact Ent.last))
          intro _
          cases hdn : (doS ws s).2.done with
          | true =>
            rw [hdn, if_pos rfl] at hfI
            rw [if_pos rfl]
            repeat (first | refine go ?_ | (refine goX ?_; intro))
            rw [show 0 + w * 1 = w by omega]
            refine EK_meet ⟨i, (doS ws s).1, ps.set w none, cs.set w ⟨if (doS ws s).2.ports = [] then cc.home else (doS ws s).2.word, cc.l ++ (doS ws s).2.ports.reverse, .idle⟩, out, q⟩ ⟨rfl, by simp [hps], ?_, ?_⟩ ⟨rfl, rfl, rfl, rfl, rfl, rfl, rfl, rfl, trivial⟩ (Ent.sat ?_)
            · exact hfI
            · dsimp only; (try simp only [List.length_append, List.length_cons, List.length_nil, without, List.length_take, List.length_drop]); omega
            · unfold COwnSt; dsimp only
              rw [CAll.set pp pl ps cs hw hps hcsl, SL.sep_assoc]
              refine Ent.trans ?_ (CA.ent_idle (c := ⟨if (doS ws s).2.ports = [] then cc.home else (doS ws s).2.word, cc.l ++ (doS ws s).2.ports.reverse, .idle⟩) rfl)
              refine Ent.at (pl.getD w none) rfl ?_
              first | exact Ent.refl _ | exact Ent.last | (repeat (first | refine Ent.cons ?_ | exact Ent.any | exact Ent.last))
          | false =>
            rw [hdn, if_neg (by decide)] at hfI
            rw [if_neg (by decide)]
            repeat (first | refine go ?_ | (refine goX ?_; intro))
            refine EK_meet ⟨i, (doS ws s).1, ps.set w (ps.getD w none), cs.set w ⟨cc.home, cc.l, .fill (doS ws s).2⟩, out, q⟩ ⟨rfl, by simp [hps], ?_, ?_⟩ ⟨rfl, rfl, rfl, rfl, rfl, rfl, rfl, rfl, trivial⟩ (Ent.sat ?_)
            · exact hfI
            · dsimp only; (try simp only [List.length_append, List.length_cons, List.length_nil, without, List.length_take, List.length_drop]); omega
            · unfold COwnSt; dsimp only
              rw [CAll.set pp pl ps cs hw hps hcsl, SL.sep_assoc]
              refine Ent.trans ?_ (CA.ent_fill (q := sq) (c := ⟨cc.home, cc.l, .fill (doS ws s).2⟩) rfl)
              rw [set_self]; first | exact Ent.refl _ | exact Ent.last | (repeat (first | refine Ent.cons ?_ | exact Ent.any | exact Ent.last))
        | back s =>
          refine EK_back hr fun sq => (EK_nonnil (q := ps.getD w none) fun hnn => ?_)
          repeat (first | refine go ?_ | (refine goX ?_; intro))
          rw [show 0 + w * 1 = w by omega]
          rw [decide_eq_false hnn]
          have hrun := hcI.run
          rw [hr] at hrun
          obtain ⟨hbI, _⟩ := hI.backs hw hc hr
          repeat (first | refine go ?_ | (refine goX ?_; intro))
          refine EK_drawnT 6 rfl (by kernel_rfl) rfl rfl ?_
          repeat (refine goS ?_)
          rw [show 0 + w * 1 = w by omega]
          refine EL_call rfl (Spec.pre (Do_back hT hI.words hrun.1 (n := r) (pp := pp) (pc := pl.getD w none) (ps := ps.getD w none) (h := cc.home) (l := cc.l) (qo := sq) (sp := sq) (F := CRest w pp pl ps cs * (Obj p8 55 (ptrR pl) * (Obj p9 56 (ptrR ps) * (RowC 3 1 q.1 out.length q.2 (natsR .i64 out) * F))))) ?_) ?_
          · first | exact Ent.refl _ | exact Ent.last | (repeat (first | refine Ent.cons ?_ | exact Ent.any | exact Ent.last))
          intro _
          cases hdn : (doS ws s).2.done with
          | true =>
            rw [hdn, if_pos rfl] at hbI
            rw [if_pos rfl]
            repeat (first | refine go ?_ | (refine goX ?_; intro))
            rw [show 0 + w * 1 = w by omega]
            refine EK_meet ⟨i, (doS ws s).1, ps.set w none, cs.set w ⟨cc.home, cc.l, .idle⟩, out, q⟩ ⟨rfl, by simp [hps], ?_, ?_⟩ ⟨rfl, rfl, rfl, rfl, rfl, rfl, rfl, rfl, trivial⟩ (Ent.sat ?_)
            · exact hbI
            · dsimp only; (try simp only [List.length_append, List.length_cons, List.length_nil, without, List.length_take, List.length_drop]); omega
            · unfold COwnSt; dsimp only
              rw [CAll.set pp pl ps cs hw hps hcsl, SL.sep_assoc]
              refine Ent.trans ?_ (CA.ent_idle (c := ⟨cc.home, cc.l, .idle⟩) rfl)
              first | exact Ent.refl _ | exact Ent.last | (repeat (first | refine Ent.cons ?_ | exact Ent.any | exact Ent.last))
          | false =>
            rw [hdn, if_neg (by decide)] at hbI
            rw [if_neg (by decide)]
            repeat (first | refine go ?_ | (refine goX ?_; intro))
            refine EK_meet ⟨i, (doS ws s).1, ps.set w (ps.getD w none), cs.set w ⟨cc.home, cc.l, .back (doS ws s).2⟩, out, q⟩ ⟨rfl, by simp [hps], ?_, ?_⟩ ⟨rfl, rfl, rfl, rfl, rfl, rfl, rfl, rfl, trivial⟩ (Ent.sat ?_)
            · exact hbI
            · dsimp only; (try simp only [List.length_append, List.length_cons, List.length_nil, without, List.length_take, List.length_drop]); omega
            · unfold COwnSt; dsimp only
              rw [CAll.set pp pl ps cs hw hps hcsl, SL.sep_assoc]
              refine Ent.trans ?_ (CA.ent_back (q := sq) (c := ⟨cc.home, cc.l, .back (doS ws s).2⟩) rfl)
              rw [set_self]; first | exact Ent.refl _ | exact Ent.last | (repeat (first | refine Ent.cons ?_ | exact Ent.any | exact Ent.last))
      intro ⟨i', ws, ps, cs, out, q⟩ ⟨hii, hps, hI, hol⟩
      unfold COwnSt; dsimp only at hii hps hI hol ⊢
      subst hii
      rw [← ptrR3 hpl]
      repeat (first | refine go ?_ | (refine goX ?_; intro))
      rw [er]
      refine EL_call rfl (Spec.at1 pp (Spec.pre (once_spec (F := Obj p8 55 [.pointer (pl.getD 0 none), .pointer (pl.getD 1 none), .pointer (pl.getD 2 none)] * (Obj p9 56 (ptrR ps) * F)) pl ps q.1 q.2 hpl (by omega) hI (by omega)) ?_)) ?_
      · first | exact Ent.refl _ | exact Ent.last | (repeat (first | refine Ent.cons ?_ | exact Ent.any | exact Ent.last))
      intro _
      repeat (first | refine go ?_ | (refine goX ?_; intro))
      refine EK_round ⟨i' + 1, ws, ps, cs, out, q⟩ ⟨by dsimp only; omega, by dsimp only; omega, hps, hI, by dsimp only; omega⟩ (by dsimp only; omega) ⟨rfl, rfl, rfl, rfl, rfl, rfl, rfl, rfl, trivial⟩ (Ent.sat ?_)
      dsimp only
      first | exact Ent.refl _ | exact Ent.last | (repeat (first | refine Ent.cons ?_ | exact Ent.any | exact Ent.last))
    · repeat (first | refine go ?_ | (refine goX ?_; intro))
      exact EK_ret (ER_1 rfl rfl () rfl (Ent.sat Ent.last))
  · repeat (first | refine go ?_ | (refine goX ?_; intro))
    exact EK_ret (ER_1 rfl rfl () rfl (Ent.sat Ent.last))
end Go.Proofs.YtdmmahhnfnefoaaDoor
