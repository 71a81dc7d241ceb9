/-
  Three caches and their steps in memory; fanlightlaw09's once.
-/
import Derived.Test.YtdmmahhnfnefoaaDoorCc3
import Derived.Test.YtdmmahhnfnefoaaDoorCcP
namespace Go.Proofs.YtdmmahhnfnefoaaDoor
open Go.RowKit
set_option maxRecDepth 10000
attribute [local irreducible] EK EX ER EN EL ES EG OpVal OpDoes OpSkip
variable {W : World} {F : SL} {X : Cx} {k : List KI} {σ : Env} {pp pc ps sp qo : Option Addr} {n m h : Nat} {ws l : List Nat} {s : PStep} {c : CSt}

attribute [local simp] natsR_len
def CA (pc pp ps : Option Addr) (c : CSt) : SL := match c.run with
  | .idle => SL.pure (ps = none) * CacheC pc pp c.home c.l none
  | .still => CStO ps 3 none false * CacheC pc pp c.home c.l none
  | .fill s => SL.ex fun q : Option Addr => CStO ps 0 q false * (StepC q s * CacheC pc pp c.home c.l none)
  | .back s => SL.ex fun q : Option Addr => CStO ps 2 q false * (StepC q s * CacheC pc pp c.home c.l q)
/-- The cache ahead, what else is held behind. -/
theorem CA.ent_idle (hr : c.run = .idle) : Ent (CacheC pc pp c.home c.l none * F) (CA pc pp none c * F) := by
  unfold CA; rw [hr]; exact Ent.assoc (Ent.pure rfl (Ent.refl _))
theorem CA.ent_still (hr : c.run = .still) : Ent (CStO ps 3 none false * (CacheC pc pp c.home c.l none * F)) (CA pc pp ps c * F) := by
  unfold CA; rw [hr]; exact Ent.assoc (Ent.refl _)
theorem CA.ent_fill {q : Option Addr} (hr : c.run = .fill s) : Ent (CStO ps 0 q false * (StepC q s * (CacheC pc pp c.home c.l none * F))) (CA pc pp ps c * F) := by
  unfold CA; rw [hr]; exact Ent.ex q (Ent.assoc (Ent.of_eq (by rw [SL.sep_assoc])))
theorem CA.ent_back {q : Option Addr} (hr : c.run = .back s) : Ent (CStO ps 2 q false * (StepC q s * (CacheC pc pp c.home c.l q * F))) (CA pc pp ps c * F) := by
  unfold CA; rw [hr]; exact Ent.ex q (Ent.assoc (Ent.of_eq (by rw [SL.sep_assoc])))
theorem CA.get_idle {w : World} (hr : c.run = .idle) (h : Sat W w (CA pc pp ps c * F)) : ps = none ∧ Sat W w (CacheC pc pp c.home c.l none * F) := by
  unfold CA at h; rw [hr] at h; rw [SL.sep_assoc] at h; exact h.out
theorem CA.get_still {w : World} (hr : c.run = .still) (h : Sat W w (CA pc pp ps c * F)) : Sat W w (CStO ps 3 none false * (CacheC pc pp c.home c.l none * F)) := by
  unfold CA at h; rw [hr] at h; rwa [SL.sep_assoc] at h
theorem CA.get_fill {w : World} (hr : c.run = .fill s) (h : Sat W w (CA pc pp ps c * F)) : ∃ q, Sat W w (CStO ps 0 q false * (StepC q s * (CacheC pc pp c.home c.l none * F))) := by
  unfold CA at h; rw [hr] at h
  obtain ⟨q, h⟩ := h.ex_out
  exact ⟨q, by rwa [SL.sep_assoc, SL.sep_assoc] at h⟩
theorem CA.get_back {w : World} (hr : c.run = .back s) (h : Sat W w (CA pc pp ps c * F)) : ∃ q, Sat W w (CStO ps 2 q false * (StepC q s * (CacheC pc pp c.home c.l q * F))) := by
  unfold CA at h; rw [hr] at h
  obtain ⟨q, h⟩ := h.ex_out
  exact ⟨q, by rwa [SL.sep_assoc, SL.sep_assoc] at h⟩
instance (priority := 2000) (pc pp ps : Option Addr) (c : CSt) (F : SL) : AtP (CA pc pp ps c * F) pc (CA pc pp ps c) F := ⟨rfl⟩
theorem AllA_spec (hl : c.l.length ≤ 1000) : Spec Tryd.prog 27 [.pointer pc] W (CA pc pp ps c * F) (fun g : Slab => .slice g.1 c.l.length g.2) (fun g => RowC 3 1 g.1 c.l.length g.2 (natsR .i64 c.l) * (CA pc pp ps c * F)) := by
  intro w hw
  cases hr : c.run with
  | idle =>
    obtain ⟨rfl, h⟩ := CA.get_idle hr hw
    refine Calls.mono (All_spec (by omega) w h) ?_
    rintro e w' ⟨g, rfl, h'⟩
    exact ⟨g, rfl, (Ent.cons (CA.ent_idle hr)).sat w' h'⟩
  | still =>
    have h := CA.get_still hr hw
    refine Calls.mono (Spec.at1 pc (All_spec (by omega)) w h) ?_
    rintro e w' ⟨g, rfl, h'⟩
    exact ⟨g, rfl, (Ent.cons (Ent.trans (by first | exact Ent.refl _ | exact Ent.last | (repeat (first | refine Ent.cons ?_ | exact Ent.any | exact Ent.last))) (CA.ent_still hr))).sat w' h'⟩
  | fill s =>
    obtain ⟨q, h⟩ := CA.get_fill hr hw
    refine Calls.mono (Spec.at1 pc (All_spec (by omega)) w h) ?_
    rintro e w' ⟨g, rfl, h'⟩
    exact ⟨g, rfl, (Ent.cons (Ent.trans (by first | exact Ent.refl _ | exact Ent.last | (repeat (first | refine Ent.cons ?_ | exact Ent.any | exact Ent.last))) (CA.ent_fill (q := q) hr))).sat w' h'⟩
  | back s =>
    obtain ⟨q, h⟩ := CA.get_back hr hw
    refine Calls.mono (Spec.at1 pc (All_spec (by omega)) w h) ?_
    rintro e w' ⟨g, rfl, h'⟩
    exact ⟨g, rfl, (Ent.cons (Ent.trans (by first | exact Ent.refl _ | exact Ent.last | (repeat (first | refine Ent.cons ?_ | exact Ent.any | exact Ent.last))) (CA.ent_back (q := q) hr))).sat w' h'⟩
theorem leftS_nil : leftS [] = [] := by simp [leftS, leftI, leftN, srtI]
theorem LeavingA_spec (hI : CStI m n c) (hm : m ≤ 32) : Spec Tryd.prog 29 [.pointer pc] W (CA pc pp ps c * F) (fun g : Slab => .slice g.1 (leftS (leftC c.run)).length g.2) (fun g => RowC 3 1 g.1 (leftS (leftC c.run)).length g.2 (natsR .i64 (leftS (leftC c.run))) * (CA pc pp ps c * F)) := by
  intro w hw
  have hrun := hI.run
  cases hr : c.run with
  | idle =>
    obtain ⟨rfl, h⟩ := CA.get_idle hr hw
    refine Calls.mono (Leaving_none w h) ?_
    rintro e w' ⟨_, rfl, h'⟩
    rw [show leftS (leftC CRun.idle) = [] from leftS_nil]
    exact ⟨(none, 0), rfl, (Ent.none (CA.ent_idle hr)).sat w' h'⟩
  | still =>
    have h := CA.get_still hr hw
    refine Calls.mono (Spec.at1 pc Leaving_none w h) ?_
    rintro e w' ⟨_, rfl, h'⟩
    rw [show leftS (leftC CRun.still) = [] from leftS_nil]
    exact ⟨(none, 0), rfl, (Ent.none (Ent.trans (by first | exact Ent.refl _ | exact Ent.last | (repeat (first | refine Ent.cons ?_ | exact Ent.any | exact Ent.last))) (CA.ent_still hr))).sat w' h'⟩
  | fill s =>
    obtain ⟨q, h⟩ := CA.get_fill hr hw
    refine Calls.mono (Spec.at1 pc Leaving_none w h) ?_
    rintro e w' ⟨_, rfl, h'⟩
    rw [show leftS (leftC (CRun.fill s)) = [] from leftS_nil]
    exact ⟨(none, 0), rfl, (Ent.none (Ent.trans (by first | exact Ent.refl _ | exact Ent.last | (repeat (first | refine Ent.cons ?_ | exact Ent.any | exact Ent.last))) (CA.ent_fill (q := q) hr))).sat w' h'⟩
  | back s =>
    rw [hr] at hrun
    obtain ⟨hok, _, _, _, hpl⟩ := hrun
    obtain ⟨q, h⟩ := CA.get_back hr hw
    refine Calls.mono (Spec.at2 pc q (Leaving_spec (by omega) (fun x hx => by have := hok.parts x hx; omega)) w h) ?_
    rintro e w' ⟨g, rfl, h'⟩
    rw [show leftC (CRun.back s) = s.parts from rfl]
    exact ⟨g, rfl, (Ent.cons (Ent.trans (by first | exact Ent.refl _ | exact Ent.last | (repeat (first | refine Ent.cons ?_ | exact Ent.any | exact Ent.last))) (CA.ent_back (q := q) hr))).sat w' h'⟩
/-! ### The three -/
abbrev cA (pp : Option Addr) (pl ps : List (Option Addr)) (cs : List CSt) (i : Nat) : SL := CA (pl.getD i none) pp (ps.getD i none) (cs.getD i cs0)
def CAll (pp : Option Addr) (pl ps : List (Option Addr)) (cs : List CSt) : SL := cA pp pl ps cs 0 * (cA pp pl ps cs 1 * cA pp pl ps cs 2)
def CRest (i : Nat) (pp : Option Addr) (pl ps : List (Option Addr)) (cs : List CSt) : SL := match i with
  | 0 => cA pp pl ps cs 1 * cA pp pl ps cs 2
  | 1 => cA pp pl ps cs 0 * cA pp pl ps cs 2
  | _ => cA pp pl ps cs 0 * cA pp pl ps cs 1
theorem CAll.at (pp : Option Addr) (pl ps : List (Option Addr)) (cs : List CSt) {i : Nat} (hi : i < 3) : CAll pp pl ps cs = cA pp pl ps cs i * CRest i pp pl ps cs := by
  unfold CAll CRest
  match i, hi with
  | 0, _ => rfl
  | 1, _ => exact left_comm _ _ _
  | 2, _ =>
    show cA pp pl ps cs 0 * (cA pp pl ps cs 1 * cA pp pl ps cs 2) = cA pp pl ps cs 2 * (cA pp pl ps cs 0 * cA pp pl ps cs 1)
    rw [SL.sep_comm (cA pp pl ps cs 1), left_comm (cA pp pl ps cs 0)]
theorem CAll.set (pp : Option Addr) (pl ps : List (Option Addr)) (cs : List CSt) {i : Nat} (hi : i < 3) (hs : ps.length = 3) (hc : cs.length = 3) (q : Option Addr) (c : CSt) : CAll pp pl (ps.set i q) (cs.set i c) = CA (pl.getD i none) pp q c * CRest i pp pl ps cs := by
  rw [CAll.at _ _ _ _ hi]
  have e1 : ∀ x, x ≠ i → (ps.set i q).getD x none = ps.getD x none := fun x hx => by rw [getD_setO _ _ _ _ _ (by omega), if_neg (fun e => hx e.symm)]
  have e2 : ∀ x, x ≠ i → (cs.set i c).getD x cs0 = cs.getD x cs0 := fun x hx => by rw [getD_setO _ _ _ _ _ (by omega), if_neg (fun e => hx e.symm)]
  have e3 : ∀ x, x ≠ i → cA pp pl (ps.set i q) (cs.set i c) x = cA pp pl ps cs x := fun x hx => by unfold cA; rw [e1 x hx, e2 x hx]
  congr 1
  · unfold cA; rw [getD_setO _ _ _ _ _ (by omega), if_pos rfl, getD_setO _ _ _ _ _ (by omega), if_pos rfl]
  · unfold CRest
    match i, hi with
    | 0, _ => simp only [e3 1 (by decide), e3 2 (by decide)]
    | 1, _ => simp only [e3 0 (by decide), e3 2 (by decide)]
    | 2, _ => simp only [e3 0 (by decide), e3 1 (by decide)]
/-! ### once -/
def allPre (ws : List Nat) (n : Nat) (cs : List CSt) (out : List Nat) (i : Nat) : List Nat := freeN ws n ++ out ++ (List.range i).flatMap (allC cs)
theorem allPre_succ (ws : List Nat) (n : Nat) (cs : List CSt) (out : List Nat) (i : Nat) : allPre ws n cs out (i + 1) = (allPre ws n cs out i ++ (cs.getD i cs0).l) ++ leftS (leftC (cs.getD i cs0).run) := by
  unfold allPre allC
  rw [List.range_succ, List.flatMap_append]
  simp
theorem allPre_three (ws : List Nat) (n : Nat) (cs : List CSt) (out : List Nat) : allPre ws n cs out 3 = allOf ws n cs out := by
  unfold allPre allOf
  simp [List.range_succ]
theorem ptrR3 {pl : List (Option Addr)} (h : pl.length = 3) : [Value.pointer (pl.getD 0 none), .pointer (pl.getD 1 none), .pointer (pl.getD 2 none)] = ptrR pl := by
  match pl, h with
  | [a, b, c], _ => rfl
theorem once_spec {cs : List CSt} {out : List Nat} (pl ps : List (Option Addr)) (po : Option Addr) (co : Nat) (hpl : pl.length = 3) (hn : n ≤ 1000) (hI : OnceI n m ws cs out) (hol : out.length ≤ 1000) :
    Spec Tryd.prog 26 [.pointer pp, .agg #[.pointer (pl.getD 0 none), .pointer (pl.getD 1 none), .pointer (pl.getD 2 none)], .slice po out.length co, .int .i64 (n : Int)] W (PoolC pp n ws * (CAll pp pl ps cs * (RowC 3 1 po out.length co (natsR .i64 out) * F))) (fun _ : Unit => .bool true)
      (fun _ => PoolC pp n ws * (CAll pp pl ps cs * (RowC 3 1 po out.length co (natsR .i64 out) * F))) := by
  obtain ⟨hA, hB⟩ := hI.once
  refine Spec.of Tryd.func26 rfl Tryd.ntmps26 rfl ?_
  have hwl := hI.words.len
  have hfl : (freeN ws (m * 32)).length ≤ 1024 := by have := freeN_len ws (m * 32); have := hI.words.most; omega
  repeat (first | refine go ?_ | (refine goX ?_; intro))
  rename_i p5 p9 p15
  rw [ptrR3 hpl]
  refine EL_call rfl (Spec.at1 pp (Free_spec hI.words)) ?_
  intro gf
  haveI : RLen (natsR .i64 (freeN ws (m * 32))) (freeN ws (m * 32)).length := ⟨natsR_len _ _⟩
  haveI : RLen (natsR .i64 out) out.length := ⟨natsR_len _ _⟩
  repeat (first | refine go ?_ | (refine goX ?_; intro))
  rename_i o1 o2
  have hA0 : allPre ws (m * 32) cs out 0 = freeN ws (m * 32) ++ out := by simp [allPre]
  refine EK_loop (γ := Nat × Slab) (fun g => g.1 ≤ 3) (fun g => [(3, .int .i64 (n : Int)), (5, .pointer p5), (9, .slice p9 n n), (10, .slice g.2.1 (allPre ws (m * 32) cs out g.1).length g.2.2), (11, .int .i64 (g.1 : Int))])
    (fun g => RowC 3 1 g.2.1 (allPre ws (m * 32) cs out g.1).length g.2.2 (natsR .i64 (allPre ws (m * 32) cs out g.1)) * (Obj p5 55 (ptrR pl) * (CAll pp pl ps cs * (RowC 3 1 p9 n n (reps n [.int .i64 0]) * (PoolC pp n ws * (RowC 3 1 po out.length co (natsR .i64 out) * F)))))) (fun g => 3 - g.1) (0, o2) (Nat.zero_le _) ⟨rfl, rfl, rfl, ?_, rfl, trivial⟩ (Ent.sat ?_) ?_
  · dsimp only
    rw [hA0, List.length_append, Nat.zero_add]; rfl
  · dsimp only
    rw [hA0]
    refine Ent.row o2.1 (by simp) (by simp [natsR]) (Ent.at p5 rfl (Ent.trans Ent.drop ?_))
    first | exact Ent.refl _ | exact Ent.last | (repeat (first | refine Ent.cons ?_ | exact Ent.any | exact Ent.last))
  · intro ⟨i, q⟩ hi; dsimp only at hi ⊢
    by_cases hi3 : i < 3
    · refine EK_ent (G := cA pp pl ps cs i * (CRest i pp pl ps cs * (RowC 3 1 q.1 (allPre ws (m * 32) cs out i).length q.2 (natsR .i64 (allPre ws (m * 32) cs out i)) * (Obj p5 55 (ptrR pl) * (RowC 3 1 p9 n n (reps n [.int .i64 0]) * (PoolC pp n ws * (RowC 3 1 po out.length co (natsR .i64 out) * F))))))) ?_ ?_
      · rw [← SL.sep_assoc (cA pp pl ps cs i) (CRest i pp pl ps cs), ← CAll.at pp pl ps cs hi3]
        first | exact Ent.refl _ | exact Ent.last | (repeat (first | refine Ent.cons ?_ | exact Ent.any | exact Ent.last))
      unfold cA
      have hci := hI.each i hi3
      have hcl := hci.len
      have hsu := allPre_succ ws (m * 32) cs out i
      have hle : (allPre ws (m * 32) cs out (i + 1)).length ≤ n := by
        have h1 : (allPre ws (m * 32) cs out 2).length = _ := congrArg List.length (allPre_succ ws (m * 32) cs out 1)
        have h2 : (allPre ws (m * 32) cs out 3).length = _ := congrArg List.length (allPre_succ ws (m * 32) cs out 2)
        have h3 := congrArg List.length (allPre_three ws (m * 32) cs out)
        simp only [List.length_append] at h1 h2
        rw [hA] at h3
        match i, hi3 with
        | 0, _ => show (allPre ws (m * 32) cs out 1).length ≤ n; omega
        | 1, _ => show (allPre ws (m * 32) cs out 2).length ≤ n; omega
        | 2, _ => show (allPre ws (m * 32) cs out 3).length ≤ n; omega
      have hle2 := hle
      rw [hsu, List.length_append, List.length_append] at hle2
      haveI : RLen (natsR .i64 (cs.getD i cs0).l) (cs.getD i cs0).l.length := ⟨natsR_len _ _⟩
      haveI : RLen (natsR .i64 (leftS (leftC (cs.getD i cs0).run))) (leftS (leftC (cs.getD i cs0).run)).length := ⟨natsR_len _ _⟩
      repeat (first | refine go ?_ | (refine goX ?_; intro))
      refine EK_sink 99 (Obj p5 55 (ptrR pl) * 1) rfl rfl rfl ?_
      repeat (first | refine goQ ?_ | refine EG_done (by decide +kernel) ?_)
      rw [show 0 + i * 1 = i by omega]
      refine EG_callQ rfl rfl rfl rfl rfl (Spec.at1 (pl.getD i none) (AllA_spec (by omega))) (fun _ => by first | exact Ent.refl _ | exact Ent.last | (repeat (first | refine Ent.cons ?_ | exact Ent.any | exact Ent.last))) ?_
      intro g1
      repeat (first | refine goQ ?_ | refine EG_done (by decide +kernel) ?_)
      repeat (first | refine goG ?_ | (refine goGX ?_; intro) | refine goGL ?_ | refine goGS ?_ | refine goGV ?_ | refine EG_done (by decide +kernel) ?_)
      rename_i o3
      refine EG_callQ rfl rfl rfl rfl rfl (Spec.at1 (pl.getD i none) (LeavingA_spec hci hI.words.most)) (fun _ => by first | exact Ent.refl _ | exact Ent.last | (repeat (first | refine Ent.cons ?_ | exact Ent.any | exact Ent.last))) ?_
      intro g2
      repeat (first | refine goQ ?_ | refine EG_done (by decide +kernel) ?_)
      repeat (first | refine goG ?_ | (refine goGX ?_; intro) | refine goGL ?_ | refine goGS ?_ | refine goGV ?_ | refine EG_done (by decide +kernel) ?_)
      repeat (first | refine go ?_ | (refine goX ?_; intro))
      rename_i o4
      refine EK_round (i + 1, o4) (by dsimp only; omega) (by dsimp only; omega) ⟨rfl, rfl, rfl, ?_, rfl, trivial⟩ (Ent.sat ?_)
      · dsimp only
        rw [hsu, List.length_append, List.length_append]; rfl
      · dsimp only
        rw [hsu, CAll.at pp pl ps cs hi3, SL.sep_assoc (cA pp pl ps cs i)]
        refine Ent.row o4.1 (by rw [List.length_append, List.length_append]) (by simp [natsR]) (Ent.trans Ent.drop (Ent.at p5 rfl ?_))
        unfold cA
        refine Ent.at (pl.getD i none) rfl (Ent.trans Ent.drop ?_)
        first | exact Ent.refl _ | exact Ent.last | (repeat (first | refine Ent.cons ?_ | exact Ent.any | exact Ent.last))
    · have hii : i = 3 := by omega
      subst hii
      rw [allPre_three]
      generalize allOf ws (m * 32) cs out = A at *
      repeat (first | refine go ?_ | (refine goX ?_; intro))
      refine EK_loop (γ := Nat × List Nat) (fun g => g.1 ≤ n ∧ g.2.length = n ∧ ∀ x, x < n → g.2.getD x 0 = (A.take g.1).count x) (fun g => [(3, .int .i64 (n : Int)), (9, .slice p9 n n), (10, .slice q.1 A.length q.2), (12, .int .i64 (g.1 : Int))])
        (fun g => RowC 3 1 p9 n n (natsR .i64 g.2) * (RowC 3 1 q.1 A.length q.2 (natsR .i64 A) * (CAll pp pl ps cs * (PoolC pp n ws * (RowC 3 1 po out.length co (natsR .i64 out) * F))))) (fun g => n - g.1) (0, List.replicate n 0) ⟨Nat.zero_le _, by simp, fun x hx => by simp [hx]⟩ ⟨rfl, rfl, rfl, rfl, trivial⟩ (Ent.sat ?_) ?_
      · dsimp only
        refine Ent.row p9 rfl (by rw [reps_one]; simp [natsR]) (Ent.row q.1 rfl rfl (Ent.trans Ent.drop (Ent.refl _)))
      intro ⟨i, ct⟩ ⟨hi1, hcl, hct⟩; dsimp only at hi1 hcl hct ⊢
      by_cases hin : i < n
      · obtain ⟨b1, b2⟩ := hB i hin
        have hc0 := hct _ b1
        rw [b2] at hc0
        have hcs : A.getD i 0 < ct.length := by omega
        repeat (first | refine go ?_ | (refine goX ?_; intro))
        refine EK_round (i + 1, ct.set (A.getD i 0) (ct.getD (A.getD i 0) 0 + 1)) ⟨by dsimp only; omega, by simp [hcl], fun x hx => ?_⟩ (by dsimp only; omega) ⟨rfl, rfl, rfl, rfl, trivial⟩ (Ent.sat (Ent.refl _))
        dsimp only
        rw [getD_setO _ _ _ _ _ hcs, ← take_snocD (l := A) (d := 0) (by omega), List.count_append, ← hct x hx]
        by_cases e : A.getD i 0 = x
        · rw [if_pos e, e]; simp
        · rw [if_neg e, List.count_eq_zero.2 (by simpa using fun h => e h.symm)]; omega
      · repeat (first | refine go ?_ | (refine goX ?_; intro))
        refine EK_ret (ER_1 rfl rfl () rfl (Ent.sat (Ent.trans Ent.drop (Ent.trans Ent.drop ?_))))
        first | exact Ent.refl _ | exact Ent.last | (repeat (first | refine Ent.cons ?_ | exact Ent.any | exact Ent.last))
end Go.Proofs.YtdmmahhnfnefoaaDoor
