/-
  Package cells, over assertions.
-/
import Derived.Test.YtdmmahhnfnefoaaSxT
import Derived.Test.YtdmmahhnfnefoaaSg
import Derived.Test.YtdmmahhnfnefoaaSh
namespace Go.Proofs.Ytdmmahhnfnefoaa
open Go.RowKit
set_option maxRecDepth 10000
attribute [local irreducible] EK EX ER EN EL ES EG OpVal OpDoes OpSkip

/-- A row of atomic words: the object, and what it refers to. -/
def CellsSL (p : Option Addr) (ws : List Nat) : SL := SL.ex fun g : Option Addr => Obj p 148 [.slice g ws.length ws.length, .int .u32 0, .int .i32 0, .int .u32 0] * RowC 169 1 g ws.length ws.length (natsR .u64 ws)
abbrev CellsO (p g : Option Addr) (ws : List Nat) (F : SL) : SL := Obj p 148 [.slice g ws.length ws.length, .int .u32 0, .int .i32 0, .int .u32 0] * (RowC 169 1 g ws.length ws.length (natsR .u64 ws) * F)
variable {W : World} {F : SL} {X : Cx} {k : List KI} {σ : Env}
theorem CellsSL.open {p : Option Addr} {ws : List Nat} (h : ∀ g, EK X k σ (CellsO p g ws F)) : EK X k σ (CellsSL p ws * F) := EK_ex fun g => by
  have := h g
  unfold CellsO at this
  rw [SL.sep_assoc]
  exact this
theorem CellsSL.shut {p g : Option Addr} {ws : List Nat} : Ent (CellsO p g ws F) (CellsSL p ws * F) := Ent.ex g (Ent.assoc (Ent.refl _))
instance (priority := 2000) (p : Option Addr) (ws : List Nat) (F : SL) : AtP (CellsSL p ws * F) p (CellsSL p ws) F := ⟨rfl⟩
instance (p : Option Addr) (ws : List Nat) : Root (CellsSL p ws) p := ⟨fun W w F h => by
  obtain ⟨g, h⟩ := h.ex_out
  exact (Obj.root p _ _).nn W w _ (h.ac (SL.sep_assoc _ _ _))⟩

theorem at_spec (p g : Option Addr) (ws : List Nat) (i : Nat) (hi : i < ws.length) (hm : ws.length ≤ 65536) :
    Spec Try.prog 72 [.pointer p, .int .i64 (i : Int)] W (CellsO p g ws F) (fun _ : Unit => .pointer (el g i 1)) (fun _ => CellsO p g ws F) := by
  refine Spec.of Try.func72 rfl Try.ntmps72 rfl ?_
  repeat (first | refine go ?_ | (refine goX ?_; intro))
  exact EK_ret (ER_1 rfl rfl () rfl fun _ h => h)
theorem aLoad_spec (g : Option Addr) (ws : List Nat) (i : Nat) (hi : i < ws.length) {e : Nat} :
    Spec Try.prog 95 [.pointer (el g i 1)] W (RowC e 1 g ws.length ws.length (natsR .u64 ws) * F) (fun _ : Unit => .int .u64 ((ws.getD i 0 : Nat) : Int)) (fun _ => RowC e 1 g ws.length ws.length (natsR .u64 ws) * F) := by
  haveI : Pos ws.length := ⟨by omega⟩
  refine Spec.of Try.func95 rfl Try.ntmps95 rfl ?_
  repeat (first | refine go ?_ | (refine goX ?_; intro))
  exact EK_ret (ER_1 rfl rfl () rfl fun _ h => h)
theorem aStore_spec (g : Option Addr) (ws : List Nat) (i u : Nat) (hi : i < ws.length) {e : Nat} :
    Spec Try.prog 73 [.pointer (el g i 1), .int .u64 (u : Int)] W (RowC e 1 g ws.length ws.length (natsR .u64 ws) * F) (fun _ : Unit => .tuple #[]) (fun _ => RowC e 1 g ws.length ws.length (natsR .u64 (ws.set i u)) * F) := by
  haveI : Pos ws.length := ⟨by omega⟩
  refine Spec.of Try.func73 rfl Try.ntmps73 rfl ?_
  repeat (first | refine go ?_ | (refine goX ?_; intro))
  exact EK_end (EN_0 rfl () rfl fun _ h => h)
theorem aCas_spec (g : Option Addr) (ws : List Nat) (i u v : Nat) (hi : i < ws.length) {e : Nat} :
    Spec Try.prog 103 [.pointer (el g i 1), .int .u64 (u : Int), .int .u64 (v : Int)] W (RowC e 1 g ws.length ws.length (natsR .u64 ws) * F) (fun _ : Unit => .bool (decide (ws.getD i 0 = u)))
      (fun _ => RowC e 1 g ws.length ws.length (natsR .u64 (if ws.getD i 0 = u then ws.set i v else ws)) * F) := by
  haveI : Pos ws.length := ⟨by omega⟩
  by_cases he : ws.getD i 0 = u
  all_goals
    refine Spec.of Try.func103 rfl Try.ntmps103 rfl ?_
    repeat (first | refine go ?_ | (refine goX ?_; intro))
  · exact EK_ret (ER_1 rfl rfl () (by rw [decide_eq_true he]) (by rw [if_pos he]; exact fun _ h => h))
  · exact EK_ret (ER_1 rfl rfl () (by rw [decide_eq_false he]) (by rw [if_neg he]; exact fun _ h => h))

theorem Load_spec (p : Option Addr) (ws : List Nat) (i : Nat) (hi : i < ws.length) (hm : ws.length ≤ 65536) :
    Spec Try.prog 60 [.pointer p, .int .i64 (i : Int)] W (CellsSL p ws * F) (fun _ : Unit => .int .u64 ((ws.getD i 0 : Nat) : Int)) (fun _ => CellsSL p ws * F) := by
  refine Spec.of Try.func60 rfl Try.ntmps60 rfl ?_
  refine CellsSL.open fun g => ?_
  haveI : Pos ws.length := ⟨by omega⟩
  repeat (first | refine go ?_ | (refine goX ?_; intro))
  refine EL_call rfl (at_spec p g ws i hi hm) ?_
  intro
  repeat (first | refine go ?_ | (refine goX ?_; intro))
  refine EL_call rfl (Spec.at1 g (aLoad_spec g ws i hi)) ?_
  intro
  repeat (first | refine go ?_ | (refine goX ?_; intro))
  refine EK_ret (ER_1 rfl rfl () rfl (Ent.sat (Ent.trans ?_ (CellsSL.shut (g := g)))))
  repeat (first | exact Ent.last | refine Ent.cons ?_ | refine Ent.assoc ?_)
theorem Store_spec (p : Option Addr) (ws : List Nat) (i u : Nat) (hi : i < ws.length) (hm : ws.length ≤ 65536) :
    Spec Try.prog 53 [.pointer p, .int .i64 (i : Int), .int .u64 (u : Int)] W (CellsSL p ws * F) (fun _ : Unit => .tuple #[]) (fun _ => CellsSL p (ws.set i u) * F) := by
  refine Spec.of Try.func53 rfl Try.ntmps53 rfl ?_
  refine CellsSL.open fun g => ?_
  haveI : Pos ws.length := ⟨by omega⟩
  repeat (first | refine go ?_ | (refine goX ?_; intro))
  refine EL_call rfl (at_spec p g ws i hi hm) ?_
  intro
  repeat (first | refine go ?_ | (refine goX ?_; intro))
  refine EL_call rfl (Spec.at1 g (aStore_spec g ws i u hi)) ?_
  intro
  repeat (first | refine go ?_ | (refine goX ?_; intro))
  refine EK_end (EN_0 rfl () rfl (Ent.sat (Ent.trans ?_ (CellsSL.shut (g := g)))))
  simp only [CellsO, List.length_set]
  repeat (first | exact Ent.last | refine Ent.cons ?_ | refine Ent.assoc ?_)
theorem Cas_spec (p : Option Addr) (ws : List Nat) (i u v : Nat) (hi : i < ws.length) (hm : ws.length ≤ 65536) :
    Spec Try.prog 76 [.pointer p, .int .i64 (i : Int), .int .u64 (u : Int), .int .u64 (v : Int)] W (CellsSL p ws * F) (fun _ : Unit => .bool (decide (ws.getD i 0 = u))) (fun _ => CellsSL p (if ws.getD i 0 = u then ws.set i v else ws) * F) := by
  refine Spec.of Try.func76 rfl Try.ntmps76 rfl ?_
  refine CellsSL.open fun g => ?_
  haveI : Pos ws.length := ⟨by omega⟩
  repeat (first | refine go ?_ | (refine goX ?_; intro))
  refine EL_call rfl (at_spec p g ws i hi hm) ?_
  intro
  repeat (first | refine go ?_ | (refine goX ?_; intro))
  refine EL_call rfl (Spec.at1 g (aCas_spec g ws i u v hi)) ?_
  intro
  repeat (first | refine go ?_ | (refine goX ?_; intro))
  refine EK_ret (ER_1 rfl rfl () rfl (Ent.sat (Ent.trans ?_ (CellsSL.shut (g := g)))))
  have hl : (if ws.getD i 0 = u then ws.set i v else ws).length = ws.length := by split <;> simp
  simp only [CellsO, hl]
  repeat (first | exact Ent.last | refine Ent.cons ?_ | refine Ent.assoc ?_)
theorem Size_spec (p : Option Addr) (ws : List Nat) :
    Spec Try.prog 71 [.pointer p] W (CellsSL p ws * F) (fun _ : Unit => .int .i64 (ws.length : Int)) (fun _ => CellsSL p ws * F) := by
  refine Spec.of Try.func71 rfl Try.ntmps71 rfl ?_
  refine CellsSL.open fun g => ?_
  repeat (first | refine go ?_ | (refine goX ?_; intro))
  refine EK_ret (ER_1 rfl rfl () rfl (Ent.sat (Ent.trans ?_ (CellsSL.shut (g := g)))))
  repeat (first | exact Ent.last | refine Ent.cons ?_ | refine Ent.assoc ?_)
theorem CNew_spec (n : Nat) (h1 : 1 ≤ n) (h2 : n ≤ 65536) :
    Spec Try.prog 45 [.int .i64 (n : Int)] W F (fun p : Option Addr => .tuple #[.pointer p, .int .i64 0]) (fun p => CellsSL p (List.replicate n 0) * F) := by
  refine Spec.of Try.func45 rfl Try.ntmps45 rfl ?_
  repeat (first | refine go ?_ | (refine goX ?_; intro))
  rename_i g p
  refine EK_ret (ER_2 rfl rfl rfl p rfl (Ent.sat (Ent.trans ?_ (CellsSL.shut (g := g)))))
  simp only [CellsO, List.length_replicate]
  refine Ent.cons (Ent.row g rfl ?_ (Ent.refl _))
  rw [reps_one]; simp [natsR]
theorem CCopy_spec (p : Option Addr) (ws : List Nat) (hm : ws.length ≤ 65536) :
    Spec Try.prog 64 [.pointer p] W (CellsSL p ws * F) (fun q : Option Addr × Nat => .slice q.1 ws.length q.2) (fun q => RowC 26 1 q.1 ws.length q.2 (natsR .u64 ws) * (CellsSL p ws * F)) := by
  refine Spec.of Try.func64 rfl Try.ntmps64 rfl ?_
  repeat (first | refine go ?_ | (refine goX ?_; intro))
  refine EL_call rfl (Size_spec p ws) ?_
  intro
  repeat (first | refine go ?_ | (refine goX ?_; intro))
  refine EK_loop (γ := Option Addr × Nat × Nat) (fun g => g.2.2 ≤ ws.length) (fun g => [(0, .pointer p), (3, .slice g.1 g.2.2 g.2.1), (6, .int .i64 (ws.length : Int)), (7, .int .i64 (g.2.2 : Int))])
    (fun g => RowC 26 1 g.1 g.2.2 g.2.1 (natsR .u64 (ws.take g.2.2)) * (CellsSL p ws * F)) (fun g => ws.length - g.2.2) (none, 0, 0) (Nat.zero_le _) ⟨rfl, rfl, rfl, rfl, trivial⟩ (Ent.sat (Ent.none (Ent.refl _))) ?_
  intro ⟨q, c, i⟩ hi
  dsimp only at hi ⊢
  repeat (first | refine go ?_ | (refine goX ?_; intro))
  refine EK_cond_dec rfl (fun hlt => ?_) (fun hge => ?_)
  · repeat (first | refine go ?_ | (refine goX ?_; intro))
    refine EL_call rfl (Spec.at1 p (Load_spec p ws i (by omega) hm)) ?_
    intro
    repeat (first | refine go ?_ | (refine goX ?_; intro))
    rename_i r
    refine EK_round (r.1, r.2, i + 1) (by dsimp only; omega) (by dsimp only; omega) ⟨rfl, rfl, rfl, rfl, trivial⟩ (Ent.sat (Ent.row r.1 rfl ?_ ?_))
    · rw [natsR_snoc, take_snocD (by omega)]
    · repeat (first | exact Ent.last | refine Ent.cons ?_ | refine Ent.assoc ?_)
  · repeat (first | refine go ?_ | (refine goX ?_; intro))
    have e : i = ws.length := by omega
    subst e
    exact EK_ret (ER_1 rfl rfl (q, c) rfl (Ent.sat (Ent.row q rfl (by rw [List.take_length]) (Ent.refl _))))
end Go.Proofs.Ytdmmahhnfnefoaa
