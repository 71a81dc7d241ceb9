/-
  Package wheel: passed.
-/
import Derived.Test.YtdmmahhnfnefoaaWh4
namespace Go.Proofs.Ytdmmahhnfnefoaa
open Go.RowKit
set_option maxRecDepth 10000
attribute [local irreducible] EK EX ER EN EL ES EG OpVal OpDoes OpSkip
variable {W : World} {F : SL} {X : Cx} {k : List KI} {σ : Env}

def gOut (sl : Nat → List Wen) (l a j : Nat) : List Wen := (grab ((List.range' a j).map (l * 64 + ·)) sl []).1
def gSl (sl : Nat → List Wen) (l a j : Nat) : Nat → List Wen := (grab ((List.range' a j).map (l * 64 + ·)) sl []).2
theorem g_zero (sl : Nat → List Wen) (l a : Nat) : gOut sl l a 0 = [] ∧ gSl sl l a 0 = sl := ⟨rfl, rfl⟩
theorem g_succ (sl : Nat → List Wen) (l a j : Nat) : gOut sl l a (j + 1) = gOut sl l a j ++ gSl sl l a j (l * 64 + (a + j)) ∧ gSl sl l a (j + 1) = upd (gSl sl l a j) (l * 64 + (a + j)) [] := by
  have e : (List.range' a (j + 1)).map (l * 64 + ·) = (List.range' a j).map (l * 64 + ·) ++ [l * 64 + (a + j)] := by
    rw [List.range'_concat, List.map_append]; simp
  unfold gOut gSl
  rw [e, grab_app]
  exact ⟨rfl, rfl⟩
theorem g_lIdx (sl : Nat → List Wen) (l f t : Nat) {a n : Nat} (h : pIdx l f t = List.range' a n) : (grab (lIdx l f t) sl []).1 = gOut sl l a n ∧ (grab (lIdx l f t) sl []).2 = gSl sl l a n := by
  unfold lIdx gOut gSl
  rw [h]
  exact ⟨rfl, rfl⟩
theorem g_sl_le (sl : Nat → List Wen) (l a j k : Nat) : (gSl sl l a j k).length ≤ (sl k).length := by
  unfold gSl
  rw [grab_sl]
  split
  · simp
  · exact Nat.le_refl _
theorem g_len (sl : Nat → List Wen) (l a : Nat) : ∀ j, l ≤ 5 → a + j ≤ 64 → (gOut sl l a j).length + (flatS (gSl sl l a j)).length = (flatS sl).length := by
  intro j hl hj
  have := (grab_perm ((List.range' a j).map (l * 64 + ·)) sl [] fun i hi => by
    obtain ⟨x, hx, rfl⟩ := List.mem_map.1 hi
    obtain ⟨y, hy, rfl⟩ := List.mem_range'.1 hx
    omega).length_eq
  simpa [gOut, gSl] using this
theorem shr_val (a l : Nat) : ((a : Int) / 2 ^ (6 * ((l : Int) + 1)).toNat) = ((a / 64 ^ (l + 1) : Nat) : Int) := by
  rw [show (6 * ((l : Int) + 1)).toNat = 6 * (l + 1) by omega, p64, Int.natCast_ediv]; simp
def pFst (l f t : Nat) : Nat := if f / 64 ^ (l + 1) = t / 64 ^ (l + 1) then dg f l + 1 else 0
def pCnt (l f t : Nat) : Nat := if f / 64 ^ (l + 1) = t / 64 ^ (l + 1) then dg t l - dg f l else 64
theorem p_eq (l f t : Nat) : pIdx l f t = List.range' (pFst l f t) (pCnt l f t) := by
  unfold pIdx pFst pCnt
  split <;> rfl
theorem p_le (l f t : Nat) : pFst l f t + pCnt l f t ≤ 65 ∧ (0 < pCnt l f t → pFst l f t + pCnt l f t ≤ 64) := by
  have h1 : dg f l < 64 := Nat.mod_lt _ (by decide)
  have h2 : dg t l < 64 := Nat.mod_lt _ (by decide)
  unfold pFst pCnt
  split <;> omega
theorem passed_spec (p : Option Addr) (s : WSt) (l f t : Nat) (cnt : Int) (r : Slab) (q : Nat → Slab) (hl : l ≤ 5) (hf : f < 4294967296) (ht : t < 4294967296) (hn : (flatS s.sl).length ≤ 1000) :
    Spec Try.prog 40 [.pointer p, .int .i64 (l : Int), .int .i64 (f : Int), .int .i64 (t : Int)] W (WheelO p s cnt r q F) (fun g : Slab × (Nat → Slab) => .slice g.1.1 (grab (lIdx l f t) s.sl []).1.length g.1.2)
      (fun g => RowC 97 3 g.1.1 (grab (lIdx l f t) s.sl []).1.length g.1.2 (entsR (grab (lIdx l f t) s.sl []).1) * WheelO p { s with sl := (grab (lIdx l f t) s.sl []).2 } cnt r g.2 F) := by
  obtain ⟨k1, k2⟩ := g_lIdx s.sl l f t (p_eq l f t)
  obtain ⟨p1, p2⟩ := p_le l f t
  have d1 : dg f l < 64 := Nat.mod_lt _ (by decide)
  have d2 : dg t l < 64 := Nat.mod_lt _ (by decide)
  have s1 := shr_val f l
  have s2 := shr_val t l
  rw [k1, k2]
  refine Spec.of Try.func40 rfl Try.ntmps40 rfl ?_
  simp only [WheelO, whV]
  repeat (first | refine go ?_ | (refine goX ?_; intro))
  refine EL_call rfl (slot_spec f l hf hl) ?_
  intro
  repeat (first | refine go ?_ | (refine goX ?_; intro))
  refine EL_call rfl (slot_spec t l ht hl) ?_
  intro
  repeat (first | refine go ?_ | (refine goX ?_; intro))
  refine EK_drawn rfl (by kernel_rfl) ?_
  repeat (refine goS ?_)
  repeat (first | refine go ?_ | (refine goX ?_; intro))
  refine EK_join (γ := Nat × Int) (fun g => g.1 = pFst l f t ∧ ∀ j : Nat, ((g.1 : Int) + (j : Int) ≤ g.2 ↔ j < pCnt l f t)) (fun g => [(0, .pointer p), (1, .int .i64 (l : Int)), (9, .int .i64 (g.1 : Int)), (10, .int .i64 g.2)])
    (fun _ => Obj p 94 (.int .i64 s.now :: .int .i64 s.turn :: .int .i64 cnt :: .slice r.1 s.ready.length r.2 :: slV q s.sl) * (RowC 97 3 r.1 s.ready.length r.2 (entsR s.ready) * (rowsS q s.sl * F))) ?_ ?_
  · refine EK_cond_ndec rfl (fun hne => ?_) (fun he => ?_)
    · have hne : ¬ f / 64 ^ (l + 1) = t / 64 ^ (l + 1) := by omega
      repeat (first | refine go ?_ | (refine goX ?_; intro))
      refine EK_meet (0, 63) ⟨by unfold pFst; rw [if_neg hne], fun j => ?_⟩ ⟨rfl, rfl, rfl, rfl, trivial⟩ (Ent.sat (Ent.refl _))
      unfold pCnt
      rw [if_neg hne]
      dsimp only
      omega
    · have he : f / 64 ^ (l + 1) = t / 64 ^ (l + 1) := by omega
      repeat (first | refine go ?_ | (refine goX ?_; intro))
      refine EK_meet (dg f l + 1, (dg t l : Int)) ⟨by unfold pFst; rw [if_pos he], fun j => ?_⟩ ⟨rfl, rfl, rfl, rfl, trivial⟩ (Ent.sat (Ent.refl _))
      unfold pCnt
      rw [if_pos he]
      dsimp only
      omega
  · intro ⟨a, z⟩ ⟨ha, hz⟩; dsimp only at ha hz ⊢
    subst ha
    generalize pFst l f t = a at *
    generalize pCnt l f t = n at *
    repeat (first | refine go ?_ | (refine goX ?_; intro))
    refine EK_loop (γ := Nat × Slab × (Nat → Slab)) (fun g => g.1 ≤ n) (fun g => [(0, .pointer p), (1, .int .i64 (l : Int)), (10, .int .i64 z), (12, .slice g.2.1.1 (gOut s.sl l a g.1).length g.2.1.2), (13, .int .i64 ((a + g.1 : Nat) : Int))])
      (fun g => RowC 97 3 g.2.1.1 (gOut s.sl l a g.1).length g.2.1.2 (entsR (gOut s.sl l a g.1)) * (Obj p 94 (.int .i64 s.now :: .int .i64 s.turn :: .int .i64 cnt :: .slice r.1 s.ready.length r.2 :: slV g.2.2 (gSl s.sl l a g.1)) * (RowC 97 3 r.1 s.ready.length r.2 (entsR s.ready) * (rowsS g.2.2 (gSl s.sl l a g.1) * F))))
      (fun g => n - g.1) (0, (none, 0), q) (Nat.zero_le _) ⟨rfl, rfl, rfl, rfl, rfl, trivial⟩ (Ent.sat (Ent.none (Ent.refl _))) ?_
    intro ⟨j, o, q'⟩ hj; dsimp only at hj ⊢
    have hzj := hz j
    repeat (first | refine go ?_ | (refine goX ?_; intro))
    refine EK_cond_dec rfl (fun hlt => ?_) (fun hge => ?_)
    · have hjn : j < n := by omega
      have hk : l * 64 + (a + j) < 384 := by omega
      have hgl := g_len s.sl l a j hl (by omega)
      have hsl2 := g_sl_le s.sl l a j (l * 64 + (a + j))
      have hsl3 := sl_len (s := { s with ready := [] }) hk
      obtain ⟨q1, q2⟩ := g_succ s.sl l a j
      have er := rowsS_at q' (gSl s.sl l a j) hk
      rw [er, SL.sep_assoc]
      have hfl : (s.sl (l * 64 + (a + j))).length ≤ 1000 := by
        have : (WSt.all { s with ready := [] }).length = (flatS s.sl).length := by simp [WSt.all]
        dsimp only at hsl3
        omega
      repeat (first | refine go ?_ | (refine goX ?_; intro))
      rename_i g
      refine EK_round (j + 1, g, upd q' (l * 64 + (a + j)) (none, 0)) (by dsimp only; omega) (by dsimp only; omega) ⟨rfl, rfl, rfl, by rw [q1, List.length_append]; rfl, rfl, trivial⟩ (Ent.sat ?_)
      dsimp only
      rw [q1, q2, rowsS_upd q' (gSl s.sl l a j) hk (none, 0) [], SL.sep_assoc]
      refine Ent.row g.1 (by simp) (entsR_app _ _) (Ent.obj p (by rw [← slV_set q' (gSl s.sl l a j) hk (none, 0) []]; rfl) (Ent.row r.1 rfl rfl (Ent.none ?_)))
      repeat (first | exact Ent.last | refine Ent.cons ?_ | refine Ent.assoc ?_)
    · have hjn : j = n := by omega
      subst hjn
      repeat (first | refine go ?_ | (refine goX ?_; intro))
      exact EK_ret (ER_1 rfl rfl (o, q') rfl (Ent.sat (Ent.refl _)))
end Go.Proofs.Ytdmmahhnfnefoaa
