/-
  Package pool: Take, Same.
-/
import Derived.Test.YtdmmahhnfnefoaaDoorPp4
namespace Go.Proofs.YtdmmahhnfnefoaaDoor
open Go.RowKit
set_option maxRecDepth 10000
attribute [local irreducible] EK EX ER EN EL ES EG OpVal OpDoes OpSkip
variable {W : World} {F : SL} {X : Cx} {k : List KI} {σ : Env} {p sp : Option Addr} {n m : Nat} {ws : List Nat} {s : PStep}

theorem EL_ex {α : Sort _} {ops l : List Oper} {F : SL} {P : α → SL} (h : ∀ a, EL X k ops l σ (P a * F)) : EL X k ops l σ (SL.ex P * F) := by
  unfold EL at h ⊢
  exact fun a w ha hs => let ⟨x, hx⟩ := hs.ex_out; h x a w ha hx
theorem StepC.openL {ops l : List Oper} (h : ∀ q, EL X k ops l σ (StepO p s q F)) : EL X k ops l σ (StepC p s * F) := EL_ex fun q => by
  rw [StepX.eq]
  exact h q
theorem PoolC.openL {ops l : List Oper} (h : ∀ c, EL X k ops l σ (PoolO p n ws c F)) : EL X k ops l σ (PoolC p n ws * F) := EL_ex fun c => by
  have := h c
  unfold PoolO at this
  unfold PoolX
  rw [SL.sep_assoc]
  exact this
theorem word_from (fr : Int) {m : Nat} (h1 : 1 ≤ m) (h2 : m ≤ 32) : IntKind.i64.wrap (IntKind.u64.wrap fr % (m : Int)) = (((fr % 18446744073709551616).toNat % m : Nat) : Int) := by
  rw [IntKind.wrap_u64, Int.natCast_emod, Int.toNat_of_nonneg (by omega)]
  have h3 : 0 ≤ fr % 18446744073709551616 % (m : Int) := Int.emod_nonneg _ (by omega)
  have h4 : fr % 18446744073709551616 % (m : Int) < m := Int.emod_lt_of_pos _ (by omega)
  generalize fr % 18446744073709551616 % (m : Int) = z at *
  rw [IntKind.wrap_i64]; omega
theorem Take_spec (fr mo : Int) (hw : WordsOk m ws) : Spec Tryd.prog 21 [.pointer p, .int .i64 fr, .int .i64 mo] W (PoolC p n ws * F) (fun g : Option Addr => .pointer g) (fun g => StepC g (takeNew fr mo m) * (PoolC p n ws * F)) := by
  obtain ⟨hlen, hpos, hmost, hlt⟩ := hw
  subst hlen
  refine Spec.of Tryd.func21 rfl Tryd.ntmps21 rfl ?_
  refine PoolC.open fun c => ?_
  simp only [PoolO]
  repeat (first | refine go ?_ | (refine goX ?_; intro))
  refine EL_call rfl (Spec.at1 c (Size_spec c ws)) ?_
  intro _
  repeat (first | refine go ?_ | (refine goX ?_; intro))
  haveI : Pos ws.length := ⟨by omega⟩
  have hfr : 0 ≤ IntKind.u64.wrap fr := by rw [IntKind.wrap_u64]; omega
  refine EK_sink 99 1 rfl rfl rfl ?_
  repeat (first | refine goG ?_ | (refine goGX ?_; intro) | refine goGL ?_ | refine goGS ?_ | refine goGV ?_ | refine EG_done (by decide +kernel) ?_)
  rename_i t g
  refine EK_ret (ER_1 rfl rfl g rfl (Ent.sat (Ent.trans ?_ (StepC.shut (q := ((t, ws.length), (none, 0), (none, 0)))))))
  refine Ent.obj g ?_ (Ent.row t ?_ ?_ (Ent.none (Ent.none (Ent.trans ?_ (PoolC.shut (c := c))))))
  · simp only [stepV, takeNew, List.length_replicate, List.length_nil]
    rw [word_from fr hpos hmost, Int.toNat_of_nonneg (by omega)]
    rfl
  · simp [takeNew]
  · simp only [takeNew]; rw [reps_one]; simp [natsR]
  · repeat (first | exact Ent.last | refine Ent.cons ?_ | refine Ent.assoc ?_)
theorem Same_spec {t : PStep} (hn : noneS t = true) (ht : t.words.length ≤ 1000) : Spec Tryd.prog 39 [.pointer p, .pointer sp] W (PoolC p n ws * (StepC sp t * F)) (fun g : Option Addr => .pointer g) (fun g => StepC g (sameNew t) * (StepC sp t * (PoolC p n ws * F))) := by
  refine Spec.of Tryd.func39 rfl Tryd.ntmps39 rfl ?_
  refine PoolC.open fun c => ?_
  simp only [PoolO]
  repeat (first | refine go ?_ | (refine goX ?_; intro))
  refine EL_call rfl (Spec.at1 sp (None_spec sp t)) ?_
  intro _
  rw [hn]
  repeat (first | refine go ?_ | (refine goX ?_; intro))
  refine StepC.openL fun q => ?_
  simp only [StepO, stepV]
  repeat (first | refine go ?_ | (refine goX ?_; intro))
  refine EL_call rfl (Spec.at1 q.1.1 (CloneU_spec q.1.1 t.words.length q.1.2 (natsR .u64 t.words) (natsR_len _ _) (by omega))) ?_
  intro g
  repeat (first | refine go ?_ | (refine goX ?_; intro))
  rename_i x
  refine EK_ret (ER_1 rfl rfl x rfl (Ent.sat (Ent.trans ?_ (StepC.shut (q := (g, (none, 0), (none, 0)))))))
  refine Ent.obj x rfl (Ent.row g.1 rfl rfl (Ent.none (Ent.none (Ent.trans ?_ (StepC.shut (q := q))))))
  refine Ent.obj sp rfl (Ent.row q.1.1 rfl rfl (Ent.row q.2.1.1 rfl rfl (Ent.row q.2.2.1 rfl rfl (Ent.trans ?_ (PoolC.shut (c := c))))))
  repeat (first | exact Ent.last | refine Ent.cons ?_ | refine Ent.assoc ?_)
/-- The free ones of the first words, and of the first bits of the next one. -/
theorem shr_bit {u i : Nat} (hu : u < 18446744073709551616) : bits .and .u64 ((u : Int) / 2 ^ (i : Int).toNat) 1 = (if u.testBit i then 1 else 0 : Int) := by
  rw [Int.toNat_natCast, show (u : Int) / 2 ^ i = ((u / 2 ^ i : Nat) : Int) by norm_cast]
  have h1 : u / 2 ^ i < 18446744073709551616 := Nat.lt_of_le_of_lt (Nat.div_le_self _ _) hu
  have h2 := u64_and_nat (u / 2 ^ i) 1 h1 (by decide)
  rw [show ((1 : Nat) : Int) = 1 from rfl] at h2
  rw [h2, Nat.and_one_is_mod, Nat.testBit_eq_decide_div_mod_eq]
  by_cases h : u / 2 ^ i % 2 = 1
  · simp [h]
  · have : u / 2 ^ i % 2 = 0 := by omega
    simp [this]
theorem Free_spec (hw : WordsOk m ws) : Spec Tryd.prog 16 [.pointer p] W (PoolC p n ws * F) (fun g : Slab => .slice g.1 (freeN ws (m * 32)).length g.2) (fun g => RowC 3 1 g.1 (freeN ws (m * 32)).length g.2 (natsR .i64 (freeN ws (m * 32))) * (PoolC p n ws * F)) := by
  obtain ⟨hlen, hpos, hmost, hlt⟩ := hw
  subst hlen
  refine Spec.of Tryd.func16 rfl Tryd.ntmps16 rfl ?_
  refine PoolC.open fun c => ?_
  simp only [PoolO]
  repeat (first | refine go ?_ | (refine goX ?_; intro))
  refine EL_call rfl (Spec.at1 c (CCopy_spec c ws (by omega))) ?_
  intro w
  repeat (first | refine go ?_ | (refine goX ?_; intro))
  refine EK_loop (γ := Nat × Slab) (fun g => g.1 ≤ ws.length) (fun g => [(3, .slice g.2.1 (freeN ws (g.1 * 32)).length g.2.2), (13, .slice w.1 ws.length w.2), (14, .int .i64 (ws.length : Int)), (15, .int .i64 (g.1 : Int))])
    (fun g => RowC 3 1 g.2.1 (freeN ws (g.1 * 32)).length g.2.2 (natsR .i64 (freeN ws (g.1 * 32))) * (RowC 23 1 w.1 ws.length w.2 (natsR .u64 ws) * PoolO p n ws c F)) (fun g => ws.length - g.1) (0, (none, 0)) (Nat.zero_le _) ⟨rfl, rfl, rfl, rfl, trivial⟩ (Ent.sat (Ent.none ?_)) ?_
  · refine Ent.row w.1 rfl rfl (Ent.at p rfl ?_)
    repeat (first | exact Ent.last | refine Ent.cons ?_ | refine Ent.assoc ?_)
  · intro ⟨i, o⟩ hi; dsimp only at hi ⊢
    by_cases hil : i < ws.length
    · have hu : ws.getD i 0 < 18446744073709551616 := getD_lt hlt i
      repeat (first | refine go ?_ | (refine goX ?_; intro))
      refine EK_loop (γ := Nat × Slab) (fun g => g.1 ≤ 32) (fun g => [(3, .slice g.2.1 (freeN ws (i * 32 + g.1)).length g.2.2), (13, .slice w.1 ws.length w.2), (14, .int .i64 (ws.length : Int)), (15, .int .i64 (i : Int)), (4, .int .i64 (i : Int)), (5, .int .u64 ((ws.getD i 0 : Nat) : Int)), (20, .int .i64 (g.1 : Int))])
        (fun g => RowC 3 1 g.2.1 (freeN ws (i * 32 + g.1)).length g.2.2 (natsR .i64 (freeN ws (i * 32 + g.1))) * (RowC 23 1 w.1 ws.length w.2 (natsR .u64 ws) * PoolO p n ws c F)) (fun g => 32 - g.1) (0, o) (Nat.zero_le _) ⟨rfl, rfl, rfl, rfl, rfl, rfl, rfl, trivial⟩ (Ent.sat (Ent.refl _)) ?_
      intro ⟨b, o2⟩ hb; dsimp only at hb ⊢
      by_cases hbl : b < 32
      · have hk := shr_bit (u := ws.getD i 0) (i := b) hu
        have hf := freeN_succ ws (i * 32 + b)
        have hfl := freeN_len ws (i * 32 + b)
        have hif : isFree ws (i * 32 + b) = !(ws.getD i 0).testBit b := by
          unfold isFree
          rw [show (i * 32 + b) / 32 = i by omega, show (i * 32 + b) % 32 = b by omega]
        have hb2 : ((b : Nat) : Int).toNat < 64 := by omega
        cases ht : (ws.getD i 0).testBit b with
        | true =>
          rw [ht, if_pos rfl] at hk
          rw [hif, ht] at hf
          repeat (first | refine go ?_ | (refine goX ?_; intro))
          refine EK_round (b + 1, o2) (by dsimp only; omega) (by dsimp only; omega) ⟨?_, rfl, rfl, rfl, rfl, rfl, rfl, trivial⟩ (Ent.sat (Ent.row o2.1 ?_ ?_ (Ent.refl _)))
          · show _ = some (Value.slice o2.1 (freeN ws (i * 32 + b + 1)).length o2.2)
            rw [hf]; simp; rfl
          · show _ = (freeN ws (i * 32 + b + 1)).length
            rw [hf]; simp
          · show _ = natsR _ (freeN ws (i * 32 + b + 1))
            rw [hf]; simp
        | false =>
          rw [ht, if_neg (by decide)] at hk
          rw [hif, ht] at hf
          repeat (first | refine go ?_ | (refine goX ?_; intro))
          rename_i y o3
          have hf' : freeN ws (i * 32 + b + 1) = freeN ws (i * 32 + b) ++ [i * 32 + b] := by rw [hf]; simp
          refine EK_round (b + 1, o3) (by dsimp only; omega) (by dsimp only; omega) ⟨?_, rfl, rfl, rfl, rfl, rfl, rfl, trivial⟩ (Ent.sat (Ent.row o3.1 ?_ ?_ (Ent.refl _)))
          · show _ = some (Value.slice o3.1 (freeN ws (i * 32 + b + 1)).length o3.2)
            rw [hf']; simp; rfl
          · show _ = (freeN ws (i * 32 + b + 1)).length
            rw [hf']; simp
          · show _ = natsR _ (freeN ws (i * 32 + b + 1))
            rw [hf']; simp [natsR]
      · have hbb : b = 32 := by omega
        repeat (first | refine go ?_ | (refine goX ?_; intro))
        refine EK_round (i + 1, o2) (by dsimp only; omega) (by dsimp only; omega) ⟨?_, rfl, rfl, rfl, trivial⟩ (Ent.sat (Ent.row o2.1 ?_ ?_ (Ent.refl _)))
        · rw [hbb, show i * 32 + 32 = (i + 1) * 32 by omega]; rfl
        · rw [hbb, show i * 32 + 32 = (i + 1) * 32 by omega]
        · rw [hbb, show i * 32 + 32 = (i + 1) * 32 by omega]
    · repeat (first | refine go ?_ | (refine goX ?_; intro))
      have hii : i = ws.length := by omega
      subst hii
      refine EK_ret (ER_1 rfl rfl o rfl (Ent.sat (Ent.row o.1 rfl rfl (Ent.trans Ent.drop (PoolC.shut (c := c))))))
end Go.Proofs.YtdmmahhnfnefoaaDoor
