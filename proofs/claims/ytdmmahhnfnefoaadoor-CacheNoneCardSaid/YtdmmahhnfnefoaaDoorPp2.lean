/-
  Package pool: grab, take.
-/
import Derived.Test.YtdmmahhnfnefoaaDoorPp1
import Derived.Test.YtdmmahhnfnefoaaDoorPpT
namespace Go.Proofs.YtdmmahhnfnefoaaDoor
open Go.RowKit
set_option maxRecDepth 10000
attribute [local irreducible] EK EX ER EN EL ES EG OpVal OpDoes OpSkip
variable {W : World} {F : SL} {X : Cx} {k : List KI} {σ : Env} {p sp : Option Addr} {n m : Nat} {ws : List Nat} {s : PStep}

theorem both_shut {H : SL} {c : Option Addr} {q : Slab × Slab × Slab} (h : Ent H (PoolO p n ws c (StepO sp s q F))) : Ent H (PoolC p n ws * (StepC sp s * F)) :=
  h.trans ((PoolC.shut (c := c)).trans (Ent.cons StepC.shut))
theorem grab_spec (hT : Tab W) (hw : WordsOk m ws) (hs : s.Ok m) (hk : s.kind = 0) :
    Spec Tryd.prog 56 [.pointer p, .pointer sp] W (PoolC p n ws * (StepC sp s * F)) (fun _ : Unit => .tuple #[]) (fun _ => PoolC p n (grabS ws s).1 * (StepC sp (grabS ws s).2 * F)) := by
  obtain ⟨hwl, hwd, hl, hm1, hm2, hl1⟩ := hs.takes hk
  have hm3 := hw.most
  have hu := hs.seen
  have key0 := frees_key hu
  have hlen := hw.len
  refine Spec.of Tryd.func56 rfl Tryd.ntmps56 rfl ?_
  refine PoolC.open fun c => ?_
  refine EK_at sp (StepC.open fun q => ?_)
  simp only [StepO, stepV]
  have key1 : bits .and .u64 (bits .xor .u64 (if IntKind.u64.signed = true then -1 else IntKind.u64.max) (s.seen : Int)) 4294967295 = ((ofBits (freesOf s.seen) : Nat) : Int) := key0
  have key2 := low_test hu
  have hPl := picks_len s.seen s.most
  repeat (first | refine go ?_ | (refine goX ?_; intro))
  refine EL_val (OpVal_compl rfl rfl) rfl ?_
  repeat (first | refine go ?_ | (refine goX ?_; intro))
  rw [key1, key2]
  refine EK_exits (γ := Slab) (fun _ => True) (fun g => [(0, .pointer p), (1, .pointer sp), (4, .slice g.1 (picks s.seen s.most).length g.2), (6, .int .u64 ((s.seen % 4294967296 ||| ofBits (picks s.seen s.most) : Nat) : Int))])
    (fun g => RowC 3 1 g.1 (picks s.seen s.most).length g.2 (natsR .i64 ((picks s.seen s.most).map (s.word * 32 + ·))) * StepO sp s q (PoolO p n ws c F)) ?_ ?_
  · refine EK_loop (γ := Nat × Slab) (fun g => g.1 ≤ (picks s.seen s.most).length) (fun g => [(0, .pointer p), (1, .pointer sp), (4, .slice g.2.1 g.1 g.2.2), (5, .int .u64 ((ofBits ((freesOf s.seen).drop g.1) : Nat) : Int)), (6, .int .u64 ((s.seen % 4294967296 ||| ofBits ((freesOf s.seen).take g.1) : Nat) : Int))])
      (fun g => RowC 3 1 g.2.1 g.1 g.2.2 (natsR .i64 (((freesOf s.seen).take g.1).map (s.word * 32 + ·))) * StepO sp s q (PoolO p n ws c F)) (fun g => 32 - g.1) (0, (none, 0)) (Nat.zero_le _) ⟨rfl, rfl, rfl, rfl, by simp [ofBits]; rfl, trivial⟩ (Ent.sat (Ent.none (Ent.refl _))) ?_
    intro ⟨k, o⟩ hk2; dsimp only at hk2 ⊢
    simp only [StepO, stepV, PoolO]
    by_cases hkP : k < (picks s.seen s.most).length
    · have hkm : k < s.most := by omega
      have hkf : k < (freesOf s.seen).length := by omega
      obtain ⟨t1, t2, t3⟩ := grab_next hkf
      have hX0 : ¬ ofBits ((freesOf s.seen).drop k) = 0 := by rw [ofBits_eq_zero, List.drop_eq_nil_iff]; omega
      have hXl := frees_lt s.seen k
      have hX1 : ¬ ((ofBits ((freesOf s.seen).drop k) : Nat) : Int) = 0 := by omega
      have hgi : (freesOf s.seen).getD k 0 = (freesOf s.seen)[k] := by rw [List.getD_eq_getElem?_getD, List.getElem?_eq_getElem hkf]; rfl
      have htk := take_snocD (l := freesOf s.seen) (d := 0) hkf
      rw [hgi] at htk
      repeat (first | refine go ?_ | (refine goX ?_; intro))
      refine EL_call rfl (tz_spec hT _ (by omega) hX0) ?_
      intro _
      rw [t1]
      generalize (freesOf s.seen)[k] = i at *
      have hYl : s.seen % 4294967296 ||| ofBits ((freesOf s.seen).take k) < 4294967296 := or_lt (Nat.mod_lt _ (by decide)) (ofBits_take_lt _ _)
      have hpi : (2 : Nat) ^ i < 4294967296 := pow_lt32 t2
      have hsh : IntKind.u64.wrap (1 * 2 ^ (i : Int).toNat) = ((2 ^ i : Nat) : Int) := by
        rw [Int.one_mul, Int.toNat_natCast]; exact wrap_pow t2
      repeat (first | refine go ?_ | (refine goX ?_; intro))
      rename_i o2
      refine EK_round (k + 1, o2) (by dsimp only; omega) (by dsimp only; omega) ⟨rfl, rfl, rfl, ?_, ?_, trivial⟩ (Ent.sat ?_)
      · rw [hsh, u64_andNot_nat _ _ (by omega) (by omega), t3]
        rfl
      · rw [hsh, u64_or_nat _ _ (by omega) (by omega)]
        dsimp only
        rw [← htk, ofBits_snoc, ← Nat.or_assoc]
        rfl
      · dsimp only
        refine Ent.row o2.1 rfl ?_ ?_
        · rw [← htk, List.map_append, List.map_cons, List.map_nil, ← natsR_snoc]
          congr 3
        · repeat (first | exact Ent.last | refine Ent.cons ?_ | refine Ent.assoc ?_)
    · have hkl : k = (picks s.seen s.most).length := by omega
      have hp : (freesOf s.seen).take k = picks s.seen s.most := by
        rw [hkl, hPl, picks, ← List.take_eq_take_min]
      rw [hp]
      subst hkl
      by_cases hX0 : ofBits ((freesOf s.seen).drop (picks s.seen s.most).length) = 0
      · rw [hX0]
        repeat (first | refine go ?_ | (refine goX ?_; intro))
        exact EK_meet o trivial ⟨rfl, rfl, rfl, rfl, trivial⟩ (Ent.sat (Ent.refl _))
      · have hX1 : ¬ ((ofBits ((freesOf s.seen).drop (picks s.seen s.most).length) : Nat) : Int) = 0 := by omega
        have hkm : s.most ≤ (picks s.seen s.most).length := by
          have := (not_congr (grab_go (u := s.seen) (most := s.most) (k := (picks s.seen s.most).length))).2 (by omega)
          omega
        repeat (first | refine go ?_ | (refine goX ?_; intro))
        exact EK_meet o trivial ⟨rfl, rfl, rfl, rfl, trivial⟩ (Ent.sat (Ent.refl _))
  intro o _
  simp only [StepO, stepV, PoolO]
  have hlow : s.seen % 4294967296 ||| ofBits (picks s.seen s.most) < 4294967296 := or_lt (Nat.mod_lt _ (by decide)) (ofBits_lt _ 32 fun i hi => (mem_freesOf.1 (List.mem_of_mem_take hi)).1)
  repeat (first | refine go ?_ | (refine goX ?_; intro))
  refine EK_drawnT 18 rfl (by kernel_rfl) rfl rfl ?_
  repeat (refine goS ?_)
  refine ES_call rfl (changed_spec s.seen _ hu hlow) ?_
  repeat (refine goS ?_)
  refine EL_call rfl (Spec.at1 c (Cas_spec c ws s.word s.seen _ (by omega) (by omega))) ?_
  intro _
  by_cases he : ws.getD s.word 0 = s.seen
  · rw [decide_eq_true he, if_pos he]
    have eg : grabS ws s = (ws.set s.word (changedN s.seen (s.seen % 4294967296 ||| ofBits (picks s.seen s.most))), { s with ports := (picks s.seen s.most).map (s.word * 32 + ·), done := true }) := if_pos he
    rw [eg]
    repeat (first | refine go ?_ | (refine goX ?_; intro))
    refine EK_end (EN_0 rfl () rfl (Ent.sat (both_shut (c := c) (q := (q.1, q.2.1, o)) ?_)))
    refine Ent.obj p rfl (Ent.cons (Ent.obj sp (by simp) (Ent.row q.1.1 rfl rfl (Ent.row q.2.1.1 rfl rfl (Ent.row o.1 (by simp) rfl ?_)))))
    repeat (first | exact Ent.last | refine Ent.cons ?_ | refine Ent.assoc ?_)
  · rw [decide_eq_false he, if_neg he]
    have eg : grabS ws s = (ws, s) := if_neg he
    rw [eg]
    repeat (first | refine go ?_ | (refine goX ?_; intro))
    refine EK_end (EN_0 rfl () rfl (Ent.sat (both_shut (c := c) (q := q) ?_)))
    repeat (first | exact Ent.last | refine Ent.cons ?_ | refine Ent.assoc ?_)
theorem take_spec (hT : Tab W) (hw : WordsOk m ws) (hs : s.Ok m) (hk : s.kind = 0) (hd : s.done = false) :
    Spec Tryd.prog 44 [.pointer p, .pointer sp] W (PoolC p n ws * (StepC sp s * F)) (fun _ : Unit => .tuple #[]) (fun _ => PoolC p n (takeS ws s).1 * (StepC sp (takeS ws s).2 * F)) := by
  obtain ⟨hwl, hwd, hl, hm1, hm2, hl1⟩ := hs.takes hk
  have hl1 := hl1 hd
  have hm3 := hw.most
  have hlen := hw.len
  have hlt := (hw.get hwd).2
  refine Spec.of Tryd.func44 rfl Tryd.ntmps44 rfl ?_
  refine PoolC.open fun c => ?_
  refine EK_at sp (StepC.open fun q => ?_)
  simp only [StepO, stepV, PoolO]
  by_cases hr : s.read = true
  · rw [hr]
    rw [takeS_read hr]
    repeat (first | refine go ?_ | (refine goX ?_; intro))
    refine EL_call rfl (Spec.pre (grab_spec (p := p) (sp := sp) (n := n) (s := { s with read := false }) hT hw ⟨hs.kind, hs.seen, hs.words, hs.takes, hs.sames, hs.parts, hs.ports⟩ hk (F := F)) (both_shut (c := c) (q := q) (by repeat (first | exact Ent.last | refine Ent.cons ?_ | refine Ent.assoc ?_)))) ?_
    intro _
    repeat (first | refine go ?_ | (refine goX ?_; intro))
    exact EK_ret (ER_0 rfl () rfl (Ent.sat (Ent.refl _)))
  · have hr : s.read = false := by simpa using hr
    rw [hr]
    have key2 := low_test hlt
    by_cases hf : freesOf (ws.getD s.word 0) = []
    · have et : takeS ws s = (ws, { s with seen := ws.getD s.word 0, words := s.words.set s.word (ws.getD s.word 0), word := (s.word + 1) % s.words.length, left := s.left - 1, done := decide (s.left - 1 = 0) }) := by
        unfold takeS
        rw [if_neg (by simp [hr]), if_pos hf]
      have hfull := (freesOf_nil _).1 hf
      rw [et]
      repeat (first | refine go ?_ | (refine goX ?_; intro))
      refine EK_drawnT 12 rfl (by kernel_rfl) rfl rfl ?_
      repeat (refine goS ?_)
      refine ES_call rfl (Spec.keep1 c (Load_spec c ws s.word (by omega) (by omega))) ?_
      repeat (refine goS ?_)
      repeat (first | refine go ?_ | (refine goX ?_; intro))
      refine EK_drawnT 13 rfl (by kernel_rfl) rfl rfl ?_
      repeat (refine goS ?_)
      repeat (first | refine go ?_ | (refine goX ?_; intro))
      refine EK_drawnT 14 rfl (by kernel_rfl) rfl rfl ?_
      repeat (refine goS ?_)
      repeat (first | refine go ?_ | (refine goX ?_; intro))
      have e1 : ((s.word : Int) + 1) % (s.words.length : Int) = (((s.word + 1) % s.words.length : Nat) : Int) := by rw [Int.natCast_emod, Int.natCast_add]; rfl
      have e2 : (s.left : Int) - 1 = ((s.left - 1 : Nat) : Int) := by omega
      have e3 : decide ((s.left : Int) - 1 = 0) = decide (s.left - 1 = 0) := decide_eq_decide.2 (by omega)
      rw [e3, e1, e2]
      refine EK_end (EN_0 rfl () rfl (Ent.sat (both_shut (c := c) (q := q) ?_)))
      refine Ent.at p rfl (Ent.at c rfl (Ent.obj sp (by simp only [stepV, hr, List.length_set]) (Ent.row q.1.1 (by rw [List.length_set]) rfl ?_)))
      repeat (first | exact Ent.last | refine Ent.cons ?_ | refine Ent.assoc ?_)
    · have et : takeS ws s = (ws, { s with seen := ws.getD s.word 0, read := true }) := by
        unfold takeS
        rw [if_neg (by simp [hr]), if_neg hf]
      have hnf : ¬ ws.getD s.word 0 % 4294967296 = 4294967295 := fun e => hf ((freesOf_nil _).2 e)
      rw [et]
      repeat (first | refine go ?_ | (refine goX ?_; intro))
      refine EK_drawnT 12 rfl (by kernel_rfl) rfl rfl ?_
      repeat (refine goS ?_)
      refine ES_call rfl (Spec.keep1 c (Load_spec c ws s.word (by omega) (by omega))) ?_
      repeat (refine goS ?_)
      repeat (first | refine go ?_ | (refine goX ?_; intro))
      refine EK_ret (ER_0 rfl () rfl (Ent.sat (both_shut (c := c) (q := q) ?_)))
      refine Ent.at p rfl (Ent.at c rfl (Ent.obj sp rfl ?_))
      repeat (first | exact Ent.last | refine Ent.cons ?_ | refine Ent.assoc ?_)
end Go.Proofs.YtdmmahhnfnefoaaDoor
