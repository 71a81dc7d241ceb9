/-
  Hc, Hr, Hs, Ht, Sp, Hv, Hw, Hx: joined by a program (wip/bundle.py).
-/
import Derived.Test.YtianbkbehjppoaaGreatDoorG0
import Derived.Test.YtianbkbehjppoaaGreatDoorG1
import Derived.Test.YtianbkbehjppoaaGreatDoorG2
import Derived.Test.YtianbkbehjppoaaGreatDoorG3
import Derived.Test.YtianbkbehjppoaaGreatDoorG4
import Derived.Test.YtianbkbehjppoaaGreatDoorG5
import Derived.Test.YtianbkbehjppoaaGreatDoorG6
import Derived.Test.YtianbkbehjppoaaGreatDoorG7
import Derived.Test.YtianbkbehjppoaaGreatDoorG8
import Derived.Test.YtianbkbehjppoaaGreatDoorG9
namespace Go.Proofs.YtianbkbehjppoaaGreatDoor
open Go.RowKit
set_option maxRecDepth 10000
attribute [local irreducible] EK EX ER EN EL ES EG OpVal OpDoes OpSkip
variable {W : World} {F : SL} {X : Cx} {k : List KI} {σ : Env}
/-! ### A binding set in -/
def outB (L : List BindT) (b : BindT) (k : Option Nat) (i : Nat) : List BindT := match k with
  | none => L.take i
  | some k => L.take k ++ b :: (L.take i).drop k
def PutB (c : Cfg) (b : BindT) (L : List BindT) (k : Option Nat) (i : Nat) : Prop := match k with
  | none => ∀ j, j < i → placeB c (L.getD j bd0) ≤ placeB c b
  | some k => k < i ∧ (∀ j, j < k → placeB c (L.getD j bd0) ≤ placeB c b) ∧ placeB c (L.getD k bd0) > placeB c b
theorem PutB.zero (c : Cfg) (b : BindT) (L : List BindT) : PutB c b L none 0 := fun j hj => by omega
theorem outB_len (L : List BindT) (b : BindT) (k : Option Nat) (i : Nat) (h : i ≤ L.length) : (outB L b k i).length ≤ L.length + i + 1 := by
  unfold outB
  split
  · rw [List.length_take]; omega
  · rw [List.length_append, List.length_cons, List.length_drop, List.length_take, List.length_take]; omega
theorem insB_at {c : Cfg} {b : BindT} : ∀ {L : List BindT} {k : Nat}, k ≤ L.length → (∀ j, j < k → placeB c (L.getD j bd0) ≤ placeB c b) → (k < L.length → placeB c (L.getD k bd0) > placeB c b) → insB c b L = L.take k ++ b :: L.drop k
  | [], k, h, _, _ => by
    obtain rfl : k = 0 := by simpa using h
    rfl
  | a :: L, 0, _, _, h2 => by
    have := h2 (by simp)
    unfold insB
    rw [if_pos (by simpa using this)]
    rfl
  | a :: L, k + 1, h, h1, h2 => by
    have h0 := h1 0 (by omega)
    unfold insB
    rw [if_neg (by have : placeB c a ≤ placeB c b := by simpa using h0
                   omega)]
    rw [insB_at (L := L) (k := k) (by simpa using h) (fun j hj => by simpa using h1 (j + 1) (by omega)) (fun hk => by simpa using h2 (by simpa using hk))]
    rfl
theorem PutB.done {c : Cfg} {b : BindT} {L : List BindT} {k : Option Nat} (h : PutB c b L k L.length) : (match k with | none => outB L b none L.length ++ [b] | some k => outB L b (some k) L.length) = insB c b L := by
  cases k with
  | none =>
    show L.take L.length ++ [b] = _
    rw [insB_at (Nat.le_refl _) h (fun h => by omega), List.drop_length]
  | some k =>
    obtain ⟨h1, h2, h3⟩ := h
    show L.take k ++ b :: (L.take L.length).drop k = _
    rw [List.take_length, insB_at (by omega) h2 (fun _ => h3)]
theorem outB_some {L : List BindT} {b : BindT} {k i : Nat} (hk : k ≤ i) (hi : i < L.length) : outB L b (some k) i ++ [L.getD i bd0] = outB L b (some k) (i + 1) := by
  unfold outB
  dsimp only
  rw [← take_snocD (d := bd0) hi, List.drop_append_of_le_length (by rw [List.length_take]; omega)]
  simp
theorem outB_none {L : List BindT} {b : BindT} {i : Nat} (hi : i < L.length) : outB L b none i ++ [L.getD i bd0] = outB L b none (i + 1) := take_snocD hi
theorem outB_put {L : List BindT} {b : BindT} {i : Nat} (hi : i < L.length) : outB L b none i ++ [b] = outB L b (some i) i := by
  unfold outB
  dsimp only
  rw [List.drop_eq_nil_of_le (by rw [List.length_take]; omega)]
section
variable {q : Option Addr} {c : Nat}
theorem Rewrite_int {l : List UInt8} (out : Bool) (hl : l.length ≤ 140737488355328) [s : Src W F q l.length (bytesR l)] [r : Room W F q l.length c] (addr port : Int) (ha : 0 ≤ addr ∧ addr < 4294967296) (hp : 0 ≤ port ∧ port < 65536) : Spec Tryz.prog 41 [.slice q l.length c, .bool out, .int .u32 addr, .int .u16 port] W F (fun z : Slab => rwV z (rwT l out addr.toNat port.toNat) (readE l)) (fun z => RwO z (rwT l out addr.toNat port.toNat) F) := by
  have h := Rewrite_spec (W := W) (F := F) (p := q) (c := c) out hl addr.toNat port.toNat (by omega) (by omega)
  rwa [show ((addr.toNat : Nat) : Int) = addr by omega, show ((port.toNat : Nat) : Int) = port by omega] at h
abbrev anR (z : Slab) (a : AnsT) : Value := .tuple #[.slice z.1 a.frame.length z.2, .int .i64 (a.err : Int)]
set_option maxHeartbeats 2000000 in
theorem rStep_spec (n : Option Addr) (cf : Cfg) (hf : cf.Fit) (hg : cf.Good) {L : List BindT} (hN : NatOk cf L) (x : CallT) (hl : x.frame.length ≤ 140737488355328) [s : Src W F q x.frame.length (bytesR x.frame)] [r : Room W F q x.frame.length c] (ht : I64 x.tick) (hp : I64 x.port) :
    Spec Tryz.prog 20 [.pointer n, .agg (clV x q c).toArray] W (RnC n cf L * F) (fun z : Slab => anR z (stepT cf L x)) (fun z => RowC 5 1 z.1 (stepT cf L x).frame.length z.2 (bytesR (stepT cf L x).frame) * (RnC n cf (stepT cf L x).L * F)) := by
  refine Spec.of Tryz.func20 rfl Tryz.ntmps20 rfl ?_
  refine RnC.open fun qn => ?_
  have eS : stepT cf L x = _ := rfl
  conv at eS => rhs; unfold stepT
  have h0 := hN.few hg
  obtain ⟨xo, xf, xt, xp⟩ := x
  dsimp only at *
  unfold I64 at ht
  by_cases g1 : xt < 0
  · rw [if_pos (Or.inl g1)] at eS
    repeat (first | refine go ?_ | (refine goX ?_; intro))
    rw [eS]
    exact EK_ret (ER_2 rfl rfl rfl ((none, 0) : Slab) rfl (Ent.sat (Ent.none (RnC.shut' (q := qn) (by first | exact Ent.refl _ | exact Ent.last | (repeat (first | refine Ent.cons ?_ | refine Ent.objX ?_ | refine Ent.rowX ?_ | exact Ent.any | exact Ent.last)))))))
  by_cases g2 : xt > 4294967295
  · rw [if_pos (Or.inr g2)] at eS
    repeat (first | refine go ?_ | (refine goX ?_; intro))
    rw [eS]
    exact EK_ret (ER_2 rfl rfl rfl ((none, 0) : Slab) rfl (Ent.sat (Ent.none (RnC.shut' (q := qn) (by first | exact Ent.refl _ | exact Ent.last | (repeat (first | refine Ent.cons ?_ | refine Ent.objX ?_ | refine Ent.rowX ?_ | exact Ent.any | exact Ent.last)))))))
  rw [if_neg (fun g => g.elim g1 g2)] at eS
  have fo := hf.o
  repeat (first | refine go ?_ | (refine goX ?_; intro))
  rename_i oc
  refine EK_join (γ := Option Addr) (fun _ => True) (fun y => [(0, .pointer n), (1, .agg (clV ⟨xo, xf, xt, xp⟩ q c).toArray), (3, .pointer oc), (6, .pointer y), (7, .int .i64 (whoE cf.o.toNat xo xf : Int))])
    (fun y => Obj y 102 (flV (whoT cf.o.toNat xo xf)) * (Obj oc 40 (clV ⟨xo, xf, xt, xp⟩ q c) * RnO n cf qn L F)) ?_ ?_
  · refine EK_sink 14 (Obj n 72 (rnV cf qn L.length) * (Obj oc 40 (clV ⟨xo, xf, xt, xp⟩ q c) * 1)) rfl rfl rfl ?_
    repeat (first | refine goQ ?_ | refine EG_done (by decide +kernel) ?_)
    refine EG_two (i := 8) (j := 12) (EI_callQ rfl rfl rfl rfl (rWhose_spec (l := xf) hl cf fo.1 xo) (fun _ => by first | exact Ent.refl _ | exact Ent.last | (repeat (first | refine Ent.cons ?_ | refine Ent.objX ?_ | refine Ent.rowX ?_ | exact Ent.any | exact Ent.last))) ?_) (EI_does rfl rfl (OpDoes_alloc rfl) rfl (fun _ => by first | exact Ent.refl _ | exact Ent.last | (repeat (first | refine Ent.cons ?_ | refine Ent.objX ?_ | refine Ent.rowX ?_ | exact Ent.any | exact Ent.last))) ?_)
    · intro _
      repeat (first | refine goQ ?_ | refine EG_done (by decide +kernel) ?_)
      repeat (first | refine goG ?_ | (refine goGX ?_; intro) | refine goGL ?_ | refine goGS ?_ | refine goGV ?_ | refine EG_done (by decide +kernel) ?_)
      rename_i y
      exact EK_meet y trivial ⟨rfl, rfl, rfl, rfl, rfl, trivial⟩ (Ent.sat (by first | exact Ent.refl _ | exact Ent.last | (repeat (first | refine Ent.cons ?_ | refine Ent.objX ?_ | refine Ent.rowX ?_ | exact Ent.any | exact Ent.last))))
    · intro y
      refine EG_callQ rfl rfl rfl rfl rfl (rWhose_spec (l := xf) hl cf fo.1 xo) (fun _ => by first | exact Ent.refl _ | exact Ent.last | (repeat (first | refine Ent.cons ?_ | refine Ent.objX ?_ | refine Ent.rowX ?_ | exact Ent.any | exact Ent.last))) ?_
      intro _
      repeat (first | refine goQ ?_ | refine EG_done (by decide +kernel) ?_)
      repeat (first | refine goG ?_ | (refine goGX ?_; intro) | refine goGL ?_ | refine goGS ?_ | refine goGV ?_ | refine EG_done (by decide +kernel) ?_)
      exact EK_meet y trivial ⟨rfl, rfl, rfl, rfl, rfl, trivial⟩ (Ent.sat (by first | exact Ent.refl _ | exact Ent.last | (repeat (first | refine Ent.cons ?_ | refine Ent.objX ?_ | refine Ent.rowX ?_ | exact Ent.any | exact Ent.last))))
  intro y _
  by_cases g3 : whoE cf.o.toNat xo xf ≠ 0
  · rw [if_pos g3] at eS
    have g3' : ¬ ((whoE cf.o.toNat xo xf : Nat) : Int) = 0 := by omega
    repeat (first | refine go ?_ | (refine goX ?_; intro))
    rw [eS]
    exact EK_ret (ER_2 rfl rfl rfl ((none, 0) : Slab) rfl (Ent.sat (Ent.none (RnC.shut' (q := qn) (by first | exact Ent.refl _ | exact Ent.last | (repeat (first | refine Ent.cons ?_ | refine Ent.objX ?_ | refine Ent.rowX ?_ | exact Ent.any | exact Ent.last)))))))
  have g3 := Decidable.not_not.1 g3
  rw [if_neg (by omega)] at eS
  have eW : whoT cf.o.toNat xo xf = whoF xo xf := if_pos g3
  have hR : readE xf = 0 := by
    unfold whoE at g3
    split at g3
    · exact absurd g3 (by assumption)
    · omega
  rw [eW, g3]
  have wo := whoF_ok xo xf
  have wp := fun h => who_proto (out := xo) hR h
  have rg : PtRng (frP xf) := PtRng.of (headH xf) xf
  have hBg := rBegins_model (W := W) (l := xf) (p := q) (c := c) (F := F) hl xo
  repeat (first | refine go ?_ | (refine goX ?_; intro))
  refine EL_call rfl (rPart_spec hl) ?_
  intro _
  rw [show rdP xf = frP xf from if_pos hR, decide_eq_true hR]
  obtain ⟨w, hww⟩ : ∃ w, whoF xo xf = w := ⟨_, rfl⟩
  obtain ⟨p, hpp⟩ : ∃ p, frP xf = p := ⟨_, rfl⟩
  rw [hww] at wo wp eS ⊢
  rw [hpp] at wp rg eS ⊢
  obtain ⟨wo1, wo2, wo3⟩ := wo
  repeat (first | refine go ?_ | (refine goX ?_; intro))
  rename_i op
  refine EK_loop (γ := Nat) (fun i => i ≤ L.length ∧ ∀ j, j < i → isB xo w (L.getD j bd0) = false) (fun i => [(0, .pointer n), (3, .pointer oc), (6, .pointer y), (8, .pointer op), (10, .int .i64 (i : Int))])
    (fun _ => Obj op 106 (ptV p) * (Obj y 102 (flV w) * (Obj oc 40 (clV ⟨xo, xf, xt, xp⟩ q c) * RnO n cf qn L F))) (fun i => L.length - i) 0 ⟨Nat.zero_le _, fun j hj => by omega⟩ ⟨rfl, rfl, rfl, rfl, rfl, trivial⟩ (Ent.sat (by first | exact Ent.refl _ | exact Ent.last | (repeat (first | refine Ent.cons ?_ | refine Ent.objX ?_ | refine Ent.rowX ?_ | exact Ent.any | exact Ent.last)))) ?_
  intro i ⟨hi1, hi2⟩; dsimp only at hi1 hi2 ⊢
  by_cases hi : i < L.length
  · haveI : Pos L.length := ⟨by omega⟩
    obtain ⟨b, eb⟩ : ∃ b, L.getD i bd0 = b := ⟨_, rfl⟩
    have hbm : b ∈ L := by rw [← eb]; exact getD_mem hi
    have okb := hN.ok b hbm
    have oks := okb.seen
    have snoc : isB xo w b = false → ∀ j, j < i + 1 → isB xo w (L.getD j bd0) = false := fun h j hj => by
      rcases Nat.lt_or_ge j i with g | g
      · exact hi2 j g
      · obtain rfl : j = i := by omega
        rw [eb]
        exact h
    have hok : b.port < 65536 := okb.port
    have okt := okb.track
    have hLi : L[i]? = some b := by rw [← eb, List.getD_eq_getElem?_getD, List.getElem?_eq_getElem hi]; rfl
    have rf := rg.flags
    obtain ⟨pp, ps, pd, pf, pk, pc, pe, pi, po, pb⟩ := p
    dsimp only at rf wp
    cases xo with
    | true =>
      by_cases gm : b.flow = w
      · have hI : isB true w b = true := by simp [isB, gm]
        rw [findIdx_at hi hi2 (by rw [eb]; exact hI)] at eS
        dsimp only at eS
        rw [eb, if_pos rfl, modify_set _ hLi] at eS
        cases pe with
        | true =>
          have e3 : L.set i (seenB ⟨true, xf, xt, xp⟩ ⟨pp, ps, pd, pf, pk, pc, true, pi, po, pb⟩ b) = L := by
            rw [show seenB ⟨true, xf, xt, xp⟩ ⟨pp, ps, pd, pf, pk, pc, true, pi, po, pb⟩ b = b from if_pos rfl]
            rw [← (List.getElem?_eq_some_iff.1 hLi).2]
            exact List.set_getElem_self hi
          rw [e3] at eS
          repeat (first | refine go ?_ | (refine goX ?_; intro))
          rename_i ob
          rw [eb]
          repeat (first | refine go ?_ | (refine goX ?_; intro))
          rw [@decide_eq_true _ (Classical.propDecidable _) (show flV b.flow = flV w by rw [gm])]
          repeat (first | refine go ?_ | (refine goX ?_; intro))
          refine EK_sink 99 (Obj oc 40 (clV ⟨true, xf, xt, xp⟩ q c) * (Obj n 72 (rnV cf qn L.length) * (Obj ob 110 (bdV b) * 1))) rfl rfl rfl ?_
          repeat (first | refine goQ ?_ | refine EG_done (by decide +kernel) ?_)
          refine EG_callQ rfl rfl rfl rfl rfl (Rewrite_int (l := xf) true hl cf.o b.port (by omega) (by omega)) (fun _ => by first | exact Ent.refl _ | exact Ent.last | (repeat (first | refine Ent.cons ?_ | refine Ent.objX ?_ | refine Ent.rowX ?_ | exact Ent.any | exact Ent.last))) ?_
          intro z
          repeat (first | refine goQ ?_ | refine EG_done (by decide +kernel) ?_)
          repeat (first | refine go ?_ | (refine goX ?_; intro))
          rw [eS, hR, Int.toNat_natCast]
          refine EK_ret (ER_2 rfl rfl rfl z rfl (Ent.sat (Ent.cons (RnC.shut' (q := qn) ?_))))
          first | exact Ent.refl _ | exact Ent.last | (repeat (first | refine Ent.cons ?_ | refine Ent.objX ?_ | refine Ent.rowX ?_ | exact Ent.any | exact Ent.last))
        | false =>
          have hp1 : b.flow.proto = w.proto := by rw [gm]
          rw [show seenB ⟨true, xf, xt, xp⟩ ⟨pp, ps, pd, pf, pk, pc, false, pi, po, pb⟩ b = ⟨b.flow, b.port, nextT b.flow.proto b.track true pf, if renewsT b.flow.proto true then max b.seen xt.toNat else b.seen⟩ from rfl] at eS
          repeat (first | refine go ?_ | (refine goX ?_; intro))
          rename_i ob
          rw [eb]
          repeat (first | refine go ?_ | (refine goX ?_; intro))
          rw [@decide_eq_true _ (Classical.propDecidable _) (show flV b.flow = flV w by rw [gm])]
          repeat (first | refine go ?_ | (refine goX ?_; intro))
          refine EL_call rfl (rNext_spec w.proto b.track pf true okt rf wo1) ?_
          intro _
          repeat (first | refine go ?_ | (refine goX ?_; intro))
          refine EL_call rfl (rRenews_spec w.proto true) ?_
          intro _
          rw [hp1] at eS
          obtain ⟨nx, enx⟩ : ∃ nx, nextT w.proto b.track true pf = nx := ⟨_, rfl⟩
          obtain ⟨rn, ern⟩ : ∃ rn, renewsT w.proto true = rn := ⟨_, rfl⟩
          rw [enx, ern] at eS
          rw [enx, ern]
          cases rn with
          | true =>
            rw [if_pos rfl] at eS
            repeat (first | refine go ?_ | (refine goX ?_; intro))
            dsimp only
            rw [show max (b.seen : Int) xt = ((max b.seen xt.toNat : Nat) : Int) by omega]
            obtain ⟨bz, ebz⟩ : ∃ bz, max b.seen xt.toNat = bz := ⟨_, rfl⟩
            rw [ebz] at eS ⊢
            obtain ⟨nb, enb⟩ : ∃ nb : BindT, nb = ⟨b.flow, b.port, nx, bz⟩ := ⟨_, rfl⟩
            repeat (first | refine go ?_ | (refine goX ?_; intro))
            refine EK_sink 7 (Obj n 72 (rnV cf qn L.length) * (Obj ob 110 (bdV ⟨b.flow, b.port, nx, bz⟩) * (RowX 110 6 qn.1 L.length qn.2 * 1))) rfl rfl rfl ?_
            repeat (first | refine goQ ?_ | refine EG_done (by decide +kernel) ?_)
            refine EG_last rfl (OpSkip_storeR (g := RowSet.bd L i ⟨b.flow, b.port, nx, bz⟩) rfl rfl rfl rfl hi rfl rfl rfl) (by decide +kernel) (by decide +kernel) ?_
            repeat (first | refine go ?_ | (refine goX ?_; intro))
            refine EK_sink 99 (Obj oc 40 (clV ⟨true, xf, xt, xp⟩ q c) * (Obj n 72 (rnV cf qn L.length) * (Obj ob 110 (bdV ⟨b.flow, b.port, nx, bz⟩) * 1))) rfl rfl rfl ?_
            repeat (first | refine goQ ?_ | refine EG_done (by decide +kernel) ?_)
            refine EG_callQ rfl rfl rfl rfl rfl (Rewrite_int (l := xf) true hl cf.o b.port (by omega) (by omega)) (fun _ => by first | exact Ent.refl _ | exact Ent.last | (repeat (first | refine Ent.cons ?_ | refine Ent.objX ?_ | refine Ent.rowX ?_ | exact Ent.any | exact Ent.last))) ?_
            intro z
            repeat (first | refine goQ ?_ | refine EG_done (by decide +kernel) ?_)
            repeat (first | refine go ?_ | (refine goX ?_; intro))
            rw [eS, hR, Int.toNat_natCast]
            refine EK_ret (ER_2 rfl rfl rfl z rfl (Ent.sat (Ent.cons (RnC.shut' (q := qn) ?_))))
            show Ent _ (Obj n 72 (rnV cf qn (L.set i ⟨b.flow, b.port, nx, bz⟩).length) * (RowC 110 6 qn.1 (L.set i ⟨b.flow, b.port, nx, bz⟩).length qn.2 (bdR (L.set i ⟨b.flow, b.port, nx, bz⟩)) * F))
            rw [List.length_set]
            first | exact Ent.refl _ | exact Ent.last | (repeat (first | refine Ent.cons ?_ | refine Ent.objX ?_ | refine Ent.rowX ?_ | exact Ent.any | exact Ent.last))
          | false =>
            rw [if_neg (by decide)] at eS
            repeat (first | refine go ?_ | (refine goX ?_; intro))
            refine EK_sink 7 (Obj n 72 (rnV cf qn L.length) * (Obj ob 110 (bdV ⟨b.flow, b.port, nx, b.seen⟩) * (RowX 110 6 qn.1 L.length qn.2 * 1))) rfl rfl rfl ?_
            repeat (first | refine goQ ?_ | refine EG_done (by decide +kernel) ?_)
            refine EG_last rfl (OpSkip_storeR (g := RowSet.bd L i ⟨b.flow, b.port, nx, b.seen⟩) rfl rfl rfl rfl hi rfl rfl rfl) (by decide +kernel) (by decide +kernel) ?_
            repeat (first | refine go ?_ | (refine goX ?_; intro))
            refine EK_sink 99 (Obj oc 40 (clV ⟨true, xf, xt, xp⟩ q c) * (Obj n 72 (rnV cf qn L.length) * (Obj ob 110 (bdV ⟨b.flow, b.port, nx, b.seen⟩) * 1))) rfl rfl rfl ?_
            repeat (first | refine goQ ?_ | refine EG_done (by decide +kernel) ?_)
            refine EG_callQ rfl rfl rfl rfl rfl (Rewrite_int (l := xf) true hl cf.o b.port (by omega) (by omega)) (fun _ => by first | exact Ent.refl _ | exact Ent.last | (repeat (first | refine Ent.cons ?_ | refine Ent.objX ?_ | refine Ent.rowX ?_ | exact Ent.any | exact Ent.last))) ?_
            intro z
            repeat (first | refine goQ ?_ | refine EG_done (by decide +kernel) ?_)
            repeat (first | refine go ?_ | (refine goX ?_; intro))
            rw [eS, hR, Int.toNat_natCast]
            refine EK_ret (ER_2 rfl rfl rfl z rfl (Ent.sat (Ent.cons (RnC.shut' (q := qn) ?_))))
            show Ent _ (Obj n 72 (rnV cf qn (L.set i ⟨b.flow, b.port, nx, b.seen⟩).length) * (RowC 110 6 qn.1 (L.set i ⟨b.flow, b.port, nx, b.seen⟩).length qn.2 (bdR (L.set i ⟨b.flow, b.port, nx, b.seen⟩)) * F))
            rw [List.length_set]
            first | exact Ent.refl _ | exact Ent.last | (repeat (first | refine Ent.cons ?_ | refine Ent.objX ?_ | refine Ent.rowX ?_ | exact Ent.any | exact Ent.last))
      · repeat (first | refine go ?_ | (refine goX ?_; intro))
        rename_i ob
        rw [eb]
        repeat (first | refine go ?_ | (refine goX ?_; intro))
        rw [@decide_eq_false _ (Classical.propDecidable _) (fun e : flV b.flow = flV w => gm (flV_inj e))]
        repeat (first | refine go ?_ | (refine goX ?_; intro))
        exact EK_round (i + 1) ⟨by omega, snoc (by simp [isB, gm])⟩ (by omega) ⟨rfl, rfl, rfl, rfl, rfl, trivial⟩ (Ent.sat (by first | exact Ent.refl _ | exact Ent.last | (repeat (first | refine Ent.cons ?_ | refine Ent.objX ?_ | refine Ent.rowX ?_ | exact Ent.any | exact Ent.last))))
    | false =>
      by_cases gm1 : b.flow.proto = w.proto
      · by_cases gm2 : b.port = w.port
        · have k1 : (L.getD i bd0).flow.proto = w.proto := by rw [eb]; exact gm1
          have k2 : (L.getD i bd0).port = w.port := by rw [eb]; exact gm2
          have hI : isB false w b = true := by simp [isB, gm1, gm2]
          rw [findIdx_at hi hi2 (by rw [eb]; exact hI)] at eS
          dsimp only at eS
          rw [eb, if_neg (by decide), modify_set _ hLi] at eS
          cases pe with
          | true =>
            have e3 : L.set i (seenB ⟨false, xf, xt, xp⟩ ⟨pp, ps, pd, pf, pk, pc, true, pi, po, pb⟩ b) = L := by
              rw [show seenB ⟨false, xf, xt, xp⟩ ⟨pp, ps, pd, pf, pk, pc, true, pi, po, pb⟩ b = b from if_pos rfl]
              rw [← (List.getElem?_eq_some_iff.1 hLi).2]
              exact List.set_getElem_self hi
            rw [e3] at eS
            repeat (first | refine go ?_ | (refine goX ?_; intro))
            rename_i ob
            rw [eb]
            repeat (first | refine go ?_ | (refine goX ?_; intro))
            refine EL_call rfl (Rewrite_spec (l := xf) false hl b.flow.addr b.flow.port okb.addr okb.fport) ?_
            intro z
            repeat (first | refine go ?_ | (refine goX ?_; intro))
            rw [eS, hR]
            refine EK_ret (ER_2 rfl rfl rfl z rfl (Ent.sat (Ent.cons (RnC.shut' (q := qn) ?_))))
            first | exact Ent.refl _ | exact Ent.last | (repeat (first | refine Ent.cons ?_ | refine Ent.objX ?_ | refine Ent.rowX ?_ | exact Ent.any | exact Ent.last))
          | false =>
            have hp1 : b.flow.proto = w.proto := gm1
            rw [show seenB ⟨false, xf, xt, xp⟩ ⟨pp, ps, pd, pf, pk, pc, false, pi, po, pb⟩ b = ⟨b.flow, b.port, nextT b.flow.proto b.track false pf, if renewsT b.flow.proto false then max b.seen xt.toNat else b.seen⟩ from rfl] at eS
            repeat (first | refine go ?_ | (refine goX ?_; intro))
            rename_i ob
            rw [eb]
            repeat (first | refine go ?_ | (refine goX ?_; intro))
            refine EL_call rfl (rNext_spec w.proto b.track pf false okt rf wo1) ?_
            intro _
            repeat (first | refine go ?_ | (refine goX ?_; intro))
            refine EL_call rfl (rRenews_spec w.proto false) ?_
            intro _
            rw [hp1] at eS
            obtain ⟨nx, enx⟩ : ∃ nx, nextT w.proto b.track false pf = nx := ⟨_, rfl⟩
            obtain ⟨rn, ern⟩ : ∃ rn, renewsT w.proto false = rn := ⟨_, rfl⟩
            rw [enx, ern] at eS
            rw [enx, ern]
            cases rn with
            | true =>
              rw [if_pos rfl] at eS
              repeat (first | refine go ?_ | (refine goX ?_; intro))
              dsimp only
              rw [show max (b.seen : Int) xt = ((max b.seen xt.toNat : Nat) : Int) by omega]
              obtain ⟨bz, ebz⟩ : ∃ bz, max b.seen xt.toNat = bz := ⟨_, rfl⟩
              rw [ebz] at eS ⊢
              obtain ⟨nb, enb⟩ : ∃ nb : BindT, nb = ⟨b.flow, b.port, nx, bz⟩ := ⟨_, rfl⟩
              repeat (first | refine go ?_ | (refine goX ?_; intro))
              refine EK_sink 7 (Obj n 72 (rnV cf qn L.length) * (Obj ob 110 (bdV ⟨b.flow, b.port, nx, bz⟩) * (RowX 110 6 qn.1 L.length qn.2 * 1))) rfl rfl rfl ?_
              repeat (first | refine goQ ?_ | refine EG_done (by decide +kernel) ?_)
              refine EG_last rfl (OpSkip_storeR (g := RowSet.bd L i ⟨b.flow, b.port, nx, bz⟩) rfl rfl rfl rfl hi rfl rfl rfl) (by decide +kernel) (by decide +kernel) ?_
              repeat (first | refine go ?_ | (refine goX ?_; intro))
              refine EL_call rfl (Rewrite_spec (l := xf) false hl b.flow.addr b.flow.port okb.addr okb.fport) ?_
              intro z
              repeat (first | refine go ?_ | (refine goX ?_; intro))
              rw [eS, hR]
              refine EK_ret (ER_2 rfl rfl rfl z rfl (Ent.sat (Ent.cons (RnC.shut' (q := qn) ?_))))
              show Ent _ (Obj n 72 (rnV cf qn (L.set i ⟨b.flow, b.port, nx, bz⟩).length) * (RowC 110 6 qn.1 (L.set i ⟨b.flow, b.port, nx, bz⟩).length qn.2 (bdR (L.set i ⟨b.flow, b.port, nx, bz⟩)) * F))
              rw [List.length_set]
              first | exact Ent.refl _ | exact Ent.last | (repeat (first | refine Ent.cons ?_ | refine Ent.objX ?_ | refine Ent.rowX ?_ | exact Ent.any | exact Ent.last))
            | false =>
              rw [if_neg (by decide)] at eS
              repeat (first | refine go ?_ | (refine goX ?_; intro))
              refine EK_sink 7 (Obj n 72 (rnV cf qn L.length) * (Obj ob 110 (bdV ⟨b.flow, b.port, nx, b.seen⟩) * (RowX 110 6 qn.1 L.length qn.2 * 1))) rfl rfl rfl ?_
              repeat (first | refine goQ ?_ | refine EG_done (by decide +kernel) ?_)
              refine EG_last rfl (OpSkip_storeR (g := RowSet.bd L i ⟨b.flow, b.port, nx, b.seen⟩) rfl rfl rfl rfl hi rfl rfl rfl) (by decide +kernel) (by decide +kernel) ?_
              repeat (first | refine go ?_ | (refine goX ?_; intro))
              refine EL_call rfl (Rewrite_spec (l := xf) false hl b.flow.addr b.flow.port okb.addr okb.fport) ?_
              intro z
              repeat (first | refine go ?_ | (refine goX ?_; intro))
              rw [eS, hR]
              refine EK_ret (ER_2 rfl rfl rfl z rfl (Ent.sat (Ent.cons (RnC.shut' (q := qn) ?_))))
              show Ent _ (Obj n 72 (rnV cf qn (L.set i ⟨b.flow, b.port, nx, b.seen⟩).length) * (RowC 110 6 qn.1 (L.set i ⟨b.flow, b.port, nx, b.seen⟩).length qn.2 (bdR (L.set i ⟨b.flow, b.port, nx, b.seen⟩)) * F))
              rw [List.length_set]
              first | exact Ent.refl _ | exact Ent.last | (repeat (first | refine Ent.cons ?_ | refine Ent.objX ?_ | refine Ent.rowX ?_ | exact Ent.any | exact Ent.last))
        · have k1 : (L.getD i bd0).flow.proto = w.proto := by rw [eb]; exact gm1
          have k2 : ¬ (L.getD i bd0).port = w.port := by rw [eb]; exact gm2
          repeat (first | refine go ?_ | (refine goX ?_; intro))
          rename_i ob
          rw [eb]
          repeat (first | refine go ?_ | (refine goX ?_; intro))
          exact EK_round (i + 1) ⟨by omega, snoc (by simp [isB, gm2])⟩ (by omega) ⟨rfl, rfl, rfl, rfl, rfl, trivial⟩ (Ent.sat (by first | exact Ent.refl _ | exact Ent.last | (repeat (first | refine Ent.cons ?_ | refine Ent.objX ?_ | refine Ent.rowX ?_ | exact Ent.any | exact Ent.last))))
      · have k1 : ¬ (L.getD i bd0).flow.proto = w.proto := by rw [eb]; exact gm1
        repeat (first | refine go ?_ | (refine goX ?_; intro))
        rename_i ob
        rw [eb]
        repeat (first | refine go ?_ | (refine goX ?_; intro))
        exact EK_round (i + 1) ⟨by omega, snoc (by simp [isB, gm1])⟩ (by omega) ⟨rfl, rfl, rfl, rfl, rfl, trivial⟩ (Ent.sat (by first | exact Ent.refl _ | exact Ent.last | (repeat (first | refine Ent.cons ?_ | refine Ent.objX ?_ | refine Ent.rowX ?_ | exact Ent.any | exact Ent.last))))
  · have e : i = L.length := by omega
    subst e
    rw [findIdx_all hi2] at eS
    dsimp only at eS
    repeat (first | refine go ?_ | (refine goX ?_; intro))
    refine EL_call rfl (rBegins_model (l := xf) hl xo) ?_
    intro _
    cases hbg : begF xo xf with
    | false =>
      rw [hbg, if_pos rfl] at eS
      repeat (first | refine go ?_ | (refine goX ?_; intro))
      rw [eS]
      exact EK_ret (ER_2 rfl rfl rfl ((none, 0) : Slab) rfl (Ent.sat (Ent.none (RnC.shut' (q := qn) (by first | exact Ent.refl _ | exact Ent.last | (repeat (first | refine Ent.cons ?_ | refine Ent.objX ?_ | refine Ent.rowX ?_ | exact Ent.any | exact Ent.last)))))))
    | true =>
      rw [hbg, if_neg (by decide)] at eS
      by_cases p1 : xp = -1
      · rw [if_pos p1] at eS
        repeat (first | refine go ?_ | (refine goX ?_; intro))
        rw [eS]
        exact EK_ret (ER_2 rfl rfl rfl ((none, 0) : Slab) rfl (Ent.sat (Ent.none (RnC.shut' (q := qn) (by first | exact Ent.refl _ | exact Ent.last | (repeat (first | refine Ent.cons ?_ | refine Ent.objX ?_ | refine Ent.rowX ?_ | exact Ent.any | exact Ent.last)))))))
      rw [if_neg p1] at eS
      by_cases p2 : xp = -2
      · rw [if_pos p2] at eS
        repeat (first | refine go ?_ | (refine goX ?_; intro))
        rw [eS]
        exact EK_ret (ER_2 rfl rfl rfl ((none, 0) : Slab) rfl (Ent.sat (Ent.none (RnC.shut' (q := qn) (by first | exact Ent.refl _ | exact Ent.last | (repeat (first | refine Ent.cons ?_ | refine Ent.objX ?_ | refine Ent.rowX ?_ | exact Ent.any | exact Ent.last)))))))
      rw [if_neg p2] at eS
      obtain ⟨at0, hat⟩ : ∃ a, placeN cf w.proto xp = a := ⟨_, rfl⟩
      repeat (first | refine go ?_ | (refine goX ?_; intro))
      refine EK_sink 99 (Obj n 72 (rnV cf qn L.length) * (Obj y 102 (flV w) * (Obj oc 40 (clV ⟨xo, xf, xt, xp⟩ q c) * 1))) rfl rfl rfl ?_
      repeat (first | refine goQ ?_ | refine EG_done (by decide +kernel) ?_)
      refine EG_callQ rfl rfl rfl rfl rfl (rPlace_spec cf hf w.proto xp hp) (fun _ => by first | exact Ent.refl _ | exact Ent.last | (repeat (first | refine Ent.cons ?_ | refine Ent.objX ?_ | refine Ent.rowX ?_ | exact Ent.any | exact Ent.last))) ?_
      intro _
      rw [hat] at eS ⊢
      repeat (first | refine goQ ?_ | refine EG_done (by decide +kernel) ?_)
      by_cases p3 : at0 < 0
      · rw [if_pos (Or.inl p3)] at eS
        repeat (first | refine go ?_ | (refine goX ?_; intro))
        rw [eS]
        exact EK_ret (ER_2 rfl rfl rfl ((none, 0) : Slab) rfl (Ent.sat (Ent.none (RnC.shut' (q := qn) (by first | exact Ent.refl _ | exact Ent.last | (repeat (first | refine Ent.cons ?_ | refine Ent.objX ?_ | refine Ent.rowX ?_ | exact Ent.any | exact Ent.last)))))))
      repeat (first | refine go ?_ | (refine goX ?_; intro))
      refine EL_call rfl (Spec.at2 n qn.1 (has_spec n cf qn L h0 w.proto xp)) ?_
      intro _
      cases hh : hasB L w.proto xp with
      | true =>
        rw [hh, if_pos (Or.inr rfl)] at eS
        repeat (first | refine go ?_ | (refine goX ?_; intro))
        rw [eS]
        exact EK_ret (ER_2 rfl rfl rfl ((none, 0) : Slab) rfl (Ent.sat (Ent.none (RnC.shut' (q := qn) (by first | exact Ent.refl _ | exact Ent.last | (repeat (first | refine Ent.cons ?_ | refine Ent.objX ?_ | refine Ent.rowX ?_ | exact Ent.any | exact Ent.last)))))))
      | false =>
        rw [hh, if_neg (fun g => g.elim p3 (by decide))] at eS
        have px : 0 ≤ placeN cf w.proto xp := by omega
        obtain ⟨q1, q2, _⟩ := place_le cf _ _ px
        have hpo := hg.p
        have eport : ((xp.toNat : Nat) : Int) = xp := by omega
        have etick : ((xt.toNat : Nat) : Int) = xt := by omega
        obtain ⟨nb, enb⟩ : ∃ nb : BindT, nb = ⟨w, xp.toNat, nextT w.proto 0 true p.flags, xt.toNat⟩ := ⟨_, rfl⟩
        rw [← enb] at eS
        have eV : [Value.int .i64 (w.proto : Int), .int .u32 (w.addr : Int), .int .u16 (w.port : Int), .int .i64 xp, .int .i64 (nextT w.proto 0 true p.flags : Int), .int .i64 xt] = bdV nb := by
          rw [enb]
          simp [eport, etick]
        have ePl : placeB cf nb = at0 := by
          unfold placeB
          rw [enb, ← hat]
          dsimp only
          rw [eport]
        repeat (first | refine go ?_ | (refine goX ?_; intro))
        refine EK_join (γ := Option Addr) (fun _ => True) (fun v => [(0, .pointer n), (3, .pointer oc), (6, .pointer y), (8, .pointer op), (12, .int .i64 at0), (13, .slice none 0 0), (14, .pointer v)])
          (fun v => Obj v 110 (bdV nb) * (Obj op 106 (ptV p) * (Obj y 102 (flV w) * (Obj oc 40 (clV ⟨xo, xf, xt, xp⟩ q c) * RnO n cf qn L F)))) ?_ ?_
        · refine EK_sink 12 (Obj op 106 (ptV p) * (Obj y 102 (flV w) * (Obj oc 40 (clV ⟨xo, xf, xt, xp⟩ q c) * 1))) rfl rfl rfl ?_
          repeat (first | refine goQ ?_ | refine EG_done (by decide +kernel) ?_)
          refine EG_two (i := 7) (j := 11) (EI_callQ rfl rfl rfl rfl (rNext_spec w.proto 0 p.flags true (by decide) rg.flags wo1) (fun _ => by first | exact Ent.refl _ | exact Ent.last | (repeat (first | refine Ent.cons ?_ | refine Ent.objX ?_ | refine Ent.rowX ?_ | exact Ent.any | exact Ent.last))) ?_) (EI_does rfl rfl (OpDoes_alloc rfl) rfl (fun _ => by first | exact Ent.refl _ | exact Ent.last | (repeat (first | refine Ent.cons ?_ | refine Ent.objX ?_ | refine Ent.rowX ?_ | exact Ent.any | exact Ent.last))) ?_)
          · intro _
            repeat (first | refine goQ ?_ | refine EG_done (by decide +kernel) ?_)
            repeat (first | refine goG ?_ | (refine goGX ?_; intro) | refine goGL ?_ | refine goGS ?_ | refine goGV ?_ | refine EG_done (by decide +kernel) ?_)
            rename_i v
            exact EK_meet v trivial ⟨rfl, rfl, rfl, rfl, rfl, rfl, rfl, trivial⟩ (Ent.sat (Ent.obj v eV (by first | exact Ent.refl _ | exact Ent.last | (repeat (first | refine Ent.cons ?_ | refine Ent.objX ?_ | refine Ent.rowX ?_ | exact Ent.any | exact Ent.last)))))
          · intro v
            refine EG_callQ rfl rfl rfl rfl rfl (rNext_spec w.proto 0 p.flags true (by decide) rg.flags wo1) (fun _ => by first | exact Ent.refl _ | exact Ent.last | (repeat (first | refine Ent.cons ?_ | refine Ent.objX ?_ | refine Ent.rowX ?_ | exact Ent.any | exact Ent.last))) ?_
            intro _
            repeat (first | refine goQ ?_ | refine EG_done (by decide +kernel) ?_)
            repeat (first | refine goG ?_ | (refine goGX ?_; intro) | refine goGL ?_ | refine goGS ?_ | refine goGV ?_ | refine EG_done (by decide +kernel) ?_)
            exact EK_meet v trivial ⟨rfl, rfl, rfl, rfl, rfl, rfl, rfl, trivial⟩ (Ent.sat (Ent.obj v eV (by first | exact Ent.refl _ | exact Ent.last | (repeat (first | refine Ent.cons ?_ | refine Ent.objX ?_ | refine Ent.rowX ?_ | exact Ent.any | exact Ent.last)))))
        intro ob _
        repeat (first | refine go ?_ | (refine goX ?_; intro))
        refine EK_loop (γ := Nat × Option Nat × Slab) (fun g => g.1 ≤ L.length ∧ PutB cf nb L g.2.1 g.1) (fun g => [(0, .pointer n), (3, .pointer oc), (6, .pointer y), (8, .pointer op), (12, .int .i64 at0), (13, .slice g.2.2.1 (outB L nb g.2.1 g.1).length g.2.2.2), (14, .pointer ob), (15, .bool g.2.1.isSome), (16, .int .i64 (g.1 : Int))])
          (fun g => RowC 110 6 g.2.2.1 (outB L nb g.2.1 g.1).length g.2.2.2 (bdR (outB L nb g.2.1 g.1)) * (Obj ob 110 (bdV nb) * (Obj op 106 (ptV p) * (Obj y 102 (flV w) * (Obj oc 40 (clV ⟨xo, xf, xt, xp⟩ q c) * RnO n cf qn L F))))) (fun g => L.length - g.1) (0, none, (none, 0)) ⟨Nat.zero_le _, PutB.zero cf nb L⟩ ⟨rfl, rfl, rfl, rfl, rfl, rfl, rfl, rfl, rfl, trivial⟩ (Ent.sat (Ent.none (by first | exact Ent.refl _ | exact Ent.last | (repeat (first | refine Ent.cons ?_ | refine Ent.objX ?_ | refine Ent.rowX ?_ | exact Ent.any | exact Ent.last))))) ?_
        intro ⟨i, kk, z⟩ ⟨h1, h2⟩; dsimp only at h1 h2 ⊢
        have hol := outB_len L nb kk i h1
        by_cases hi : i < L.length
        · haveI : Pos L.length := ⟨by omega⟩
          have hbi := hN.ok _ (getD_mem hi)
          have hbp := hbi.port
          cases kk with
          | some k0 =>
            dsimp only [Option.isSome]
            repeat (first | refine go ?_ | (refine goX ?_; intro))
            refine EK_sink 99 1 rfl rfl rfl ?_
            repeat (first | refine goQ ?_ | refine EG_done (by decide +kernel) ?_)
            repeat (first | refine go ?_ | (refine goX ?_; intro))
            rename_i z0 z'
            have hk : k0 ≤ i := Nat.le_of_lt h2.1
            refine EK_round (i + 1, some k0, z') ⟨by dsimp only; omega, ⟨by omega, h2.2⟩⟩ (by dsimp only; omega) ⟨rfl, rfl, rfl, rfl, rfl, by dsimp only; rw [← outB_some hk hi, List.length_append]; rfl, rfl, rfl, rfl, trivial⟩ (Ent.sat ?_)
            dsimp only
            rw [← outB_some hk hi, bdR_snoc, List.length_append, List.length_singleton]
            first | exact Ent.refl _ | exact Ent.last | (repeat (first | refine Ent.cons ?_ | refine Ent.objX ?_ | refine Ent.rowX ?_ | exact Ent.any | exact Ent.last))
          | none =>
            dsimp only [Option.isSome]
            repeat (first | refine go ?_ | (refine goX ?_; intro))
            refine EK_sink 99 (Obj n 72 (rnV cf qn L.length) * (RowC 110 6 qn.1 L.length qn.2 (bdR L) * 1)) rfl rfl rfl ?_
            repeat (first | refine goQ ?_ | refine EG_done (by decide +kernel) ?_)
            refine EG_callQ rfl rfl rfl rfl rfl (rPlace_spec cf hf (L.getD i bd0).flow.proto (L.getD i bd0).port (by unfold I64; omega)) (fun _ => by first | exact Ent.refl _ | exact Ent.last | (repeat (first | refine Ent.cons ?_ | refine Ent.objX ?_ | refine Ent.rowX ?_ | exact Ent.any | exact Ent.last))) ?_
            intro _
            obtain ⟨a1, ea1⟩ : ∃ a, placeN cf (L.getD i bd0).flow.proto (L.getD i bd0).port = a := ⟨_, rfl⟩
            have ea2 : placeB cf (L.getD i bd0) = a1 := ea1
            rw [ea1]
            by_cases gp : a1 > at0
            · repeat (first | refine goQ ?_ | refine EG_done (by decide +kernel) ?_)
              repeat (first | refine go ?_ | (refine goX ?_; intro))
              rename_i z1 z2 z3 z'
              have hr : outB L nb none i ++ [nb] ++ [L.getD i bd0] = outB L nb (some i) (i + 1) := by rw [outB_put hi, outB_some (Nat.le_refl _) hi]
              refine EK_round (i + 1, some i, z') ⟨by dsimp only; omega, ⟨by omega, h2, by rw [ea2, ePl]; exact gp⟩⟩ (by dsimp only; omega) ⟨rfl, rfl, rfl, rfl, rfl, by dsimp only; rw [← hr, List.length_append, List.length_append]; rfl, rfl, rfl, rfl, trivial⟩ (Ent.sat ?_)
              dsimp only
              rw [← hr, bdR_snoc, bdR_snoc, List.length_append, List.length_append, List.length_singleton, List.length_singleton]
              first | exact Ent.refl _ | exact Ent.last | (repeat (first | refine Ent.cons ?_ | refine Ent.objX ?_ | refine Ent.rowX ?_ | exact Ent.any | exact Ent.last))
            · repeat (first | refine goQ ?_ | refine EG_done (by decide +kernel) ?_)
              repeat (first | refine go ?_ | (refine goX ?_; intro))
              rename_i z1 z'
              refine EK_round (i + 1, none, z') ⟨by dsimp only; omega, fun j hj => ?_⟩ (by dsimp only; omega) ⟨rfl, rfl, rfl, rfl, rfl, by dsimp only; rw [← outB_none hi, List.length_append]; rfl, rfl, rfl, rfl, trivial⟩ (Ent.sat ?_)
              · rcases Nat.lt_or_ge j i with g | g
                · exact h2 j g
                · obtain rfl : j = i := by omega
                  rw [ea2, ePl]
                  omega
              · dsimp only
                rw [← outB_none hi, bdR_snoc, List.length_append, List.length_singleton]
                first | exact Ent.refl _ | exact Ent.last | (repeat (first | refine Ent.cons ?_ | refine Ent.objX ?_ | refine Ent.rowX ?_ | exact Ent.any | exact Ent.last))
        · have e : i = L.length := by omega
          subst e
          have hd := h2.done
          cases kk with
          | some k0 =>
            dsimp only [Option.isSome]
            dsimp only at hd hol
            rw [hd] at hol ⊢
            repeat (first | refine go ?_ | (refine goX ?_; intro))
            refine EK_sink 99 (Obj n 72 (rnV cf z (insB cf nb L).length) * (Obj oc 40 (clV ⟨xo, xf, xt, xp⟩ q c) * 1)) rfl rfl rfl ?_
            repeat (first | refine goQ ?_ | refine EG_done (by decide +kernel) ?_)
            refine EG_callQ rfl rfl rfl rfl rfl (Rewrite_int (l := xf) true hl cf.o xp (by omega) (by omega)) (fun _ => by first | exact Ent.refl _ | exact Ent.last | (repeat (first | refine Ent.cons ?_ | refine Ent.objX ?_ | refine Ent.rowX ?_ | exact Ent.any | exact Ent.last))) ?_
            intro u
            repeat (first | refine goQ ?_ | refine EG_done (by decide +kernel) ?_)
            repeat (first | refine go ?_ | (refine goX ?_; intro))
            rw [eS, hR]
            exact EK_ret (ER_2 rfl rfl rfl u rfl (Ent.sat (Ent.cons (RnC.shut' (q := z) (by first | exact Ent.refl _ | exact Ent.last | (repeat (first | refine Ent.cons ?_ | refine Ent.objX ?_ | refine Ent.rowX ?_ | exact Ent.any | exact Ent.last)))))))
          | none =>
            dsimp only [Option.isSome]
            dsimp only at hd
            have hd1 : (outB L nb none L.length).length + 1 = (insB cf nb L).length := by rw [← hd, List.length_append]; rfl
            have hd2 : bdR (outB L nb none L.length) ++ bdV nb = bdR (insB cf nb L) := by rw [← hd, bdR_snoc]
            repeat (first | refine go ?_ | (refine goX ?_; intro))
            rename_i z1 z2
            rw [hd1, hd2]
            repeat (first | refine go ?_ | (refine goX ?_; intro))
            refine EK_sink 99 (Obj n 72 (rnV cf z2 (insB cf nb L).length) * (Obj oc 40 (clV ⟨xo, xf, xt, xp⟩ q c) * 1)) rfl rfl rfl ?_
            repeat (first | refine goQ ?_ | refine EG_done (by decide +kernel) ?_)
            refine EG_callQ rfl rfl rfl rfl rfl (Rewrite_int (l := xf) true hl cf.o xp (by omega) (by omega)) (fun _ => by first | exact Ent.refl _ | exact Ent.last | (repeat (first | refine Ent.cons ?_ | refine Ent.objX ?_ | refine Ent.rowX ?_ | exact Ent.any | exact Ent.last))) ?_
            intro u
            repeat (first | refine goQ ?_ | refine EG_done (by decide +kernel) ?_)
            repeat (first | refine go ?_ | (refine goX ?_; intro))
            rw [eS, hR]
            exact EK_ret (ER_2 rfl rfl rfl u rfl (Ent.sat (Ent.cons (RnC.shut' (q := z2) (by first | exact Ent.refl _ | exact Ent.last | (repeat (first | refine Ent.cons ?_ | refine Ent.objX ?_ | refine Ent.rowX ?_ | exact Ent.any | exact Ent.last)))))))
end
end Go.Proofs.YtianbkbehjppoaaGreatDoor

namespace Go.Proofs.YtianbkbehjppoaaGreatDoor
open Go.RowKit
set_option maxRecDepth 10000
attribute [local irreducible] EK EX ER EN EL ES EG OpVal OpDoes OpSkip
variable {W : World} {F : SL} {X : Cx} {k : List KI} {σ : Env}
variable {p : Option Addr} {c : Nat} {l : List EvT} {s : Nat → Slab × Slab} {q : Option Addr} {cq : Nat} {o : List Int}
/-- What stands. -/
def stdL (l : List EvT) (o : List Int) (i : Nat) : List Bool := (List.range l.length).map fun k : Nat => (o.take i).contains (k : Int)
theorem stdL_len (l : List EvT) (o : List Int) (i : Nat) : (stdL l o i).length = l.length := by simp [stdL]
theorem stdL_at {i k : Nat} (hk : k < l.length) : (stdL l o i).getD k false = (o.take i).contains (k : Int) := by
  simp [stdL, List.getD_eq_getElem?_getD, hk]
theorem stdL_zero : stdL l o 0 = List.replicate l.length false := by
  apply List.ext_getElem
  · simp [stdL]
  · intro i h1 h2
    simp [stdL]
theorem stdL_succ {i k : Nat} (hi : i < o.length) (hk : k < l.length) (e : o.getD i 0 = (k : Int)) : stdL l o (i + 1) = (stdL l o i).set k true := by
  apply List.ext_getElem?
  intro j
  rw [List.getElem?_set]
  have ht : o.take (i + 1) = o.take i ++ [(k : Int)] := by rw [← take_snocD (d := 0) hi, e]
  by_cases hj : j < l.length
  · have h1 : ∀ n, (stdL l o n)[j]? = some ((o.take n).contains (j : Int)) := fun n => by simp [stdL, hj]
    rw [h1, h1, ht, stdL_len]
    by_cases ek : k = j
    · subst ek
      rw [if_pos rfl, if_pos hk]
      simp
    · rw [if_neg ek]
      have : ¬ ((j : Int) = (k : Int)) := by omega
      simp [this]
  · have h1 : ∀ n, (stdL l o n)[j]? = none := fun n => by
      rw [List.getElem?_eq_none]
      rw [stdL_len]; omega
    rw [h1, h1]
    split
    · rw [if_neg (by rw [stdL_len]; omega)]
    · rfl
set_option maxHeartbeats 2000000 in
theorem rCheck_spec (cf : Cfg) (hf : cf.Fit) (hl : l.length ≤ 1000) (ho : o.length ≤ 1000) (ok : ∀ x ∈ l, x.Ok) (m : EvMem W F p l s) [r : Room W F p l.length c] [m2 : Src W F q o.length (intsR .i64 o)] [r2 : Room W F q o.length cq] : Spec Tryz.prog 12 [cf.val, .slice p l.length c, .slice q o.length cq] W F (fun _ : Unit => .bool (checkT cf l o)) (fun _ => F) := by
  refine Spec.of Tryz.func12 rfl Tryz.ntmps12 rfl ?_
  haveI := m.row
  rcases (Classical.em cf.Good).symm with hg | hg
  · have hw : wrongT cf ≠ [] := fun g => hg (wrongT_nil.1 g)
    rw [checkT_cfg hg]
    repeat (first | refine go ?_ | (refine goX ?_; intro))
    refine EL_call rfl (rWrong_spec cf hf) ?_
    intro _
    repeat (first | refine go ?_ | (refine goX ?_; intro))
    rw [decide_eq_false hw]
    repeat (first | refine go ?_ | (refine goX ?_; intro))
    exact EK_ret (ER_1 rfl rfl () rfl (Ent.sat (by first | exact Ent.refl _ | exact Ent.last | (repeat (first | refine Ent.cons ?_ | refine Ent.objX ?_ | refine Ent.rowX ?_ | exact Ent.any | exact Ent.last)))))
  repeat (first | refine go ?_ | (refine goX ?_; intro))
  refine EL_call rfl (rWrong_spec cf hf) ?_
  intro _
  rw [wrongT_nil.2 hg]
  repeat (first | refine go ?_ | (refine goX ?_; intro))
  refine EL_call rfl (rRight_spec hl m.nn) ?_
  intro _
  cases hr : rightT l with
  | false =>
    rw [checkT_right hr]
    repeat (first | refine go ?_ | (refine goX ?_; intro))
    exact EK_ret (ER_1 rfl rfl () rfl (Ent.sat (by first | exact Ent.refl _ | exact Ent.last | (repeat (first | refine Ent.cons ?_ | refine Ent.objX ?_ | refine Ent.rowX ?_ | exact Ent.any | exact Ent.last)))))
  | true =>
    repeat (first | refine go ?_ | (refine goX ?_; intro))
    rename_i x3 _ _ sq
    have hz : reps l.length [Value.bool false] = blR (stdL l o 0) := by rw [reps_one, stdL_zero]; simp [blR]
    rw [hz]
    have fl_in : ∀ i, i < o.length → inE l o i = false → checkT cf l o = false := fun i hi h => checkT_lists (by unfold listsT; rw [range_not hi h]; rfl)
    refine EK_loop (γ := Nat) (fun i => i ≤ o.length ∧ ∀ j, j < i → (inE l o j && befE l o j) = true) (fun i => [(1, .slice p l.length c), (2, .slice q o.length cq), (3, .pointer x3), (7, .slice sq l.length l.length), (8, .int .i64 (i : Int))])
      (fun i => RowC 4 1 sq l.length l.length (blR (stdL l o i)) * (Obj x3 24 cf.cells * F)) (fun i => o.length - i) 0 ⟨Nat.zero_le _, fun j hj => by omega⟩ ⟨rfl, rfl, rfl, rfl, rfl, trivial⟩ (Ent.sat (by first | exact Ent.refl _ | exact Ent.last | (repeat (first | refine Ent.cons ?_ | refine Ent.objX ?_ | refine Ent.rowX ?_ | exact Ent.any | exact Ent.last)))) ?_
    intro i ⟨h1, h2⟩; dsimp only at h1 h2 ⊢
    by_cases hi : i < o.length
    · by_cases g1 : 0 ≤ o.getD i 0
      · by_cases g2 : o.getD i 0 < l.length
        · obtain ⟨kk, ek⟩ : ∃ kk : Nat, o.getD i 0 = (kk : Int) := ⟨(o.getD i 0).toNat, by omega⟩
          have hk : kk < l.length := by omega
          have hsl := stdL_len l o i
          have hst := stdL_at (o := o) (i := i) hk
          haveI : PN p := ⟨m.nn (by omega)⟩
          have ea := atO_eq (l := l) ek
          cases g3 : (o.take i).contains (kk : Int) with
          | true =>
            repeat (first | refine go ?_ | (refine goX ?_; intro))
            rw [ek]
            repeat (first | refine go ?_ | (refine goX ?_; intro))
            rw [hst, g3]
            repeat (first | refine go ?_ | (refine goX ?_; intro))
            exact EK_ret (ER_1 rfl rfl () (by rw [fl_in i hi (by unfold inE; rw [ek, g3, Bool.not_true, Bool.and_false, Bool.and_false])]) (Ent.sat (by first | exact Ent.refl _ | exact Ent.last | (repeat (first | refine Ent.cons ?_ | refine Ent.objX ?_ | refine Ent.rowX ?_ | exact Ent.any | exact Ent.last)))))
          | false =>
            have hin : inE l o i = true := by
              unfold inE
              rw [decide_eq_true g1, decide_eq_true g2, ek, g3]
              rfl
            repeat (first | refine go ?_ | (refine goX ?_; intro))
            rw [ek]
            repeat (first | refine go ?_ | (refine goX ?_; intro))
            rw [hst, g3]
            repeat (first | refine go ?_ | (refine goX ?_; intro))
            rw [← stdL_succ hi hk ek]
            refine EK_loop (γ := Nat) (fun j => j ≤ i ∧ ∀ j', j' < j → (!aheadT (atO l o i) (atO l o j')) = true) (fun j => [(1, .slice p l.length c), (2, .slice q o.length cq), (3, .pointer x3), (7, .slice sq l.length l.length), (8, .int .i64 (i : Int)), (9, .int .i64 (kk : Int)), (10, .int .i64 (j : Int))])
              (fun _ => RowC 4 1 sq l.length l.length (blR (stdL l o (i + 1))) * (Obj x3 24 cf.cells * F)) (fun j => i - j) 0 ⟨Nat.zero_le _, fun j hj => by omega⟩ ⟨rfl, rfl, rfl, rfl, rfl, rfl, rfl, trivial⟩ (Ent.sat (by first | exact Ent.refl _ | exact Ent.last | (repeat (first | refine Ent.cons ?_ | refine Ent.objX ?_ | refine Ent.rowX ?_ | exact Ent.any | exact Ent.last)))) ?_
            intro j ⟨h3, h4⟩; dsimp only at h3 h4 ⊢
            by_cases hj : j < i
            · have hinj := h2 j hj
              rw [Bool.and_eq_true] at hinj
              have hinj := hinj.1
              unfold inE at hinj
              simp only [Bool.and_eq_true, decide_eq_true_eq] at hinj
              obtain ⟨kj, ekj⟩ : ∃ kk : Nat, o.getD j 0 = (kk : Int) := ⟨(o.getD j 0).toNat, by omega⟩
              have hkj : kj < l.length := by omega
              have eaj := atO_eq (l := l) ekj
              repeat (first | refine go ?_ | (refine goX ?_; intro))
              rw [ekj]
              repeat (first | refine go ?_ | (refine goX ?_; intro))
              rename_i y
              refine EK_sink 99 (Obj y 42 (evE (l.getD kj ev0) (s kj).1 (s kj).2) * F) rfl rfl rfl ?_
              by_cases ga : (l.getD kk ev0).e = -1
              · repeat (first | refine goQ ?_ | refine EG_done (by decide +kernel) ?_)
                repeat (first | refine go ?_ | (refine goX ?_; intro))
                exact EK_round (j + 1) ⟨by omega, snocQ h4 (by rw [ea, eaj]; unfold aheadT; rw [decide_eq_true ga]; rfl)⟩ (by omega) ⟨rfl, rfl, rfl, rfl, rfl, rfl, rfl, trivial⟩ (Ent.sat (by first | exact Ent.refl _ | exact Ent.last | (repeat (first | refine Ent.cons ?_ | refine Ent.objX ?_ | refine Ent.rowX ?_ | exact Ent.any | exact Ent.last))))
              · by_cases gb : (l.getD kk ev0).e < (l.getD kj ev0).b
                · repeat (first | refine goQ ?_ | refine EG_done (by decide +kernel) ?_)
                  repeat (first | refine go ?_ | (refine goX ?_; intro))
                  exact EK_ret (ER_1 rfl rfl () (by rw [checkT_bef hi (by unfold befE; exact range_not hj (by rw [ea, eaj]; unfold aheadT; rw [decide_eq_false ga, decide_eq_true gb]; rfl))]) (Ent.sat (by first | exact Ent.refl _ | exact Ent.last | (repeat (first | refine Ent.cons ?_ | refine Ent.objX ?_ | refine Ent.rowX ?_ | exact Ent.any | exact Ent.last)))))
                · repeat (first | refine goQ ?_ | refine EG_done (by decide +kernel) ?_)
                  repeat (first | refine go ?_ | (refine goX ?_; intro))
                  exact EK_round (j + 1) ⟨by omega, snocQ h4 (by rw [ea, eaj]; unfold aheadT; rw [decide_eq_false gb, Bool.and_false]; rfl)⟩ (by omega) ⟨rfl, rfl, rfl, rfl, rfl, rfl, rfl, trivial⟩ (Ent.sat (by first | exact Ent.refl _ | exact Ent.last | (repeat (first | refine Ent.cons ?_ | refine Ent.objX ?_ | refine Ent.rowX ?_ | exact Ent.any | exact Ent.last))))
            · have e : j = i := by omega
              subst e
              have hb : befE l o j = true := range_all h4
              repeat (first | refine go ?_ | (refine goX ?_; intro))
              exact EK_round (j + 1) ⟨by omega, snocQ h2 (by rw [hin, hb]; rfl)⟩ (by omega) ⟨rfl, rfl, rfl, rfl, rfl, trivial⟩ (Ent.sat (by first | exact Ent.refl _ | exact Ent.last | (repeat (first | refine Ent.cons ?_ | refine Ent.objX ?_ | refine Ent.rowX ?_ | exact Ent.any | exact Ent.last))))
        · repeat (first | refine go ?_ | (refine goX ?_; intro))
          exact EK_ret (ER_1 rfl rfl () (by rw [fl_in i hi (by unfold inE; rw [decide_eq_false g2, Bool.false_and, Bool.and_false])]) (Ent.sat (by first | exact Ent.refl _ | exact Ent.last | (repeat (first | refine Ent.cons ?_ | refine Ent.objX ?_ | refine Ent.rowX ?_ | exact Ent.any | exact Ent.last)))))
      · repeat (first | refine go ?_ | (refine goX ?_; intro))
        exact EK_ret (ER_1 rfl rfl () (by rw [fl_in i hi (by unfold inE; rw [decide_eq_false g1, Bool.false_and])]) (Ent.sat (by first | exact Ent.refl _ | exact Ent.last | (repeat (first | refine Ent.cons ?_ | refine Ent.objX ?_ | refine Ent.rowX ?_ | exact Ent.any | exact Ent.last)))))
    · have e : i = o.length := by omega
      subst e
      repeat (first | refine go ?_ | (refine goX ?_; intro))
      have hsl := stdL_len l o o.length
      refine EK_loop (γ := Nat) (fun i => i ≤ l.length ∧ ∀ j, j < i → outE l o j = true) (fun i => [(1, .slice p l.length c), (2, .slice q o.length cq), (3, .pointer x3), (7, .slice sq l.length l.length), (12, .int .i64 (i : Int))])
        (fun _ => RowC 4 1 sq l.length l.length (blR (stdL l o o.length)) * (Obj x3 24 cf.cells * F)) (fun i => l.length - i) 0 ⟨Nat.zero_le _, fun j hj => by omega⟩ ⟨rfl, rfl, rfl, rfl, rfl, trivial⟩ (Ent.sat (by first | exact Ent.refl _ | exact Ent.last | (repeat (first | refine Ent.cons ?_ | refine Ent.objX ?_ | refine Ent.rowX ?_ | exact Ent.any | exact Ent.last)))) ?_
      intro i ⟨h3, h4⟩; dsimp only at h3 h4 ⊢
      by_cases hi : i < l.length
      · haveI : PN p := ⟨m.nn (by omega)⟩
        have hst := stdL_at (o := o) (i := o.length) hi
        rw [List.take_length] at hst
        have ho2 : outE l o i = _ := rfl
        conv at ho2 => rhs; unfold outE
        cases g3 : o.contains (i : Int) with
        | true =>
          rw [g3, Bool.or_true] at ho2
          rw [g3] at hst
          repeat (first | refine go ?_ | (refine goX ?_; intro))
          rw [hst]
          repeat (first | refine go ?_ | (refine goX ?_; intro))
          exact EK_round (i + 1) ⟨by omega, snocQ h4 ho2⟩ (by omega) ⟨rfl, rfl, rfl, rfl, rfl, trivial⟩ (Ent.sat (by first | exact Ent.refl _ | exact Ent.last | (repeat (first | refine Ent.cons ?_ | refine Ent.objX ?_ | refine Ent.rowX ?_ | exact Ent.any | exact Ent.last))))
        | false =>
          rw [g3, Bool.or_false] at ho2
          rw [g3] at hst
          by_cases ga : (l.getD i ev0).e = -1
          · rw [decide_eq_true ga] at ho2
            repeat (first | refine go ?_ | (refine goX ?_; intro))
            rw [hst]
            repeat (first | refine go ?_ | (refine goX ?_; intro))
            exact EK_round (i + 1) ⟨by omega, snocQ h4 ho2⟩ (by omega) ⟨rfl, rfl, rfl, rfl, rfl, trivial⟩ (Ent.sat (by first | exact Ent.refl _ | exact Ent.last | (repeat (first | refine Ent.cons ?_ | refine Ent.objX ?_ | refine Ent.rowX ?_ | exact Ent.any | exact Ent.last))))
          · rw [decide_eq_false ga] at ho2
            repeat (first | refine go ?_ | (refine goX ?_; intro))
            rw [hst]
            repeat (first | refine go ?_ | (refine goX ?_; intro))
            exact EK_ret (ER_1 rfl rfl () (by rw [checkT_lists (by unfold listsT; rw [range_not hi ho2, Bool.and_false])]) (Ent.sat (by first | exact Ent.refl _ | exact Ent.last | (repeat (first | refine Ent.cons ?_ | refine Ent.objX ?_ | refine Ent.rowX ?_ | exact Ent.any | exact Ent.last)))))
      · have e : i = l.length := by omega
        subst e
        have hli : listsT l o = true := by
          unfold listsT
          rw [range_all h4, range_all fun j hj => by have := h2 j hj; rw [Bool.and_eq_true] at this; exact this.1]
          rfl
        have hbef : ∀ j, j < o.length → befE l o j = true := fun j hj => by have := h2 j hj; rw [Bool.and_eq_true] at this; exact this.2
        repeat (first | refine go ?_ | (refine goX ?_; intro))
        rename_i n
        refine EK_loop (γ := Nat) (fun i => i ≤ o.length ∧ ∀ j, j < i → (befE l o j && didE cf l o j) = true) (fun i => [(1, .slice p l.length c), (2, .slice q o.length cq), (13, .pointer n), (14, .int .i64 (i : Int))])
          (fun i => RnC n cf (natAt cf l o i) * F) (fun i => o.length - i) 0 ⟨Nat.zero_le _, fun j hj => by omega⟩ ⟨rfl, rfl, rfl, rfl, trivial⟩ (Ent.sat (RnC.shut' (q := (none, 0)) (by show Ent _ (Obj n 72 (rnV cf (none, 0) 0) * (RowC 110 6 none 0 0 [] * F)); exact Ent.cons (Ent.none (by first | exact Ent.refl _ | exact Ent.last | (repeat (first | refine Ent.cons ?_ | refine Ent.objX ?_ | refine Ent.rowX ?_ | exact Ent.any | exact Ent.last))))))) ?_
        intro i ⟨h5, h6⟩; dsimp only at h5 h6 ⊢
        by_cases hi : i < o.length
        · obtain ⟨kk, hk, ek, _⟩ := lists_in hli hi
          have ea := atO_eq (l := l) ek
          haveI := m.f1 kk hk
          haveI := m.r1 kk hk
          haveI := m.f2 kk hk
          haveI := m.r2 kk hk
          have hN := natAt_ok hg l o i
          have okk := ok _ (getD_in hk)
          obtain ⟨ok1, ok2, ok3, ok4, ok5, ok6, ok7, ok8, ok9⟩ := okk
          have hd : doesT cf (natAt cf l o i) (l.getD kk ev0) = _ := rfl
          conv at hd => rhs; unfold doesT
          have hnx : natAt cf l o (i + 1) = (doesT cf (natAt cf l o i) (l.getD kk ev0)).1 := by rw [← ea]; rfl
          have hdd : didE cf l o i = (doesT cf (natAt cf l o i) (l.getD kk ev0)).2 := by unfold didE; rw [ea]
          have hfew := hN.few hg
          have hround : didE cf l o i = true → ∀ j, j < i + 1 → (befE l o j && didE cf l o j) = true := fun h => snocQ h6 (by rw [hbef i hi, h]; rfl)
          repeat (first | refine go ?_ | (refine goX ?_; intro))
          rw [ek]
          repeat (first | refine go ?_ | (refine goX ?_; intro))
          generalize l.getD kk ev0 = x at *
          obtain ⟨xb, xe, xs, xc, xf, xr, xp, xq⟩ := x
          dsimp only at *
          cases xs with
          | true =>
            rw [if_pos rfl] at hd
            rw [hd] at hnx hdd
            repeat (first | refine go ?_ | (refine goX ?_; intro))
            refine EL_call rfl (Spec.at1 n (rExpire_spec n cf hf hfew hN xp xq xc.tick ok8 ok9 ok3)) ?_
            intro _
            cases gx : (expT (natAt cf l o i) xp xq xc.tick).2 with
            | false =>
              repeat (first | refine go ?_ | (refine goX ?_; intro))
              exact EK_ret (ER_1 rfl rfl () (by rw [checkT_did hi (hdd.trans gx)]) (Ent.sat (by first | exact Ent.refl _ | exact Ent.last | (repeat (first | refine Ent.cons ?_ | refine Ent.objX ?_ | refine Ent.rowX ?_ | exact Ent.any | exact Ent.last)))))
            | true =>
              repeat (first | refine go ?_ | (refine goX ?_; intro))
              exact EK_round (i + 1) ⟨by omega, hround (hdd.trans gx)⟩ (by omega) ⟨rfl, rfl, rfl, rfl, trivial⟩ (Ent.sat (by rw [hnx]; first | exact Ent.refl _ | exact Ent.last | (repeat (first | refine Ent.cons ?_ | refine Ent.objX ?_ | refine Ent.rowX ?_ | exact Ent.any | exact Ent.last))))
          | false =>
            rw [if_neg (by decide)] at hd
            rw [hd] at hnx hdd
            dsimp only at hnx hdd
            repeat (first | refine go ?_ | (refine goX ?_; intro))
            refine EL_call rfl (Spec.at1 n (rStep_spec n cf hf hg hN xc ok5 ok3 ok4)) ?_
            intro z
            generalize stepT cf (natAt cf l o i) xc = a at *
            by_cases g1 : xe = -1
            · rw [decide_eq_true g1, Bool.true_or] at hdd
              repeat (first | refine go ?_ | (refine goX ?_; intro))
              exact EK_round (i + 1) ⟨by omega, hround hdd⟩ (by omega) ⟨rfl, rfl, rfl, rfl, trivial⟩ (Ent.sat (by rw [hnx]; first | exact Ent.refl _ | exact Ent.last | (repeat (first | refine Ent.cons ?_ | refine Ent.objX ?_ | refine Ent.rowX ?_ | exact Ent.any | exact Ent.last))))
            · rw [decide_eq_false g1, Bool.false_or] at hdd
              by_cases g2 : (a.err : Int) = xr
              · rw [decide_eq_true g2, Bool.true_and] at hdd
                by_cases g5 : a.frame = xf
                · rw [decide_eq_true g5] at hdd
                  repeat (first | refine go ?_ | (refine goX ?_; intro))
                  rw [decide_eq_true g5]
                  repeat (first | refine go ?_ | (refine goX ?_; intro))
                  exact EK_round (i + 1) ⟨by omega, hround hdd⟩ (by omega) ⟨rfl, rfl, rfl, rfl, trivial⟩ (Ent.sat (by rw [hnx]; first | exact Ent.refl _ | exact Ent.last | (repeat (first | refine Ent.cons ?_ | refine Ent.objX ?_ | refine Ent.rowX ?_ | exact Ent.any | exact Ent.last))))
                · rw [decide_eq_false g5] at hdd
                  repeat (first | refine go ?_ | (refine goX ?_; intro))
                  rw [decide_eq_false g5]
                  repeat (first | refine go ?_ | (refine goX ?_; intro))
                  exact EK_ret (ER_1 rfl rfl () (by rw [checkT_did hi hdd]) (Ent.sat (by first | exact Ent.refl _ | exact Ent.last | (repeat (first | refine Ent.cons ?_ | refine Ent.objX ?_ | refine Ent.rowX ?_ | exact Ent.any | exact Ent.last)))))
              · rw [decide_eq_false g2, Bool.false_and] at hdd
                repeat (first | refine go ?_ | (refine goX ?_; intro))
                exact EK_ret (ER_1 rfl rfl () (by rw [checkT_did hi hdd]) (Ent.sat (by first | exact Ent.refl _ | exact Ent.last | (repeat (first | refine Ent.cons ?_ | refine Ent.objX ?_ | refine Ent.rowX ?_ | exact Ent.any | exact Ent.last)))))
        · have e : i = o.length := by omega
          subst e
          rw [checkT_yes hg hr hli h6]
          repeat (first | refine go ?_ | (refine goX ?_; intro))
          exact EK_ret (ER_1 rfl rfl () rfl (Ent.sat (by first | exact Ent.refl _ | exact Ent.last | (repeat (first | refine Ent.cons ?_ | refine Ent.objX ?_ | refine Ent.rowX ?_ | exact Ent.any | exact Ent.last)))))
end Go.Proofs.YtianbkbehjppoaaGreatDoor

namespace Go.Proofs.YtianbkbehjppoaaGreatDoor
open Go.RowKit
set_option maxRecDepth 10000
attribute [local irreducible] EK EX ER EN EL ES EG OpVal OpDoes OpSkip
variable {W : World} {F : SL} {X : Cx} {k : List KI} {σ : Env}
theorem l14To_spec (cf : Cfg) : Spec Tryz.prog 7 [cf.val] W F (fun _ : Unit => cf.val) (fun _ => F) := by
  refine Spec.of Tryz.func7 rfl Tryz.ntmps7 rfl ?_
  repeat (first | refine go ?_ | (refine goX ?_; intro))
  exact EK_ret (ER_c1 (rv := .cell 2 33) rfl ⟨_, rfl, LoadsV.agg rfl⟩ () rfl (Ent.sat (by first | exact Ent.refl _ | exact Ent.last | (repeat (first | refine Ent.cons ?_ | refine Ent.objX ?_ | refine Ent.rowX ?_ | exact Ent.any | exact Ent.last)))))
set_option maxHeartbeats 2000000 in
theorem l18To_spec (x : EvT) (ok : x.Ok) (f g : Slab) [m1 : Src W F f.1 x.call.frame.length (bytesR x.call.frame)] [r1 : Room W F f.1 x.call.frame.length f.2] [m2 : Src W F g.1 x.frame.length (bytesR x.frame)] [r2 : Room W F g.1 x.frame.length g.2] : Spec Tryz.prog 14 [.agg (evE x f g).toArray] W F (fun z : Slab × Slab => .agg (evE x z.1 z.2).toArray) (fun z => RowC 5 1 z.1.1 x.call.frame.length z.1.2 (bytesR x.call.frame) * (RowC 5 1 z.2.1 x.frame.length z.2.2 (bytesR x.frame) * F)) := by
  refine Spec.of Tryz.func14 rfl Tryz.ntmps14 rfl ?_
  have hb1 := ok.frame'
  have hb2 := ok.frame
  repeat (first | refine go ?_ | (refine goX ?_; intro))
  rename_i ox oy
  refine EK_join (γ := Slab × Slab) (fun _ => True) (fun _ => [(2, .pointer oy)]) (fun z => Obj oy 49 (evE x z.1 z.2) * (RowC 5 1 z.1.1 x.call.frame.length z.1.2 (bytesR x.call.frame) * (RowC 5 1 z.2.1 x.frame.length z.2.2 (bytesR x.frame) * F))) ?_ ?_
  · refine EK_sink 33 (Obj ox 42 (evE x f g) * F) rfl rfl rfl ?_
    repeat (first | refine goQ ?_ | refine EG_done (by decide +kernel) ?_)
    refine EG_two (i := 9) (j := 21) (EI_does rfl rfl (OpDoes_buildSlice (n := 0) (sz := 1) rfl rfl rfl (by decide) (by decide)) rfl (fun _ => by first | exact Ent.refl _ | exact Ent.last | (repeat (first | refine Ent.cons ?_ | refine Ent.objX ?_ | refine Ent.rowX ?_ | exact Ent.any | exact Ent.last))) ?_) (EI_does rfl rfl (OpDoes_buildSlice (n := 0) (sz := 1) rfl rfl rfl (by decide) (by decide)) rfl (fun _ => by first | exact Ent.refl _ | exact Ent.last | (repeat (first | refine Ent.cons ?_ | refine Ent.objX ?_ | refine Ent.rowX ?_ | exact Ent.any | exact Ent.last))) ?_)
    · intro y1
      refine EG_two (i := 13) (j := 21) (EI_does rfl rfl (OpDoes_appendB rfl rfl rfl (n := 0) (m := x.call.frame.length) (news := bytesR x.call.frame) (by simp [bytesR]) (by omega) rfl) rfl (fun _ => by first | exact Ent.refl _ | exact Ent.last | (repeat (first | refine Ent.cons ?_ | refine Ent.objX ?_ | refine Ent.rowX ?_ | exact Ent.any | exact Ent.last))) ?_) (EI_does rfl rfl (OpDoes_buildSlice (n := 0) (sz := 1) rfl rfl rfl (by decide) (by decide)) rfl (fun _ => by first | exact Ent.refl _ | exact Ent.last | (repeat (first | refine Ent.cons ?_ | refine Ent.objX ?_ | refine Ent.rowX ?_ | exact Ent.any | exact Ent.last))) ?_)
      · intro z1
        repeat (first | refine goQ ?_ | refine EG_done (by decide +kernel) ?_)
        refine EG_does rfl rfl rfl (OpDoes_buildSlice (n := 0) (sz := 1) rfl rfl rfl (by decide) (by decide)) (by decide +kernel) rfl (fun _ => by first | exact Ent.refl _ | exact Ent.last | (repeat (first | refine Ent.cons ?_ | refine Ent.objX ?_ | refine Ent.rowX ?_ | exact Ent.any | exact Ent.last))) ?_
        intro y2
        repeat (first | refine goQ ?_ | refine EG_done (by decide +kernel) ?_)
        refine EG_does rfl rfl rfl (OpDoes_appendB rfl rfl rfl (n := 0) (m := x.frame.length) (news := bytesR x.frame) (by simp [bytesR]) (by omega) rfl) (by decide +kernel) rfl (fun _ => by first | exact Ent.refl _ | exact Ent.last | (repeat (first | refine Ent.cons ?_ | refine Ent.objX ?_ | refine Ent.rowX ?_ | exact Ent.any | exact Ent.last))) ?_
        intro z2
        repeat (first | refine goQ ?_ | refine EG_done (by decide +kernel) ?_)
        repeat (first | refine goG ?_ | (refine goGX ?_; intro) | refine goGL ?_ | refine goGS ?_ | refine goGV ?_ | refine EG_done (by decide +kernel) ?_)
        rw [Nat.zero_add, Nat.zero_add, List.nil_append, List.nil_append]
        exact EK_meet (z1, z2) trivial ⟨rfl, trivial⟩ (Ent.sat (by first | exact Ent.refl _ | exact Ent.last | (repeat (first | refine Ent.cons ?_ | refine Ent.objX ?_ | refine Ent.rowX ?_ | exact Ent.any | exact Ent.last))))
      · intro y2
        repeat (first | refine goQ ?_ | refine EG_done (by decide +kernel) ?_)
        refine EG_does rfl rfl rfl (OpDoes_appendB rfl rfl rfl (n := 0) (m := x.call.frame.length) (news := bytesR x.call.frame) (by simp [bytesR]) (by omega) rfl) (by decide +kernel) rfl (fun _ => by first | exact Ent.refl _ | exact Ent.last | (repeat (first | refine Ent.cons ?_ | refine Ent.objX ?_ | refine Ent.rowX ?_ | exact Ent.any | exact Ent.last))) ?_
        intro z1
        repeat (first | refine goQ ?_ | refine EG_done (by decide +kernel) ?_)
        refine EG_does rfl rfl rfl (OpDoes_appendB rfl rfl rfl (n := 0) (m := x.frame.length) (news := bytesR x.frame) (by simp [bytesR]) (by omega) rfl) (by decide +kernel) rfl (fun _ => by first | exact Ent.refl _ | exact Ent.last | (repeat (first | refine Ent.cons ?_ | refine Ent.objX ?_ | refine Ent.rowX ?_ | exact Ent.any | exact Ent.last))) ?_
        intro z2
        repeat (first | refine goQ ?_ | refine EG_done (by decide +kernel) ?_)
        repeat (first | refine goG ?_ | (refine goGX ?_; intro) | refine goGL ?_ | refine goGS ?_ | refine goGV ?_ | refine EG_done (by decide +kernel) ?_)
        rw [Nat.zero_add, Nat.zero_add, List.nil_append, List.nil_append]
        exact EK_meet (z1, z2) trivial ⟨rfl, trivial⟩ (Ent.sat (by first | exact Ent.refl _ | exact Ent.last | (repeat (first | refine Ent.cons ?_ | refine Ent.objX ?_ | refine Ent.rowX ?_ | exact Ent.any | exact Ent.last))))
    · intro y2
      repeat (first | refine goQ ?_ | refine EG_done (by decide +kernel) ?_)
      refine EG_does rfl rfl rfl (OpDoes_buildSlice (n := 0) (sz := 1) rfl rfl rfl (by decide) (by decide)) (by decide +kernel) rfl (fun _ => by first | exact Ent.refl _ | exact Ent.last | (repeat (first | refine Ent.cons ?_ | refine Ent.objX ?_ | refine Ent.rowX ?_ | exact Ent.any | exact Ent.last))) ?_
      intro y1
      repeat (first | refine goQ ?_ | refine EG_done (by decide +kernel) ?_)
      refine EG_does rfl rfl rfl (OpDoes_appendB rfl rfl rfl (n := 0) (m := x.call.frame.length) (news := bytesR x.call.frame) (by simp [bytesR]) (by omega) rfl) (by decide +kernel) rfl (fun _ => by first | exact Ent.refl _ | exact Ent.last | (repeat (first | refine Ent.cons ?_ | refine Ent.objX ?_ | refine Ent.rowX ?_ | exact Ent.any | exact Ent.last))) ?_
      intro z1
      repeat (first | refine goQ ?_ | refine EG_done (by decide +kernel) ?_)
      refine EG_does rfl rfl rfl (OpDoes_appendB rfl rfl rfl (n := 0) (m := x.frame.length) (news := bytesR x.frame) (by simp [bytesR]) (by omega) rfl) (by decide +kernel) rfl (fun _ => by first | exact Ent.refl _ | exact Ent.last | (repeat (first | refine Ent.cons ?_ | refine Ent.objX ?_ | refine Ent.rowX ?_ | exact Ent.any | exact Ent.last))) ?_
      intro z2
      repeat (first | refine goQ ?_ | refine EG_done (by decide +kernel) ?_)
      repeat (first | refine goG ?_ | (refine goGX ?_; intro) | refine goGL ?_ | refine goGS ?_ | refine goGV ?_ | refine EG_done (by decide +kernel) ?_)
      rw [Nat.zero_add, Nat.zero_add, List.nil_append, List.nil_append]
      exact EK_meet (z1, z2) trivial ⟨rfl, trivial⟩ (Ent.sat (by first | exact Ent.refl _ | exact Ent.last | (repeat (first | refine Ent.cons ?_ | refine Ent.objX ?_ | refine Ent.rowX ?_ | exact Ent.any | exact Ent.last))))
  intro z _
  repeat (first | refine go ?_ | (refine goX ?_; intro))
  exact EK_ret (ER_c1 (rv := .cell 2 49) rfl ⟨_, rfl, LoadsV.agg rfl⟩ z rfl (Ent.sat (by first | exact Ent.refl _ | exact Ent.last | (repeat (first | refine Ent.cons ?_ | refine Ent.objX ?_ | refine Ent.rowX ?_ | exact Ent.any | exact Ent.last)))))
end Go.Proofs.YtianbkbehjppoaaGreatDoor

namespace Go.Proofs.YtianbkbehjppoaaGreatDoor
open Go.RowKit
set_option maxRecDepth 10000
attribute [local irreducible] EK EX ER EN EL ES EG OpVal OpDoes OpSkip
variable {W : World} {F : SL} {X : Cx} {k : List KI} {σ : Env}
variable {p : Option Addr} {c : Nat} {l : List EvT} {s : Nat → Slab × Slab}
def FrS (l : List EvT) (t : Nat → Slab × Slab) : Nat → SL
  | 0 => 1
  | i + 1 => RowC 5 1 (t i).1.1 (l.getD i ev0).call.frame.length (t i).1.2 (bytesR (l.getD i ev0).call.frame) * (RowC 5 1 (t i).2.1 (l.getD i ev0).frame.length (t i).2.2 (bytesR (l.getD i ev0).frame) * FrS l t i)
theorem FrS.zero (l : List EvT) (t : Nat → Slab × Slab) (F : SL) : FrS l t 0 * F = F := by
  show 1 * F = F
  rw [SL.sep_comm 1, SL.sep_emp]
theorem FrS.succ (l : List EvT) (t : Nat → Slab × Slab) (i : Nat) (F : SL) : FrS l t (i + 1) * F = RowC 5 1 (t i).1.1 (l.getD i ev0).call.frame.length (t i).1.2 (bytesR (l.getD i ev0).call.frame) * (RowC 5 1 (t i).2.1 (l.getD i ev0).frame.length (t i).2.2 (bytesR (l.getD i ev0).frame) * (FrS l t i * F)) := by
  show (_ * (_ * _)) * F = _
  rw [SL.sep_assoc, SL.sep_assoc]
theorem FrS.congr {l l' : List EvT} {t t' : Nat → Slab × Slab} : ∀ n, (∀ i, i < n → l.getD i ev0 = l'.getD i ev0 ∧ t i = t' i) → FrS l t n = FrS l' t' n
  | 0, _ => rfl
  | n + 1, h => by
    obtain ⟨h1, h2⟩ := h n (by omega)
    unfold FrS
    rw [h1, h2, FrS.congr n fun i hi => h i (by omega)]
theorem FrS.s1 {t : Nat → Slab × Slab} {i : Nat} : ∀ {n : Nat}, i < n → Src W (FrS l t n * F) (t i).1.1 (l.getD i ev0).call.frame.length (bytesR (l.getD i ev0).call.frame) ∧ Room W (FrS l t n * F) (t i).1.1 (l.getD i ev0).call.frame.length (t i).1.2 ∧ Src W (FrS l t n * F) (t i).2.1 (l.getD i ev0).frame.length (bytesR (l.getD i ev0).frame) ∧ Room W (FrS l t n * F) (t i).2.1 (l.getD i ev0).frame.length (t i).2.2
  | 0, h => by omega
  | n + 1, h => by
    rw [FrS.succ]
    by_cases e : i = n
    · subst e
      exact ⟨Src.row W _ _ _ _ _ _ _ _, Room.row W _ _ _ _ _ _ _ _, @Src.there W _ _ _ _ _ (Src.row W _ _ _ _ _ _ _ _), @Room.there W _ _ _ _ _ (Room.row W _ _ _ _ _ _ _ _)⟩
    · obtain ⟨h1, h2, h3, h4⟩ := FrS.s1 (i := i) (n := n) (by omega)
      exact ⟨@Src.there W _ _ _ _ _ (@Src.there W _ _ _ _ _ h1), @Room.there W _ _ _ _ _ (@Room.there W _ _ _ _ _ h2), @Src.there W _ _ _ _ _ (@Src.there W _ _ _ _ _ h3), @Room.there W _ _ _ _ _ (@Room.there W _ _ _ _ _ h4)⟩
/-- Entries of one's own. -/
abbrev EnC (q : Slab) (l : List EvT) (t : Nat → Slab × Slab) (F : SL) : SL := RowC 49 11 q.1 l.length q.2 (evR l t) * (FrS l t l.length * F)
theorem EnC.mem {q : Slab} {l : List EvT} {t : Nat → Slab × Slab} (hn : 0 < l.length → q.1 ≠ none) : EvMem W (EnC q l t F) q.1 l t where
  row := Src.row W _ _ _ _ _ _ _ _
  nn := hn
  f1 := fun _ hi => @Src.there W _ _ _ _ _ (FrS.s1 hi).1
  r1 := fun _ hi => @Room.there W _ _ _ _ _ (FrS.s1 hi).2.1
  f2 := fun _ hi => @Src.there W _ _ _ _ _ (FrS.s1 hi).2.2.1
  r2 := fun _ hi => @Room.there W _ _ _ _ _ (FrS.s1 hi).2.2.2
abbrev hsV (cf : Cfg) (p : Option Addr) (n c : Nat) : List Value := [.int .i64 cf.w, .int .u32 cf.o, .int .i64 cf.lo, .int .i64 cf.hi, .int .i64 cf.b, .int .i64 cf.r, .slice p n c]
def updT (t : Nat → Slab × Slab) (n : Nat) (z : Slab × Slab) : Nat → Slab × Slab := fun i => if i = n then z else t i
theorem events_spec (cf : Cfg) (hl : l.length ≤ 9000000000000000000) [r : Room W F p l.length c] : Spec Tryz.prog 10 [.agg (hsV cf p l.length c).toArray] W F (fun _ : Unit => .slice p (l.take 14).length c) (fun _ => F) := by
  refine Spec.of Tryz.func10 rfl Tryz.ntmps10 rfl ?_
  repeat (first | refine go ?_ | (refine goX ?_; intro))
  exact EK_ret (ER_1 rfl rfl () (by rw [List.length_take, Nat.min_comm]) (Ent.sat (by first | exact Ent.refl _ | exact Ent.last | (repeat (first | refine Ent.cons ?_ | refine Ent.objX ?_ | refine Ent.rowX ?_ | exact Ent.any | exact Ent.last)))))
theorem to_spec (cf : Cfg) (hl : l.length ≤ 9000000000000000000) (ok : ∀ x ∈ l.take 14, x.Ok) (m : EvMem W F p l s) [r : Room W F p l.length c] : Spec Tryz.prog 5 [.agg (hsV cf p l.length c).toArray] W F (fun z : Slab × (Nat → Slab × Slab) => .slice z.1.1 (l.take 14).length z.1.2) (fun z => EnC z.1 (l.take 14) z.2 F) := by
  refine Spec.of Tryz.func5 rfl Tryz.ntmps5 rfl ?_
  haveI := m.row
  repeat (first | refine go ?_ | (refine goX ?_; intro))
  rename_i oh
  refine EK_loop (γ := Nat × Slab × (Nat → Slab × Slab)) (fun g => g.1 ≤ l.length ∧ g.1 ≤ 14) (fun g => [(1, .pointer oh), (3, .slice g.2.1.1 (l.take g.1).length g.2.1.2), (4, .int .i64 (g.1 : Int))])
    (fun g => EnC g.2.1 (l.take g.1) g.2.2 (Obj oh 27 (hsV cf p l.length c) * F)) (fun g => 14 - g.1) (0, (none, 0), fun _ => ((none, 0), (none, 0))) ⟨Nat.zero_le _, Nat.zero_le _⟩ ⟨rfl, rfl, rfl, trivial⟩ (Ent.sat ?_) ?_
  · show Ent _ (RowC 49 11 none 0 0 [] * (FrS [] _ 0 * _))
    rw [FrS.zero]
    exact Ent.none (by first | exact Ent.refl _ | exact Ent.last | (repeat (first | refine Ent.cons ?_ | refine Ent.objX ?_ | refine Ent.rowX ?_ | exact Ent.any | exact Ent.last)))
  intro ⟨i, q, t⟩ ⟨h1, h2⟩; dsimp only at h1 h2 ⊢
  have hli : (l.take i).length = i := by rw [List.length_take]; omega
  by_cases hi : i < l.length
  · by_cases h14 : i < 14
    · haveI := m.f1 i hi
      haveI := m.r1 i hi
      haveI := m.f2 i hi
      haveI := m.r2 i hi
      have okx : (l.getD i ev0).Ok := ok _ (by
        rw [List.getD_eq_getElem?_getD, List.getElem?_eq_getElem hi]
        exact List.mem_of_getElem? (by rw [List.getElem?_take, if_pos h14]; exact List.getElem?_eq_getElem hi))
      repeat (first | refine go ?_ | (refine goX ?_; intro))
      refine EL_call rfl (l18To_spec (l.getD i ev0) okx (s i).1 (s i).2) ?_
      intro z
      repeat (first | refine go ?_ | (refine goX ?_; intro))
      rename_i z0 z'
      have ht : l.take (i + 1) = l.take i ++ [l.getD i ev0] := (take_snocD hi).symm
      have hlt : (l.take (i + 1)).length = (l.take i).length + 1 := by rw [ht, List.length_append]; rfl
      have hu : updT t i z (l.take i).length = (z.1, z.2) := by rw [hli]; exact if_pos rfl
      have hcg : evR (l.take i) t = evR (l.take i) (updT t i z) := evR_congr fun j hj => by
        rw [hli] at hj
        exact (if_neg (by omega)).symm
      have hev : evR (l.take (i + 1)) (updT t i z) = evR (l.take i) t ++ evE (l.getD i ev0) z.1 z.2 := by rw [ht, evR_snoc _ _ _ _ _ hu, hcg]
      have hfr : ∀ G, FrS (l.take (i + 1)) (updT t i z) (l.take (i + 1)).length * G = RowC 5 1 z.1.1 (l.getD i ev0).call.frame.length z.1.2 (bytesR (l.getD i ev0).call.frame) * (RowC 5 1 z.2.1 (l.getD i ev0).frame.length z.2.2 (bytesR (l.getD i ev0).frame) * (FrS (l.take i) t (l.take i).length * G)) := fun G => by
        have hgi : (l.take (i + 1)).getD i ev0 = l.getD i ev0 := by simp [List.getD_eq_getElem?_getD, List.getElem?_take]
        have hui : updT t i z i = z := if_pos rfl
        rw [hlt, hli, FrS.succ, hgi, hui, FrS.congr (l := l.take (i + 1)) (l' := l.take i) (t := updT t i z) (t' := t) i fun j hj => ⟨by simp [List.getD_eq_getElem?_getD, List.getElem?_take, hj, show j < i + 1 by omega], if_neg (by omega)⟩]
      refine EK_round (i + 1, z', updT t i z) ⟨by dsimp only; omega, by dsimp only; omega⟩ (by dsimp only; omega) ⟨rfl, by dsimp only; rw [hlt]; rfl, rfl, trivial⟩ (Ent.sat ?_)
      dsimp only
      show Ent _ (RowC 49 11 z'.1 (l.take (i + 1)).length z'.2 (evR (l.take (i + 1)) (updT t i z)) * (FrS (l.take (i + 1)) (updT t i z) (l.take (i + 1)).length * _))
      rw [hfr, hev, hlt]
      first | exact Ent.refl _ | exact Ent.last | (repeat (first | refine Ent.cons ?_ | refine Ent.objX ?_ | refine Ent.rowX ?_ | exact Ent.any | exact Ent.last))
    · have e : i = 14 := by omega
      subst e
      repeat (first | refine go ?_ | (refine goX ?_; intro))
      exact EK_ret (ER_1 rfl rfl (q, t) rfl (Ent.sat (by first | exact Ent.refl _ | exact Ent.last | (repeat (first | refine Ent.cons ?_ | refine Ent.objX ?_ | refine Ent.rowX ?_ | exact Ent.any | exact Ent.last)))))
  · have e : l.take i = l.take 14 := by rw [List.take_of_length_le (by omega), List.take_of_length_le (by omega)]
    rw [e]
    repeat (first | refine go ?_ | (refine goX ?_; intro))
    exact EK_ret (ER_1 rfl rfl (q, t) rfl (Ent.sat (by first | exact Ent.refl _ | exact Ent.last | (repeat (first | refine Ent.cons ?_ | refine Ent.objX ?_ | refine Ent.rowX ?_ | exact Ent.any | exact Ent.last)))))
end Go.Proofs.YtianbkbehjppoaaGreatDoor

namespace Go.Proofs.YtianbkbehjppoaaGreatDoor
open Go.RowKit
variable {X : Cx} {k : List KI} {σ : Env} {H S : SL} {ops : List Oper} {fuel L : Nat} {listed : Array Bool}
/-- Each of these operations, whatever else could come. -/
def EIs (X : Cx) (k : List KI) (ops : List Oper) (S : SL) (L fuel : Nat) (listed : Array Bool) (σ : Env) (H : SL) : List Nat → Prop
  | [] => True
  | i :: l => EI X k ops S L fuel listed i σ H ∧ EIs X k ops S L fuel listed σ H l
theorem EIs.all : ∀ {l : List Nat}, EIs X k ops S L fuel listed σ H l → ∀ i ∈ l, EI X k ops S L fuel listed i σ H
  | [], _, i, hi => by cases hi
  | j :: l, h, i, hi => by
    rcases List.mem_cons.1 hi with rfl | hi
    · exact h.1
    · exact EIs.all h.2 i hi
theorem EG_list {i : Nat} {l : List Nat} (h : EIs X k ops S L fuel listed σ H (i :: l)) (hr : Region.ready .any ops.toArray listed = i :: l := by decide +kernel) : EG X k ops S L (fuel + 1) listed σ H := fun a w ha hw =>
  ⟨fun h0 => (by rw [hr] at h0; cases h0), fun j hj => by
    rw [hr] at hj
    exact h.all j hj a w ha hw⟩
theorem EG_le {σ' : Env} {H' : SL} (h : EG X k ops S L fuel listed σ' H') (hw : Env.within σ σ') (he : Ent H H') : EG X k ops S L fuel listed σ H := fun a w ha hs => h a w (ha.within hw) (he.sat _ hs)
theorem EK_trim {σ' : Env} (h : EK X k σ' H) (hw : Env.within σ σ') : EK X k σ H := fun a w ha hs => h a w (ha.within hw) hs
theorem EK_when {φ : Prop} (h : ∀ w, Sat X.W w H → φ) (q : φ → EK X k σ H) : EK X k σ H := fun a w ha hs => q (h w hs) a w ha hs
theorem Spec.know {P : Program} {f : FuncId} {vs : List Value} {W : World} {H : SL} {α : Type} {r : α → Value} {H' : α → SL} (φ : α → Prop) (h : Spec P f vs W H r H') (q : ∀ x w, Sat W w (H' x) → φ x) : Spec P f vs W H (fun x : {x : α // φ x} => r x.1) (fun x => H' x.1) := fun w hs => (h w hs).mono fun _ w' ⟨x, he, hx⟩ => ⟨⟨x, q x w' hx⟩, he, hx⟩
/-- What is to be shown at a place that several orders reach is shown once. -/
theorem EG_know {γ : Type} {fuel' : Nat} {ls' : Array Bool} (φ : γ → Prop) (σ' : γ → Env) (H' : γ → SL) (h1 : ∀ g, φ g → EG X k ops S L fuel' ls' (σ' g) (H' g)) (h2 : (∀ g, φ g → EG X k ops S L fuel' ls' (σ' g) (H' g)) → EG X k ops S L fuel listed σ H) : EG X k ops S L fuel listed σ H := h2 h1
theorem EI_doesQ {α : Type} {r : α → Value} {H' : α → SL} {d : Nat} {op : Op} {ty : TypeId} {pos : String} {aft : Array Edge} {g : Option (Nat × Bool)} {i : Nat} (hi : ops.toArray[i]? = some ⟨some d, op, ty, pos, aft, g⟩) (hd : Nat.blt d X.N = true)
    (hg : guardV ops σ g = some true) (hv : OpDoes X σ H ⟨some d, op, ty, pos, aft, none⟩ r H') {ls : Array Bool} (hl : listed.setIfInBounds i true = ls)
    (hS : ∀ x, Ent (H' x) S) (h : ∀ x, EG X k ops S L fuel ls ((d, r x) :: σ) (H' x)) : EI X k ops S L fuel listed i σ H := by
  subst hl
  intro a w ha hw
  obtain ⟨x, w', h1, h2⟩ := hv a w ha hw
  have h1' : (execOp a.eval ⟨some d, op, ty, pos, aft, g⟩).run X.P w = .ok (.value (r x)) w' := h1
  unfold wpOp
  rw [hi]
  simp only [guardV_spec ha hg, Oper.wp, h1', Oper.upon, if_true]
  exact .inl ⟨fun _ => (hS x).sat _ h2, h x _ _ (ha.put hd _) h2⟩
theorem EI_skipQ {H' : SL} {op : Op} {ty : TypeId} {pos : String} {aft : Array Edge} {g : Option (Nat × Bool)} {i : Nat} (hi : ops.toArray[i]? = some ⟨none, op, ty, pos, aft, g⟩)
    (hg : guardV ops σ g = some true) (hv : OpSkip X σ H ⟨none, op, ty, pos, aft, none⟩ H') {ls : Array Bool} (hl : listed.setIfInBounds i true = ls)
    (hS : Ent H' S) (h : EG X k ops S L fuel ls σ H') : EI X k ops S L fuel listed i σ H := by
  subst hl
  intro a w ha hw
  obtain ⟨w', h1, h2⟩ := hv a w ha hw
  have h1' : (execOp a.eval ⟨none, op, ty, pos, aft, g⟩).run X.P w = .ok .skip w' := h1
  unfold wpOp
  rw [hi]
  simp only [guardV_spec ha hg, Oper.wp, h1', Oper.upon, if_true]
  exact .inl ⟨fun _ => hS.sat _ h2, h _ _ ha h2⟩
end Go.Proofs.YtianbkbehjppoaaGreatDoor

namespace Go.Proofs.YtianbkbehjppoaaGreatDoor
open Go.RowKit
set_option maxRecDepth 10000
attribute [local irreducible] EK EX ER EN EL ES EG OpVal OpDoes OpSkip
variable {W : World} {F : SL} {X : Cx} {k : List KI} {σ : Env}
theorem fit9 : cf9.Fit := ⟨⟨by decide, by decide⟩, ⟨by decide, by decide⟩, ⟨by decide, by decide⟩, ⟨by decide, by decide⟩, ⟨by decide, by decide⟩, ⟨by decide, by decide⟩⟩
def bakP (p : Int) : List UInt8 := (stepT cf9 [] ⟨true, fr0, 0, p⟩).frame
def errP (p : Int) : Nat := (stepT cf9 [] ⟨true, fr0, 0, p⟩).err
theorem rStep9 {q : Option Addr} {c : Nat} (n : Option Addr) (p : Int) (hp : I64 p) [s : Src W F q fr0.length (bytesR fr0)] [r : Room W F q fr0.length c] : Spec Tryz.prog 20 [.pointer n, .agg #[.bool true, .slice q fr0.length c, .int .i64 0, .int .i64 p]] W (Obj n 72 (rnV cf9 (none, 0) 0) * F)
    (fun z : Slab => .tuple #[.slice z.1 (bakP p).length z.2, .int .i64 (errP p : Int)]) (fun z => RowC 5 1 z.1 (bakP p).length z.2 (bytesR (bakP p)) * F) :=
  (Spec.pre (rStep_spec (q := q) (c := c) n cf9 fit9 good9 (NatOk.nil cf9) ⟨true, fr0, 0, p⟩ (by show fr0.length ≤ _; rw [fr0_len]; decide) (show I64 0 from ⟨by decide, by decide⟩) hp) (RnC.shut' (q := (none, 0)) (Ent.cons (Ent.none (Ent.refl _))))).mono fun z => ⟨z, rfl, Ent.star (Ent.refl _) Ent.drop⟩
theorem bakP3 : bakP 1003 = bak3 := rfl
theorem bakP4 : bakP 1004 = bak4 := rfl
def evs3 : List EvT := [ev3, ev3']
def evs4 : List EvT := [ev3, ev4]
theorem ok3 : ev3.Ok := ⟨⟨by decide, by decide⟩, ⟨by decide, by decide⟩, ⟨by decide, by decide⟩, ⟨by decide, by decide⟩, (by show fr0.length ≤ _; rw [fr0_len]; decide), (by show bak3.length ≤ _; rw [bak3_len]; decide), ⟨by decide, by decide⟩, ⟨by decide, by decide⟩, ⟨by decide, by decide⟩⟩
theorem ok3' : ev3'.Ok := ⟨⟨by decide, by decide⟩, ⟨by decide, by decide⟩, ⟨by decide, by decide⟩, ⟨by decide, by decide⟩, (by show fr0.length ≤ _; rw [fr0_len]; decide), (by show bak3.length ≤ _; rw [bak3_len]; decide), ⟨by decide, by decide⟩, ⟨by decide, by decide⟩, ⟨by decide, by decide⟩⟩
theorem ok4 : ev4.Ok := ⟨⟨by decide, by decide⟩, ⟨by decide, by decide⟩, ⟨by decide, by decide⟩, ⟨by decide, by decide⟩, (by show fr0.length ≤ _; rw [fr0_len]; decide), (by show bak4.length ≤ _; rw [bak4_len]; decide), ⟨by decide, by decide⟩, ⟨by decide, by decide⟩, ⟨by decide, by decide⟩⟩
theorem oks3 : ∀ x ∈ evs3, x.Ok := fun x hx => by
  simp only [evs3, List.mem_cons, List.not_mem_nil, or_false] at hx
  rcases hx with rfl | rfl
  · exact ok3
  · exact ok3'
theorem oks4 : ∀ x ∈ evs4, x.Ok := fun x hx => by
  simp only [evs4, List.mem_cons, List.not_mem_nil, or_false] at hx
  rcases hx with rfl | rfl
  · exact ok3
  · exact ok4
theorem two_cases {i : Nat} (hi : i < 2) : i = 0 ∨ i = 1 := by omega
def ev3m : EvT := ⟨2, 3, false, ⟨true, fr0, 0, 1004⟩, bak3, 0, 0, 0⟩
/-- What stands in the memory of the trial. -/
abbrev TrO (oc h e : Option Addr) (f b d : Slab) (l : List EvT) (s : Nat → Slab × Slab) (F : SL) : SL :=
  Obj oc 24 cf9.cells * (Obj h 27 (hsV cf9 e l.length 2) * (RowC 42 11 e l.length 2 (evR l s) * (RowC 5 1 f.1 fr0.length f.2 (bytesR fr0) * (RowC 5 1 b.1 bak3.length b.2 (bytesR bak3) * (RowC 5 1 d.1 bak4.length d.2 (bytesR bak4) * F)))))
def sl3 (f b : Slab) : Nat → Slab × Slab := fun _ => (f, b)
def sl4 (f b d : Slab) : Nat → Slab × Slab := fun i => if i = 0 then (f, b) else (f, d)
attribute [local irreducible] fr0 bak3 bak4
set_option maxHeartbeats 4000000 in
theorem orders_spec [hW : PlanT W] : Spec Tryz.prog 8 [] W F (fun _ : Unit => .bool true) (fun _ => F) := by
  refine Spec.of Tryz.func8 rfl Tryz.ntmps8 rfl ?_
  repeat (first | refine go ?_ | (refine goX ?_; intro))
  refine EL_call rfl Cfg9_spec ?_
  intro _
  repeat (first | refine go ?_ | (refine goX ?_; intro))
  refine EL_call rfl Sent0_spec ?_
  intro f
  repeat (first | refine go ?_ | (refine goX ?_; intro))
  rename_i oc on
  refine EL_call rfl (rStep9 on 1003 ⟨by decide, by decide⟩) ?_
  intro b
  rw [bakP3]
  repeat (first | refine go ?_ | (refine goX ?_; intro))
  rename_i oo
  refine EL_call rfl (rStep9 oo 1004 ⟨by decide, by decide⟩) ?_
  intro d
  rw [bakP4]
  repeat (first | refine go ?_ | (refine goX ?_; intro))
  rename_i e h
  refine EK_trim (σ' := [(1, .pointer oc), (7, .slice d.1 bak4.length d.2), (9, .pointer h)]) ?_ ⟨rfl, rfl, rfl, trivial⟩
  refine EK_le (H1 := TrO oc h e f b d evs3 (sl3 f b) F) (Ent.sat (Ent.obj oc rfl (Ent.obj h rfl (Ent.row e rfl rfl (by first | exact Ent.refl _ | exact Ent.last | (repeat (first | refine Ent.cons ?_ | refine Ent.objX ?_ | refine Ent.rowX ?_ | exact Ent.any | exact Ent.last))))))) ?_
  refine EK_when (φ := e ≠ none) (fun w hs => ?_) (fun he => ?_)
  · exact (inferInstance : Src W (TrO oc h e f b d evs3 (sl3 f b) F) e evs3.length (evR evs3 (sl3 f b))).nn w hs (by decide)
  have m3 : ∀ G, EvMem W (RowC 42 11 e evs3.length 2 (evR evs3 (sl3 f b)) * (RowC 5 1 f.1 fr0.length f.2 (bytesR fr0) * (RowC 5 1 b.1 bak3.length b.2 (bytesR bak3) * G))) e evs3 (sl3 f b) := fun G => by
    refine ⟨inferInstance, fun _ => he, fun i hi => ?_, fun i hi => ?_, fun i hi => ?_, fun i hi => ?_⟩
    all_goals
      rcases two_cases hi with rfl | rfl
    · show Src W _ f.1 fr0.length (bytesR fr0); infer_instance
    · show Src W _ f.1 fr0.length (bytesR fr0); infer_instance
    · show Room W _ f.1 fr0.length f.2; infer_instance
    · show Room W _ f.1 fr0.length f.2; infer_instance
    · show Src W _ b.1 bak3.length (bytesR bak3); infer_instance
    · show Src W _ b.1 bak3.length (bytesR bak3); infer_instance
    · show Room W _ b.1 bak3.length b.2; infer_instance
    · show Room W _ b.1 bak3.length b.2; infer_instance
  have mT : EvMem W (TrO oc h e f b d evs3 (sl3 f b) F) e evs3 (sl3 f b) := ((m3 _).on).on
  have to3 : ∀ G, EvMem W G e evs3 (sl3 f b) → Room W G e evs3.length 2 → Spec Tryz.prog 5 [.agg (hsV cf9 e evs3.length 2).toArray] W G (fun z : {z : Slab × (Nat → Slab × Slab) // 0 < evs3.length → z.1.1 ≠ none} => .slice z.1.1.1 evs3.length z.1.1.2) (fun z => EnC z.1.1 evs3 z.1.2 G) := fun G mG rG => Spec.know _ (to_spec (l := evs3) cf9 (by decide) oks3 mG) fun z w hs hn => (inferInstance : Src W (EnC z.1 evs3 z.2 G) z.1.1 evs3.length (evR evs3 z.2)).nn w hs hn
  have chk3 : ∀ (o : List Int) (q : Option Addr) (cq : Nat) (z : Slab) (t : Nat → Slab × Slab) (G : SL), o.length ≤ 1000 → EvMem W G z.1 evs3 t → Room W G z.1 evs3.length z.2 → Src W G q o.length (intsR .i64 o) → Room W G q o.length cq → Spec Tryz.prog 13 [cf9.val, .slice z.1 evs3.length z.2, .slice q o.length cq] W G (fun _ : Unit => .bool (checkT cf9 evs3 o)) (fun _ => G) := fun o q cq z t G ho mG rG sG rG2 => Check_spec cf9 fit9 (by decide) ho oks3 mG
  refine EK_sink 99 (TrO oc h e f b d evs3 (sl3 f b) F) rfl rfl rfl ?_
  repeat (first | refine goQ ?_ | refine EG_done (by decide +kernel) ?_)
  refine EG_callQ rfl rfl rfl rfl rfl (l14To_spec cf9) (fun _ => by first | exact Ent.refl _ | exact Ent.last | (repeat (first | refine Ent.cons ?_ | refine Ent.objX ?_ | refine Ent.rowX ?_ | exact Ent.any | exact Ent.last))) ?_
  intro _
  refine EG_callQ rfl rfl rfl rfl rfl (to3 _ mT inferInstance) (fun _ => by first | exact Ent.refl _ | exact Ent.last | (repeat (first | refine Ent.cons ?_ | refine Ent.objX ?_ | refine Ent.rowX ?_ | exact Ent.any | exact Ent.last))) ?_
  intro ⟨z, hz⟩
  refine EG_callQ rfl rfl rfl rfl rfl (Order_spec (l := evs3) cf9 fit9 (by decide) oks3 (EnC.mem hz)) (fun _ => by first | exact Ent.refl _ | exact Ent.last | (repeat (first | refine Ent.cons ?_ | refine Ent.objX ?_ | refine Ent.rowX ?_ | exact Ent.any | exact Ent.last))) ?_
  intro ⟨⟨rok, ro, rq⟩, hr⟩
  have e1 : rok = true := by
    cases rok with
    | true => rfl
    | false => exact absurd yes9 (hr.no rfl).2
  subst e1
  repeat (first | refine goQ ?_ | refine EG_done (by decide +kernel) ?_)
  refine EK_trim (σ' := [(1, .pointer oc), (7, .slice d.1 bak4.length d.2), (9, .pointer h), (11, .bool true)]) ?_ ⟨rfl, rfl, rfl, rfl, trivial⟩
  refine EK_le (H1 := TrO oc h e f b d evs3 (sl3 f b) F) (Ent.sat (by first | exact Ent.refl _ | exact Ent.last | (repeat (first | refine Ent.cons ?_ | refine Ent.objX ?_ | refine Ent.rowX ?_ | exact Ent.any | exact Ent.last)))) ?_
  repeat (first | refine go ?_ | (refine goX ?_; intro))
  refine EK_sink 99 (TrO oc h e f b d evs3 (sl3 f b) F) rfl rfl rfl ?_
  repeat (first | refine goQ ?_ | refine EG_done (by decide +kernel) ?_)
  refine EG_know (γ := (Slab × (Nat → Slab × Slab)) × Option Addr × SL) (fuel' := 10) (ls' := #[true, true, true, true, true, false, false, false, false, false, false, false, false, false, false]) (fun g => EvMem W g.2.2 g.1.1.1 evs3 g.1.2 ∧ Room W g.2.2 g.1.1.1 evs3.length g.1.1.2 ∧ Src W g.2.2 g.2.1 2 (intsR .i64 [0, 1]) ∧ Room W g.2.2 g.2.1 2 2 ∧ Ent g.2.2 (TrO oc h e f b d evs3 (sl3 f b) F))
    (fun g => [(1, .pointer oc), (7, .slice d.1 bak4.length d.2), (9, .pointer h), (11, .bool true), (58, cf9.val), (60, .slice g.1.1.1 evs3.length g.1.1.2), (61, .slice g.2.1 2 2)]) (fun g => g.2.2) ?_ ?_
  · intro ⟨⟨z, t⟩, q, G⟩ ⟨g1, g2, g3, g4, g5⟩
    dsimp only at g1 g2 g3 g4 g5 ⊢
    refine EG_callQ rfl rfl rfl rfl rfl (chk3 [0, 1] q 2 z t G (by decide) g1 g2 g3 g4) (fun _ => g5) ?_
    intro _
    rw [show checkT cf9 evs3 [0, 1] = true from chk01]
    refine EG_le (σ' := [(62, .bool true), (1, .pointer oc), (7, .slice d.1 bak4.length d.2), (9, .pointer h), (11, .bool true)]) (H' := (TrO oc h e f b d evs3 (sl3 f b) F)) ?_ ⟨rfl, rfl, rfl, rfl, rfl, trivial⟩ g5
    repeat (first | refine goQ ?_ | refine EG_done (by decide +kernel) ?_)
    refine EG_know (γ := (Slab × (Nat → Slab × Slab)) × Option Addr × SL) (fuel' := 3) (ls' := #[true, true, true, true, true, true, true, true, true, true, true, true, false, false, false]) (fun g => EvMem W g.2.2 g.1.1.1 evs3 g.1.2 ∧ Room W g.2.2 g.1.1.1 evs3.length g.1.1.2 ∧ Src W g.2.2 g.2.1 2 (intsR .i64 [1, 0]) ∧ Room W g.2.2 g.2.1 2 2 ∧ Ent g.2.2 (TrO oc h e f b d evs3 (sl3 f b) F))
      (fun g => [(1, .pointer oc), (7, .slice d.1 bak4.length d.2), (9, .pointer h), (11, .bool true), (63, .bool true), (65, cf9.val), (67, .slice g.1.1.1 evs3.length g.1.1.2), (68, .slice g.2.1 2 2)]) (fun g => g.2.2) ?_ ?_
    · intro ⟨⟨z, t⟩, q, G⟩ ⟨g1, g2, g3, g4, g5⟩
      dsimp only at g1 g2 g3 g4 g5 ⊢
      refine EG_callQ rfl rfl rfl rfl rfl (chk3 [1, 0] q 2 z t G (by decide) g1 g2 g3 g4) (fun _ => g5) ?_
      intro _
      rw [show checkT cf9 evs3 [1, 0] = true from chk10]
      refine EG_le (σ' := [(69, .bool true), (63, .bool true), (1, .pointer oc), (7, .slice d.1 bak4.length d.2), (9, .pointer h), (11, .bool true)]) (H' := (TrO oc h e f b d evs3 (sl3 f b) F)) ?_ ⟨rfl, rfl, rfl, rfl, rfl, rfl, trivial⟩ g5
      repeat (first | refine goQ ?_ | refine EG_done (by decide +kernel) ?_)
      refine EK_trim (σ' := [(1, .pointer oc), (7, .slice d.1 bak4.length d.2), (9, .pointer h), (11, .bool true), (12, .bool true)]) ?_ ⟨rfl, rfl, rfl, rfl, rfl, trivial⟩
      repeat (first | refine go ?_ | (refine goX ?_; intro))
      have h2 : evs3.length = 2 := rfl
      haveI : PN e := ⟨he⟩
      refine EK_sink 99 (Obj oc 24 cf9.cells * (Obj h 27 (hsV cf9 e evs3.length 2) * (RowX 42 11 e evs3.length 2 * F))) rfl rfl rfl ?_
      repeat (first | refine goQ ?_ | refine EG_done (by decide +kernel) ?_)
      have A1 : RowSet (evR evs3 (sl3 f b)) 1 11 6 [.int .i64 1004] (evR [ev3, ev3m] (sl3 f b)) True := ⟨fun _ => ⟨by rw [evR_len]; show 1 * 11 + 6 + 1 ≤ 2 * 11; decide, rfl⟩⟩
      have A2 : RowSet (evR [ev3, ev3m] (sl3 f b)) 1 11 7 [.slice d.1 bak4.length d.2] (evR evs4 (sl4 f b d)) True := ⟨fun _ => ⟨by rw [evR_len]; show 1 * 11 + 7 + 1 ≤ 2 * 11; decide, rfl⟩⟩
      refine EG_list (i := 8) (l := []) ⟨EI_skipQ rfl rfl (OpSkip_storeR (g := A1) rfl rfl rfl rfl trivial rfl rfl rfl) rfl (by first | exact Ent.refl _ | exact Ent.last | (repeat (first | refine Ent.cons ?_ | refine Ent.objX ?_ | refine Ent.rowX ?_ | exact Ent.any | exact Ent.last))) ?_, trivial⟩
      repeat (first | refine goQ ?_ | refine EG_done (by decide +kernel) ?_)
      refine EG_list (i := 11) (l := []) ⟨EI_skipQ rfl rfl (OpSkip_storeR (g := A2) rfl rfl rfl rfl trivial rfl rfl rfl) rfl (by first | exact Ent.refl _ | exact Ent.last | (repeat (first | refine Ent.cons ?_ | refine Ent.objX ?_ | refine Ent.rowX ?_ | exact Ent.any | exact Ent.last))) ?_, trivial⟩
      repeat (first | refine goQ ?_ | refine EG_done (by decide +kernel) ?_)
      refine EK_trim (σ' := [(1, .pointer oc), (9, .pointer h), (11, .bool true), (12, .bool true)]) ?_ ⟨rfl, rfl, rfl, rfl, trivial⟩
      refine EK_le (H1 := TrO oc h e f b d evs4 (sl4 f b d) F) (Ent.sat (Ent.obj oc rfl (Ent.obj h rfl (Ent.row e rfl rfl (by first | exact Ent.refl _ | exact Ent.last | (repeat (first | refine Ent.cons ?_ | refine Ent.objX ?_ | refine Ent.rowX ?_ | exact Ent.any | exact Ent.last))))))) ?_
      have m4 : ∀ G, EvMem W (RowC 42 11 e evs4.length 2 (evR evs4 (sl4 f b d)) * (RowC 5 1 f.1 fr0.length f.2 (bytesR fr0) * (RowC 5 1 b.1 bak3.length b.2 (bytesR bak3) * (RowC 5 1 d.1 bak4.length d.2 (bytesR bak4) * G)))) e evs4 (sl4 f b d) := fun G => by
        refine ⟨inferInstance, fun _ => he, fun i hi => ?_, fun i hi => ?_, fun i hi => ?_, fun i hi => ?_⟩
        all_goals
          rcases two_cases hi with rfl | rfl
        · show Src W _ f.1 fr0.length (bytesR fr0); infer_instance
        · show Src W _ f.1 fr0.length (bytesR fr0); infer_instance
        · show Room W _ f.1 fr0.length f.2; infer_instance
        · show Room W _ f.1 fr0.length f.2; infer_instance
        · show Src W _ b.1 bak3.length (bytesR bak3); infer_instance
        · show Src W _ d.1 bak4.length (bytesR bak4); infer_instance
        · show Room W _ b.1 bak3.length b.2; infer_instance
        · show Room W _ d.1 bak4.length d.2; infer_instance
      have mU : EvMem W (TrO oc h e f b d evs4 (sl4 f b d) F) e evs4 (sl4 f b d) := ((m4 _).on).on
      have to4 : ∀ G, EvMem W G e evs4 (sl4 f b d) → Room W G e evs4.length 2 → Spec Tryz.prog 5 [.agg (hsV cf9 e evs4.length 2).toArray] W G (fun z : {z : Slab × (Nat → Slab × Slab) // 0 < evs4.length → z.1.1 ≠ none} => .slice z.1.1.1 evs4.length z.1.1.2) (fun z => EnC z.1.1 evs4 z.1.2 G) := fun G mG rG => Spec.know _ (to_spec (l := evs4) cf9 (by decide) oks4 mG) fun z w hs hn => (inferInstance : Src W (EnC z.1 evs4 z.2 G) z.1.1 evs4.length (evR evs4 z.2)).nn w hs hn
      repeat (first | refine go ?_ | (refine goX ?_; intro))
      refine EK_sink 99 (TrO oc h e f b d evs4 (sl4 f b d) F) rfl rfl rfl ?_
      repeat (first | refine goQ ?_ | refine EG_done (by decide +kernel) ?_)
      refine EG_callQ rfl rfl rfl rfl rfl (l14To_spec cf9) (fun _ => by first | exact Ent.refl _ | exact Ent.last | (repeat (first | refine Ent.cons ?_ | refine Ent.objX ?_ | refine Ent.rowX ?_ | exact Ent.any | exact Ent.last))) ?_
      intro _
      refine EG_callQ rfl rfl rfl rfl rfl (to4 _ mU inferInstance) (fun _ => by first | exact Ent.refl _ | exact Ent.last | (repeat (first | refine Ent.cons ?_ | refine Ent.objX ?_ | refine Ent.rowX ?_ | exact Ent.any | exact Ent.last))) ?_
      intro ⟨z, hz⟩
      refine EG_callQ rfl rfl rfl rfl rfl (Order_spec (l := evs4) cf9 fit9 (by decide) oks4 (EnC.mem hz)) (fun _ => by first | exact Ent.refl _ | exact Ent.last | (repeat (first | refine Ent.cons ?_ | refine Ent.objX ?_ | refine Ent.rowX ?_ | exact Ent.any | exact Ent.last))) ?_
      intro ⟨⟨rok, ro, rq⟩, hr⟩
      have e1 : rok = false := by
        cases rok with
        | false => rfl
        | true =>
          obtain ⟨y1, y2, y3, y4⟩ := hr.yes rfl
          exact absurd ⟨y1, y2, y3, _, y4⟩ no9
      subst e1
      repeat (first | refine goQ ?_ | refine EG_done (by decide +kernel) ?_)
      repeat (first | refine go ?_ | (refine goX ?_; intro))
      exact EK_ret (ER_1 rfl rfl () rfl (Ent.sat (by first | exact Ent.refl _ | exact Ent.last | (repeat (first | refine Ent.cons ?_ | refine Ent.objX ?_ | refine Ent.rowX ?_ | exact Ent.any | exact Ent.last)))))
    intro K
    refine EG_list (i := 8) (l := [11]) ⟨EI_callQ rfl rfl rfl rfl (l14To_spec cf9) (fun _ => by first | exact Ent.refl _ | exact Ent.last | (repeat (first | refine Ent.cons ?_ | refine Ent.objX ?_ | refine Ent.rowX ?_ | exact Ent.any | exact Ent.last))) (fun _ => ?_), EI_doesQ rfl rfl rfl (OpDoes_buildSlice (n := 2) (sz := 1) rfl rfl rfl (by decide) (by decide)) rfl (fun _ => by first | exact Ent.refl _ | exact Ent.last | (repeat (first | refine Ent.cons ?_ | refine Ent.objX ?_ | refine Ent.rowX ?_ | exact Ent.any | exact Ent.last))) (fun q => ?_), trivial⟩
    · refine EG_list (i := 10) (l := [11]) ⟨EI_callQ rfl rfl rfl rfl (to3 _ mT inferInstance) (fun _ => by first | exact Ent.refl _ | exact Ent.last | (repeat (first | refine Ent.cons ?_ | refine Ent.objX ?_ | refine Ent.rowX ?_ | exact Ent.any | exact Ent.last))) (fun ⟨z, hz⟩ => ?_), EI_doesQ rfl rfl rfl (OpDoes_buildSlice (n := 2) (sz := 1) rfl rfl rfl (by decide) (by decide)) rfl (fun _ => by first | exact Ent.refl _ | exact Ent.last | (repeat (first | refine Ent.cons ?_ | refine Ent.objX ?_ | refine Ent.rowX ?_ | exact Ent.any | exact Ent.last))) (fun q => ?_), trivial⟩
      · refine EG_list (i := 11) (l := []) ⟨EI_doesQ rfl rfl rfl (OpDoes_buildSlice (n := 2) (sz := 1) rfl rfl rfl (by decide) (by decide)) rfl (fun _ => by first | exact Ent.refl _ | exact Ent.last | (repeat (first | refine Ent.cons ?_ | refine Ent.objX ?_ | refine Ent.rowX ?_ | exact Ent.any | exact Ent.last))) (fun q => ?_), trivial⟩
        exact EG_le (K (z, q, _) ⟨(EnC.mem hz).on, inferInstance, (show Src W _ q 2 (intsR .i64 [1, 0]) from inferInstanceAs (Src W _ q 2 [Value.int .i64 1, Value.int .i64 0])), inferInstance, by first | exact Ent.refl _ | exact Ent.last | (repeat (first | refine Ent.cons ?_ | refine Ent.objX ?_ | refine Ent.rowX ?_ | exact Ent.any | exact Ent.last))⟩) ⟨rfl, rfl, rfl, rfl, rfl, rfl, rfl, rfl, trivial⟩ (Ent.refl _)
      · refine EG_callQ rfl rfl rfl rfl rfl (to3 _ mT.on inferInstance) (fun _ => by first | exact Ent.refl _ | exact Ent.last | (repeat (first | refine Ent.cons ?_ | refine Ent.objX ?_ | refine Ent.rowX ?_ | exact Ent.any | exact Ent.last))) ?_
        intro ⟨z, hz⟩
        exact EG_le (K (z, q, _) ⟨EnC.mem hz, inferInstance, (show Src W _ q 2 (intsR .i64 [1, 0]) from inferInstanceAs (Src W _ q 2 [Value.int .i64 1, Value.int .i64 0])), inferInstance, by first | exact Ent.refl _ | exact Ent.last | (repeat (first | refine Ent.cons ?_ | refine Ent.objX ?_ | refine Ent.rowX ?_ | exact Ent.any | exact Ent.last))⟩) ⟨rfl, rfl, rfl, rfl, rfl, rfl, rfl, rfl, trivial⟩ (Ent.refl _)
    · refine EG_callQ rfl rfl rfl rfl rfl (l14To_spec cf9) (fun _ => by first | exact Ent.refl _ | exact Ent.last | (repeat (first | refine Ent.cons ?_ | refine Ent.objX ?_ | refine Ent.rowX ?_ | exact Ent.any | exact Ent.last))) ?_
      intro _
      refine EG_callQ rfl rfl rfl rfl rfl (to3 _ mT.on inferInstance) (fun _ => by first | exact Ent.refl _ | exact Ent.last | (repeat (first | refine Ent.cons ?_ | refine Ent.objX ?_ | refine Ent.rowX ?_ | exact Ent.any | exact Ent.last))) ?_
      intro ⟨z, hz⟩
      exact EG_le (K (z, q, _) ⟨EnC.mem hz, inferInstance, (show Src W _ q 2 (intsR .i64 [1, 0]) from inferInstanceAs (Src W _ q 2 [Value.int .i64 1, Value.int .i64 0])), inferInstance, by first | exact Ent.refl _ | exact Ent.last | (repeat (first | refine Ent.cons ?_ | refine Ent.objX ?_ | refine Ent.rowX ?_ | exact Ent.any | exact Ent.last))⟩) ⟨rfl, rfl, rfl, rfl, rfl, rfl, rfl, rfl, trivial⟩ (Ent.refl _)
  intro K
  refine EG_list (i := 1) (l := [4]) ⟨EI_callQ rfl rfl rfl rfl (l14To_spec cf9) (fun _ => by first | exact Ent.refl _ | exact Ent.last | (repeat (first | refine Ent.cons ?_ | refine Ent.objX ?_ | refine Ent.rowX ?_ | exact Ent.any | exact Ent.last))) (fun _ => ?_), EI_doesQ rfl rfl rfl (OpDoes_buildSlice (n := 2) (sz := 1) rfl rfl rfl (by decide) (by decide)) rfl (fun _ => by first | exact Ent.refl _ | exact Ent.last | (repeat (first | refine Ent.cons ?_ | refine Ent.objX ?_ | refine Ent.rowX ?_ | exact Ent.any | exact Ent.last))) (fun q => ?_), trivial⟩
  · refine EG_list (i := 3) (l := [4]) ⟨EI_callQ rfl rfl rfl rfl (to3 _ mT inferInstance) (fun _ => by first | exact Ent.refl _ | exact Ent.last | (repeat (first | refine Ent.cons ?_ | refine Ent.objX ?_ | refine Ent.rowX ?_ | exact Ent.any | exact Ent.last))) (fun ⟨z, hz⟩ => ?_), EI_doesQ rfl rfl rfl (OpDoes_buildSlice (n := 2) (sz := 1) rfl rfl rfl (by decide) (by decide)) rfl (fun _ => by first | exact Ent.refl _ | exact Ent.last | (repeat (first | refine Ent.cons ?_ | refine Ent.objX ?_ | refine Ent.rowX ?_ | exact Ent.any | exact Ent.last))) (fun q => ?_), trivial⟩
    · refine EG_list (i := 4) (l := []) ⟨EI_doesQ rfl rfl rfl (OpDoes_buildSlice (n := 2) (sz := 1) rfl rfl rfl (by decide) (by decide)) rfl (fun _ => by first | exact Ent.refl _ | exact Ent.last | (repeat (first | refine Ent.cons ?_ | refine Ent.objX ?_ | refine Ent.rowX ?_ | exact Ent.any | exact Ent.last))) (fun q => ?_), trivial⟩
      exact EG_le (K (z, q, _) ⟨(EnC.mem hz).on, inferInstance, (show Src W _ q 2 (intsR .i64 [0, 1]) from inferInstanceAs (Src W _ q 2 [Value.int .i64 0, Value.int .i64 1])), inferInstance, by first | exact Ent.refl _ | exact Ent.last | (repeat (first | refine Ent.cons ?_ | refine Ent.objX ?_ | refine Ent.rowX ?_ | exact Ent.any | exact Ent.last))⟩) ⟨rfl, rfl, rfl, rfl, rfl, rfl, rfl, trivial⟩ (Ent.refl _)
    · refine EG_callQ rfl rfl rfl rfl rfl (to3 _ mT.on inferInstance) (fun _ => by first | exact Ent.refl _ | exact Ent.last | (repeat (first | refine Ent.cons ?_ | refine Ent.objX ?_ | refine Ent.rowX ?_ | exact Ent.any | exact Ent.last))) ?_
      intro ⟨z, hz⟩
      exact EG_le (K (z, q, _) ⟨EnC.mem hz, inferInstance, (show Src W _ q 2 (intsR .i64 [0, 1]) from inferInstanceAs (Src W _ q 2 [Value.int .i64 0, Value.int .i64 1])), inferInstance, by first | exact Ent.refl _ | exact Ent.last | (repeat (first | refine Ent.cons ?_ | refine Ent.objX ?_ | refine Ent.rowX ?_ | exact Ent.any | exact Ent.last))⟩) ⟨rfl, rfl, rfl, rfl, rfl, rfl, rfl, trivial⟩ (Ent.refl _)
  · refine EG_callQ rfl rfl rfl rfl rfl (l14To_spec cf9) (fun _ => by first | exact Ent.refl _ | exact Ent.last | (repeat (first | refine Ent.cons ?_ | refine Ent.objX ?_ | refine Ent.rowX ?_ | exact Ent.any | exact Ent.last))) ?_
    intro _
    refine EG_callQ rfl rfl rfl rfl rfl (to3 _ mT.on inferInstance) (fun _ => by first | exact Ent.refl _ | exact Ent.last | (repeat (first | refine Ent.cons ?_ | refine Ent.objX ?_ | refine Ent.rowX ?_ | exact Ent.any | exact Ent.last))) ?_
    intro ⟨z, hz⟩
    exact EG_le (K (z, q, _) ⟨EnC.mem hz, inferInstance, (show Src W _ q 2 (intsR .i64 [0, 1]) from inferInstanceAs (Src W _ q 2 [Value.int .i64 0, Value.int .i64 1])), inferInstance, by first | exact Ent.refl _ | exact Ent.last | (repeat (first | refine Ent.cons ?_ | refine Ent.objX ?_ | refine Ent.rowX ?_ | exact Ent.any | exact Ent.last))⟩) ⟨rfl, rfl, rfl, rfl, rfl, rfl, rfl, trivial⟩ (Ent.refl _)
end Go.Proofs.YtianbkbehjppoaaGreatDoor

namespace Go.Proofs.YtianbkbehjppoaaGreatDoor
open Go.RowKit
set_option maxRecDepth 10000
attribute [local irreducible] EK EX ER EN EL ES EG OpVal OpDoes OpSkip
variable {W : World} {F : SL} {X : Cx} {k : List KI} {σ : Env}
variable {p : Option Addr} {c : Nat} {l : List EvT} {s : Nat → Slab × Slab}
theorem EvMem.take (m : EvMem W F p l s) (n : Nat) : EvMem W F p (l.take n) s := by
  have hg : ∀ i, i < (l.take n).length → i < l.length ∧ (l.take n).getD i ev0 = l.getD i ev0 := fun i hi => by
    rw [List.length_take] at hi
    exact ⟨by omega, by rw [List.getD_eq_getElem?_getD, List.getElem?_take, if_pos (by omega), List.getD_eq_getElem?_getD]⟩
  refine ⟨⟨fun w hs i v hv => ?_, fun w hs hn => ?_⟩, fun hn => m.nn (by rw [List.length_take] at hn; omega), fun i hi => ?_, fun i hi => ?_, fun i hi => ?_, fun i hi => ?_⟩
  · rw [← evR_take, List.getElem?_take] at hv
    split at hv
    · exact m.row.cells w hs i v hv
    · cases hv
  · exact m.row.nn w hs (by rw [List.length_take] at hn; omega)
  all_goals
    obtain ⟨h1, h2⟩ := hg i hi
    rw [h2]
  · exact m.f1 i h1
  · exact m.r1 i h1
  · exact m.f2 i h1
  · exact m.r2 i h1
end Go.Proofs.YtianbkbehjppoaaGreatDoor

namespace Go.Proofs.YtianbkbehjppoaaGreatDoor
open Go.RowKit
set_option maxRecDepth 10000
attribute [local irreducible] EK EX ER EN EL ES EG OpVal OpDoes OpSkip
variable {W : World} {F : SL} {X : Cx} {k : List KI} {σ : Env}
variable {p : Option Addr} {c : Nat} {l : List EvT} {s : Nat → Slab × Slab}
attribute [local simp] intsR_len
variable {q : Option Addr} {cq : Nat} {o : List Int}
set_option maxHeartbeats 4000000 in
theorem Checks_walk [hW : PlanT W] (cf : Cfg) (hf : cf.Fit) (hl : l.length ≤ 9000000000000000000) (hc : l.length ≤ c) (ok : ∀ x ∈ l, x.Ok) (m : ∀ F, EvMem W F p l s) (so : ∀ F, Src W F q o.length (intsR .i64 o)) (ho : o.length ≤ cq) : Spec Tryz.prog 4 [.agg (hsV cf p l.length c).toArray, .slice q o.length cq] W F (fun _ : Unit => .bool true) (fun _ => F) := by
  refine Spec.of Tryz.func4 rfl Tryz.ntmps4 rfl ?_
  haveI rm : ∀ F : SL, Room W F p l.length c := fun F => ⟨fun _ _ => hc⟩
  haveI ro : ∀ F : SL, Room W F q o.length cq := fun F => ⟨fun _ _ => ho⟩
  have okt : ∀ x ∈ l.take 14, x.Ok := fun x hx => ok x (List.mem_of_mem_take hx)
  have hl14 : (l.take 14).length ≤ 14 := by rw [List.length_take]; omega
  repeat (first | refine go ?_ | (refine goX ?_; intro))
  rename_i oh y
  have e16 : min o.length 16 = (o.take 16).length := by rw [List.length_take, Nat.min_comm]
  have h16 : (o.take 16).length ≤ 16 := by rw [List.length_take]; omega
  haveI st : ∀ F, Src W F q (o.take 16).length (intsR .i64 (o.take 16)) := fun F => ⟨(fun w hs i v hv => by
    rw [show intsR .i64 (o.take 16) = (intsR .i64 o).take 16 by simp [intsR, List.map_take], List.getElem?_take] at hv
    split at hv
    · exact (so F).cells w hs i v hv
    · cases hv), fun w hs hn => (so F).nn w hs (by rw [List.length_take] at hn; omega)⟩
  rw [e16]
  generalize o.take 16 = u at *
  have hul := intsR_len .i64 u
  repeat (first | refine go ?_ | (refine goX ?_; intro))
  rw [Nat.zero_add, List.nil_append]
  repeat (first | refine go ?_ | (refine goX ?_; intro))
  rw [Nat.zero_add, List.nil_append]
  rename_i u1 _ u2
  refine EK_trim (σ' := [(1, .slice u1.1 u.length u1.2), (2, .pointer oh), (5, .slice u2.1 u.length u2.2)]) ?_ ⟨rfl, rfl, rfl, trivial⟩
  haveI rt : ∀ F : SL, Room W F p (l.take 14).length c := fun F => ⟨fun _ _ => by rw [List.length_take]; omega⟩
  have to' : ∀ G, Spec Tryz.prog 5 [.agg (hsV cf p l.length c).toArray] W G (fun z : {z : Slab × (Nat → Slab × Slab) // 0 < (l.take 14).length → z.1.1 ≠ none} => .slice z.1.1.1 (l.take 14).length z.1.1.2) (fun z => EnC z.1.1 (l.take 14) z.1.2 G) := fun G => Spec.know _ (to_spec cf hl okt (m G)) fun z w hs hn => (inferInstance : Src W (EnC z.1 (l.take 14) z.2 G) z.1.1 (l.take 14).length (evR (l.take 14) z.2)).nn w hs hn
  refine EK_join (γ := Unit) (fun _ => True) (fun _ => [(1, .slice u1.1 u.length u1.2), (2, .pointer oh), (5, .slice u2.1 u.length u2.2), (30, .bool false)]) (fun _ => RowC 3 1 u2.1 u.length u2.2 (intsR .i64 u) * (RowC 3 1 u1.1 u.length u1.2 (intsR .i64 u) * (Obj oh 27 (hsV cf p l.length c) * F))) ?_ ?_
  · refine EK_sink 99 (RowC 3 1 u2.1 u.length u2.2 (intsR .i64 u) * (RowC 3 1 u1.1 u.length u1.2 (intsR .i64 u) * (Obj oh 27 (hsV cf p l.length c) * F))) rfl rfl rfl ?_
    repeat (first | refine goQ ?_ | refine EG_done (by decide +kernel) ?_)
    refine EG_callQ rfl rfl rfl rfl rfl (l14To_spec cf) (fun _ => by first | exact Ent.refl _ | exact Ent.last | (repeat (first | refine Ent.cons ?_ | refine Ent.objX ?_ | refine Ent.rowX ?_ | exact Ent.any | exact Ent.last))) ?_
    intro _
    refine EG_callQ rfl rfl rfl rfl rfl (to' _) (fun _ => by first | exact Ent.refl _ | exact Ent.last | (repeat (first | refine Ent.cons ?_ | refine Ent.objX ?_ | refine Ent.rowX ?_ | exact Ent.any | exact Ent.last))) ?_
    intro ⟨⟨z, t⟩, hz⟩
    dsimp only at hz ⊢
    refine EG_callQ rfl rfl rfl rfl rfl (Check_spec (c := z.2) (cq := u1.2) cf hf (by omega) (by omega) okt (EnC.mem hz)) (fun _ => by first | exact Ent.refl _ | exact Ent.last | (repeat (first | refine Ent.cons ?_ | refine Ent.objX ?_ | refine Ent.rowX ?_ | exact Ent.any | exact Ent.last))) ?_
    intro _
    refine EG_callQ rfl rfl rfl rfl rfl (events_spec cf hl) (fun _ => by first | exact Ent.refl _ | exact Ent.last | (repeat (first | refine Ent.cons ?_ | refine Ent.objX ?_ | refine Ent.rowX ?_ | exact Ent.any | exact Ent.last))) ?_
    intro _
    refine EG_callQ rfl rfl rfl rfl rfl (rCheck_spec (c := c) (cq := u1.2) cf hf (by omega) (by omega) okt ((m _).take 14)) (fun _ => by first | exact Ent.refl _ | exact Ent.last | (repeat (first | refine Ent.cons ?_ | refine Ent.objX ?_ | refine Ent.rowX ?_ | exact Ent.any | exact Ent.last))) ?_
    intro _
    repeat (first | refine goQ ?_ | refine EG_done (by decide +kernel) ?_)
    exact EK_meet () trivial ⟨rfl, rfl, rfl, by simp [Env.get], trivial⟩ (Ent.sat (by first | exact Ent.refl _ | exact Ent.last | (repeat (first | refine Ent.cons ?_ | refine Ent.objX ?_ | refine Ent.rowX ?_ | exact Ent.any | exact Ent.last))))
  intro _ _
  repeat (first | refine go ?_ | (refine goX ?_; intro))
  refine EK_loop (γ := Nat) (fun i => i ≤ u.length) (fun i => [(1, .slice u1.1 u.length u1.2), (2, .pointer oh), (5, .slice u2.1 u.length u2.2), (6, .int .i64 (i : Int))])
    (fun _ => RowC 3 1 u2.1 u.length u2.2 (intsR .i64 u) * (RowC 3 1 u1.1 u.length u1.2 (intsR .i64 u) * (Obj oh 27 (hsV cf p l.length c) * F))) (fun i => u.length - i) 0 (Nat.zero_le _) ⟨rfl, rfl, rfl, rfl, trivial⟩ (Ent.sat (by first | exact Ent.refl _ | exact Ent.last | (repeat (first | refine Ent.cons ?_ | refine Ent.objX ?_ | refine Ent.rowX ?_ | exact Ent.any | exact Ent.last)))) ?_
  intro i hi; dsimp only at hi ⊢
  by_cases hlt : i < u.length
  · repeat (first | refine go ?_ | (refine goX ?_; intro))
    refine EK_sink 99 (RowC 3 1 u2.1 u.length u2.2 (intsR .i64 u) * (RowC 3 1 u1.1 u.length u1.2 (intsR .i64 u) * (Obj oh 27 (hsV cf p l.length c) * F))) rfl rfl rfl ?_
    repeat (first | refine goQ ?_ | refine EG_done (by decide +kernel) ?_)
    repeat (first | refine go ?_ | (refine goX ?_; intro))
    exact EK_round (i + 1) (by omega) (by omega) ⟨rfl, rfl, rfl, rfl, trivial⟩ (Ent.sat (by first | exact Ent.refl _ | exact Ent.last | (repeat (first | refine Ent.cons ?_ | refine Ent.objX ?_ | refine Ent.rowX ?_ | exact Ent.any | exact Ent.last))))
  · repeat (first | refine go ?_ | (refine goX ?_; intro))
    refine EL_call rfl orders_spec ?_
    intro _
    repeat (first | refine go ?_ | (refine goX ?_; intro))
    exact EK_ret (ER_1 rfl rfl () rfl (Ent.sat (by first | exact Ent.refl _ | exact Ent.last | (repeat (first | refine Ent.cons ?_ | refine Ent.objX ?_ | refine Ent.rowX ?_ | exact Ent.any | exact Ent.last)))))
end Go.Proofs.YtianbkbehjppoaaGreatDoor
