/-
  Ml, Mm, Mn, He, Hj, Hf, Hg, Hh, Lq, Hk, Hl, Lr, Ls, Ha, Hb, Ga: joined by a program (wip/bundle.py).
-/
import Derived.Test.YtianbkbehjppoaaGreatDoorG0
import Derived.Test.YtianbkbehjppoaaGreatDoorG1
import Derived.Test.YtianbkbehjppoaaGreatDoorG2
import Derived.Test.YtianbkbehjppoaaGreatDoorG3
import Derived.Test.YtianbkbehjppoaaGreatDoorG4
import Derived.Test.YtianbkbehjppoaaGreatDoorG5
import Derived.Test.YtianbkbehjppoaaGreatDoorG6
import Derived.Test.YtianbkbehjppoaaGreatDoorG7
import Derived.Test.YtianbkbehjppoaaGreatDoorG8
namespace Go.Proofs.YtianbkbehjppoaaGreatDoor
open Go.RowKit
set_option maxRecDepth 10000
attribute [local irreducible] EK EX ER EN EL ES EG OpVal OpDoes OpSkip
variable {W : World} {F : SL} {X : Cx} {k : List KI} {σ : Env}
theorem lookup_in {κ ν : Type} [DecidableEq κ] : ∀ {l : List (κ × ν)} {k : κ} {v : ν}, l.lookup k = some v → (k, v) ∈ l
  | [], _, _, h => by cases h
  | p :: l, k, v, h => by
    unfold List.lookup at h
    split at h
    · rename_i e
      have e : k = p.1 := by simpa using e
      rw [e, ← Option.some.inj h]
      exact List.mem_cons_self
    · exact List.mem_cons_of_mem _ (lookup_in h)
theorem lifeT_le (proto s : Nat) : lifeT proto s ≤ 7440 := by
  unfold lifeT
  split
  · decide
  split
  · decide
  split
  · split <;> decide
  · decide
theorem MapsOk.back {cf : Cfg} {L : List BindT} {P : List (Int × BindT)} {G : List (FlowT × Int)} (m : MapsOk cf L P G) {i : Int} {b : BindT} (h : P.lookup i = some b) : b ∈ L ∧ placeB cf b = i := by
  have := m.p.mem_iff.1 (lookup_in h)
  obtain ⟨a, ha, e⟩ := List.mem_map.1 this
  simp only [Prod.mk.injEq] at e
  exact ⟨e.2 ▸ ha, e.2 ▸ e.1⟩
theorem Expire_spec (n : Option Addr) (cf : Cfg) (hf : cf.Fit) {L : List BindT} (hN : NatOk cf L) (proto port tick : Int) (h1 : I64 proto) (h2 : I64 port) (h3 : I64 tick) :
    Spec Tryz.prog 48 [.pointer n, .int .i64 proto, .int .i64 port, .int .i64 tick] W (MnC n cf L * F) (fun _ : Unit => .bool (expT L proto port tick).2) (fun _ => MnC n cf (expT L proto port tick).1 * F) := by
  refine Spec.of Tryz.func48 rfl Tryz.ntmps48 rfl ?_
  refine MnC.open fun m1 m2 P G hm => ?_
  have eS : expT L proto port tick = _ := rfl
  conv at eS => rhs; unfold expT
  have eF : (tick < 0 ∨ 4294967295 < tick) → expT L proto port tick = (L, false) := fun h => by
    rw [eS]
    cases hi : L.findIdx? (endsB proto port tick) with
    | none => rfl
    | some i =>
      obtain ⟨b, _, e⟩ := findIdx_some hi
      have e := of_decide_eq_true e
      omega
  unfold I64 at h3
  by_cases g1 : tick < 0
  · rw [eF (Or.inl g1)]
    repeat (first | refine go ?_ | (refine goX ?_; intro))
    exact EK_ret (ER_1 rfl rfl () rfl (Ent.sat (Ent.trans (by first | exact Ent.refl _ | exact Ent.last | (repeat (first | refine Ent.cons ?_ | refine Ent.objX ?_ | refine Ent.rowX ?_ | exact Ent.any | exact Ent.last))) (MnC.shut (m1 := m1) (m2 := m2) hm))))
  by_cases g2 : 4294967295 < tick
  · rw [eF (Or.inr g2)]
    repeat (first | refine go ?_ | (refine goX ?_; intro))
    exact EK_ret (ER_1 rfl rfl () rfl (Ent.sat (Ent.trans (by first | exact Ent.refl _ | exact Ent.last | (repeat (first | refine Ent.cons ?_ | refine Ent.objX ?_ | refine Ent.rowX ?_ | exact Ent.any | exact Ent.last))) (MnC.shut (m1 := m1) (m2 := m2) hm))))
  clear eF
  generalize hat : placeN cf proto port = at0
  have key : ∀ b ∈ L, placeB cf b = at0 → (b.flow.proto : Int) = proto ∧ (b.port : Int) = port := fun b hb e => by
    rw [← hat] at e
    exact (place_at (by rw [← e]; exact hN.place b hb)).1 e
  repeat (first | refine go ?_ | (refine goX ?_; intro))
  refine EL_call rfl (Place_spec cf hf proto port h2) ?_
  intro _
  rw [hat]
  repeat (first | refine go ?_ | (refine goX ?_; intro))
  cases hP : P.lookup at0 with
  | none =>
    have eN : L.findIdx? (endsB proto port tick) = none := by
      rw [List.findIdx?_eq_none_iff]
      intro b hb
      cases hq : endsB proto port tick b with
      | false => rfl
      | true =>
        have e := of_decide_eq_true hq
        have : placeB cf b = at0 := by
          unfold placeB
          rw [e.1, e.2.1, hat]
        rw [← this, hm.pl hN hb] at hP
        cases hP
    rw [eN] at eS
    dsimp only at eS
    rw [eS]
    refine EL_val (OpVal_missOk (ek := kInt) (ev := vBd) hP rfl rfl rfl) rfl ?_
    repeat (first | refine go ?_ | (refine goX ?_; intro))
    refine EK_sink 99 1 rfl rfl rfl ?_
    repeat (first | refine goQ ?_ | refine EG_done (by decide +kernel) ?_)
    repeat (first | refine go ?_ | (refine goX ?_; intro))
    exact EK_ret (ER_1 rfl rfl () rfl (Ent.sat (Ent.trans (by first | exact Ent.refl _ | exact Ent.last | (repeat (first | refine Ent.cons ?_ | refine Ent.objX ?_ | refine Ent.rowX ?_ | exact Ent.any | exact Ent.last))) (MnC.shut (m1 := m1) (m2 := m2) hm))))
  | some b =>
    obtain ⟨hbm, hb0⟩ := hm.back hP
    obtain ⟨k1, k2⟩ := key b hbm hb0
    have okb := hN.ok b hbm
    have okl : lifeT b.flow.proto b.track ≤ 7440 := lifeT_le _ _
    obtain ⟨i, hi⟩ := List.getElem?_of_mem hbm
    rw [← k1, ← k2] at eS ⊢
    by_cases g3 : ((b.seen + lifeT b.flow.proto b.track : Nat) : Int) ≤ tick
    · have eN : ∃ j, L[j]? = some b ∧ expT L b.flow.proto b.port tick = (L.eraseIdx j, true) := by
        cases hj : L.findIdx? (endsB b.flow.proto b.port tick) with
        | none =>
          have := findIdx_none hj b hbm
          have this := of_decide_eq_false this
          exact absurd ⟨rfl, rfl, by omega, by omega, g3⟩ this
        | some j =>
          rw [hj] at eS
          obtain ⟨a, ha, e⟩ := findIdx_some hj
          have e := of_decide_eq_true e
          have : placeB cf a = at0 := by
            unfold placeB
            rw [e.1, e.2.1, k1, k2, hat]
          have h4 := hm.pl hN (List.mem_of_getElem? ha)
          rw [this, hP] at h4
          rw [← Option.some.inj h4] at ha
          exact ⟨j, ha, eS⟩
      obtain ⟨j, hj, eS⟩ := eN
      rw [eS]
      have hm' := hm.del hN hj
      rw [hb0] at hm'
      generalize hlf : lifeT b.flow.proto b.track = lf at *
      refine EL_val (OpVal_foundOk (ek := kInt) (ev := vBd) hP rfl rfl rfl) rfl ?_
      repeat (first | refine go ?_ | (refine goX ?_; intro))
      rename_i y
      refine EK_sink 99 (Obj y 128 (bdV b) * 1) rfl rfl rfl ?_
      repeat (first | refine goQ ?_ | refine EG_done (by decide +kernel) ?_)
      refine EG_callQ rfl rfl rfl rfl rfl (Life_spec b.flow.proto b.track okb.proto okb.track) (fun _ => by first | exact Ent.refl _ | exact Ent.last | (repeat (first | refine Ent.cons ?_ | refine Ent.objX ?_ | refine Ent.rowX ?_ | exact Ent.any | exact Ent.last))) ?_
      intro _
      rw [hlf]
      repeat (first | refine goQ ?_ | refine EG_done (by decide +kernel) ?_)
      repeat (first | refine go ?_ | (refine goX ?_; intro))
      refine EL_does0 (OpDoes_mapDelete (ek := kInt) (ev := vBd) (k := at0) rfl rfl rfl) ?_
      intro _
      repeat (first | refine go ?_ | (refine goX ?_; intro))
      refine EK_sink 6 (Obj n 85 (mnV cf m1 m2) * (Obj y 128 (bdV b) * 1)) rfl rfl rfl ?_
      repeat (first | refine goQ ?_ | refine EG_done (by decide +kernel) ?_)
      refine EG_does0 rfl (OpDoes_mapDelete (ek := kFl) (ev := kInt) (k := b.flow) rfl rfl rfl) (by decide +kernel) (by decide +kernel) ?_
      intro _
      repeat (first | refine go ?_ | (refine goX ?_; intro))
      exact EK_ret (ER_1 rfl rfl () rfl (Ent.sat (Ent.trans (by first | exact Ent.refl _ | exact Ent.last | (repeat (first | refine Ent.cons ?_ | refine Ent.objX ?_ | refine Ent.rowX ?_ | exact Ent.any | exact Ent.last))) (MnC.shut (m1 := m1) (m2 := m2) hm'))))
    · have eN : expT L b.flow.proto b.port tick = (L, false) := by
        cases hj : L.findIdx? (endsB b.flow.proto b.port tick) with
        | none =>
          rw [hj] at eS
          exact eS
        | some j =>
          obtain ⟨a, ha, e⟩ := findIdx_some hj
          have e := of_decide_eq_true e
          have : placeB cf a = at0 := by
            unfold placeB
            rw [e.1, e.2.1, k1, k2, hat]
          have h4 := hm.pl hN (List.mem_of_getElem? ha)
          rw [this, hP] at h4
          rw [← Option.some.inj h4] at e
          omega
      rw [eN]
      have oks := okb.seen
      generalize hlf : lifeT b.flow.proto b.track = lf at *
      refine EL_val (OpVal_foundOk (ek := kInt) (ev := vBd) hP rfl rfl rfl) rfl ?_
      repeat (first | refine go ?_ | (refine goX ?_; intro))
      rename_i y
      refine EK_sink 99 (Obj y 128 (bdV b) * 1) rfl rfl rfl ?_
      repeat (first | refine goQ ?_ | refine EG_done (by decide +kernel) ?_)
      refine EG_callQ rfl rfl rfl rfl rfl (Life_spec b.flow.proto b.track okb.proto okb.track) (fun _ => by first | exact Ent.refl _ | exact Ent.last | (repeat (first | refine Ent.cons ?_ | refine Ent.objX ?_ | refine Ent.rowX ?_ | exact Ent.any | exact Ent.last))) ?_
      intro _
      rw [hlf]
      repeat (first | refine goQ ?_ | refine EG_done (by decide +kernel) ?_)
      repeat (first | refine go ?_ | (refine goX ?_; intro))
      exact EK_ret (ER_1 rfl rfl () rfl (Ent.sat (Ent.trans (by first | exact Ent.refl _ | exact Ent.last | (repeat (first | refine Ent.cons ?_ | refine Ent.objX ?_ | refine Ent.rowX ?_ | exact Ent.any | exact Ent.last))) (MnC.shut (m1 := m1) (m2 := m2) hm))))
end Go.Proofs.YtianbkbehjppoaaGreatDoor

namespace Go.Proofs.YtianbkbehjppoaaGreatDoor
open Go.RowKit
theorem Sat.born {W w w' : World} {F : SL} (h : Sat W w F) (hb : Below w.heap.size w w') {g : Nat} {o : Go.Obj} (hg : w.heap.size ≤ g) (hn : w'.heap[g]? = some o) : Sat W w' (SL.blk g o * F) := by
  obtain ⟨hbe, x, q, hx⟩ := h
  refine ⟨hbe.trans (hb.mono hbe.size), fun k => (if k = g then some o else none : Option Go.Obj).or (x k), ⟨fun k => if k = g then some o else none, x, fun _ => rfl, q, fun k => ?_, fun _ => rfl⟩, fun k u hk => ?_⟩
  · by_cases hk : k = g
    · right
      cases hxk : x k with
      | none => rfl
      | some u => have := lt_of_block (hx k u hxk).2; omega
    · simp [hk]
  · by_cases hkb : k = g
    · simp [hkb] at hk
      exact ⟨by have := hbe.size; omega, by rw [hkb, hn, hk]⟩
    · simp [hkb] at hk
      have := hx k u hk
      exact ⟨this.1, by rw [hb.block k (lt_of_block this.2)]; exact this.2⟩
theorem ordered_sort {l : List Int} : (l.mergeSort (fun x y => decide (x ≤ y))).Pairwise (· ≤ ·) := by
  have := List.pairwise_mergeSort (le := fun x y : Int => decide (x ≤ y)) (fun a b c h1 h2 => by simp at *; omega) (fun a b => by simp; omega) l
  exact this.imp (fun h => by simpa using h)
theorem sorted_eq {l k : List Int} (h : k.Pairwise (· < ·)) (hp : l.Perm k) : l.mergeSort (fun x y => decide (x ≤ y)) = k := by
  have h1 : (l.mergeSort (fun x y => decide (x ≤ y))).Perm k := (List.mergeSort_perm l _).trans hp
  exact h1.eq_of_pairwise (fun a b _ _ h2 h3 => by omega) ordered_sort (h.imp fun h => by omega)
variable {ν : Type} {W : World} {F : SL} {ev : ν → Value} {m : Nat} {l : List (Int × ν)}
theorem owns_of {w : World} {es : Array MapEntry} {clock : Nat} (hf : MapFit kInt ev es clock l) (hb : w.heap[m]? = some (.map es clock)) (hk : ∀ p ∈ l, I64 p.1) (hs : l.length ≤ 1000000) :
    ∃ D : DataW Unit, w.ownsMap Tryz.prog 3 (fun _ => some (.nil, [])) m l.length D ∧ (Go.intKeys D).Perm (l.map (·.1)) ∧ Maps.size D = l.length := by
  have hsz : es.toList.length = l.length := by simpa using congrArg List.length hf.eq
  have hsz' : es.size = l.length := by simpa using hsz
  have key : ∀ e ∈ es.toList, ∃ p ∈ l, e.key = kInt p.1 := fun e he => by
    obtain ⟨i, hi⟩ := List.getElem?_of_mem he
    have := hf.at_ i
    rw [hi] at this
    cases hl : l[i]? with
    | none => rw [hl] at this; simp at this
    | some p =>
      rw [hl] at this
      simp only [Option.map_some, Option.some.injEq, Prod.mk.injEq] at this
      exact ⟨p, List.mem_of_getElem? hl, this.1⟩
  have hu : Tryz.prog.underlying 3 = some (.int .i64) := by kernel_rfl
  have rd1 : ∀ (e : MapEntry) (z : Int), e.key = kInt z → I64 z → Go.WideElems.rd (H := Unit) Tryz.prog 3 (fun _ => some (.nil, [])) e = some (.int .i64 z, .nil) := fun e z h hz => by
    unfold Go.WideElems.rd
    have : keyOf Tryz.prog 3 (kInt z) = some (.int .i64 z) := by
      unfold I64 at hz
      have hw : (Lit.int .i64 z).wf = true := by
        simp only [Lit.wf, IntKind.min, IntKind.max, Bool.and_eq_true, decide_eq_true_eq]
        exact ⟨by simp [IntKind.signed, IntKind.bits]; omega, by simp [IntKind.signed, IntKind.bits]; omega⟩
      unfold keyOf kInt
      rw [hu]
      dsimp only
      unfold mapKey
      rw [hu]
      dsimp only
      rw [if_pos ⟨rfl, hw⟩]
    rw [h, this]
    rfl
  refine ⟨.map ((es.toList.map (Go.WideElems.rg Tryz.prog 3 (fun _ => some (.nil, [])))).foldr DataW.insert []), ⟨es, clock, hb, ⟨by unfold maxLen; omega, ⟨hf.clock, hf.born, ?_⟩, fun e he => ?_⟩, by omega, rfl⟩, ?_, ?_⟩
  · have e1 : es.toList.map (·.key) = l.map (fun p => kInt p.1) := by
      have := congrArg (List.map Prod.fst) hf.eq
      rw [List.map_map, List.map_map] at this
      exact this
    rw [e1, show (l.map fun p => kInt p.1) = (l.map (·.1)).map kInt by simp]
    exact List.pairwise_map.2 (hf.keys.imp fun h e => h (by simpa [kInt] using e))
  · obtain ⟨p, hp, e1⟩ := key e he
    exact ⟨_, rd1 e p.1 e1 (hk p hp)⟩
  · refine ((Go.WideShapes.sorted_perm _).map _).trans ?_
    have : ((es.toList.map (Go.WideElems.rg (H := Unit) Tryz.prog 3 (fun _ => some (.nil, [])))).map fun p => Go.intOf p.1) = l.map (·.1) := by
      apply List.ext_getElem?
      intro i
      have := hf.at_ i
      cases hl : l[i]? with
      | none =>
        rw [hl] at this
        have h2 : es.toList[i]? = none := by simpa using this
        simp [hl, h2]
      | some p =>
        rw [hl] at this
        cases he : es.toList[i]? with
        | none => rw [he] at this; simp at this
        | some e =>
          rw [he] at this
          simp only [Option.map_some, Option.some.injEq, Prod.mk.injEq] at this
          have hr := rd1 e p.1 this.1 (hk p (List.mem_of_getElem? hl))
          simp only [List.getElem?_map, he, hl, Option.map_some, Go.WideElems.rg, hr, Option.getD_some, Go.intOf]
    rw [this]
  · show ((es.toList.map _).foldr DataW.insert []).length = _
    rw [(Go.WideShapes.sorted_perm _).length_eq, List.length_map, hsz]
theorem Keys_spec : Spec Tryz.prog 86 [.map (some m)] W F (fun p : Option Addr => .func (.func 113) #[] #[.pointer p]) (fun p => Obj p 82 [.map (some m)] * F) := by
  intro w h
  refine ((callsIn_wide (n := 5)).1 (AnyZI.keys_in Tryz.keysA Fence.wide 5 trivial rfl (some m) w)).mono ?_
  rintro e w' ⟨rfl, rfl⟩
  exact ⟨some ⟨w.heap.size, 0, none⟩, rfl, Obj.shut rfl (h.alloc _)⟩
theorem sortsIn (n : Nat) : AnyZI.SortsIn Tryz.prog Tryz.sortedA_ren Fence.wide n :=
  ⟨fun blk off cap ss W hH hblk hsz => callsIn_wide.2 (Tryz.slices_Sort_int blk off cap ss W hH hblk hsz),
   fun p cap W => callsIn_wide.2 (Tryz.slices_Sort_int_none p cap W)⟩
theorem Sorted_spec (p : Option Addr) (hk : ∀ x ∈ l, I64 x.1) (hs : l.length ≤ 1000000) {ks : List Int} (ho : ks.Pairwise (· < ·)) (hp : (l.map (·.1)).Perm ks) :
    Spec Tryz.prog 85 [.func (.func 113) #[] #[.pointer p]] W (Obj p 82 [.map (some m)] * (MapC kInt ev m l * F)) (fun q : Slab => .slice q.1 ks.length q.2) (fun q => RowC 3 1 q.1 ks.length q.2 (ks.map (Value.int .i64)) * (Obj p 82 [.map (some m)] * (MapC kInt ev m l * F))) := by
  intro w h
  obtain ⟨b, rfl, h1⟩ := Obj.open h
  obtain ⟨es, clock, hf, hb, _⟩ := MapC.open (h.ac (Q := MapC kInt ev m l * (Obj (some ⟨b, 0, none⟩) 82 [.map (some m)] * F)) (by ac_rfl))
  obtain ⟨D, own, hD, hn⟩ := owns_of hf hb hk hs
  have hbl : b < w.heap.size := lt_of_block h1.get
  have hc : w.cell? ⟨b, 0, none⟩ = some (.map (some m)) := by rw [h1.cell 0]; rfl
  have hseq : SeqGives Fence.wide 2 Tryz.prog 113 #[.pointer (some ⟨b, 0, none⟩)] encZ (fun ss => ss.Perm (Go.intKeys D)) (Maps.size D) w :=
    AnyZI.keys_gives (ρ := Tryz.keysA_ren) { Tryz.keysA with } Fence.wide _ trivial rfl (by omega) b m l.length D w hbl hc own
  have cS := AnyZI.sorted_in Tryz.sortedA Fence.wide 5 trivial trivial trivial trivial rfl (by omega) (sortsIn _) (enters_of Tryz.func112 (by kernel_rfl) rfl) 113 #[.pointer (some ⟨b, 0, none⟩)] trivial (enters_of Tryz.func113 (by kernel_rfl) rfl) _ _ (by rw [hn]; unfold maxLen; omega) (by rw [hn]; omega) w hseq
  refine ((callsIn_wide (n := 5)).1 cS).mono ?_
  rintro e w' ⟨v, ss, rfl, hS, ⟨hlen, hrow⟩, hnil, hbel⟩
  have eks : ss.mergeSort (fun x y => decide (x ≤ y)) = ks := sorted_eq ho (hS.trans (hD.trans hp))
  have hsl : ss.length = ks.length := (hS.trans (hD.trans hp)).length_eq
  rw [eks] at hrow hlen
  rcases hrow with ⟨rfl, h0⟩ | ⟨g, cap, cur, rfl, hg, hgc, hl1, hl2, hl3, hl4⟩
  · have : ks = [] := List.length_eq_zero_iff.1 (by omega)
    subst this
    refine ⟨((none, 0) : Slab), rfl, ?_⟩
    exact Ent.sat (Ent.none (Ent.refl _)) _ (h.keep hbel.size hbel.os hbel.tape hbel.output hbel.block)
  · refine ⟨(some ⟨g, 0, none⟩, cap), by rw [hsl], ?_⟩
    rw [hsl] at hl1 hl4
    refine RowC.shut (o := 0) (cur := cur.toList) (by omega) hl2 (by rw [Array.length_toList, hl3]; omega) (by rw [List.drop_zero]; exact hl4) (h.born hbel hg ?_)
    rw [hgc, Array.toArray_toList]
    rfl
theorem CloneP_spec : Spec Tryz.prog 55 [.map (some m)] W (MapC kInt ev m l * F) (fun m' : Nat => .map (some m')) (fun m' => MapC kInt ev m' l * (MapC kInt ev m l * F)) := by
  intro w h
  obtain ⟨es, clock, hf, hb, _⟩ := MapC.open h
  refine (AnyW.maps_Clone Tryz.cloneP m es clock w hb).mono ?_
  rintro e w' ⟨rfl, rfl⟩
  exact ⟨w.heap.size, rfl, MapC.shut hf (h.alloc _)⟩
theorem CloneF_spec {κ : Type} [DecidableEq κ] {ek : κ → Value} {l : List (κ × ν)} : Spec Tryz.prog 56 [.map (some m)] W (MapC ek ev m l * F) (fun m' : Nat => .map (some m')) (fun m' => MapC ek ev m' l * (MapC ek ev m l * F)) := by
  intro w h
  obtain ⟨es, clock, hf, hb, _⟩ := MapC.open h
  refine (AnyW.maps_Clone Tryz.cloneF m es clock w hb).mono ?_
  rintro e w' ⟨rfl, rfl⟩
  exact ⟨w.heap.size, rfl, MapC.shut hf (h.alloc _)⟩
end Go.Proofs.YtianbkbehjppoaaGreatDoor

namespace Go.Proofs.YtianbkbehjppoaaGreatDoor
open Go.RowKit
set_option maxRecDepth 10000
attribute [local irreducible] EK EX ER EN EL ES EG OpVal OpDoes OpSkip
variable {W : World} {F : SL} {X : Cx} {k : List KI} {σ : Env}
theorem placeN_lt {c : Cfg} (hg : c.Good) (proto port : Int) : placeN c proto port < 3072 := by
  have h1 := hg.p
  have h2 := portsN_le c
  have h3 : kindN proto ≤ 2 := by
    unfold kindN
    split
    · decide
    split
    · decide
    split <;> decide
  unfold placeN
  split
  · omega
  · rename_i h
    have h4 : 0 ≤ kindN proto := by omega
    have h5 : kindN proto * portsN c ≤ 2 * portsN c := Int.mul_le_mul_of_nonneg_right h3 (by omega)
    omega
theorem rising_len : ∀ {l : List Int} {a b : Int}, l.Pairwise (· < ·) → (∀ x ∈ l, a ≤ x ∧ x < b) → (l.length : Int) ≤ max (b - a) 0
  | [], a, b, _, _ => by simp; omega
  | x :: l, a, b, h, k => by
    rw [List.pairwise_cons] at h
    have hx := k x List.mem_cons_self
    have := rising_len (a := x + 1) (b := b) h.2 fun y hy => ⟨by have := h.1 y hy; omega, (k y (List.mem_cons_of_mem _ hy)).2⟩
    simp only [List.length_cons]
    omega
theorem NatOk.few {c : Cfg} (hg : c.Good) {L : List BindT} (h : NatOk c L) : L.length ≤ 3072 := by
  have h1 : (L.map (placeB c)).Pairwise (· < ·) := List.pairwise_map.2 h.sorted
  have := rising_len (a := 0) (b := 3072) h1 fun x hx => by
    obtain ⟨b, hb, rfl⟩ := List.mem_map.1 hx
    exact ⟨h.place b hb, placeN_lt hg _ _⟩
  rw [List.length_map] at this
  omega
theorem MapsOk.len {cf : Cfg} {L : List BindT} {P : List (Int × BindT)} {G : List (FlowT × Int)} (m : MapsOk cf L P G) : P.length = L.length := by
  rw [m.p.length_eq, List.length_map]
theorem Spec.atM {f : FuncId} {vs : List Value} {H C F : SL} (m : Nat) [r : AtM H m C F] {α : Type} {rr : α → Value} {H' : α → SL} (h : Spec Tryz.prog f vs W (C * F) rr H') : Spec Tryz.prog f vs W H rr H' := by
  rw [r.eq]; exact h
theorem Spec.atPM {f : FuncId} {vs : List Value} {H C D F G : SL} (p : Option Addr) (m : Nat) [r : AtP H p C F] [r2 : AtM F m D G] {α : Type} {rr : α → Value} {H' : α → SL} (h : Spec Tryz.prog f vs W (C * (D * G)) rr H') : Spec Tryz.prog f vs W H rr H' := by
  rw [r.eq, r2.eq]; exact h
theorem MnC.shut' {n : Option Addr} {cf : Cfg} {L : List BindT} {m1 m2 : Nat} {P : List (Int × BindT)} {G : List (FlowT × Int)} (hm : MapsOk cf L P G) {F : SL} {H : SL} (k : Ent H (MnO n cf m1 m2 P G F)) : Ent H (MnC n cf L * F) := k.trans (MnC.shut hm)
theorem Bindings_spec (n : Option Addr) (cf : Cfg) (hg : cf.Good) {L : List BindT} (hN : NatOk cf L) :
    Spec Tryz.prog 53 [.pointer n] W (MnC n cf L * F) (fun q : Slab => .slice q.1 L.length q.2) (fun q => RowC 128 6 q.1 L.length q.2 (bdR L) * (MnC n cf L * F)) := by
  refine Spec.of Tryz.func53 rfl Tryz.ntmps53 rfl ?_
  refine MnC.open fun m1 m2 P G hm => ?_
  have h0 := hN.few hg
  have hk : ∀ x ∈ P, I64 x.1 := fun x hx => by
    obtain ⟨b, hb, rfl⟩ := List.mem_map.1 (hm.p.mem_iff.1 hx)
    have h1 := hN.place b hb
    have h2 := placeN_lt hg b.flow.proto b.port
    unfold I64
    unfold placeB at h1 ⊢
    dsimp only
    omega
  obtain ⟨ks, eks⟩ : ∃ ks, ks = L.map (placeB cf) := ⟨_, rfl⟩
  have hks : ks.Pairwise (· < ·) := by rw [eks]; exact List.pairwise_map.2 hN.sorted
  have hkl : ks.length = L.length := by rw [eks, List.length_map]
  have hpk : (P.map (·.1)).Perm ks := by rw [eks]; exact hm.pk
  have hki : ∀ i, i < L.length → ks.getD i 0 = placeB cf (L.getD i bd0) := fun i hi => by
    rw [eks, List.getD_eq_getElem?_getD, List.getD_eq_getElem?_getD, List.getElem?_map, List.getElem?_eq_getElem hi]
    rfl
  repeat (first | refine go ?_ | (refine goX ?_; intro))
  refine EL_call rfl Keys_spec ?_
  intro p
  repeat (first | refine go ?_ | (refine goX ?_; intro))
  refine EL_call rfl (Spec.atPM p m1 (Sorted_spec (m := m1) (l := P) (ev := vBd) p hk (by rw [hm.len]; omega) hks hpk)) ?_
  intro q
  repeat (first | refine go ?_ | (refine goX ?_; intro))
  refine EK_loop (γ := Nat × Slab) (fun g => g.1 ≤ L.length) (fun g => [(0, .pointer n), (3, .slice g.2.1 g.1 g.2.2), (13, .slice q.1 ks.length q.2), (14, .int .i64 (ks.length : Int)), (15, .int .i64 (g.1 : Int))])
    (fun g => RowC 128 6 g.2.1 g.1 g.2.2 (bdR (L.take g.1)) * (RowC 3 1 q.1 ks.length q.2 (intsR .i64 ks) * MnO n cf m1 m2 P G F)) (fun g => L.length - g.1) (0, (none, 0)) (Nat.zero_le _) ⟨rfl, rfl, rfl, rfl, rfl, trivial⟩ (Ent.sat (Ent.none (by rw [show List.map (Value.int .i64) ks = intsR .i64 ks from rfl]; first | exact Ent.refl _ | exact Ent.last | (repeat (first | refine Ent.cons ?_ | refine Ent.objX ?_ | refine Ent.rowX ?_ | exact Ent.any | exact Ent.last))))) ?_
  intro ⟨i, z⟩ h1; dsimp only at h1 ⊢
  by_cases hi : i < L.length
  · have hP : P.lookup (ks.getD i 0) = some (L.getD i bd0) := by
      rw [hki i hi]
      refine hm.pl hN ?_
      rw [List.getD_eq_getElem?_getD, List.getElem?_eq_getElem hi]
      exact List.getElem_mem hi
    repeat (first | refine go ?_ | (refine goX ?_; intro))
    refine EL_val (OpVal_found (ek := kInt) (ev := vBd) hP rfl rfl rfl) rfl ?_
    repeat (first | refine go ?_ | (refine goX ?_; intro))
    rename_i z'
    refine EK_round (i + 1, z') (by dsimp only; omega) (by dsimp only; omega) ⟨rfl, rfl, rfl, rfl, rfl, trivial⟩ (Ent.sat ?_)
    dsimp only
    rw [← take_snocD (d := bd0) hi, bdR_snoc]
    exact Ent.refl _
  · have e : i = L.length := by omega
    subst e
    repeat (first | refine go ?_ | (refine goX ?_; intro))
    rw [List.take_length]
    exact EK_ret (ER_1 rfl rfl z rfl (Ent.sat (Ent.cons (MnC.shut' (m1 := m1) (m2 := m2) hm (by first | exact Ent.refl _ | exact Ent.last | (repeat (first | refine Ent.cons ?_ | refine Ent.objX ?_ | refine Ent.rowX ?_ | exact Ent.any | exact Ent.last)))))))
theorem Copy_spec (n : Option Addr) (cf : Cfg) (hf : cf.Fit) {L : List BindT} :
    Spec Tryz.prog 32 [.pointer n] W (MnC n cf L * F) (fun n' : Option Addr => .pointer n') (fun n' => MnC n' cf L * (MnC n cf L * F)) := by
  refine Spec.of Tryz.func32 rfl Tryz.ntmps32 rfl ?_
  refine MnC.open fun m1 m2 P G hm => ?_
  repeat (first | refine go ?_ | (refine goX ?_; intro))
  refine EK_sink 99 (Obj n 85 (mnV cf m1 m2) * 1) rfl rfl rfl ?_
  repeat (first | refine goQ ?_ | refine EG_done (by decide +kernel) ?_)
  refine EG_callQ rfl rfl rfl rfl rfl (Spec.atM m1 CloneP_spec) (fun _ => by first | exact Ent.refl _ | exact Ent.last | (repeat (first | refine Ent.cons ?_ | refine Ent.objX ?_ | refine Ent.rowX ?_ | exact Ent.any | exact Ent.last))) ?_
  intro c1
  repeat (first | refine goQ ?_ | refine EG_done (by decide +kernel) ?_)
  refine EG_callQ rfl rfl rfl rfl rfl (Spec.atM m2 CloneF_spec) (fun _ => by first | exact Ent.refl _ | exact Ent.last | (repeat (first | refine Ent.cons ?_ | refine Ent.objX ?_ | refine Ent.rowX ?_ | exact Ent.any | exact Ent.last))) ?_
  intro c2
  repeat (first | refine goQ ?_ | refine EG_done (by decide +kernel) ?_)
  repeat (first | refine goG ?_ | (refine goGX ?_; intro) | refine goGL ?_ | refine goGS ?_ | refine goGV ?_ | refine EG_done (by decide +kernel) ?_)
  repeat (first | refine go ?_ | (refine goX ?_; intro))
  rename_i n'
  exact EK_ret (ER_1 rfl rfl n' rfl (Ent.sat (MnC.shut' (m1 := c1) (m2 := c2) hm (Ent.cons (Ent.cons (Ent.cons (MnC.shut' (m1 := m1) (m2 := m2) hm (by first | exact Ent.refl _ | exact Ent.last | (repeat (first | refine Ent.cons ?_ | refine Ent.objX ?_ | refine Ent.rowX ?_ | exact Ent.any | exact Ent.last))))))))))
end Go.Proofs.YtianbkbehjppoaaGreatDoor

namespace Go.Proofs.YtianbkbehjppoaaGreatDoor
open Go.RowKit
set_option maxRecDepth 10000
attribute [local irreducible] EK EX ER EN EL ES EG OpVal OpDoes OpSkip
variable {W : World} {F : SL} {X : Cx} {k : List KI} {σ : Env}
variable {p : Option Addr} {c : Nat} {l : List EvT} {s : Nat → Slab × Slab}
def vUnit (_ : Unit) : Value := .agg #[]
abbrev srV (p : Option Addr) (n c : Nat) (dq : Slab) (dn : Nat) (oq : Slab) (on : Nat) (mm : Nat) : List Value := [.slice p n c, .slice dq.1 dn dq.2, .slice oq.1 on oq.2, .map (some mm)]
abbrev SrO (sp p : Option Addr) (n c : Nat) (dq : Slab) (d : List Bool) (oq : Slab) (o : List Nat) (mm : Nat) (M : List (List UInt8 × Unit)) (F : SL) : SL :=
  Obj sp 63 (srV p n c dq d.length oq o.length mm) * (RowC 4 1 dq.1 d.length dq.2 (blR d) * (RowC 3 1 oq.1 o.length oq.2 (natsR .i64 o) * (MapC kStr vUnit mm M * F)))
section
variable {sp : Option Addr} {dq oq : Slab} {d : List Bool} {o : List Nat} {mm : Nat} {M : List (List UInt8 × Unit)}
theorem over_spec (hl : l.length ≤ 1000) (hd : d.length = l.length) [m : Src W F p l.length (evR l s)] [r : Room W F p l.length c] : Spec Tryz.prog 29 [.pointer sp] W (SrO sp p l.length c dq d oq o mm M F) (fun _ : Unit => .bool (overT l d)) (fun _ => SrO sp p l.length c dq d oq o mm M F) := by
  refine Spec.of Tryz.func29 rfl Tryz.ntmps29 rfl ?_
  repeat (first | refine go ?_ | (refine goX ?_; intro))
  refine EK_loop (γ := Nat) (fun i => i ≤ l.length ∧ ∀ j, j < i → (d.getD j false || decide ((l.getD j ev0).e = -1)) = true) (fun i => [(0, .pointer sp), (8, .slice p l.length c), (9, .int .i64 (l.length : Int)), (10, .int .i64 (i : Int))])
    (fun _ => SrO sp p l.length c dq d oq o mm M F) (fun i => l.length - i) 0 ⟨Nat.zero_le _, fun j hj => by omega⟩ ⟨rfl, rfl, rfl, rfl, trivial⟩ (Ent.sat (Ent.refl _)) ?_
  intro i ⟨h1, h2⟩; dsimp only at h1 h2 ⊢
  by_cases hi : i < l.length
  · by_cases ga : (l.getD i ev0).e = -1 <;> cases gd : d.getD i false
    all_goals
      have hr : (d.getD i false || decide ((l.getD i ev0).e = -1)) = (d.getD i false || decide ((l.getD i ev0).e = -1)) := rfl
      rw [gd] at hr
      first | rw [decide_eq_true ga] at hr | rw [decide_eq_false ga] at hr
      repeat (first | refine go ?_ | (refine goX ?_; intro))
      try rw [gd]
      repeat (first | refine go ?_ | (refine goX ?_; intro))
      first
        | exact EK_ret (ER_1 rfl rfl () (by unfold overT; rw [range_not hi (by rw [gd, decide_eq_false ga]; rfl)]) (Ent.sat (by first | exact Ent.refl _ | exact Ent.last | (repeat (first | refine Ent.cons ?_ | refine Ent.objX ?_ | refine Ent.rowX ?_ | exact Ent.any | exact Ent.last)))))
        | exact EK_round (i + 1) ⟨by omega, snocQ h2 (by first | (rw [gd]; rfl) | (rw [decide_eq_true ga, Bool.or_true]))⟩ (by omega) ⟨rfl, rfl, rfl, rfl, trivial⟩ (Ent.sat (by first | exact Ent.refl _ | exact Ent.last | (repeat (first | refine Ent.cons ?_ | refine Ent.objX ?_ | refine Ent.rowX ?_ | exact Ent.any | exact Ent.last))))
  · have e : i = l.length := by omega
    subst e
    rw [show overT l d = true from range_all h2]
    repeat (first | refine go ?_ | (refine goX ?_; intro))
    exact EK_ret (ER_1 rfl rfl () rfl (Ent.sat (by first | exact Ent.refl _ | exact Ent.last | (repeat (first | refine Ent.cons ?_ | refine Ent.objX ?_ | refine Ent.rowX ?_ | exact Ent.any | exact Ent.last)))))
theorem may_spec (hl : l.length ≤ 1000) (hd : d.length = l.length) (i : Nat) (hi : i < l.length) [m : Src W F p l.length (evR l s)] [r : Room W F p l.length c] : Spec Tryz.prog 31 [.pointer sp, .int .i64 (i : Int)] W (SrO sp p l.length c dq d oq o mm M F) (fun _ : Unit => .bool (mayT l d i)) (fun _ => SrO sp p l.length c dq d oq o mm M F) := by
  refine Spec.of Tryz.func31 rfl Tryz.ntmps31 rfl ?_
  repeat (first | refine go ?_ | (refine goX ?_; intro))
  refine EK_loop (γ := Nat) (fun j => j ≤ l.length ∧ ∀ j', j' < j → (d.getD j' false || !aheadT (l.getD j' ev0) (l.getD i ev0)) = true) (fun j => [(0, .pointer sp), (1, .int .i64 (i : Int)), (10, .slice p l.length c), (11, .int .i64 (l.length : Int)), (12, .int .i64 (j : Int))])
    (fun _ => SrO sp p l.length c dq d oq o mm M F) (fun i => l.length - i) 0 ⟨Nat.zero_le _, fun j hj => by omega⟩ ⟨rfl, rfl, rfl, rfl, rfl, trivial⟩ (Ent.sat (Ent.refl _)) ?_
  intro j ⟨h1, h2⟩; dsimp only at h1 h2 ⊢
  by_cases hj : j < l.length
  · repeat (first | refine go ?_ | (refine goX ?_; intro))
    rename_i y
    refine EK_sink 99 (Obj y 49 (evE (l.getD j ev0) (s j).1 (s j).2) * SrO sp p l.length c dq d oq o mm M F) rfl rfl rfl ?_
    repeat (first | refine goQ ?_ | refine EG_done (by decide +kernel) ?_)
    cases gd : d.getD j false with
    | true =>
      repeat (first | refine goQ ?_ | refine EG_done (by decide +kernel) ?_)
      repeat (first | refine go ?_ | (refine goX ?_; intro))
      exact EK_round (j + 1) ⟨by omega, snocQ h2 (by rw [gd]; rfl)⟩ (by omega) ⟨rfl, rfl, rfl, rfl, rfl, trivial⟩ (Ent.sat (by first | exact Ent.refl _ | exact Ent.last | (repeat (first | refine Ent.cons ?_ | refine Ent.objX ?_ | refine Ent.rowX ?_ | exact Ent.any | exact Ent.last))))
    | false =>
      repeat (first | refine goQ ?_ | refine EG_done (by decide +kernel) ?_)
      refine EG_callQ rfl rfl rfl rfl rfl (Ahead_spec (l.getD j ev0) (l.getD i ev0) (s j).1 (s j).2 (s i).1 (s i).2) (fun _ => by first | exact Ent.refl _ | exact Ent.last | (repeat (first | refine Ent.cons ?_ | refine Ent.objX ?_ | refine Ent.rowX ?_ | exact Ent.any | exact Ent.last))) ?_
      intro _
      cases ga : aheadT (l.getD j ev0) (l.getD i ev0) with
      | true =>
        repeat (first | refine goQ ?_ | refine EG_done (by decide +kernel) ?_)
        repeat (first | refine go ?_ | (refine goX ?_; intro))
        exact EK_ret (ER_1 rfl rfl () (by unfold mayT; rw [range_not hj (by rw [gd, ga]; rfl)]) (Ent.sat (by first | exact Ent.refl _ | exact Ent.last | (repeat (first | refine Ent.cons ?_ | refine Ent.objX ?_ | refine Ent.rowX ?_ | exact Ent.any | exact Ent.last)))))
      | false =>
        repeat (first | refine goQ ?_ | refine EG_done (by decide +kernel) ?_)
        repeat (first | refine go ?_ | (refine goX ?_; intro))
        exact EK_round (j + 1) ⟨by omega, snocQ h2 (by rw [gd, ga]; rfl)⟩ (by omega) ⟨rfl, rfl, rfl, rfl, rfl, trivial⟩ (Ent.sat (by first | exact Ent.refl _ | exact Ent.last | (repeat (first | refine Ent.cons ?_ | refine Ent.objX ?_ | refine Ent.rowX ?_ | exact Ent.any | exact Ent.last))))
  · have e : j = l.length := by omega
    subst e
    rw [show mayT l d i = true from range_all h2]
    repeat (first | refine go ?_ | (refine goX ?_; intro))
    exact EK_ret (ER_1 rfl rfl () rfl (Ent.sat (by first | exact Ent.refl _ | exact Ent.last | (repeat (first | refine Ent.cons ?_ | refine Ent.objX ?_ | refine Ent.rowX ?_ | exact Ent.any | exact Ent.last)))))
end
end Go.Proofs.YtianbkbehjppoaaGreatDoor

namespace Go.Proofs.YtianbkbehjppoaaGreatDoor
open Go.RowKit
set_option maxRecDepth 10000
attribute [local irreducible] EK EX ER EN EL ES EG OpVal OpDoes OpSkip
variable {W : World} {F : SL} {X : Cx} {k : List KI} {σ : Env}
variable {p : Option Addr} {c : Nat} {l : List EvT} {s : Nat → Slab × Slab}
def l6 (b : BindT) : List Nat := [b.flow.proto, b.flow.addr, b.flow.port, b.port, b.track, b.seen]
def numB (l : List Nat) : List UInt8 := l.flatMap fun u => 32 :: Lib.decDigits u
def stateB (d : List Bool) (L : List BindT) : List UInt8 := d.flatMap boolB ++ L.flatMap fun b => numB (l6 b)
theorem boolB_len (b : Bool) : (boolB b).length ≤ 5 := by cases b <;> decide
theorem fmb_len {α : Type} (f : α → List UInt8) (m : Nat) (hf : ∀ a, (f a).length ≤ m) : ∀ l : List α, (l.flatMap f).length ≤ l.length * m
  | [] => by simp
  | a :: l => by
    have := fmb_len f m hf l
    have := hf a
    rw [List.flatMap_cons, List.length_append, List.length_cons, Nat.succ_mul]
    omega
theorem fmb_mem {α : Type} (f : α → List UInt8) (m : Nat) : ∀ (l : List α), (∀ a ∈ l, (f a).length ≤ m) → (l.flatMap f).length ≤ l.length * m
  | [], _ => by simp
  | a :: l, hf => by
    have := fmb_mem f m l fun x hx => hf x (List.mem_cons_of_mem _ hx)
    have := hf a List.mem_cons_self
    rw [List.flatMap_cons, List.length_append, List.length_cons, Nat.succ_mul]
    omega
theorem l6_lt {b : BindT} (h : b.Ok) : ∀ u ∈ l6 b, u < 4294967296 := fun u hu => by
  have h1 := h.proto; have h2 := h.addr; have h3 := h.fport; have h4 := h.port; have h5 := h.track; have h6 := h.seen
  simp only [l6, List.mem_cons, List.mem_nil_iff, or_false] at hu
  rcases hu with rfl | rfl | rfl | rfl | rfl | rfl <;> omega
theorem dec_le {u : Nat} (h : u < 4294967296) : (Lib.decDigits u).length ≤ 20 := by
  rw [Lib.decDigits_length]
  exact Lib.nDigits_le20 u (by omega)
theorem numB_len {l : List Nat} (h : ∀ u ∈ l, u < 4294967296) : (numB l).length ≤ l.length * 21 := fmb_mem _ 21 l fun u hu => by
  have := dec_le (h u hu)
  simp only [List.length_cons]
  omega
theorem stateB_snocD (d : List Bool) {i : Nat} (hi : i < d.length) : (d.take i).flatMap boolB ++ boolB (d.getD i false) = (d.take (i + 1)).flatMap boolB := by
  rw [← take_snocD (d := false) hi, List.flatMap_append]
  simp
theorem numB_snoc (l : List Nat) {j : Nat} (hj : j < l.length) : numB (l.take j) ++ 32 :: Lib.decDigits (l.getD j 0) = numB (l.take (j + 1)) := by
  unfold numB
  rw [← take_snocD (d := 0) hj, List.flatMap_append]
  simp
theorem bytesR_app (a b : List UInt8) : bytesR (a ++ b) = bytesR a ++ bytesR b := by simp [bytesR]
section
variable {sp : Option Addr} {dq oq : Slab} {d : List Bool} {o : List Nat} {mm : Nat} {M : List (List UInt8 × Unit)}
set_option maxHeartbeats 1000000 in
theorem state_spec [hW : PlanT W] (n : Option Addr) (cf : Cfg) (hg : cf.Good) {L : List BindT} (hN : NatOk cf L) (hd : d.length ≤ 1000) : Spec Tryz.prog 30 [.pointer sp, .pointer n] W (SrO sp p l.length c dq d oq o mm M (MnC n cf L * F)) (fun _ : Unit => .string (bs (stateB d L))) (fun _ => SrO sp p l.length c dq d oq o mm M (MnC n cf L * F)) := by
  refine Spec.of Tryz.func30 rfl Tryz.ntmps30 rfl ?_
  have hfew := hN.few hg
  repeat (first | refine go ?_ | (refine goX ?_; intro))
  refine EK_loop (γ := Nat × Slab) (fun g => g.1 ≤ d.length) (fun g => [(0, .pointer sp), (1, .pointer n), (5, .slice g.2.1 ((d.take g.1).flatMap boolB).length g.2.2), (15, .slice dq.1 d.length dq.2), (16, .int .i64 (d.length : Int)), (17, .int .i64 (g.1 : Int))])
    (fun g => RowC 5 1 g.2.1 ((d.take g.1).flatMap boolB).length g.2.2 (bytesR ((d.take g.1).flatMap boolB)) * SrO sp p l.length c dq d oq o mm M (MnC n cf L * F)) (fun g => d.length - g.1) (0, (none, 0)) (Nat.zero_le _) ⟨rfl, rfl, rfl, rfl, rfl, rfl, trivial⟩ (Ent.sat (Ent.none (by first | exact Ent.refl _ | exact Ent.last | (repeat (first | refine Ent.cons ?_ | refine Ent.objX ?_ | refine Ent.rowX ?_ | exact Ent.any | exact Ent.last))))) ?_
  intro ⟨i, z⟩ h1; dsimp only at h1 ⊢
  have hbl : ((d.take i).flatMap boolB).length ≤ 5000 := by
    have := fmb_len boolB 5 boolB_len (d.take i)
    rw [List.length_take] at this
    omega
  by_cases hi : i < d.length
  · repeat (first | refine go ?_ | (refine goX ?_; intro))
    refine EL_call rfl (AppendBool_spec (q := z) (d.getD i false) (by omega)) ?_
    intro z'
    repeat (first | refine go ?_ | (refine goX ?_; intro))
    refine EK_round (i + 1, z') (by dsimp only; omega) (by dsimp only; omega) ⟨rfl, rfl, by dsimp only; rw [← stateB_snocD d hi, List.length_append]; rfl, rfl, rfl, rfl, trivial⟩ (Ent.sat ?_)
    dsimp only
    rw [← stateB_snocD d hi, List.length_append, bytesR_app]
    first | exact Ent.refl _ | exact Ent.last | (repeat (first | refine Ent.cons ?_ | refine Ent.objX ?_ | refine Ent.rowX ?_ | exact Ent.any | exact Ent.last))
  · have e : i = d.length := by omega
    subst e
    rw [List.take_length] at hbl ⊢
    obtain ⟨B, eB⟩ : ∃ B, d.flatMap boolB = B := ⟨_, rfl⟩
    rw [eB] at hbl ⊢
    repeat (first | refine go ?_ | (refine goX ?_; intro))
    refine EL_call rfl (Spec.at1 n (Bindings_spec n cf hg hN)) ?_
    intro q
    repeat (first | refine go ?_ | (refine goX ?_; intro))
    refine EK_loop (γ := Nat × Slab) (fun g => g.1 ≤ L.length) (fun g => [(5, .slice g.2.1 (B ++ (L.take g.1).flatMap fun b => numB (l6 b)).length g.2.2), (26, .slice q.1 L.length q.2), (27, .int .i64 (L.length : Int)), (28, .int .i64 (g.1 : Int))])
      (fun g => RowC 5 1 g.2.1 (B ++ (L.take g.1).flatMap fun b => numB (l6 b)).length g.2.2 (bytesR (B ++ (L.take g.1).flatMap fun b => numB (l6 b))) * (RowC 128 6 q.1 L.length q.2 (bdR L) * SrO sp p l.length c dq d oq o mm M (MnC n cf L * F))) (fun g => L.length - g.1) (0, z) (Nat.zero_le _) ⟨by dsimp only; rw [List.take_zero, List.flatMap_nil, List.append_nil]; rfl, rfl, rfl, rfl, trivial⟩ (Ent.sat ?_) ?_
    · dsimp only
      rw [List.take_zero, List.flatMap_nil, List.append_nil]
      first | exact Ent.refl _ | exact Ent.last | (repeat (first | refine Ent.cons ?_ | refine Ent.objX ?_ | refine Ent.rowX ?_ | exact Ent.any | exact Ent.last))
    intro ⟨i, z⟩ h1; dsimp only at h1 ⊢
    have hnl : ∀ i, i ≤ L.length → ((L.take i).flatMap fun b => numB (l6 b)).length ≤ 3072 * 126 := fun i hi => by
      have := fmb_mem (fun b => numB (l6 b)) 126 (L.take i) fun b hb => by
        have := numB_len (l6_lt (hN.ok b (List.mem_of_mem_take hb)))
        simpa [l6] using this
      rw [List.length_take] at this
      omega
    by_cases hi : i < L.length
    · obtain ⟨b, eb⟩ : ∃ b, L.getD i bd0 = b := ⟨_, rfl⟩
      have okb : b.Ok := by rw [← eb]; exact hN.ok _ (by rw [List.getD_eq_getElem?_getD, List.getElem?_eq_getElem hi]; exact List.getElem_mem hi)
      have k1 := okb.addr
      have k2 := okb.fport
      have k1' : (L.getD i bd0).flow.addr < 4294967296 := by rw [eb]; exact k1
      have k2' : (L.getD i bd0).flow.port < 65536 := by rw [eb]; exact k2
      have hT := hnl i h1
      obtain ⟨T, eT⟩ : ∃ T, (B ++ (L.take i).flatMap fun b => numB (l6 b)) = T := ⟨_, rfl⟩
      have hT' : T.length ≤ 500000 := by rw [← eT, List.length_append]; omega
      repeat (first | refine go ?_ | (refine goX ?_; intro))
      rename_i ob z6
      rw [eT, eb]
      refine EK_loop (γ := Nat × Slab) (fun g => g.1 ≤ 6) (fun g => [(5, .slice g.2.1 (T ++ numB ((l6 b).take g.1)).length g.2.2), (26, .slice q.1 L.length q.2), (27, .int .i64 (L.length : Int)), (28, .int .i64 (i : Int)), (49, .slice z6 6 6), (50, .int .i64 6), (51, .int .i64 (g.1 : Int))])
        (fun g => RowC 5 1 g.2.1 (T ++ numB ((l6 b).take g.1)).length g.2.2 (bytesR (T ++ numB ((l6 b).take g.1))) * (RowC 3 1 z6 6 6 (natsR .i64 (l6 b)) * (RowC 128 6 q.1 L.length q.2 (bdR L) * SrO sp p l.length c dq d oq o mm M (MnC n cf L * F)))) (fun g => 6 - g.1) (0, z) (Nat.zero_le _) ⟨by dsimp only; rw [show numB ((l6 b).take 0) = [] from rfl, List.append_nil]; rfl, rfl, rfl, rfl, rfl, rfl, rfl, trivial⟩ (Ent.sat ?_) ?_
      · dsimp only
        rw [show numB ((l6 b).take 0) = [] from rfl, List.append_nil]
        refine Ent.cons (Ent.row z6 rfl rfl ?_)
        first | exact Ent.refl _ | exact Ent.last | (repeat (first | refine Ent.cons ?_ | refine Ent.objX ?_ | refine Ent.rowX ?_ | exact Ent.any | exact Ent.last))
      intro ⟨j, y⟩ h2; dsimp only at h2 ⊢
      have h6 : (l6 b).length = 6 := rfl
      have hy : (T ++ numB ((l6 b).take j)).length ≤ 600000 := by
        have := numB_len (l := (l6 b).take j) fun u hu => l6_lt okb u (List.mem_of_mem_take hu)
        rw [List.length_take, h6] at this
        rw [List.length_append]
        omega
      by_cases hj : j < 6
      · have hu : (l6 b).getD j 0 < 4294967296 := l6_lt okb _ (by rw [List.getD_eq_getElem?_getD, List.getElem?_eq_getElem (by rw [h6]; exact hj)]; exact List.getElem_mem _)
        repeat (first | refine go ?_ | (refine goX ?_; intro))
        rename_i y1
        refine EL_call rfl (AppendInt_spec (q := y1) ((l6 b).getD j 0) (by omega) (by omega)) ?_
        intro y2
        repeat (first | refine go ?_ | (refine goX ?_; intro))
        have hsn : T ++ numB ((l6 b).take (j + 1)) = (T ++ numB ((l6 b).take j)) ++ 32 :: Lib.decDigits ((l6 b).getD j 0) := by rw [← numB_snoc (l6 b) (by rw [h6]; exact hj), List.append_assoc]
        have hb1 : bytesR (T ++ numB ((l6 b).take j) ++ 32 :: Lib.decDigits ((l6 b).getD j 0)) = bytesR (T ++ numB ((l6 b).take j)) ++ [.int .u8 32] ++ bytesR (Lib.decDigits ((l6 b).getD j 0)) := by simp [bytesR]
        have hb2 : (T ++ numB ((l6 b).take j) ++ 32 :: Lib.decDigits ((l6 b).getD j 0)).length = (T ++ numB ((l6 b).take j)).length + 1 + (Lib.decDigits ((l6 b).getD j 0)).length := by rw [List.length_append, List.length_cons]; omega
        refine EK_round (j + 1, y2) (by dsimp only; omega) (by dsimp only; omega) ⟨by dsimp only; rw [hsn, hb2]; rfl, rfl, rfl, rfl, rfl, rfl, rfl, trivial⟩ (Ent.sat ?_)
        dsimp only
        rw [hsn, hb1, hb2]
        first | exact Ent.refl _ | exact Ent.last | (repeat (first | refine Ent.cons ?_ | refine Ent.objX ?_ | refine Ent.rowX ?_ | exact Ent.any | exact Ent.last))
      · have e : j = 6 := by omega
        subst e
        have e6 : (l6 b).take 6 = l6 b := rfl
        rw [e6]
        have hsn : (B ++ (L.take (i + 1)).flatMap fun b => numB (l6 b)) = T ++ numB (l6 b) := by
          rw [← take_snocD (d := bd0) hi, List.flatMap_append, eb, ← List.append_assoc, eT]
          simp
        repeat (first | refine go ?_ | (refine goX ?_; intro))
        refine EK_round (i + 1, y) (by dsimp only; omega) (by dsimp only; omega) ⟨by dsimp only; rw [hsn]; rfl, rfl, rfl, rfl, trivial⟩ (Ent.sat ?_)
        dsimp only
        rw [hsn]
        first | exact Ent.refl _ | exact Ent.last | (repeat (first | refine Ent.cons ?_ | refine Ent.objX ?_ | refine Ent.rowX ?_ | exact Ent.any | exact Ent.last))
    · have e : i = L.length := by omega
      subst e
      rw [List.take_length]
      repeat (first | refine go ?_ | (refine goX ?_; intro))
      exact EK_ret (ER_1 rfl rfl () (by unfold stateB; rw [eB]) (Ent.sat (by first | exact Ent.refl _ | exact Ent.last | (repeat (first | refine Ent.cons ?_ | refine Ent.objX ?_ | refine Ent.rowX ?_ | exact Ent.any | exact Ent.last)))))
end
end Go.Proofs.YtianbkbehjppoaaGreatDoor

namespace Go.Proofs.YtianbkbehjppoaaGreatDoor
open Go.RowKit
set_option maxRecDepth 10000
attribute [local irreducible] EK EX ER EN EL ES EG OpVal OpDoes OpSkip
variable {W : World} {F : SL} {X : Cx} {k : List KI} {σ : Env}
variable {p : Option Addr} {c : Nat} {l : List EvT} {s : Nat → Slab × Slab}
theorem Equal_spec {pa pb : Option Addr} {ca cb : Nat} {a b : List UInt8} [Src W F pa a.length (bytesR a)] [Src W F pb b.length (bytesR b)] : Spec Tryz.prog 50 [.slice pa a.length ca, .slice pb b.length cb] W F (fun _ : Unit => .bool (decide (a = b))) (fun _ => F) := by
  refine Spec.of Tryz.func50 rfl Tryz.ntmps50 rfl ?_
  repeat (first | refine go ?_ | (refine goX ?_; intro))
  exact EK_ret (ER_1 rfl rfl () rfl (Ent.sat (by first | exact Ent.refl _ | exact Ent.last | (repeat (first | refine Ent.cons ?_ | refine Ent.objX ?_ | refine Ent.rowX ?_ | exact Ent.any | exact Ent.last)))))
theorem does_spec (n : Option Addr) (cf : Cfg) (hf : cf.Fit) (hg : cf.Good) {L : List BindT} (hN : NatOk cf L) (x : EvT) (ok : x.Ok) (f g : Slab) [m1 : Src W F f.1 x.call.frame.length (bytesR x.call.frame)] [r1 : Room W F f.1 x.call.frame.length f.2] [m2 : Src W F g.1 x.frame.length (bytesR x.frame)] [r2 : Room W F g.1 x.frame.length g.2] :
    Spec Tryz.prog 27 [.pointer n, .agg (evE x f g).toArray] W (MnC n cf L * F) (fun _ : Unit => .bool (doesT cf L x).2) (fun _ => MnC n cf (doesT cf L x).1 * F) := by
  refine Spec.of Tryz.func27 rfl Tryz.ntmps27 rfl ?_
  have e0 : doesT cf L x = _ := rfl
  conv at e0 => rhs; unfold doesT
  obtain ⟨ok1, ok2, ok3, ok4, ok5, ok6, ok7, ok8, ok9⟩ := ok
  obtain ⟨xb, xe, xs, xc, xf, xr, xp, xq⟩ := x
  dsimp only at *
  cases xs with
  | true =>
    rw [if_pos rfl] at e0
    rw [e0]
    repeat (first | refine go ?_ | (refine goX ?_; intro))
    refine EL_call rfl (Spec.at1 n (Expire_spec n cf hf hN xp xq xc.tick ok8 ok9 ok3)) ?_
    intro _
    repeat (first | refine go ?_ | (refine goX ?_; intro))
    exact EK_ret (ER_1 rfl rfl () rfl (Ent.sat (by first | exact Ent.refl _ | exact Ent.last | (repeat (first | refine Ent.cons ?_ | refine Ent.objX ?_ | refine Ent.rowX ?_ | exact Ent.any | exact Ent.last)))))
  | false =>
    rw [if_neg (by decide)] at e0
    rw [e0]
    repeat (first | refine go ?_ | (refine goX ?_; intro))
    refine EL_call rfl (Spec.at1 n (Step_spec n cf hf hg hN xc ok5 ok3 ok4)) ?_
    intro z
    generalize stepT cf L xc = a
    by_cases g1 : xe = -1
    · rw [decide_eq_true g1]
      repeat (first | refine go ?_ | (refine goX ?_; intro))
      exact EK_ret (ER_1 rfl rfl () rfl (Ent.sat (by first | exact Ent.refl _ | exact Ent.last | (repeat (first | refine Ent.cons ?_ | refine Ent.objX ?_ | refine Ent.rowX ?_ | exact Ent.any | exact Ent.last)))))
    · rw [decide_eq_false g1]
      by_cases g2 : (a.err : Int) = xr
      · rw [decide_eq_true g2]
        repeat (first | refine go ?_ | (refine goX ?_; intro))
        refine EL_call rfl (Equal_spec (a := a.frame) (b := xf)) ?_
        intro _
        repeat (first | refine go ?_ | (refine goX ?_; intro))
        exact EK_ret (ER_1 rfl rfl () rfl (Ent.sat (by first | exact Ent.refl _ | exact Ent.last | (repeat (first | refine Ent.cons ?_ | refine Ent.objX ?_ | refine Ent.rowX ?_ | exact Ent.any | exact Ent.last)))))
      · rw [decide_eq_false g2]
        repeat (first | refine go ?_ | (refine goX ?_; intro))
        exact EK_ret (ER_1 rfl rfl () rfl (Ent.sat (by first | exact Ent.refl _ | exact Ent.last | (repeat (first | refine Ent.cons ?_ | refine Ent.objX ?_ | refine Ent.rowX ?_ | exact Ent.any | exact Ent.last)))))
/-- Where a number stands first. -/
theorem Index_spec {q : Option Addr} {cq : Nat} {zs : List Int} (z : Int) (hz : zs.length ≤ 1000) [Src W F q zs.length (intsR .i64 zs)] [Room W F q zs.length cq] : Spec Tryz.prog 75 [.slice q zs.length cq, .int .i64 z] W F (fun _ : Unit => .int .i64 (match zs.idxOf? z with | some i => (i : Int) | none => -1)) (fun _ => F) := by
  refine Spec.of Tryz.func75 rfl Tryz.ntmps75 rfl ?_
  repeat (first | refine go ?_ | (refine goX ?_; intro))
  refine EK_loop (γ := Nat) (fun i => i ≤ zs.length ∧ ∀ j, j < i → ¬ zs.getD j 0 = z) (fun i => [(0, .slice q zs.length cq), (1, .int .i64 z), (6, .slice q zs.length cq), (7, .int .i64 (zs.length : Int)), (8, .int .i64 (i : Int))])
    (fun _ => F) (fun i => zs.length - i) 0 ⟨Nat.zero_le _, fun j hj => by omega⟩ ⟨rfl, rfl, rfl, rfl, rfl, trivial⟩ (Ent.sat (Ent.refl _)) ?_
  intro i ⟨h1, h2⟩; dsimp only at h1 h2 ⊢
  by_cases hi : i < zs.length
  · by_cases hz : zs.getD i 0 = z
    · have e : zs.idxOf? z = some i := by
        rw [List.idxOf?_eq_some_iff]
        refine ⟨hi, ?_, fun j hj => ?_⟩
        · rw [List.getD_eq_getElem?_getD, List.getElem?_eq_getElem hi] at hz
          simpa using hz
        · have := h2 j hj
          rw [List.getD_eq_getElem?_getD, List.getElem?_eq_getElem (by omega)] at this
          simpa using this
      rw [e]
      repeat (first | refine go ?_ | (refine goX ?_; intro))
      exact EK_ret (ER_1 rfl rfl () rfl (Ent.sat (by first | exact Ent.refl _ | exact Ent.last | (repeat (first | refine Ent.cons ?_ | refine Ent.objX ?_ | refine Ent.rowX ?_ | exact Ent.any | exact Ent.last)))))
    · have hz' : ¬ z = zs.getD i 0 := fun e => hz e.symm
      repeat (first | refine go ?_ | (refine goX ?_; intro))
      exact EK_round (i + 1) ⟨by omega, snocQ h2 hz⟩ (by omega) ⟨rfl, rfl, rfl, rfl, rfl, trivial⟩ (Ent.sat (by first | exact Ent.refl _ | exact Ent.last | (repeat (first | refine Ent.cons ?_ | refine Ent.objX ?_ | refine Ent.rowX ?_ | exact Ent.any | exact Ent.last))))
  · have e : i = zs.length := by omega
    subst e
    have e : zs.idxOf? z = none := by
      rw [List.idxOf?_eq_none_iff]
      intro hm
      obtain ⟨j, hj⟩ := List.getElem?_of_mem hm
      refine h2 j (List.getElem?_eq_some_iff.1 hj).1 ?_
      simp [List.getD_eq_getElem?_getD, hj]
    rw [e]
    repeat (first | refine go ?_ | (refine goX ?_; intro))
    exact EK_ret (ER_1 rfl rfl () rfl (Ent.sat (by first | exact Ent.refl _ | exact Ent.last | (repeat (first | refine Ent.cons ?_ | refine Ent.objX ?_ | refine Ent.rowX ?_ | exact Ent.any | exact Ent.last)))))
theorem Contains_spec {q : Option Addr} {cq : Nat} {zs : List Int} (z : Int) (hz : zs.length ≤ 1000) [Src W F q zs.length (intsR .i64 zs)] [Room W F q zs.length cq] : Spec Tryz.prog 47 [.slice q zs.length cq, .int .i64 z] W F (fun _ : Unit => .bool (zs.contains z)) (fun _ => F) := by
  refine Spec.of Tryz.func47 rfl Tryz.ntmps47 rfl ?_
  repeat (first | refine go ?_ | (refine goX ?_; intro))
  refine EL_call rfl (Index_spec z hz) ?_
  intro _
  cases e : zs.idxOf? z with
  | none =>
    have : zs.contains z = false := by
      rw [List.idxOf?_eq_none_iff] at e
      simpa using e
    rw [this]
    repeat (first | refine go ?_ | (refine goX ?_; intro))
    exact EK_ret (ER_1 rfl rfl () rfl (Ent.sat (by first | exact Ent.refl _ | exact Ent.last | (repeat (first | refine Ent.cons ?_ | refine Ent.objX ?_ | refine Ent.rowX ?_ | exact Ent.any | exact Ent.last)))))
  | some i =>
    have : zs.contains z = true := by
      rw [List.idxOf?_eq_some_iff] at e
      obtain ⟨h, h1, _⟩ := e
      have h2 : zs[i] = z := by simpa using h1
      simp only [List.contains_iff_mem]
      rw [← h2]
      exact List.getElem_mem h
    rw [this]
    repeat (first | refine go ?_ | (refine goX ?_; intro))
    exact EK_ret (ER_1 rfl rfl () rfl (Ent.sat (by first | exact Ent.refl _ | exact Ent.last | (repeat (first | refine Ent.cons ?_ | refine Ent.objX ?_ | refine Ent.rowX ?_ | exact Ent.any | exact Ent.last)))))
end Go.Proofs.YtianbkbehjppoaaGreatDoor

namespace Go.Proofs.YtianbkbehjppoaaGreatDoor
open Go.RowKit
set_option maxRecDepth 10000
attribute [local irreducible] EK EX ER EN EL ES EG OpVal OpDoes OpSkip
variable {W : World} {F : SL} {X : Cx} {k : List KI} {σ : Env}
variable {p : Option Addr} {c : Nat} {l : List EvT} {s : Nat → Slab × Slab} {q : Option Addr} {cq : Nat} {o : List Int}
theorem Contains_pre (z : Int) (i : Nat) (hi : i ≤ o.length) (hz : o.length ≤ 1000) [m : Src W F q o.length (intsR .i64 o)] [r : Room W F q o.length cq] : Spec Tryz.prog 47 [.slice q i cq, .int .i64 z] W F (fun _ : Unit => .bool ((o.take i).contains z)) (fun _ => F) := by
  have hl : (o.take i).length = i := by rw [List.length_take]; omega
  have h1 : Src W F q (o.take i).length (intsR .i64 (o.take i)) := by
    have h := Src.hi m 1 i hi
    rw [show (intsR .i64 o).take (i * 1) = intsR .i64 (o.take i) by simp [intsR, List.map_take]] at h
    rwa [hl]
  have h2 : Room W F q (o.take i).length cq := ⟨fun w hs => by have := r.le w hs; omega⟩
  have := Contains_spec (W := W) (F := F) (q := q) (cq := cq) (zs := o.take i) z (by omega)
  rwa [hl] at this
def inE (l : List EvT) (o : List Int) (i : Nat) : Bool := decide (0 ≤ o.getD i 0) && (decide (o.getD i 0 < l.length) && !(o.take i).contains (o.getD i 0))
def outE (l : List EvT) (o : List Int) (k : Nat) : Bool := decide ((l.getD k ev0).e = -1) || o.contains (k : Int)
def listsT (l : List EvT) (o : List Int) : Bool := (List.range o.length).all (inE l o) && (List.range l.length).all (outE l o)
theorem lists_spec (hl : l.length ≤ 1000) (ho : o.length ≤ 1000) [m : Src W F p l.length (evR l s)] [r : Room W F p l.length c] [m2 : Src W F q o.length (intsR .i64 o)] [r2 : Room W F q o.length cq] : Spec Tryz.prog 25 [.slice p l.length c, .slice q o.length cq] W F (fun _ : Unit => .bool (listsT l o)) (fun _ => F) := by
  refine Spec.of Tryz.func25 rfl Tryz.ntmps25 rfl ?_
  repeat (first | refine go ?_ | (refine goX ?_; intro))
  refine EK_loop (γ := Nat) (fun i => i ≤ o.length ∧ ∀ j, j < i → inE l o j = true) (fun i => [(0, .slice p l.length c), (1, .slice q o.length cq), (9, .slice q o.length cq), (10, .int .i64 (o.length : Int)), (11, .int .i64 (i : Int))])
    (fun _ => F) (fun i => o.length - i) 0 ⟨Nat.zero_le _, fun j hj => by omega⟩ ⟨rfl, rfl, rfl, rfl, rfl, trivial⟩ (Ent.sat (Ent.refl _)) ?_
  intro i ⟨h1, h2⟩; dsimp only at h1 h2 ⊢
  by_cases hi : i < o.length
  · by_cases g1 : 0 ≤ o.getD i 0
    · by_cases g2 : o.getD i 0 < l.length
      · repeat (first | refine go ?_ | (refine goX ?_; intro))
        refine EL_call rfl (Contains_pre (o.getD i 0) i h1 ho) ?_
        intro _
        cases g3 : (o.take i).contains (o.getD i 0) with
        | true =>
          repeat (first | refine go ?_ | (refine goX ?_; intro))
          exact EK_ret (ER_1 rfl rfl () (by unfold listsT; rw [range_not hi (by unfold inE; rw [g3, Bool.not_true, Bool.and_false, Bool.and_false])]; rfl) (Ent.sat (by first | exact Ent.refl _ | exact Ent.last | (repeat (first | refine Ent.cons ?_ | refine Ent.objX ?_ | refine Ent.rowX ?_ | exact Ent.any | exact Ent.last)))))
        | false =>
          repeat (first | refine go ?_ | (refine goX ?_; intro))
          exact EK_round (i + 1) ⟨by omega, snocQ h2 (by unfold inE; rw [g3, decide_eq_true g1, decide_eq_true g2]; rfl)⟩ (by omega) ⟨rfl, rfl, rfl, rfl, rfl, trivial⟩ (Ent.sat (by first | exact Ent.refl _ | exact Ent.last | (repeat (first | refine Ent.cons ?_ | refine Ent.objX ?_ | refine Ent.rowX ?_ | exact Ent.any | exact Ent.last))))
      · repeat (first | refine go ?_ | (refine goX ?_; intro))
        exact EK_ret (ER_1 rfl rfl () (by unfold listsT; rw [range_not hi (by unfold inE; rw [decide_eq_false g2, Bool.false_and, Bool.and_false])]; rfl) (Ent.sat (by first | exact Ent.refl _ | exact Ent.last | (repeat (first | refine Ent.cons ?_ | refine Ent.objX ?_ | refine Ent.rowX ?_ | exact Ent.any | exact Ent.last)))))
    · repeat (first | refine go ?_ | (refine goX ?_; intro))
      exact EK_ret (ER_1 rfl rfl () (by unfold listsT; rw [range_not hi (by unfold inE; rw [decide_eq_false g1, Bool.false_and])]; rfl) (Ent.sat (by first | exact Ent.refl _ | exact Ent.last | (repeat (first | refine Ent.cons ?_ | refine Ent.objX ?_ | refine Ent.rowX ?_ | exact Ent.any | exact Ent.last)))))
  · have e : i = o.length := by omega
    subst e
    repeat (first | refine go ?_ | (refine goX ?_; intro))
    have h2 := range_all h2
    refine EK_loop (γ := Nat) (fun i => i ≤ l.length ∧ ∀ j, j < i → outE l o j = true) (fun i => [(1, .slice q o.length cq), (32, .slice p l.length c), (33, .int .i64 (l.length : Int)), (34, .int .i64 (i : Int))])
      (fun _ => F) (fun i => l.length - i) 0 ⟨Nat.zero_le _, fun j hj => by omega⟩ ⟨rfl, rfl, rfl, rfl, trivial⟩ (Ent.sat (Ent.refl _)) ?_
    intro i ⟨h3, h4⟩; dsimp only at h3 h4 ⊢
    by_cases hi : i < l.length
    · by_cases g1 : (l.getD i ev0).e = -1
      · repeat (first | refine go ?_ | (refine goX ?_; intro))
        exact EK_round (i + 1) ⟨by omega, snocQ h4 (by unfold outE; rw [decide_eq_true g1]; rfl)⟩ (by omega) ⟨rfl, rfl, rfl, rfl, trivial⟩ (Ent.sat (by first | exact Ent.refl _ | exact Ent.last | (repeat (first | refine Ent.cons ?_ | refine Ent.objX ?_ | refine Ent.rowX ?_ | exact Ent.any | exact Ent.last))))
      · repeat (first | refine go ?_ | (refine goX ?_; intro))
        refine EL_call rfl (Contains_spec (zs := o) (i : Int) ho) ?_
        intro _
        cases g3 : o.contains (i : Int) with
        | true =>
          repeat (first | refine go ?_ | (refine goX ?_; intro))
          exact EK_round (i + 1) ⟨by omega, snocQ h4 (by unfold outE; rw [g3, Bool.or_true])⟩ (by omega) ⟨rfl, rfl, rfl, rfl, trivial⟩ (Ent.sat (by first | exact Ent.refl _ | exact Ent.last | (repeat (first | refine Ent.cons ?_ | refine Ent.objX ?_ | refine Ent.rowX ?_ | exact Ent.any | exact Ent.last))))
        | false =>
          repeat (first | refine go ?_ | (refine goX ?_; intro))
          exact EK_ret (ER_1 rfl rfl () (by unfold listsT; rw [range_not hi (by unfold outE; rw [g3, decide_eq_false g1]; rfl), Bool.and_false]) (Ent.sat (by first | exact Ent.refl _ | exact Ent.last | (repeat (first | refine Ent.cons ?_ | refine Ent.objX ?_ | refine Ent.rowX ?_ | exact Ent.any | exact Ent.last)))))
    · have e : i = l.length := by omega
      subst e
      rw [show listsT l o = true by unfold listsT; rw [h2, range_all h4]; rfl]
      repeat (first | refine go ?_ | (refine goX ?_; intro))
      exact EK_ret (ER_1 rfl rfl () rfl (Ent.sat (by first | exact Ent.refl _ | exact Ent.last | (repeat (first | refine Ent.cons ?_ | refine Ent.objX ?_ | refine Ent.rowX ?_ | exact Ent.any | exact Ent.last)))))
end Go.Proofs.YtianbkbehjppoaaGreatDoor

namespace Go.Proofs.YtianbkbehjppoaaGreatDoor
open Go.RowKit
set_option maxRecDepth 10000
attribute [local irreducible] EK EX ER EN EL ES EG OpVal OpDoes OpSkip
variable {W : World} {F : SL} {X : Cx} {k : List KI} {σ : Env}
variable {p : Option Addr} {c : Nat} {l : List EvT} {s : Nat → Slab × Slab} {q : Option Addr} {cq : Nat} {o : List Int}
def atO (l : List EvT) (o : List Int) (i : Nat) : EvT := l.getD (o.getD i 0).toNat ev0
def natAt (cf : Cfg) (l : List EvT) (o : List Int) : Nat → List BindT
  | 0 => []
  | i + 1 => (doesT cf (natAt cf l o i) (atO l o i)).1
def befE (l : List EvT) (o : List Int) (i : Nat) : Bool := (List.range i).all fun j => !aheadT (atO l o i) (atO l o j)
def didE (cf : Cfg) (l : List EvT) (o : List Int) (i : Nat) : Bool := (doesT cf (natAt cf l o i) (atO l o i)).2
def checkT (cf : Cfg) (l : List EvT) (o : List Int) : Bool :=
  decide (wrongT cf = []) && (rightT l && (listsT l o && (List.range o.length).all fun i => befE l o i && didE cf l o i))
theorem checkT_cfg {cf : Cfg} (h : ¬ cf.Good) : checkT cf l o = false := by
  unfold checkT
  rw [decide_eq_false (fun e => h (wrongT_nil.1 e)), Bool.false_and]
theorem checkT_right {cf : Cfg} (h : rightT l = false) : checkT cf l o = false := by
  unfold checkT
  rw [h, Bool.false_and, Bool.and_false]
theorem checkT_lists {cf : Cfg} (h : listsT l o = false) : checkT cf l o = false := by
  unfold checkT
  rw [h, Bool.false_and, Bool.and_false, Bool.and_false]
theorem checkT_bef {cf : Cfg} {i : Nat} (hi : i < o.length) (h : befE l o i = false) : checkT cf l o = false := by
  unfold checkT
  rw [range_not hi (by rw [h, Bool.false_and]), Bool.and_false, Bool.and_false, Bool.and_false]
theorem checkT_did {cf : Cfg} {i : Nat} (hi : i < o.length) (h : didE cf l o i = false) : checkT cf l o = false := by
  unfold checkT
  rw [range_not hi (by rw [h, Bool.and_false]), Bool.and_false, Bool.and_false, Bool.and_false]
theorem checkT_yes {cf : Cfg} (h1 : cf.Good) (h2 : rightT l = true) (h3 : listsT l o = true) (h4 : ∀ i, i < o.length → (befE l o i && didE cf l o i) = true) : checkT cf l o = true := by
  unfold checkT
  rw [decide_eq_true (wrongT_nil.2 h1), h2, h3, range_all h4]
  rfl
theorem NatOk.does {cf : Cfg} {L : List BindT} (h : NatOk cf L) (hg : cf.Good) (x : EvT) : NatOk cf (doesT cf L x).1 := by
  unfold doesT
  split
  · exact h.exp _ _ _
  · exact h.step hg _
theorem natAt_ok {cf : Cfg} (hg : cf.Good) (l : List EvT) (o : List Int) : ∀ i, NatOk cf (natAt cf l o i)
  | 0 => NatOk.nil cf
  | i + 1 => (natAt_ok hg l o i).does hg _
theorem lists_in {i : Nat} (h : listsT l o = true) (hi : i < o.length) : ∃ k : Nat, k < l.length ∧ o.getD i 0 = (k : Int) ∧ (o.take i).contains (o.getD i 0) = false := by
  unfold listsT at h
  rw [Bool.and_eq_true] at h
  have := range_at h.1 hi
  unfold inE at this
  simp only [Bool.and_eq_true, decide_eq_true_eq, Bool.not_eq_true'] at this
  exact ⟨(o.getD i 0).toNat, by omega, by omega, this.2.2⟩
theorem getD_in {i : Nat} (hi : i < l.length) : l.getD i ev0 ∈ l := by
  rw [List.getD_eq_getElem?_getD, List.getElem?_eq_getElem hi]
  exact List.getElem_mem hi
theorem atO_eq {i k : Nat} (h : o.getD i 0 = (k : Int)) : atO l o i = l.getD k ev0 := by
  unfold atO
  rw [h, Int.toNat_natCast]
set_option maxHeartbeats 1000000 in
theorem Check_spec (cf : Cfg) (hf : cf.Fit) (hl : l.length ≤ 1000) (ho : o.length ≤ 1000) (ok : ∀ x ∈ l, x.Ok) (m : EvMem W F p l s) [r : Room W F p l.length c] [m2 : Src W F q o.length (intsR .i64 o)] [r2 : Room W F q o.length cq] : Spec Tryz.prog 13 [cf.val, .slice p l.length c, .slice q o.length cq] W F (fun _ : Unit => .bool (checkT cf l o)) (fun _ => F) := by
  refine Spec.of Tryz.func13 rfl Tryz.ntmps13 rfl ?_
  haveI := m.row
  rcases (Classical.em cf.Good).symm with hg | hg
  · rw [checkT_cfg hg]
    repeat (first | refine go ?_ | (refine goX ?_; intro))
    refine EL_call rfl (mNew_none cf hf hg) ?_
    intro _
    repeat (first | refine go ?_ | (refine goX ?_; intro))
    exact EK_ret (ER_1 rfl rfl () rfl (Ent.sat (by first | exact Ent.refl _ | exact Ent.last | (repeat (first | refine Ent.cons ?_ | refine Ent.objX ?_ | refine Ent.rowX ?_ | exact Ent.any | exact Ent.last)))))
  repeat (first | refine go ?_ | (refine goX ?_; intro))
  refine EL_call rfl (mNew_spec cf hf hg) ?_
  intro n
  repeat (first | refine go ?_ | (refine goX ?_; intro))
  refine EL_call rfl (Right_spec hl) ?_
  intro _
  cases hr : rightT l with
  | false =>
    rw [checkT_right hr]
    repeat (first | refine go ?_ | (refine goX ?_; intro))
    exact EK_ret (ER_1 rfl rfl () rfl (Ent.sat (by first | exact Ent.refl _ | exact Ent.last | (repeat (first | refine Ent.cons ?_ | refine Ent.objX ?_ | refine Ent.rowX ?_ | exact Ent.any | exact Ent.last)))))
  | true =>
    repeat (first | refine go ?_ | (refine goX ?_; intro))
    refine EL_call rfl (lists_spec hl ho) ?_
    intro _
    cases hli : listsT l o with
    | false =>
      rw [checkT_lists hli]
      repeat (first | refine go ?_ | (refine goX ?_; intro))
      exact EK_ret (ER_1 rfl rfl () rfl (Ent.sat (by first | exact Ent.refl _ | exact Ent.last | (repeat (first | refine Ent.cons ?_ | refine Ent.objX ?_ | refine Ent.rowX ?_ | exact Ent.any | exact Ent.last)))))
    | true =>
      repeat (first | refine go ?_ | (refine goX ?_; intro))
      refine EK_loop (γ := Nat) (fun i => i ≤ o.length ∧ ∀ j, j < i → (befE l o j && didE cf l o j) = true) (fun i => [(1, .slice p l.length c), (2, .slice q o.length cq), (7, .pointer n), (31, .slice q o.length cq), (32, .int .i64 (o.length : Int)), (33, .int .i64 (i : Int))])
        (fun i => MnC n cf (natAt cf l o i) * F) (fun i => o.length - i) 0 ⟨Nat.zero_le _, fun j hj => by omega⟩ ⟨rfl, rfl, rfl, rfl, rfl, rfl, trivial⟩ (Ent.sat (by show Ent _ (MnC n cf [] * F); first | exact Ent.refl _ | exact Ent.last | (repeat (first | refine Ent.cons ?_ | refine Ent.objX ?_ | refine Ent.rowX ?_ | exact Ent.any | exact Ent.last)))) ?_
      intro i ⟨h1, h2⟩; dsimp only at h1 h2 ⊢
      by_cases hi : i < o.length
      · obtain ⟨kk, hk, ek, _⟩ := lists_in hli hi
        have ea := atO_eq (l := l) ek
        repeat (first | refine go ?_ | (refine goX ?_; intro))
        rw [ek]
        refine EK_loop (γ := Nat) (fun j => j ≤ i ∧ ∀ j', j' < j → (!aheadT (atO l o i) (atO l o j')) = true) (fun j => [(1, .slice p l.length c), (2, .slice q o.length cq), (7, .pointer n), (31, .slice q o.length cq), (32, .int .i64 (o.length : Int)), (33, .int .i64 (i : Int)), (10, .int .i64 (kk : Int)), (40, .slice q i cq), (41, .int .i64 (i : Int)), (42, .int .i64 (j : Int))])
          (fun _ => MnC n cf (natAt cf l o i) * F) (fun j => i - j) 0 ⟨Nat.zero_le _, fun j hj => by omega⟩ ⟨rfl, rfl, rfl, rfl, rfl, rfl, rfl, rfl, rfl, rfl, trivial⟩ (Ent.sat (by first | exact Ent.refl _ | exact Ent.last | (repeat (first | refine Ent.cons ?_ | refine Ent.objX ?_ | refine Ent.rowX ?_ | exact Ent.any | exact Ent.last)))) ?_
        intro j ⟨h3, h4⟩; dsimp only at h3 h4 ⊢
        by_cases hj : j < i
        · obtain ⟨kj, hkj, ekj, _⟩ := lists_in hli (i := j) (by omega)
          have eaj := atO_eq (l := l) ekj
          repeat (first | refine go ?_ | (refine goX ?_; intro))
          rw [ekj]
          refine EK_sink 99 F rfl rfl rfl ?_
          repeat (first | refine goQ ?_ | refine EG_done (by decide +kernel) ?_)
          refine EG_callQ rfl rfl rfl rfl rfl (Ahead_spec (l.getD kk ev0) (l.getD kj ev0) (s kk).1 (s kk).2 (s kj).1 (s kj).2) (fun _ => by first | exact Ent.refl _ | exact Ent.last | (repeat (first | refine Ent.cons ?_ | refine Ent.objX ?_ | refine Ent.rowX ?_ | exact Ent.any | exact Ent.last))) ?_
          intro _
          cases g3 : aheadT (l.getD kk ev0) (l.getD kj ev0) with
          | true =>
            repeat (first | refine goQ ?_ | refine EG_done (by decide +kernel) ?_)
            repeat (first | refine go ?_ | (refine goX ?_; intro))
            exact EK_ret (ER_1 rfl rfl () (by rw [checkT_bef hi (by unfold befE; exact range_not hj (by rw [ea, eaj, g3]; rfl))]) (Ent.sat (by first | exact Ent.refl _ | exact Ent.last | (repeat (first | refine Ent.cons ?_ | refine Ent.objX ?_ | refine Ent.rowX ?_ | exact Ent.any | exact Ent.last)))))
          | false =>
            repeat (first | refine goQ ?_ | refine EG_done (by decide +kernel) ?_)
            repeat (first | refine go ?_ | (refine goX ?_; intro))
            exact EK_round (j + 1) ⟨by omega, snocQ h4 (by rw [ea, eaj, g3]; rfl)⟩ (by omega) ⟨rfl, rfl, rfl, rfl, rfl, rfl, rfl, rfl, rfl, rfl, trivial⟩ (Ent.sat (by first | exact Ent.refl _ | exact Ent.last | (repeat (first | refine Ent.cons ?_ | refine Ent.objX ?_ | refine Ent.rowX ?_ | exact Ent.any | exact Ent.last))))
        · have e : j = i := by omega
          subst e
          have hb : befE l o j = true := range_all h4
          haveI := m.f1 kk hk
          haveI := m.r1 kk hk
          haveI := m.f2 kk hk
          haveI := m.r2 kk hk
          have hd := does_spec (W := W) (F := F) n cf hf hg (natAt_ok hg l o j) (l.getD kk ev0) (ok _ (getD_in hk)) (s kk).1 (s kk).2
          repeat (first | refine go ?_ | (refine goX ?_; intro))
          refine EL_call rfl hd ?_
          intro _
          rw [← ea]
          cases g4 : (doesT cf (natAt cf l o j) (atO l o j)).2 with
          | false =>
            repeat (first | refine go ?_ | (refine goX ?_; intro))
            exact EK_ret (ER_1 rfl rfl () (by rw [checkT_did hi g4]) (Ent.sat (by first | exact Ent.refl _ | exact Ent.last | (repeat (first | refine Ent.cons ?_ | refine Ent.objX ?_ | refine Ent.rowX ?_ | exact Ent.any | exact Ent.last)))))
          | true =>
            repeat (first | refine go ?_ | (refine goX ?_; intro))
            exact EK_round (j + 1) ⟨by omega, snocQ h2 (by unfold didE; rw [hb, g4]; rfl)⟩ (by omega) ⟨rfl, rfl, rfl, rfl, rfl, rfl, trivial⟩ (Ent.sat (by show Ent _ (MnC n cf (doesT cf (natAt cf l o j) (atO l o j)).1 * F); first | exact Ent.refl _ | exact Ent.last | (repeat (first | refine Ent.cons ?_ | refine Ent.objX ?_ | refine Ent.rowX ?_ | exact Ent.any | exact Ent.last))))
      · have e : i = o.length := by omega
        subst e
        rw [checkT_yes hg hr hli h2]
        repeat (first | refine go ?_ | (refine goX ?_; intro))
        exact EK_ret (ER_1 rfl rfl () rfl (Ent.sat (by first | exact Ent.refl _ | exact Ent.last | (repeat (first | refine Ent.cons ?_ | refine Ent.objX ?_ | refine Ent.rowX ?_ | exact Ent.any | exact Ent.last)))))
end Go.Proofs.YtianbkbehjppoaaGreatDoor

namespace Go.Proofs.YtianbkbehjppoaaGreatDoor
/-- Nothing new but what has no order. -/
def NewM (cf : Cfg) (l : List EvT) (K K' : List (List UInt8)) : Prop := ∀ d L, d.length = l.length → NatOk cf L → stateB d L ∈ K' → stateB d L ∈ K ∨ ¬ Ord cf l L d
/-- What is known has no order, or is further from the end. -/
def PreM (cf : Cfg) (l : List EvT) (K : List (List UInt8)) (d : List Bool) : Prop := ∀ d' L, d'.length = l.length → NatOk cf L → stateB d' L ∈ K → ¬ Ord cf l L d' ∨ left d < left d'
theorem NewM.refl (cf : Cfg) (l : List EvT) (K : List (List UInt8)) : NewM cf l K K := fun _ _ _ _ h => .inl h
theorem NewM.trans {cf : Cfg} {l : List EvT} {K K' K'' : List (List UInt8)} (h : NewM cf l K K') (h' : NewM cf l K' K'') : NewM cf l K K'' := fun d L h1 h2 h3 => by
  rcases h' d L h1 h2 h3 with h4 | h4
  · exact h d L h1 h2 h4
  · exact .inr h4
/-- The entry can't be the next one of an order. -/
def DeadE (cf : Cfg) (l : List EvT) (L : List BindT) (d : List Bool) (i : Nat) : Prop := d.getD i false = true ∨ mayT l d i = false ∨ (doesT cf L (l.getD i ev0)).2 = false ∨ ¬ Ord cf l (doesT cf L (l.getD i ev0)).1 (d.set i true)
theorem DeadE.all {cf : Cfg} {l : List EvT} {L : List BindT} {d : List Bool} (h0 : overT l d = false) (h : ∀ i, i < l.length → DeadE cf l L d i) : ¬ Ord cf l L d := fun g => by
  rcases g.inv with g | ⟨i, hi, g1, g2, g3, g4⟩
  · rw [h0] at g; cases g
  · rcases h i hi with h | h | h | h
    · rw [g1] at h; cases h
    · rw [g2] at h; cases h
    · rw [g3] at h; cases h
    · exact h g4
theorem boolB_cut {a b : Bool} {x y : List UInt8} (h : boolB a ++ x = boolB b ++ y) : a = b ∧ x = y := by
  cases a <;> cases b
  · exact ⟨rfl, List.append_cancel_left h⟩
  · simp [boolB] at h
  · simp [boolB] at h
  · exact ⟨rfl, List.append_cancel_left h⟩
theorem bools_cut : ∀ {d d' : List Bool} {x y : List UInt8}, d.length = d'.length → d.flatMap boolB ++ x = d'.flatMap boolB ++ y → d = d' ∧ x = y
  | [], [], x, y, _, h => ⟨rfl, by simpa using h⟩
  | [], _ :: _, _, _, h, _ => by cases h
  | _ :: _, [], _, _, h, _ => by cases h
  | a :: d, b :: d', x, y, hl, h => by
    rw [List.flatMap_cons, List.flatMap_cons, List.append_assoc, List.append_assoc] at h
    obtain ⟨e1, h1⟩ := boolB_cut h
    obtain ⟨e2, h2⟩ := bools_cut (by simpa using hl) h1
    exact ⟨by rw [e1, e2], h2⟩
def valN (l : List UInt8) : Nat := l.foldl (fun n c => 10 * n + (c.toNat - 48)) 0
theorem ofNat_digL {d : Nat} (h : d < 10) : (UInt8.ofNat (48 + d)).toNat = 48 + d := by
  rw [UInt8.toNat_ofNat']
  exact Nat.mod_eq_of_lt (by omega)
theorem dec_dig : ∀ (n : Nat), ∀ c ∈ Lib.decDigits n, 48 ≤ c.toNat := by
  intro n
  induction n using Nat.strongRecOn with
  | _ n ih =>
    intro c hc
    rw [Lib.decDigits] at hc
    split at hc
    · rename_i h
      simp only [List.mem_singleton] at hc
      subst hc
      rw [ofNat_digL h]; omega
    · rename_i h
      rcases List.mem_append.1 hc with hc | hc
      · exact ih _ (by omega) c hc
      · simp only [List.mem_singleton] at hc
        subst hc
        rw [ofNat_digL (Nat.mod_lt _ (by decide))]; omega
theorem dec_val : ∀ (n : Nat), valN (Lib.decDigits n) = n := by
  intro n
  induction n using Nat.strongRecOn with
  | _ n ih =>
    rw [Lib.decDigits]
    split
    · rename_i h
      simp only [valN, List.foldl_cons, List.foldl_nil, ofNat_digL h]
      omega
    · rename_i h
      have hs : ∀ (l : List UInt8) (c : UInt8), valN (l ++ [c]) = 10 * valN l + (c.toNat - 48) := fun l c => by simp [valN]
      rw [hs, ih _ (by omega), ofNat_digL (Nat.mod_lt _ (by decide))]
      omega
theorem dec_inj {u v : Nat} (h : Lib.decDigits u = Lib.decDigits v) : u = v := by
  rw [← dec_val u, h, dec_val]
theorem words_cut : ∀ {a b x y : List UInt8}, (∀ c ∈ a, c ≠ 32) → (∀ c ∈ b, c ≠ 32) → (x = [] ∨ ∃ t, x = 32 :: t) → (y = [] ∨ ∃ t, y = 32 :: t) → a ++ x = b ++ y → a = b ∧ x = y
  | [], [], x, y, _, _, _, _, h => ⟨rfl, by simpa using h⟩
  | [], b :: bb, x, y, _, hb, hx, _, h => by
    exfalso
    rcases hx with rfl | ⟨t, rfl⟩
    · simp at h
    · simp only [List.nil_append, List.cons_append, List.cons.injEq] at h
      exact hb b List.mem_cons_self h.1.symm
  | a :: aa, [], x, y, ha, _, _, hy, h => by
    exfalso
    rcases hy with rfl | ⟨t, rfl⟩
    · simp at h
    · simp only [List.nil_append, List.cons_append, List.cons.injEq] at h
      exact ha a List.mem_cons_self h.1
  | a :: aa, b :: bb, x, y, ha, hb, hx, hy, h => by
    simp only [List.cons_append, List.cons.injEq] at h
    obtain ⟨e1, h1⟩ := h
    obtain ⟨e2, h2⟩ := words_cut (fun c hc => ha c (List.mem_cons_of_mem _ hc)) (fun c hc => hb c (List.mem_cons_of_mem _ hc)) hx hy h1
    exact ⟨by rw [e1, e2], h2⟩
theorem numB_head (l : List Nat) : numB l = [] ∨ ∃ t, numB l = 32 :: t := by
  cases l with
  | nil => exact .inl rfl
  | cons a l => exact .inr ⟨_, rfl⟩
theorem dec_no32 (u : Nat) : ∀ c ∈ Lib.decDigits u, c ≠ 32 := fun c hc e => by
  have := dec_dig u c hc
  subst e
  revert this
  decide
theorem numB_inj : ∀ {l m : List Nat}, numB l = numB m → l = m
  | [], [], _ => rfl
  | [], _ :: _, h => by cases h
  | _ :: _, [], h => by cases h
  | a :: l, b :: m, h => by
    have e : ∀ (a : Nat) (l : List Nat), numB (a :: l) = 32 :: (Lib.decDigits a ++ numB l) := fun a l => rfl
    rw [e, e, List.cons.injEq] at h
    obtain ⟨h1, h2⟩ := words_cut (dec_no32 a) (dec_no32 b) (numB_head l) (numB_head m) h.2
    rw [dec_inj h1, numB_inj h2]
theorem l6_inj {a b : BindT} (h : l6 a = l6 b) : a = b := by
  obtain ⟨⟨a1, a2, a3⟩, a4, a5, a6⟩ := a
  obtain ⟨⟨b1, b2, b3⟩, b4, b5, b6⟩ := b
  simp only [l6, List.cons.injEq, and_true] at h
  obtain ⟨rfl, rfl, rfl, rfl, rfl, rfl⟩ := h
  rfl
theorem l6s_inj : ∀ {L M : List BindT}, L.flatMap l6 = M.flatMap l6 → L = M
  | [], [], _ => rfl
  | [], _ :: _, h => by cases h
  | _ :: _, [], h => by cases h
  | a :: L, b :: M, h => by
    rw [List.flatMap_cons, List.flatMap_cons] at h
    obtain ⟨h1, h2⟩ := List.append_inj h rfl
    rw [l6_inj h1, l6s_inj h2]
theorem numB_flat (L : List BindT) : L.flatMap (fun b => numB (l6 b)) = numB (L.flatMap l6) := by
  unfold numB
  rw [List.flatMap_assoc]
theorem stateB_inj {cf : Cfg} {n : Nat} {d d' : List Bool} {L L' : List BindT} (h1 : d.length = n) (h2 : d'.length = n) (_ : NatOk cf L) (_ : NatOk cf L') (h : stateB d L = stateB d' L') : d = d' ∧ L = L' := by
  unfold stateB at h
  obtain ⟨e, h⟩ := bools_cut (h1.trans h2.symm) h
  rw [numB_flat, numB_flat] at h
  exact ⟨e, l6s_inj (numB_inj h)⟩
end Go.Proofs.YtianbkbehjppoaaGreatDoor

namespace Go.Proofs.YtianbkbehjppoaaGreatDoor
open Go.RowKit
set_option maxRecDepth 10000
attribute [local irreducible] EK EX ER EN EL ES EG OpVal OpDoes OpSkip
variable {W : World} {X : Cx} {k : List KI} {σ : Env}
variable {p : Option Addr} {c : Nat} {l : List EvT} {s : Nat → Slab × Slab}
instance : TMap Tryz.prog 61 9 87 := ⟨by kernel_rfl⟩
instance : TZeroV Tryz.prog 87 (.agg #[]) := ⟨by kernel_rfl⟩
instance : TZero Tryz.prog 87 [] := ⟨⟨.agg #[], by kernel_rfl, rfl⟩⟩
instance : TSize Tryz.prog 87 0 := ⟨by kernel_rfl⟩
instance : TStruct Tryz.prog 87 [] := ⟨⟨_, Tryz.underlying87, by kernel_rfl⟩⟩
/-- What is found. -/
structure FindR where
  ok : Bool
  d : List Bool
  o : List Nat
  oq : Slab
  M : List (List UInt8 × Unit)
abbrev FindS (sp p : Option Addr) (n c : Nat) (dq : Slab) (mm : Nat) (F : SL) (r : FindR) : SL := SrO sp p n c dq r.d r.oq r.o mm r.M F
structure FindQ (cf : Cfg) (l : List EvT) (L : List BindT) (d : List Bool) (o : List Nat) (M : List (List UInt8 × Unit)) (r : FindR) : Prop where
  len : r.d.length = d.length
  yes : r.ok = true → ∃ os, OrdF cf l L d os ∧ r.o = o ++ os
  no : r.ok = false → ¬ Ord cf l L d ∧ r.d = d ∧ r.o = o ∧ NewM cf l (M.map (·.1)) (r.M.map (·.1))
def FindP (W : World) (sp p : Option Addr) (c : Nat) (dq : Slab) (mm : Nat) (cf : Cfg) (l : List EvT) (s : Nat → Slab × Slab) (k : Nat) : Prop :=
  ∀ (F : SL) (_ : EvMem W F p l s) (_ : Room W F p l.length c) (d : List Bool) (o : List Nat) (oq : Slab) (M : List (List UInt8 × Unit)) (L : List BindT) (n : Option Addr), left d = k → d.length = l.length → o.length + left d ≤ 1000 → NatOk cf L → PreM cf l (M.map (·.1)) d →
    Spec Tryz.prog 17 [.pointer sp, .pointer n] W (SrO sp p l.length c dq d oq o mm M (MnC n cf L * F)) (fun r : {r : FindR // FindQ cf l L d o M r} => .bool r.1.ok) (fun r => FindS sp p l.length c dq mm (MnC n cf L * F) r.1)
theorem look_none {κ : Type} [DecidableEq κ] {M : List (κ × Unit)} {t : κ} (h : t ∉ M.map (·.1)) : M.lookup t = none := lookup_out h
theorem look_some {κ : Type} [DecidableEq κ] {M : List (κ × Unit)} {t : κ} (h : t ∈ M.map (·.1)) : M.lookup t = some () := by
  cases e : M.lookup t with
  | some u => rfl
  | none =>
    exfalso
    obtain ⟨⟨a, u⟩, hp, rfl⟩ := List.mem_map.1 h
    have := List.lookup_eq_none_iff.1 e _ hp
    simp at this
set_option maxHeartbeats 1000000 in
theorem find_step [hW : PlanT W] (sp : Option Addr) (dq : Slab) (mm : Nat) (cf : Cfg) (hf : cf.Fit) (hg : cf.Good) (hl : l.length ≤ 1000) (ok : ∀ x ∈ l, x.Ok) (k : Nat) (ih : ∀ k', k' < k → FindP W sp p c dq mm cf l s k') : FindP W sp p c dq mm cf l s k := by
  intro F m r d o oq M L n hk hd ho hN hP
  haveI := m.row
  refine Spec.of Tryz.func17 rfl Tryz.ntmps17 rfl ?_
  repeat (first | refine go ?_ | (refine goX ?_; intro))
  refine EL_call rfl (over_spec hl hd) ?_
  intro _
  cases hov : overT l d with
  | true =>
    repeat (first | refine go ?_ | (refine goX ?_; intro))
    exact EK_ret (ER_1 rfl rfl ⟨⟨true, d, o, oq, M⟩, ⟨rfl, fun _ => ⟨[], hov, by simp⟩, fun h => by cases h⟩⟩ rfl (Ent.sat (by first | exact Ent.refl _ | exact Ent.last | (repeat (first | refine Ent.cons ?_ | refine Ent.objX ?_ | refine Ent.rowX ?_ | exact Ent.any | exact Ent.last)))))
  | false =>
    repeat (first | refine go ?_ | (refine goX ?_; intro))
    refine EL_call rfl (state_spec n cf hg hN (by omega)) ?_
    intro _
    obtain ⟨t, et⟩ : ∃ t, stateB d L = t := ⟨_, rfl⟩
    rw [et]
    repeat (first | refine go ?_ | (refine goX ?_; intro))
    by_cases hm : t ∈ M.map (·.1)
    · have hno : ¬ Ord cf l L d := by
        rcases hP d L hd hN (by rw [et]; exact hm) with h | h
        · exact h
        · omega
      refine EL_val (OpVal_foundOk (ek := kStr) (ev := vUnit) (look_some hm) rfl rfl rfl) rfl ?_
      repeat (first | refine go ?_ | (refine goX ?_; intro))
      exact EK_ret (ER_1 rfl rfl ⟨⟨false, d, o, oq, M⟩, ⟨rfl, (fun h => by cases h), fun _ => ⟨hno, rfl, rfl, NewM.refl _ _ _⟩⟩⟩ rfl (Ent.sat (by first | exact Ent.refl _ | exact Ent.last | (repeat (first | refine Ent.cons ?_ | refine Ent.objX ?_ | refine Ent.rowX ?_ | exact Ent.any | exact Ent.last)))))
    · refine EL_val (OpVal_missOk (ek := kStr) (ev := vUnit) (look_none hm) rfl rfl rfl) rfl ?_
      repeat (first | refine go ?_ | (refine goX ?_; intro))
      refine EL_skip (OpSkip_mapUpdate (ek := kStr) (ev := vUnit) (k := t) (v := ()) rfl rfl rfl rfl) ?_
      have hK : ∀ x, x ∈ (putL M t ()).map (·.1) ↔ x = t ∨ x ∈ M.map (·.1) := fun x => putL_keys M t () x
      obtain ⟨M0, eM0⟩ : ∃ M0, putL M t () = M0 := ⟨_, rfl⟩
      rw [eM0] at hK ⊢
      repeat (first | refine go ?_ | (refine goX ?_; intro))
      refine EK_loop (γ := Nat × Slab × List (List UInt8 × Unit)) (fun g => g.1 ≤ l.length ∧ (∀ j, j < g.1 → DeadE cf l L d j) ∧ NewM cf l (M0.map (·.1)) (g.2.2.map (·.1))) (fun g => [(0, .pointer sp), (1, .pointer n), (35, .slice p l.length c), (36, .int .i64 (l.length : Int)), (37, .int .i64 (g.1 : Int))])
        (fun g => SrO sp p l.length c dq d g.2.1 o mm g.2.2 (MnC n cf L * F)) (fun g => l.length - g.1) (0, oq, M0) ⟨Nat.zero_le _, (fun j hj => by omega), NewM.refl _ _ _⟩ ⟨rfl, rfl, rfl, rfl, rfl, trivial⟩ (Ent.sat (by first | exact Ent.refl _ | exact Ent.last | (repeat (first | refine Ent.cons ?_ | refine Ent.objX ?_ | refine Ent.rowX ?_ | exact Ent.any | exact Ent.last)))) ?_
      intro ⟨i, q1, M1⟩ ⟨h1, h2, h3⟩; dsimp only at h1 h2 h3 ⊢
      by_cases hi : i < l.length
      · haveI : Pos l.length := ⟨by omega⟩
        repeat (first | refine go ?_ | (refine goX ?_; intro))
        rename_i ob
        cases gd : d.getD i false with
        | true =>
          repeat (first | refine go ?_ | (refine goX ?_; intro))
          exact EK_round (i + 1, q1, M1) ⟨by dsimp only; omega, snocQ h2 (.inl gd), h3⟩ (by dsimp only; omega) ⟨rfl, rfl, rfl, rfl, rfl, trivial⟩ (Ent.sat (by first | exact Ent.refl _ | exact Ent.last | (repeat (first | refine Ent.cons ?_ | refine Ent.objX ?_ | refine Ent.rowX ?_ | exact Ent.any | exact Ent.last))))
        | false =>
          have hmay := may_spec (W := W) (F := Obj ob 49 (evE (l.getD i ev0) (s i).1 (s i).2) * (MnC n cf L * F)) (s := s) (p := p) (c := c) (sp := sp) (dq := dq) (oq := q1) (o := o) (mm := mm) (M := M1) hl hd i hi
          repeat (first | refine go ?_ | (refine goX ?_; intro))
          refine EL_call rfl (Spec.pre hmay (by first | exact Ent.refl _ | exact Ent.last | (repeat (first | refine Ent.cons ?_ | refine Ent.objX ?_ | refine Ent.rowX ?_ | exact Ent.any | exact Ent.last)))) ?_
          intro _
          cases gm : mayT l d i with
          | false =>
            repeat (first | refine go ?_ | (refine goX ?_; intro))
            exact EK_round (i + 1, q1, M1) ⟨by dsimp only; omega, snocQ h2 (.inr (.inl gm)), h3⟩ (by dsimp only; omega) ⟨rfl, rfl, rfl, rfl, rfl, trivial⟩ (Ent.sat (by first | exact Ent.refl _ | exact Ent.last | (repeat (first | refine Ent.cons ?_ | refine Ent.objX ?_ | refine Ent.rowX ?_ | exact Ent.any | exact Ent.last))))
          | true =>
            haveI := m.f1 i hi
            haveI := m.r1 i hi
            haveI := m.f2 i hi
            haveI := m.r2 i hi
            repeat (first | refine go ?_ | (refine goX ?_; intro))
            refine EL_call rfl (Spec.at1 n (Copy_spec n cf hf)) ?_
            intro n'
            repeat (first | refine go ?_ | (refine goX ?_; intro))
            refine EL_call rfl (Spec.at1 n' (does_spec n' cf hf hg hN (l.getD i ev0) (ok _ (getD_in hi)) (s i).1 (s i).2)) ?_
            intro _
            obtain ⟨L2, eL2⟩ : ∃ L2, (doesT cf L (l.getD i ev0)).1 = L2 := ⟨_, rfl⟩
            rw [eL2]
            cases gs : (doesT cf L (l.getD i ev0)).2 with
            | false =>
              repeat (first | refine go ?_ | (refine goX ?_; intro))
              exact EK_round (i + 1, q1, M1) ⟨by dsimp only; omega, snocQ h2 (.inr (.inr (.inl gs))), h3⟩ (by dsimp only; omega) ⟨rfl, rfl, rfl, rfl, rfl, trivial⟩ (Ent.sat (by first | exact Ent.refl _ | exact Ent.last | (repeat (first | refine Ent.cons ?_ | refine Ent.objX ?_ | refine Ent.rowX ?_ | exact Ent.any | exact Ent.last))))
            | true =>
              have hlf := left_set (d := d) (i := i) (by omega) gd
              have hN2 : NatOk cf L2 := by rw [← eL2]; exact hN.does hg _
              repeat (first | refine go ?_ | (refine goX ?_; intro))
              rename_i q2
              have hP2 : PreM cf l (M1.map (·.1)) (d.set i true) := fun d' L' k1 k2 k3 => by
                rcases h3 d' L' k1 k2 k3 with k4 | k4
                · rcases (hK _).1 k4 with k5 | k5
                  · obtain ⟨rfl, rfl⟩ := stateB_inj k1 hd k2 hN (k5.trans et.symm)
                    exact .inr (by omega)
                  · rcases hP d' L' k1 k2 k5 with k6 | k6
                    · exact .inl k6
                    · exact .inr (by omega)
                · exact .inl k4
              refine EL_call rfl (Spec.pre (ih (left (d.set i true)) (by omega) (MnC n cf L * F) m.on inferInstance (d.set i true) (o ++ [i]) q2 M1 L2 n' rfl (by rw [List.length_set]; exact hd) (by rw [List.length_append, List.length_singleton]; omega) hN2 hP2) ?_) ?_
              · show Ent _ (Obj sp 63 (srV p l.length c dq (d.set i true).length q2 (o ++ [i]).length mm) * (RowC 4 1 dq.1 (d.set i true).length dq.2 (blR (d.set i true)) * (RowC 3 1 q2.1 (o ++ [i]).length q2.2 (natsR .i64 (o ++ [i])) * (MapC kStr vUnit mm M1 * (MnC n' cf L2 * (MnC n cf L * F))))))
                rw [List.length_set, List.length_append, List.length_singleton, ← natsR_snoc]
                first | exact Ent.refl _ | exact Ent.last | (repeat (first | refine Ent.cons ?_ | refine Ent.objX ?_ | refine Ent.rowX ?_ | exact Ent.any | exact Ent.last))
              intro ⟨⟨rk, rd, ro, rq, rM⟩, hr⟩
              obtain ⟨hr1, hr2, hr3⟩ := hr
              dsimp only at hr1 hr2 hr3 ⊢
              cases rk with
              | true =>
                obtain ⟨os, ho1, ho2⟩ := hr2 rfl
                repeat (first | refine go ?_ | (refine goX ?_; intro))
                exact EK_ret (ER_1 rfl rfl ⟨⟨true, rd, ro, rq, rM⟩, ⟨by dsimp only; rw [hr1, List.length_set], fun _ => ⟨i :: os, ⟨hi, gd, gm, gs, by rw [eL2]; exact ho1⟩, by dsimp only; rw [ho2, List.append_assoc]; rfl⟩, fun h => by cases h⟩⟩ rfl (Ent.sat (by first | exact Ent.refl _ | exact Ent.last | (repeat (first | refine Ent.cons ?_ | refine Ent.objX ?_ | refine Ent.rowX ?_ | exact Ent.any | exact Ent.last)))))
              | false =>
                obtain ⟨hr4, rfl, rfl, hr6⟩ := hr3 rfl
                have hd0 : (d.set i true).set i false = d := by
                  rw [List.set_set]
                  apply List.ext_getElem?
                  intro j
                  rw [List.getElem?_set]
                  split
                  · rename_i e
                    subst e
                    rw [if_pos (by omega)]
                    rw [List.getD_eq_getElem?_getD, List.getElem?_eq_getElem (by omega)] at gd
                    rw [List.getElem?_eq_getElem (by omega)]
                    exact congrArg some gd.symm
                  · rfl
                have hsl : (d.set i true).length = d.length := List.length_set
                have hol : (o ++ [i]).length = o.length + 1 := by rw [List.length_append]; rfl
                refine EL_le (H1 := Obj sp 63 (srV p l.length c dq d.length rq (o.length + 1) mm) * (RowC 4 1 dq.1 d.length dq.2 (blR (d.set i true)) * (RowC 3 1 rq.1 (o.length + 1) rq.2 (natsR .i64 (o ++ [i])) * (MapC kStr vUnit mm rM * (MnC n cf L * F))))) (Ent.sat ?_) ?_
                · show Ent (Obj sp 63 (srV p l.length c dq (d.set i true).length rq (o ++ [i]).length mm) * (RowC 4 1 dq.1 (d.set i true).length dq.2 (blR (d.set i true)) * (RowC 3 1 rq.1 (o ++ [i]).length rq.2 (natsR .i64 (o ++ [i])) * (MapC kStr vUnit mm rM * (MnC n' cf L2 * (MnC n cf L * F)))))) _
                  rw [hsl, hol]
                  first | exact Ent.refl _ | exact Ent.last | (repeat (first | refine Ent.cons ?_ | refine Ent.objX ?_ | refine Ent.rowX ?_ | exact Ent.any | exact Ent.last))
                repeat (first | refine go ?_ | (refine goX ?_; intro))
                rw [hd0]
                refine EK_sink 14 (Obj sp 63 (srV p l.length c dq d.length rq (o.length + 1) mm) * (RowC 3 1 rq.1 (o.length + 1) rq.2 (natsR .i64 (o ++ [i])) * 1)) rfl rfl rfl ?_
                repeat (first | refine goQ ?_ | refine EG_done (by decide +kernel) ?_)
                rw [show ((o.length + 1 : Nat) : Int) - 1 = ((o.length : Nat) : Int) by omega]
                repeat (first | refine goQ ?_ | refine EG_done (by decide +kernel) ?_)
                repeat (first | refine goG ?_ | (refine goGX ?_; intro) | refine goGL ?_ | refine goGS ?_ | refine goGV ?_ | refine EG_done (by decide +kernel) ?_)
                repeat (first | refine go ?_ | (refine goX ?_; intro))
                refine EK_round (i + 1, rq, rM) ⟨by dsimp only; omega, snocQ h2 (.inr (.inr (.inr (by rw [eL2]; exact hr4)))), h3.trans hr6⟩ (by dsimp only; omega) ⟨rfl, rfl, rfl, rfl, rfl, trivial⟩ (Ent.sat ?_)
                refine Ent.at sp rfl (Ent.at dq.1 rfl (Ent.rowHi rq.1 o.length (by omega) (Ent.row rq.1 rfl (by simp [natsR]) ?_)))
                first | exact Ent.refl _ | exact Ent.last | (repeat (first | refine Ent.cons ?_ | refine Ent.objX ?_ | refine Ent.rowX ?_ | exact Ent.any | exact Ent.last))
      · have e : i = l.length := by omega
        subst e
        have hno : ¬ Ord cf l L d := DeadE.all hov h2
        have hnew : NewM cf l (M.map (·.1)) (M1.map (·.1)) := fun d' L' k1 k2 k3 => by
          rcases h3 d' L' k1 k2 k3 with k4 | k4
          · rcases (hK _).1 k4 with k5 | k5
            · obtain ⟨rfl, rfl⟩ := stateB_inj k1 hd k2 hN (k5.trans et.symm)
              exact .inr hno
            · exact .inl k5
          · exact .inr k4
        repeat (first | refine go ?_ | (refine goX ?_; intro))
        exact EK_ret (ER_1 rfl rfl ⟨⟨false, d, o, q1, M1⟩, ⟨rfl, (fun h => by cases h), fun _ => ⟨hno, rfl, rfl, hnew⟩⟩⟩ rfl (Ent.sat (by first | exact Ent.refl _ | exact Ent.last | (repeat (first | refine Ent.cons ?_ | refine Ent.objX ?_ | refine Ent.rowX ?_ | exact Ent.any | exact Ent.last)))))
end Go.Proofs.YtianbkbehjppoaaGreatDoor

namespace Go.Proofs.YtianbkbehjppoaaGreatDoor
open Go.RowKit
set_option maxRecDepth 10000
attribute [local irreducible] EK EX ER EN EL ES EG OpVal OpDoes OpSkip
variable {W : World} {F : SL} {X : Cx} {k : List KI} {σ : Env}
variable {p : Option Addr} {c : Nat} {l : List EvT} {s : Nat → Slab × Slab}
theorem find_spec [hW : PlanT W] (sp : Option Addr) (dq : Slab) (mm : Nat) (cf : Cfg) (hf : cf.Fit) (hg : cf.Good) (hl : l.length ≤ 1000) (ok : ∀ x ∈ l, x.Ok) : ∀ k, FindP W sp p c dq mm cf l s k := fun k => by
  induction k using Nat.strongRecOn with
  | _ k ih => exact find_step sp dq mm cf hf hg hl ok k ih
structure OrderR where
  ok : Bool
  o : List Nat
  oq : Slab
/-- There is an order of all. -/
def AllOrd (cf : Cfg) (l : List EvT) : Prop := cf.Good ∧ rightT l = true ∧ l.length ≤ 12 ∧ Ord cf l [] (List.replicate l.length false)
structure OrderQ (cf : Cfg) (l : List EvT) (r : OrderR) : Prop where
  yes : r.ok = true → cf.Good ∧ rightT l = true ∧ l.length ≤ 12 ∧ OrdF cf l [] (List.replicate l.length false) r.o
  no : r.ok = false → r.o = [] ∧ ¬ AllOrd cf l
theorem left_all (n : Nat) : left (List.replicate n false) = n := by simp [left]
theorem Order_spec [hW : PlanT W] (cf : Cfg) (hf : cf.Fit) (hl : l.length ≤ 1000) (ok : ∀ x ∈ l, x.Ok) (m : EvMem W F p l s) [r : Room W F p l.length c] : Spec Tryz.prog 6 [cf.val, .slice p l.length c] W F (fun r : {r : OrderR // OrderQ cf l r} => .tuple #[.slice r.1.oq.1 r.1.o.length r.1.oq.2, .bool r.1.ok]) (fun r => RowC 3 1 r.1.oq.1 r.1.o.length r.1.oq.2 (natsR .i64 r.1.o) * F) := by
  refine Spec.of Tryz.func6 rfl Tryz.ntmps6 rfl ?_
  haveI := m.row
  have no : ¬ AllOrd cf l → OrderQ cf l ⟨false, [], (none, 0)⟩ := fun h => ⟨(fun h => by cases h), fun _ => ⟨rfl, h⟩⟩
  rcases (Classical.em cf.Good).symm with hg | hg
  · repeat (first | refine go ?_ | (refine goX ?_; intro))
    refine EL_call rfl (mNew_none cf hf hg) ?_
    intro _
    repeat (first | refine go ?_ | (refine goX ?_; intro))
    exact EK_ret (ER_2 rfl rfl rfl ⟨_, no fun h => hg h.1⟩ rfl (Ent.sat (Ent.none (by first | exact Ent.refl _ | exact Ent.last | (repeat (first | refine Ent.cons ?_ | refine Ent.objX ?_ | refine Ent.rowX ?_ | exact Ent.any | exact Ent.last))))))
  repeat (first | refine go ?_ | (refine goX ?_; intro))
  refine EL_call rfl (mNew_spec cf hf hg) ?_
  intro n
  repeat (first | refine go ?_ | (refine goX ?_; intro))
  refine EL_call rfl (Right_spec hl) ?_
  intro _
  cases hr : rightT l with
  | false =>
    repeat (first | refine go ?_ | (refine goX ?_; intro))
    exact EK_ret (ER_2 rfl rfl rfl ⟨_, no fun h => by have := h.2.1; rw [hr] at this; cases this⟩ rfl (Ent.sat (Ent.none (by first | exact Ent.refl _ | exact Ent.last | (repeat (first | refine Ent.cons ?_ | refine Ent.objX ?_ | refine Ent.rowX ?_ | exact Ent.any | exact Ent.last))))))
  | true =>
    by_cases h12 : l.length ≤ 12
    · repeat (first | refine go ?_ | (refine goX ?_; intro))
      rename_i y
      refine EL_does (OpDoes_mapN (ek := kStr) (ev := vUnit) rfl) rfl ?_
      intro mm
      repeat (first | refine go ?_ | (refine goX ?_; intro))
      rename_i sp
      have hrl : (List.replicate l.length false).length = l.length := List.length_replicate
      refine EL_call rfl (Spec.pre (find_spec sp (y, l.length) mm cf hf hg hl ok (left (List.replicate l.length false)) F m r (List.replicate l.length false) [] (none, 0) [] [] n rfl hrl (by rw [left_all]; simp; omega) (NatOk.nil cf) (fun _ _ _ _ h => by simp at h)) ?_) ?_
      · show Ent _ (Obj sp 63 (srV p l.length c (y, l.length) (List.replicate l.length false).length (none, 0) 0 mm) * (RowC 4 1 y (List.replicate l.length false).length l.length (blR (List.replicate l.length false)) * (RowC 3 1 none 0 0 [] * (MapC kStr vUnit mm [] * (MnC n cf [] * F)))))
        have hz : blR (List.replicate l.length false) = reps l.length [.bool false] := by rw [reps_one]; simp [blR]
        rw [hrl, hz]
        refine Ent.cons (Ent.cons (Ent.none ?_))
        first | exact Ent.refl _ | exact Ent.last | (repeat (first | refine Ent.cons ?_ | refine Ent.objX ?_ | refine Ent.rowX ?_ | exact Ent.any | exact Ent.last))
      intro ⟨⟨rk, rd, ro, rq, rM⟩, hr1⟩
      obtain ⟨h1, h2, h3⟩ := hr1
      dsimp only at h1 h2 h3 ⊢
      cases rk with
      | true =>
        obtain ⟨os, ho1, ho2⟩ := h2 rfl
        rw [List.nil_append] at ho2
        subst ho2
        refine EL_le (H1 := Obj sp 63 (srV p l.length c (y, l.length) rd.length rq ro.length mm) * (RowC 3 1 rq.1 ro.length rq.2 (natsR .i64 ro) * F)) (Ent.sat (by first | exact Ent.refl _ | exact Ent.last | (repeat (first | refine Ent.cons ?_ | refine Ent.objX ?_ | refine Ent.rowX ?_ | exact Ent.any | exact Ent.last)))) ?_
        repeat (first | refine go ?_ | (refine goX ?_; intro))
        exact EK_ret (ER_2 rfl rfl rfl ⟨⟨true, ro, rq⟩, ⟨fun _ => ⟨hg, hr, h12, ho1⟩, fun h => by cases h⟩⟩ rfl (Ent.sat (by first | exact Ent.refl _ | exact Ent.last | (repeat (first | refine Ent.cons ?_ | refine Ent.objX ?_ | refine Ent.rowX ?_ | exact Ent.any | exact Ent.last)))))
      | false =>
        obtain ⟨hno, _, _, _⟩ := h3 rfl
        repeat (first | refine go ?_ | (refine goX ?_; intro))
        exact EK_ret (ER_2 rfl rfl rfl ⟨_, no fun h => hno h.2.2.2⟩ rfl (Ent.sat (Ent.none (by show Ent (Obj sp _ _ * (RowC _ _ _ _ _ _ * (RowC _ _ _ _ _ _ * (MapC kStr vUnit mm _ * (MnC n cf [] * F))))) _; first | exact Ent.refl _ | exact Ent.last | (repeat (first | refine Ent.cons ?_ | refine Ent.objX ?_ | refine Ent.rowX ?_ | exact Ent.any | exact Ent.last))))))
    · repeat (first | refine go ?_ | (refine goX ?_; intro))
      exact EK_ret (ER_2 rfl rfl rfl ⟨_, no fun h => h12 h.2.2.1⟩ rfl (Ent.sat (Ent.none (by first | exact Ent.refl _ | exact Ent.last | (repeat (first | refine Ent.cons ?_ | refine Ent.objX ?_ | refine Ent.rowX ?_ | exact Ent.any | exact Ent.last))))))
end Go.Proofs.YtianbkbehjppoaaGreatDoor

namespace Go.Proofs.YtianbkbehjppoaaGreatDoor
def dn (l : List EvT) (p : List Nat) : List Bool := (List.range l.length).map fun k => p.contains k
theorem dn_len (l : List EvT) (p : List Nat) : (dn l p).length = l.length := by simp [dn]
theorem dn_at {l : List EvT} {p : List Nat} {k : Nat} (hk : k < l.length) : (dn l p).getD k false = p.contains k := by
  simp [dn, List.getD_eq_getElem?_getD, hk]
theorem dn_snoc {l : List EvT} (p : List Nat) {k : Nat} (hk : k < l.length) : (dn l p).set k true = dn l (p ++ [k]) := by
  apply List.ext_getElem?
  intro j
  rw [List.getElem?_set]
  by_cases hj : j < l.length
  · have h1 : ∀ q, (dn l q)[j]? = some (q.contains j) := fun q => by simp [dn, hj]
    rw [h1, h1, dn_len]
    by_cases ek : k = j
    · subst ek
      rw [if_pos rfl, if_pos hk]
      simp
    · rw [if_neg ek]
      have : ¬ j = k := fun e => ek e.symm
      simp [this]
  · have h1 : ∀ q, (dn l q)[j]? = none := fun q => by
      rw [List.getElem?_eq_none]
      rw [dn_len]; omega
    rw [h1, h1]
    split
    · rw [if_neg (by rw [dn_len]; omega)]
    · rfl
def natN (cf : Cfg) (l : List EvT) (p : List Nat) : List BindT := p.foldl (fun L k => (doesT cf L (l.getD k ev0)).1) []
structure OrdAt (cf : Cfg) (l : List EvT) (o : List Nat) (i : Nat) : Prop where
  lt : o.getD i 0 < l.length
  new : (o.take i).contains (o.getD i 0) = false
  may : mayT l (dn l (o.take i)) (o.getD i 0) = true
  did : (doesT cf (natN cf l (o.take i)) (l.getD (o.getD i 0) ev0)).2 = true
theorem OrdF.all {cf : Cfg} {l : List EvT} : ∀ {o pre : List Nat}, OrdF cf l (natN cf l pre) (dn l pre) o → (∀ i, pre.length ≤ i → i < (pre ++ o).length → OrdAt cf l (pre ++ o) i) ∧ overT l (dn l (pre ++ o)) = true
  | [], pre, h => ⟨(fun i h1 h2 => by rw [List.append_nil] at h2; omega), by rw [List.append_nil]; exact h⟩
  | k :: o, pre, h => by
    obtain ⟨h1, h2, h3, h4, h5⟩ := h
    rw [dn_snoc pre h1, show (doesT cf (natN cf l pre) (l.getD k ev0)).1 = natN cf l (pre ++ [k]) by unfold natN; rw [List.foldl_append]; rfl] at h5
    obtain ⟨g1, g2⟩ := OrdF.all h5
    rw [List.append_assoc] at g1 g2
    refine ⟨fun i hi1 hi2 => ?_, g2⟩
    rcases Nat.lt_or_ge pre.length i with hlt | hge
    · exact g1 i (by rw [List.length_append, List.length_singleton]; omega) hi2
    · obtain rfl : i = pre.length := by omega
      have e1 : (pre ++ k :: o).getD pre.length 0 = k := by simp [List.getD_eq_getElem?_getD]
      have e2 : (pre ++ k :: o).take pre.length = pre := List.take_left
      rw [dn_at h1] at h2
      exact ⟨by rw [e1]; exact h1, by rw [e1, e2]; exact h2, by rw [e1, e2]; exact h3, by rw [e1, e2]; exact h4⟩
end Go.Proofs.YtianbkbehjppoaaGreatDoor

namespace Go.Proofs.YtianbkbehjppoaaGreatDoor
theorem OrdF.orderF {c : Cfg} {l : List EvT} : ∀ {o : List Nat} {L : List BindT} {d : List Bool} {k : Nat}, OrdF c l L d o → o.length ≤ k → orderF c l k L d = true
  | [], L, d, 0, h, _ => h
  | [], L, d, k + 1, h, _ => by
    have h : overT l d = true := h
    simp only [Go.Proofs.YtianbkbehjppoaaGreatDoor.orderF, h, Bool.true_or]
  | i :: o, L, d, 0, _, h => by simp at h
  | i :: o, L, d, k + 1, h, hk => by
    obtain ⟨h1, h2, h3, h4, h5⟩ := h
    have ih := OrdF.orderF h5 (k := k) (by simpa using hk)
    simp only [Go.Proofs.YtianbkbehjppoaaGreatDoor.orderF, Bool.or_eq_true, List.any_eq_true]
    exact .inr ⟨i, List.mem_range.2 h1, by rw [h2, h3, h4, ih]; rfl⟩
theorem OrdF.len {c : Cfg} {l : List EvT} : ∀ {o : List Nat} {L : List BindT} {d : List Bool}, d.length = l.length → OrdF c l L d o → o.length ≤ left d
  | [], _, _, _, _ => Nat.zero_le _
  | i :: o, L, d, hd, h => by
    obtain ⟨h1, h2, h3, h4, h5⟩ := h
    have := OrdF.len (by rw [List.length_set]; exact hd) h5
    have := left_set (d := d) (i := i) (by omega) h2
    rw [List.length_cons]
    omega
theorem not_ord {c : Cfg} {l : List EvT} {L : List BindT} {d : List Bool} (hd : d.length = l.length) {k : Nat} (hk : left d ≤ k) (h : orderF c l k L d = false) : ¬ Ord c l L d := fun ⟨o, ho⟩ => by
  have := OrdF.orderF ho (Nat.le_trans (OrdF.len hd ho) hk)
  rw [h] at this
  cases this
def cf9 : Cfg := ⟨2, 3221225985, 1000, 1009, 16, 4⟩
def call9 (p : Int) : CallT := ⟨true, fr0, 0, p⟩
def bak3 : List UInt8 := (stepT cf9 [] (call9 1003)).frame
def bak4 : List UInt8 := (stepT cf9 [] (call9 1004)).frame
def ev3 : EvT := ⟨1, 4, false, call9 1003, bak3, 0, 0, 0⟩
def ev3' : EvT := ⟨2, 3, false, call9 1003, bak3, 0, 0, 0⟩
def ev4 : EvT := ⟨2, 3, false, call9 1004, bak4, 0, 0, 0⟩
theorem bak3_len : bak3.length = 28 := by decide +kernel
theorem bak4_len : bak4.length = 28 := by decide +kernel
theorem fr0_len : fr0.length = 28 := by decide +kernel
theorem good9 : cf9.Good := wrongT_nil.1 (by decide +kernel)
theorem yes9 : AllOrd cf9 [ev3, ev3'] := ⟨good9, by decide +kernel, by decide, [0, 1], by decide +kernel, by decide +kernel, by decide +kernel, by decide +kernel, by decide +kernel, by decide +kernel, by decide +kernel, by decide +kernel, show overT _ _ = true by decide +kernel⟩
theorem no9 : ¬ AllOrd cf9 [ev3, ev4] := fun h => not_ord (k := 2) rfl (by decide) (by decide +kernel) h.2.2.2
theorem chk01 : checkT cf9 [ev3, ev3'] [0, 1] = true := by decide +kernel
theorem chk10 : checkT cf9 [ev3, ev3'] [1, 0] = true := by decide +kernel
end Go.Proofs.YtianbkbehjppoaaGreatDoor

namespace Go.Proofs.YtianbkbehjppoaaGreatDoor
open Go.RowKit
set_option maxRecDepth 10000
attribute [local irreducible] EK EX ER EN EL ES EG OpVal OpDoes OpSkip
variable {W : World} {F : SL} {X : Cx} {k : List KI} {σ : Env}
section
variable {p : Option Addr} {c : Nat} {l : List UInt8}
theorem rPart_spec (hl : l.length ≤ 140737488355328) [s : Src W F p l.length (bytesR l)] [r : Room W F p l.length c] : Spec Tryz.prog 38 [.slice p l.length c] W F (fun _ : Unit => .tuple #[.agg (ptV (rdP l)).toArray, .bool (decide (readE l = 0))]) (fun _ => F) := by
  refine Spec.of Tryz.func38 rfl Tryz.ntmps38 rfl ?_
  repeat (first | refine go ?_ | (refine goX ?_; intro))
  refine EL_call rfl (r2Get_spec false hl) ?_
  intro _
  by_cases g1 : headE false l = 0
  · have g0 := HdOk.of g1
    have eR : readE l = partE (headH l) l := if_pos g1
    rw [headT_of g1, g1, if_pos rfl]
    repeat (first | refine go ?_ | (refine goX ?_; intro))
    refine EL_call rfl (r3Get_spec (headH l) g0) ?_
    intro _
    by_cases g2 : partE (headH l) l = 0
    · have eR0 : readE l = 0 := by rw [eR, g2]
      rw [show partT (headH l) l = frP l from if_pos g2, g2, show rdP l = frP l from if_pos eR0, eR0]
      repeat (first | refine go ?_ | (refine goX ?_; intro))
      exact EK_ret (ER_cn (rs := [.cell 2 106, .tmp 3]) (v := .agg (ptV (frP l)).toArray) (u := .bool true) (vs := []) rfl ⟨⟨_, rfl, LoadsV.agg rfl⟩, rfl, trivial⟩ () rfl (Ent.sat (by first | exact Ent.refl _ | exact Ent.last | (repeat (first | refine Ent.cons ?_ | refine Ent.objX ?_ | refine Ent.rowX ?_ | exact Ent.any | exact Ent.last)))))
    · have eR0 : ¬ readE l = 0 := by rw [eR]; exact g2
      rw [show partT (headH l) l = pt0 from if_neg g2, show rdP l = pt0 from if_neg eR0, decide_eq_false eR0]
      repeat (first | refine go ?_ | (refine goX ?_; intro))
      exact EK_ret (ER_cn (rs := [.cell 2 106, .tmp 3]) (v := .agg (ptV pt0).toArray) (u := .bool false) (vs := []) rfl ⟨⟨_, rfl, LoadsV.agg rfl⟩, rfl, trivial⟩ () rfl (Ent.sat (by first | exact Ent.refl _ | exact Ent.last | (repeat (first | refine Ent.cons ?_ | refine Ent.objX ?_ | refine Ent.rowX ?_ | exact Ent.any | exact Ent.last)))))
  · have eR : readE l = headE false l := if_neg g1
    have eR0 : ¬ readE l = 0 := by rw [eR]; exact g1
    rw [headT_of (rfl : headE false l = _), if_neg g1, show rdP l = pt0 from if_neg eR0, decide_eq_false eR0]
    repeat (first | refine go ?_ | (refine goX ?_; intro))
    exact EK_ret (ER_cn (rs := [.cell 2 106, .tmp 3]) (v := .agg (ptV pt0).toArray) (u := .bool false) (vs := []) rfl ⟨⟨_, rfl, LoadsV.agg rfl⟩, rfl, trivial⟩ () rfl (Ent.sat (by first | exact Ent.refl _ | exact Ent.last | (repeat (first | refine Ent.cons ?_ | refine Ent.objX ?_ | refine Ent.rowX ?_ | exact Ent.any | exact Ent.last)))))
theorem rBegins_model (hl : l.length ≤ 140737488355328) [s : Src W F p l.length (bytesR l)] [r : Room W F p l.length c] (out : Bool) : Spec Tryz.prog 42 [.bool out, .slice p l.length c] W F (fun _ : Unit => .bool (begF out l)) (fun _ => F) := by
  refine Spec.of Tryz.func42 rfl Tryz.ntmps42 rfl ?_
  have rg := PtRng.of (headH l) l
  rw [begF_split]
  repeat (first | refine go ?_ | (refine goX ?_; intro))
  refine EL_call rfl (rPart_spec hl) ?_
  intro _
  cases out with
  | false =>
    repeat (first | refine go ?_ | (refine goX ?_; intro))
    exact EK_ret (ER_1 rfl rfl () rfl (Ent.sat (by first | exact Ent.refl _ | exact Ent.last | (repeat (first | refine Ent.cons ?_ | refine Ent.objX ?_ | refine Ent.rowX ?_ | exact Ent.any | exact Ent.last)))))
  | true =>
    by_cases g1 : ¬ (readE l = 0)
    · rw [decide_eq_false g1]
      repeat (first | refine go ?_ | (refine goX ?_; intro))
      exact EK_ret (ER_1 rfl rfl () rfl (Ent.sat (by first | exact Ent.refl _ | exact Ent.last | (repeat (first | refine Ent.cons ?_ | refine Ent.objX ?_ | refine Ent.rowX ?_ | exact Ent.any | exact Ent.last)))))
    have g1 := Decidable.not_not.1 g1
    rw [decide_eq_true g1, show rdP l = frP l from if_pos g1]
    change PtRng (frP l) at rg
    obtain ⟨x, f1⟩ : ∃ x, frP l = x := ⟨_, rfl⟩
    rw [f1] at rg ⊢
    have rf := rg.flags
    obtain ⟨xp, xs, xd, xf, xk, xc, xe, xi, xo, xb⟩ := x
    cases xe with
    | true =>
      repeat (first | refine go ?_ | (refine goX ?_; intro))
      exact EK_ret (ER_1 rfl rfl () rfl (Ent.sat (by first | exact Ent.refl _ | exact Ent.last | (repeat (first | refine Ent.cons ?_ | refine Ent.objX ?_ | refine Ent.rowX ?_ | exact Ent.any | exact Ent.last)))))
    | false =>
      repeat (first | refine go ?_ | (refine goX ?_; intro))
      refine EL_call rfl (rBegins_spec xp xk xf rf) ?_
      intro _
      repeat (first | refine go ?_ | (refine goX ?_; intro))
      exact EK_ret (ER_1 rfl rfl () rfl (Ent.sat (by first | exact Ent.refl _ | exact Ent.last | (repeat (first | refine Ent.cons ?_ | refine Ent.objX ?_ | refine Ent.rowX ?_ | exact Ent.any | exact Ent.last)))))
theorem rWhose_spec (hl : l.length ≤ 140737488355328) [s : Src W F p l.length (bytesR l)] [r : Room W F p l.length c] (cf : Cfg) (ho : 0 ≤ cf.o) (out : Bool) : Spec Tryz.prog 37 [.agg cf.cells.toArray, .bool out, .slice p l.length c] W F (fun _ : Unit => resW (whoT cf.o.toNat out l) (whoE cf.o.toNat out l)) (fun _ => F) := by
  refine Spec.of Tryz.func37 rfl Tryz.ntmps37 rfl ?_
  have e0 : whoE cf.o.toNat out l = _ := rfl
  conv at e0 => rhs; unfold whoE
  repeat (first | refine go ?_ | (refine goX ?_; intro))
  refine EL_call rfl (r2Get_spec false hl) ?_
  intro _
  by_cases g1 : headE false l = 0
  · have g0 := HdOk.of g1
    have eR : readE l = partE (headH l) l := if_pos g1
    rw [headT_of g1, g1, if_pos rfl]
    repeat (first | refine go ?_ | (refine goX ?_; intro))
    refine EL_call rfl (r3Get_spec (headH l) g0) ?_
    intro _
    by_cases g2 : partE (headH l) l = 0
    · have eR0 : readE l = 0 := by rw [eR, g2]
      rw [if_neg (by omega)] at e0
      rw [show partT (headH l) l = frP l from if_pos g2, g2]
      have eW : whoF out l = _ := rfl
      conv at eW => rhs; unfold whoF inF outF
      obtain ⟨hd, f0⟩ : ∃ x, headH l = x := ⟨_, rfl⟩
      obtain ⟨x, f1⟩ : ∃ x, frP l = x := ⟨_, rfl⟩
      rw [f0, f1] at eW ⊢
      rw [f0] at e0
      obtain ⟨xp, xs, xd, xf, xk, xc, xe, xi, xo, xb⟩ := x
      dsimp only at eW
      obtain ⟨w, ew⟩ : ∃ w, whoF out l = w := ⟨_, rfl⟩
      cases out with
      | true =>
        rw [if_neg (fun g => by cases g.1)] at e0
        rw [whoE_ok e0]
        cases xe with
        | true =>
          simp only [if_true] at eW
          rw [eW]
          repeat (first | refine go ?_ | (refine goX ?_; intro))
          exact EK_ret (ER_cn (rs := [.cell 6 102, .tmp 7]) (v := .agg (flV (⟨xi.proto, xi.dst, xd⟩)).toArray) (u := .int .i64 ((0 : Nat) : Int)) (vs := []) rfl ⟨⟨_, rfl, LoadsV.agg rfl⟩, rfl, trivial⟩ () rfl (Ent.sat (by first | exact Ent.refl _ | exact Ent.last | (repeat (first | refine Ent.cons ?_ | refine Ent.objX ?_ | refine Ent.rowX ?_ | exact Ent.any | exact Ent.last)))))
        | false =>
          simp only [if_true, Bool.false_eq_true, if_false] at eW
          rw [eW]
          repeat (first | refine go ?_ | (refine goX ?_; intro))
          exact EK_ret (ER_cn (rs := [.cell 6 102, .tmp 7]) (v := .agg (flV (⟨hd.proto, hd.src, xs⟩)).toArray) (u := .int .i64 ((0 : Nat) : Int)) (vs := []) rfl ⟨⟨_, rfl, LoadsV.agg rfl⟩, rfl, trivial⟩ () rfl (Ent.sat (by first | exact Ent.refl _ | exact Ent.last | (repeat (first | refine Ent.cons ?_ | refine Ent.objX ?_ | refine Ent.rowX ?_ | exact Ent.any | exact Ent.last)))))
      | false =>
        cases xe with
        | true =>
          simp only [if_true, Bool.false_eq_true, if_false] at eW
          rw [eW] at e0
          dsimp only at e0
          repeat (first | refine go ?_ | (refine goX ?_; intro))
          rename_i o8 _ o10 o11
          refine EK_sink 7 (Obj o8 96 (hdV hd) * (Obj o10 106 (ptV ⟨xp, xs, xd, xf, xk, xc, true, xi, xo, xb⟩) * (ObjX o11 102 * 1))) rfl rfl rfl ?_
          repeat (first | refine goQ ?_ | refine EG_done (by decide +kernel) ?_)
          repeat (first | refine goG ?_ | (refine goGX ?_; intro) | refine goGL ?_ | refine goGS ?_ | refine goGV ?_ | refine EG_done (by decide +kernel) ?_)
          repeat (first | refine go ?_ | (refine goX ?_; intro))
          refine EK_sink 8 (Obj o10 106 (ptV ⟨xp, xs, xd, xf, xk, xc, true, xi, xo, xb⟩) * (ObjX o11 102 * 1)) rfl rfl rfl ?_
          repeat (first | refine goQ ?_ | refine EG_done (by decide +kernel) ?_)
          repeat (first | refine goG ?_ | (refine goGX ?_; intro) | refine goGL ?_ | refine goGS ?_ | refine goGV ?_ | refine EG_done (by decide +kernel) ?_)
          by_cases g2 : hd.dst = cf.o.toNat
          · by_cases g3 : xi.src = cf.o.toNat
            · rw [if_neg (fun g => g.2.elim (fun g => g g2) (fun g => g g3))] at e0
              rw [whoE_ok e0, eW]
              dsimp only
              repeat (first | refine go ?_ | (refine goX ?_; intro))
              exact EK_ret (ER_cn (rs := [.cell 6 102, .tmp 7]) (v := .agg (flV (⟨xi.proto, xi.src, xs⟩)).toArray) (u := .int .i64 ((0 : Nat) : Int)) (vs := []) rfl ⟨⟨_, rfl, LoadsV.agg rfl⟩, rfl, trivial⟩ () rfl (Ent.sat (by first | exact Ent.refl _ | exact Ent.last | (repeat (first | refine Ent.cons ?_ | refine Ent.objX ?_ | refine Ent.rowX ?_ | exact Ent.any | exact Ent.last)))))
            · rw [if_pos ⟨rfl, Or.inr g3⟩] at e0
              rw [whoE_err e0 (by decide)]
              dsimp only
              repeat (first | refine go ?_ | (refine goX ?_; intro))
              exact EK_ret (ER_cn (rs := [.cell 6 102, .tmp 7]) (v := .agg (flV (fl0)).toArray) (u := .int .i64 ((7 : Nat) : Int)) (vs := []) rfl ⟨⟨_, rfl, LoadsV.agg rfl⟩, rfl, trivial⟩ () rfl (Ent.sat (by first | exact Ent.refl _ | exact Ent.last | (repeat (first | refine Ent.cons ?_ | refine Ent.objX ?_ | refine Ent.rowX ?_ | exact Ent.any | exact Ent.last)))))
          · rw [if_pos ⟨rfl, Or.inl g2⟩] at e0
            rw [whoE_err e0 (by decide)]
            repeat (first | refine go ?_ | (refine goX ?_; intro))
            exact EK_ret (ER_cn (rs := [.cell 6 102, .tmp 7]) (v := .agg (flV (fl0)).toArray) (u := .int .i64 ((7 : Nat) : Int)) (vs := []) rfl ⟨⟨_, rfl, LoadsV.agg rfl⟩, rfl, trivial⟩ () rfl (Ent.sat (by first | exact Ent.refl _ | exact Ent.last | (repeat (first | refine Ent.cons ?_ | refine Ent.objX ?_ | refine Ent.rowX ?_ | exact Ent.any | exact Ent.last)))))
        | false =>
          simp only [Bool.false_eq_true, if_false] at eW
          rw [eW] at e0
          dsimp only at e0
          repeat (first | refine go ?_ | (refine goX ?_; intro))
          rename_i o8 _ o10 o11
          refine EK_sink 7 (Obj o8 96 (hdV hd) * (Obj o10 106 (ptV ⟨xp, xs, xd, xf, xk, xc, false, xi, xo, xb⟩) * (ObjX o11 102 * 1))) rfl rfl rfl ?_
          repeat (first | refine goQ ?_ | refine EG_done (by decide +kernel) ?_)
          repeat (first | refine goG ?_ | (refine goGX ?_; intro) | refine goGL ?_ | refine goGS ?_ | refine goGV ?_ | refine EG_done (by decide +kernel) ?_)
          by_cases g2 : hd.dst = cf.o.toNat
          · rw [if_neg (fun g => g.2.elim (fun g => g g2) (fun g => g g2))] at e0
            rw [whoE_ok e0, eW]
            repeat (first | refine go ?_ | (refine goX ?_; intro))
            exact EK_ret (ER_cn (rs := [.cell 6 102, .tmp 7]) (v := .agg (flV (⟨hd.proto, hd.dst, xd⟩)).toArray) (u := .int .i64 ((0 : Nat) : Int)) (vs := []) rfl ⟨⟨_, rfl, LoadsV.agg rfl⟩, rfl, trivial⟩ () rfl (Ent.sat (by first | exact Ent.refl _ | exact Ent.last | (repeat (first | refine Ent.cons ?_ | refine Ent.objX ?_ | refine Ent.rowX ?_ | exact Ent.any | exact Ent.last)))))
          · rw [if_pos ⟨rfl, Or.inl g2⟩] at e0
            rw [whoE_err e0 (by decide)]
            repeat (first | refine go ?_ | (refine goX ?_; intro))
            exact EK_ret (ER_cn (rs := [.cell 6 102, .tmp 7]) (v := .agg (flV (fl0)).toArray) (u := .int .i64 ((7 : Nat) : Int)) (vs := []) rfl ⟨⟨_, rfl, LoadsV.agg rfl⟩, rfl, trivial⟩ () rfl (Ent.sat (by first | exact Ent.refl _ | exact Ent.last | (repeat (first | refine Ent.cons ?_ | refine Ent.objX ?_ | refine Ent.rowX ?_ | exact Ent.any | exact Ent.last)))))
    · have eR0 : ¬ readE l = 0 := by rw [eR]; exact g2
      rw [if_pos eR0] at e0
      rw [whoE_err e0 eR0, show partT (headH l) l = pt0 from if_neg g2, eR]
      repeat (first | refine go ?_ | (refine goX ?_; intro))
      exact EK_ret (ER_cn (rs := [.cell 6 102, .tmp 7]) (v := .agg (flV fl0).toArray) (u := .int .i64 (partE (headH l) l : Int)) (vs := []) rfl ⟨⟨_, rfl, LoadsV.agg rfl⟩, rfl, trivial⟩ () rfl (Ent.sat (by first | exact Ent.refl _ | exact Ent.last | (repeat (first | refine Ent.cons ?_ | refine Ent.objX ?_ | refine Ent.rowX ?_ | exact Ent.any | exact Ent.last)))))
  · have eR : readE l = headE false l := if_neg g1
    have eR0 : ¬ readE l = 0 := by rw [eR]; exact g1
    rw [if_pos eR0] at e0
    rw [whoE_err e0 eR0, headT_of (rfl : headE false l = _), if_neg g1, eR]
    repeat (first | refine go ?_ | (refine goX ?_; intro))
    exact EK_ret (ER_cn (rs := [.cell 6 102, .tmp 7]) (v := .agg (flV fl0).toArray) (u := .int .i64 (headE false l : Int)) (vs := []) rfl ⟨⟨_, rfl, LoadsV.agg rfl⟩, rfl, trivial⟩ () rfl (Ent.sat (by first | exact Ent.refl _ | exact Ent.last | (repeat (first | refine Ent.cons ?_ | refine Ent.objX ?_ | refine Ent.rowX ?_ | exact Ent.any | exact Ent.last)))))
end
end Go.Proofs.YtianbkbehjppoaaGreatDoor

namespace Go.Proofs.YtianbkbehjppoaaGreatDoor
open Go.RowKit
set_option maxRecDepth 10000
attribute [local irreducible] EK EX ER EN EL ES EG OpVal OpDoes OpSkip
variable {W : World} {F : SL} {X : Cx} {k : List KI} {σ : Env}
abbrev rnV (cf : Cfg) (q : Slab) (n : Nat) : List Value := [.int .i64 cf.w, .int .u32 cf.o, .int .i64 cf.lo, .int .i64 cf.hi, .int .i64 cf.b, .int .i64 cf.r, .slice q.1 n q.2]
abbrev RnO (n : Option Addr) (cf : Cfg) (q : Slab) (L : List BindT) (F : SL) : SL := Obj n 72 (rnV cf q L.length) * (RowC 110 6 q.1 L.length q.2 (bdR L) * F)
def RnC (n : Option Addr) (cf : Cfg) (L : List BindT) : SL := SL.ex fun q : Slab => Obj n 72 (rnV cf q L.length) * RowC 110 6 q.1 L.length q.2 (bdR L)
instance (priority := 2000) (n : Option Addr) (cf : Cfg) (L : List BindT) (F : SL) : AtP (RnC n cf L * F) n (RnC n cf L) F := ⟨rfl⟩
theorem RnC.open {n : Option Addr} {cf : Cfg} {L : List BindT} (h : ∀ q, EK X k σ (RnO n cf q L F)) : EK X k σ (RnC n cf L * F) := EK_ex fun q => by
  rw [SL.sep_assoc]
  exact h q
theorem RnC.shut {n : Option Addr} {cf : Cfg} {L : List BindT} {q : Slab} {F : SL} : Ent (RnO n cf q L F) (RnC n cf L * F) :=
  Ent.ex q (by rw [SL.sep_assoc]; exact Ent.refl _)
theorem RnC.shut' {n : Option Addr} {cf : Cfg} {L : List BindT} {q : Slab} {F H : SL} (h : Ent H (RnO n cf q L F)) : Ent H (RnC n cf L * F) := h.trans RnC.shut
instance (n : Option Addr) (cf : Cfg) (L : List BindT) : Root (RnC n cf L) n := ⟨fun W w F H => by
  obtain ⟨e, H⟩ := H.ex_out
  rw [SL.sep_assoc] at H
  exact (Obj.root n _ _).nn W w _ H⟩
theorem hasB_iff {L : List BindT} {proto : Nat} {port : Int} : hasB L proto port = true ↔ ∃ j, j < L.length ∧ (L.getD j bd0).flow.proto = proto ∧ ((L.getD j bd0).port : Int) = port := by
  unfold hasB
  rw [List.any_eq_true]
  constructor
  · rintro ⟨b, hb, e⟩
    obtain ⟨j, hj⟩ := List.getElem?_of_mem hb
    have e := of_decide_eq_true e
    have hg : L.getD j bd0 = b := by simp [hj]
    exact ⟨j, (List.getElem?_eq_some_iff.1 hj).1, by rw [hg]; exact e.1, by rw [hg]; exact e.2⟩
  · rintro ⟨j, hj, e1, e2⟩
    refine ⟨L.getD j bd0, ?_, decide_eq_true ⟨e1, e2⟩⟩
    rw [List.getD_eq_getElem?_getD, List.getElem?_eq_getElem hj]
    exact List.getElem_mem hj
theorem getD_mem {L : List BindT} {j : Nat} (hj : j < L.length) : L.getD j bd0 ∈ L := by
  rw [List.getD_eq_getElem?_getD, List.getElem?_eq_getElem hj]
  exact List.getElem_mem hj
theorem has_spec (n : Option Addr) (cf : Cfg) (q : Slab) (L : List BindT) (hl : L.length ≤ 3072) (proto : Nat) (port : Int) : Spec Tryz.prog 44 [.pointer n, .int .i64 (proto : Int), .int .i64 port] W (RnO n cf q L F) (fun _ : Unit => .bool (hasB L proto port)) (fun _ => RnO n cf q L F) := by
  refine Spec.of Tryz.func44 rfl Tryz.ntmps44 rfl ?_
  repeat (first | refine go ?_ | (refine goX ?_; intro))
  refine EK_loop (γ := Nat) (fun i => i ≤ L.length ∧ ∀ j, j < i → ¬ ((L.getD j bd0).flow.proto = proto ∧ ((L.getD j bd0).port : Int) = port)) (fun i => [(0, .pointer n), (1, .int .i64 (proto : Int)), (2, .int .i64 port), (7, .int .i64 (i : Int))])
    (fun _ => RnO n cf q L F) (fun i => L.length - i) 0 ⟨Nat.zero_le _, fun j hj => by omega⟩ ⟨rfl, rfl, rfl, rfl, trivial⟩ (Ent.sat (Ent.refl _)) ?_
  intro i ⟨h1, h2⟩; dsimp only at h1 h2 ⊢
  by_cases hi : i < L.length
  · haveI : Pos L.length := ⟨by omega⟩
    by_cases g1 : (L.getD i bd0).flow.proto = proto
    · by_cases g2 : ((L.getD i bd0).port : Int) = port
      · rw [hasB_iff.2 ⟨i, hi, g1, g2⟩]
        repeat (first | refine go ?_ | (refine goX ?_; intro))
        exact EK_ret (ER_1 rfl rfl () rfl (Ent.sat (Ent.refl _)))
      · repeat (first | refine go ?_ | (refine goX ?_; intro))
        exact EK_round (i + 1) ⟨by omega, fun j hj => by
          rcases Nat.lt_or_ge j i with g | g
          · exact h2 j g
          · obtain rfl : j = i := by omega
            exact fun e => g2 e.2⟩ (by omega) ⟨rfl, rfl, rfl, rfl, trivial⟩ (Ent.sat (Ent.refl _))
    · repeat (first | refine go ?_ | (refine goX ?_; intro))
      exact EK_round (i + 1) ⟨by omega, fun j hj => by
        rcases Nat.lt_or_ge j i with g | g
        · exact h2 j g
        · obtain rfl : j = i := by omega
          exact fun e => g1 e.1⟩ (by omega) ⟨rfl, rfl, rfl, rfl, trivial⟩ (Ent.sat (Ent.refl _))
  · have e : i = L.length := by omega
    subst e
    have : hasB L proto port = false := by
      cases hb : hasB L proto port with
      | false => rfl
      | true =>
        obtain ⟨j, hj, e⟩ := hasB_iff.1 hb
        exact absurd e (h2 j hj)
    rw [this]
    repeat (first | refine go ?_ | (refine goX ?_; intro))
    exact EK_ret (ER_1 rfl rfl () rfl (Ent.sat (Ent.refl _)))
theorem findIdx_all {L : List BindT} {f : BindT → Bool} (h : ∀ j, j < L.length → f (L.getD j bd0) = false) : L.findIdx? f = none := by
  rw [List.findIdx?_eq_none_iff]
  intro b hb
  obtain ⟨j, hj⟩ := List.getElem?_of_mem hb
  have := h j (List.getElem?_eq_some_iff.1 hj).1
  simpa [hj] using this
theorem findIdx_at {L : List BindT} {f : BindT → Bool} {i : Nat} (hi : i < L.length) (h : ∀ j, j < i → f (L.getD j bd0) = false) (h1 : f (L.getD i bd0) = true) : L.findIdx? f = some i := by
  rw [List.findIdx?_eq_some_iff_getElem]
  refine ⟨hi, ?_, fun j hj => ?_⟩
  · rw [List.getD_eq_getElem?_getD, List.getElem?_eq_getElem hi] at h1
    exact h1
  · have := h j hj
    rw [List.getD_eq_getElem?_getD, List.getElem?_eq_getElem (by omega)] at this
    have this : f L[j] = false := this
    rw [this]
    decide
theorem rExpire_spec (n : Option Addr) (cf : Cfg) (hf : cf.Fit) {L : List BindT} (hl : L.length ≤ 3072) (hN : NatOk cf L) (proto port tick : Int) (h1 : I64 proto) (h2 : I64 port) (h3 : I64 tick) :
    Spec Tryz.prog 24 [.pointer n, .int .i64 proto, .int .i64 port, .int .i64 tick] W (RnC n cf L * F) (fun _ : Unit => .bool (expT L proto port tick).2) (fun _ => RnC n cf (expT L proto port tick).1 * F) := by
  refine Spec.of Tryz.func24 rfl Tryz.ntmps24 rfl ?_
  refine RnC.open fun q => ?_
  unfold I64 at h3
  have key : ∀ i, expT L proto port tick = (L.eraseIdx i, true) ∨ True := fun _ => .inr trivial
  repeat (first | refine go ?_ | (refine goX ?_; intro))
  refine EK_loop (γ := Nat) (fun i => i ≤ L.length ∧ ∀ j, j < i → endsB proto port tick (L.getD j bd0) = false) (fun i => [(0, .pointer n), (1, .int .i64 proto), (2, .int .i64 port), (3, .int .i64 tick), (9, .int .i64 (i : Int))])
    (fun _ => RnO n cf q L F) (fun i => L.length - i) 0 ⟨Nat.zero_le _, fun j hj => by omega⟩ ⟨rfl, rfl, rfl, rfl, rfl, trivial⟩ (Ent.sat (Ent.refl _)) ?_
  intro i ⟨hi1, hi2⟩; dsimp only at hi1 hi2 ⊢
  by_cases hi : i < L.length
  · haveI : Pos L.length := ⟨by omega⟩
    obtain ⟨b, eb⟩ : ∃ b, L.getD i bd0 = b := ⟨_, rfl⟩
    have hbm : b ∈ L := by rw [← eb]; exact getD_mem hi
    have okb := hN.ok b hbm
    have oks := okb.seen
    have okl : lifeT b.flow.proto b.track ≤ 7440 := lifeT_le _ _
    repeat (first | refine go ?_ | (refine goX ?_; intro))
    rename_i y
    rw [eb]
    have snoc : endsB proto port tick b = false → ∀ j, j < i + 1 → endsB proto port tick (L.getD j bd0) = false := fun h j hj => by
      rcases Nat.lt_or_ge j i with g | g
      · exact hi2 j g
      · obtain rfl : j = i := by omega
        rw [eb]
        exact h
    by_cases g1 : (b.flow.proto : Int) = proto
    · by_cases g2 : (b.port : Int) = port
      · by_cases g3 : tick < 0
        · refine EK_sink 99 (Obj y 110 (bdV b) * 1) rfl rfl rfl ?_
          repeat (first | refine goQ ?_ | refine EG_done (by decide +kernel) ?_)
          repeat (first | refine go ?_ | (refine goX ?_; intro))
          exact EK_round (i + 1) ⟨by omega, snoc (by unfold endsB; exact decide_eq_false (fun e => by omega))⟩ (by omega) ⟨rfl, rfl, rfl, rfl, rfl, trivial⟩ (Ent.sat (by first | exact Ent.refl _ | exact Ent.last | (repeat (first | refine Ent.cons ?_ | refine Ent.objX ?_ | refine Ent.rowX ?_ | exact Ent.any | exact Ent.last))))
        · by_cases g4 : tick > 4294967295
          · refine EK_sink 99 (Obj y 110 (bdV b) * 1) rfl rfl rfl ?_
            repeat (first | refine goQ ?_ | refine EG_done (by decide +kernel) ?_)
            repeat (first | refine go ?_ | (refine goX ?_; intro))
            exact EK_round (i + 1) ⟨by omega, snoc (by unfold endsB; exact decide_eq_false (fun e => by omega))⟩ (by omega) ⟨rfl, rfl, rfl, rfl, rfl, trivial⟩ (Ent.sat (by first | exact Ent.refl _ | exact Ent.last | (repeat (first | refine Ent.cons ?_ | refine Ent.objX ?_ | refine Ent.rowX ?_ | exact Ent.any | exact Ent.last))))
          · subst g1
            subst g2
            refine EK_sink 99 (Obj y 110 (bdV b) * 1) rfl rfl rfl ?_
            repeat (first | refine goQ ?_ | refine EG_done (by decide +kernel) ?_)
            refine EG_callQ rfl rfl rfl rfl rfl (rLife_spec b.flow.proto b.track okb.proto okb.track) (fun _ => by first | exact Ent.refl _ | exact Ent.last | (repeat (first | refine Ent.cons ?_ | refine Ent.objX ?_ | refine Ent.rowX ?_ | exact Ent.any | exact Ent.last))) ?_
            intro _
            obtain ⟨lf, elf⟩ : ∃ lf, lifeT b.flow.proto b.track = lf := ⟨_, rfl⟩
            rw [elf] at okl ⊢
            by_cases g5 : ((b.seen + lf : Nat) : Int) ≤ tick
            · have eE : expT L b.flow.proto b.port tick = (L.eraseIdx i, true) := by
                unfold expT
                rw [findIdx_at hi hi2 (by rw [eb]; unfold endsB; rw [elf]; exact decide_eq_true ⟨rfl, rfl, by omega, by omega, g5⟩)]
              rw [eE]
              repeat (first | refine goQ ?_ | refine EG_done (by decide +kernel) ?_)
              repeat (first | refine go ?_ | (refine goX ?_; intro))
              refine EK_sink 19 (Obj n 72 (rnV cf q L.length) * (RowC 110 6 q.1 L.length q.2 (bdR L) * 1)) rfl rfl rfl ?_
              repeat (first | refine goQ ?_ | refine EG_done (by decide +kernel) ?_)
              repeat (first | refine goG ?_ | (refine goGX ?_; intro) | refine goGL ?_ | refine goGS ?_ | refine goGV ?_ | refine EG_done (by decide +kernel) ?_)
              have e1 : (bdR L).take (i * 6) = bdR (L.take i) := fm_take 6 bdV (fun _ => rfl) L i
              have e2 : (bdR L).drop ((i + 1) * 6) = bdR (L.drop (i + 1)) := fm_drop 6 bdV (fun _ => rfl) L (i + 1)
              have hwl : (L.eraseIdx i).length = 0 + i + (L.length - (i + 1)) := by rw [List.length_eraseIdx, if_pos hi]; omega
              refine EG_does rfl rfl rfl (OpDoes_append rfl rfl rfl (r2 := Src.hi inferInstance 6 i (by omega)) (h1 := by rw [e1]; infer_instance) (by rw [e1, bdR_len, List.length_take]; omega) (by omega) (by decide)) (by decide +kernel) rfl (fun _ => by first | exact Ent.refl _ | exact Ent.last | (repeat (first | refine Ent.cons ?_ | refine Ent.objX ?_ | refine Ent.rowX ?_ | exact Ent.any | exact Ent.last))) ?_
              intro o1
              refine EG_does rfl rfl rfl (OpDoes_append rfl rfl rfl (r2 := Src.lo inferInstance (i + 1) (by omega)) (h1 := by rw [e2]; infer_instance) (by rw [e2, bdR_len, List.length_drop]) (by omega) (by decide)) (by decide +kernel) rfl (fun _ => by first | exact Ent.refl _ | exact Ent.last | (repeat (first | refine Ent.cons ?_ | refine Ent.objX ?_ | refine Ent.rowX ?_ | exact Ent.any | exact Ent.last))) ?_
              intro o2
              repeat (first | refine goQ ?_ | refine EG_done (by decide +kernel) ?_)
              repeat (first | refine goG ?_ | (refine goGX ?_; intro) | refine goGL ?_ | refine goGS ?_ | refine goGV ?_ | refine EG_done (by decide +kernel) ?_)
              repeat (first | refine go ?_ | (refine goX ?_; intro))
              rw [e1, e2, ← hwl, show [] ++ bdR (L.take i) ++ bdR (L.drop (i + 1)) = bdR (L.eraseIdx i) by rw [List.eraseIdx_eq_take_drop_succ]; simp [bdR]]
              exact EK_ret (ER_1 rfl rfl () rfl (Ent.sat (RnC.shut' (q := o2) (by first | exact Ent.refl _ | exact Ent.last | (repeat (first | refine Ent.cons ?_ | refine Ent.objX ?_ | refine Ent.rowX ?_ | exact Ent.any | exact Ent.last))))))
            · repeat (first | refine goQ ?_ | refine EG_done (by decide +kernel) ?_)
              repeat (first | refine go ?_ | (refine goX ?_; intro))
              exact EK_round (i + 1) ⟨by omega, snoc (by unfold endsB; exact decide_eq_false (fun e => by omega))⟩ (by omega) ⟨rfl, rfl, rfl, rfl, rfl, trivial⟩ (Ent.sat (by first | exact Ent.refl _ | exact Ent.last | (repeat (first | refine Ent.cons ?_ | refine Ent.objX ?_ | refine Ent.rowX ?_ | exact Ent.any | exact Ent.last))))
      · refine EK_sink 99 (Obj y 110 (bdV b) * 1) rfl rfl rfl ?_
        repeat (first | refine goQ ?_ | refine EG_done (by decide +kernel) ?_)
        repeat (first | refine go ?_ | (refine goX ?_; intro))
        exact EK_round (i + 1) ⟨by omega, snoc (by unfold endsB; exact decide_eq_false (fun e => by omega))⟩ (by omega) ⟨rfl, rfl, rfl, rfl, rfl, trivial⟩ (Ent.sat (by first | exact Ent.refl _ | exact Ent.last | (repeat (first | refine Ent.cons ?_ | refine Ent.objX ?_ | refine Ent.rowX ?_ | exact Ent.any | exact Ent.last))))
    · refine EK_sink 99 (Obj y 110 (bdV b) * 1) rfl rfl rfl ?_
      repeat (first | refine goQ ?_ | refine EG_done (by decide +kernel) ?_)
      repeat (first | refine go ?_ | (refine goX ?_; intro))
      exact EK_round (i + 1) ⟨by omega, snoc (by unfold endsB; exact decide_eq_false (fun e => by omega))⟩ (by omega) ⟨rfl, rfl, rfl, rfl, rfl, trivial⟩ (Ent.sat (by first | exact Ent.refl _ | exact Ent.last | (repeat (first | refine Ent.cons ?_ | refine Ent.objX ?_ | refine Ent.rowX ?_ | exact Ent.any | exact Ent.last))))
  · have e : i = L.length := by omega
    subst e
    have : expT L proto port tick = (L, false) := by
      unfold expT
      rw [findIdx_all hi2]
    rw [this]
    repeat (first | refine go ?_ | (refine goX ?_; intro))
    exact EK_ret (ER_1 rfl rfl () rfl (Ent.sat RnC.shut))
end Go.Proofs.YtianbkbehjppoaaGreatDoor

namespace Go.Proofs.YtianbkbehjppoaaGreatDoor
open Go.RowKit
set_option maxRecDepth 10000
attribute [local irreducible] EK EX ER EN EL ES EG OpVal OpDoes OpSkip
variable {W : World} {F : SL} {X : Cx} {k : List KI} {σ : Env}
attribute [local simp] bytesR_len
section
variable {q : Slab} {l : List UInt8}
theorem rOf_row (hs : Nat) (h : hs ≤ l.length) (hl : l.length ≤ 100000) : Spec Tryz.prog 60 [.slice (dropP q.1 hs q.2 1) (l.length - hs) (q.2 - hs)] W (RwO q l F) (fun _ : Unit => .int .u16 (csum (l.drop hs) : Int)) (fun _ => RwO q l F) := by
  have s : Src W (RwO q l F) q.1 l.length (bytesR l) := inferInstance
  have r : Room W (RwO q l F) q.1 l.length q.2 := inferInstance
  haveI := Src.low s r h
  have := rOf_spec (W := W) (F := RwO q l F) (dropP q.1 hs q.2 1) (q.2 - hs) (l.drop hs) (by rw [List.length_drop]; omega)
  rwa [List.length_drop] at this
set_option maxHeartbeats 4000000 in
theorem Rewrite_spec {p : Option Addr} {c : Nat} (out : Bool) (hl : l.length ≤ 140737488355328) [s : Src W F p l.length (bytesR l)] [r : Room W F p l.length c] (addr port : Nat) (ha : addr < 4294967296) (hp : port < 65536) : Spec Tryz.prog 41 [.slice p l.length c, .bool out, .int .u32 (addr : Int), .int .u16 (port : Int)] W F (fun z : Slab => rwV z (rwT l out addr port) (readE l)) (fun z => RwO z (rwT l out addr port) F) := by
  refine Spec.of Tryz.func41 rfl Tryz.ntmps41 rfl ?_
  unfold rwT readE
  repeat (first | refine go ?_ | (refine goX ?_; intro))
  refine EL_call rfl (r2Get_spec false hl) ?_
  intro _
  by_cases g1 : headE false l = 0
  · have g0 := HdOk.of g1
    rw [headT_of g1, g1, if_pos rfl, if_pos rfl]
    obtain ⟨hd, f0⟩ : ∃ x, headH l = x := ⟨_, rfl⟩
    rw [f0] at g0 ⊢
    obtain ⟨h1, h2, h3, h4, h5, h6, h7, h8⟩ := id g0
    repeat (first | refine go ?_ | (refine goX ?_; intro))
    rename_i x10
    refine EL_call rfl (r3Get_spec hd g0) ?_
    intro _
    by_cases g2 : partE hd l = 0
    · have k0 := PtOk.of g0 g2
      have k1 := k0.room
      have k2 := k0.plain
      have k3 := k0.inner
      rw [show partT hd l = partP hd l from if_pos g2, g2, if_pos rfl]
      obtain ⟨x, f1⟩ : ∃ x, partP hd l = x := ⟨_, rfl⟩
      rw [f1] at k2 k3 ⊢
      obtain ⟨xp, xs, xd, xf, xk, xc, xe, xi, xo, xb⟩ := x
      dsimp only at k2 k3
      have hlen : (l.take hd.len).length = hd.len := by rw [List.length_take, Nat.min_eq_left h4]
      have sp0 : ∀ (Q : SL) (_ : Src W Q p l.length (bytesR l)), Src W Q p hd.len (bytesR (l.take hd.len)) := fun Q i => by
        have := Src.pre i h4
        rwa [hlen] at this
      repeat (first | refine go ?_ | (refine goX ?_; intro))
      haveI s5 := sp0 F s
      refine EL_does (OpDoes_append rfl rfl rfl (by rw [bytesR_len, hlen, Nat.mul_one]) (by omega) (by decide)) rfl ?_
      intro z
      clear s5
      cases out with
      | true =>
        have eA : adPl true = 12 := rfl
        have eB : adPl (!true) = 16 := rfl
        rw [show rwB hd ⟨xp, xs, xd, xf, xk, xc, xe, xi, xo, xb⟩ l true addr port = (if xe then inB (adT (l.take hd.len) 0 12 addr) hd.size xo xi.size xi.proto true addr port else bodyT (adT (l.take hd.len) 0 12 addr) hd.size hd.proto true port (w4 (l.take hd.len) 12) addr) from rfl]
        obtain ⟨b, hb⟩ : ∃ b, l.take hd.len = b := ⟨_, rfl⟩
        rw [hb] at hlen ⊢
        rw [Nat.zero_add, List.nil_append, ← hlen]
        have hw := w4_lt b 12
        repeat (first | refine go ?_ | (refine goX ?_; intro))
        refine EL_call rfl (raddr_spec (q := z) 0 12 addr (by omega) (by omega) (by decide) (by decide) ha) ?_
        intro _
        obtain ⟨b2, e2⟩ : ∃ y, adT b 0 12 addr = y := ⟨_, rfl⟩
        have n2 : b2.length = b.length := by rw [← e2, adT_len]
        rw [e2]
        obtain ⟨od, eo⟩ : ∃ y, w4 b 12 = y := ⟨_, rfl⟩
        rw [eo] at hw ⊢
        rw [← n2]
        simp only [RwO]
        cases xe with
        | false =>
          obtain ⟨m1, m2⟩ := k2 rfl
          rw [if_neg (by decide)]
          by_cases g4 : hd.proto = 1
          · rw [show bodyT b2 hd.size hd.proto true port od addr = echoT b2 hd.size port from if_pos g4]
            repeat (first | refine go ?_ | (refine goX ?_; intro))
            refine EL_call rfl (Spec.at1 z.1 (recho_spec (q := z) hd.size port (by omega) (by omega) hp)) ?_
            intro _
            have n3 : (echoT b2 hd.size port).length = b2.length := echoT_len _ _ _
            rw [← n3]
            simp only [RwO]
            repeat (first | refine go ?_ | (refine goX ?_; intro))
            exact EK_ret (ER_2 rfl rfl rfl z rfl (Ent.sat (by first | exact Ent.refl _ | exact Ent.last | (repeat (first | refine Ent.cons ?_ | refine Ent.objX ?_ | refine Ent.rowX ?_ | exact Ent.any | exact Ent.last)))))
          · rw [show bodyT b2 hd.size hd.proto true port od addr = carT b2 hd.size hd.proto true port od addr from if_neg g4]
            repeat (first | refine go ?_ | (refine goX ?_; intro))
            refine EL_call rfl (Spec.at1 z.1 (rcar_spec (q := z) hd.size hd.proto port od addr true (by omega) (by omega) hp hw ha (by omega))) ?_
            intro _
            have n3 : (carT b2 hd.size hd.proto true port od addr).length = b2.length := carT_len _ _ _ _ _ _ _
            rw [← n3]
            simp only [RwO]
            repeat (first | refine go ?_ | (refine goX ?_; intro))
            exact EK_ret (ER_2 rfl rfl rfl z rfl (Ent.sat (by first | exact Ent.refl _ | exact Ent.last | (repeat (first | refine Ent.cons ?_ | refine Ent.objX ?_ | refine Ent.rowX ?_ | exact Ent.any | exact Ent.last)))))
        | true =>
          obtain ⟨m1, m2, m3, m4, m5⟩ := k3 rfl
          rw [if_pos rfl]
          repeat (first | refine go ?_ | (refine goX ?_; intro))
          rw [show (xo : Int) + 28 - 12 = ((xo + 16 : Nat) : Int) by omega]
          have hw2 := w4_lt b2 (xo + 16)
          refine EL_call rfl (Spec.at1 z.1 (raddr_spec (q := z) xo (xo + 16) addr (by omega) (by omega) (by omega) (by omega) ha)) ?_
          intro _
          unfold inB
          dsimp only
          rw [eB]
          obtain ⟨l2, e5⟩ : ∃ y, adT b2 xo (xo + 16) addr = y := ⟨_, rfl⟩
          have n6 : l2.length = b2.length := by rw [← e5, adT_len]
          rw [e5]
          obtain ⟨od2, eo2⟩ : ∃ y, w4 b2 (xo + 16) = y := ⟨_, rfl⟩
          rw [eo2] at hw2 ⊢
          rw [← n6]
          simp only [RwO]
          by_cases g5 : xi.proto = 1
          · rw [show bodyT l2 (xo + xi.size) xi.proto (!true) port od2 addr = echoT l2 (xo + xi.size) port from if_pos g5]
            repeat (first | refine go ?_ | (refine goX ?_; intro))
            refine EL_call rfl (Spec.at1 z.1 (recho_spec (q := z) (xo + xi.size) port (by omega) (by omega) hp)) ?_
            intro _
            have n3 : (echoT l2 (xo + xi.size) port).length = l2.length := echoT_len _ _ _
            obtain ⟨l3, e3⟩ : ∃ y, echoT l2 (xo + xi.size) port = y := ⟨_, rfl⟩
            rw [e3] at n3 ⊢
            rw [← n3]
            simp only [RwO]
            repeat (first | refine go ?_ | (refine goX ?_; intro))
            refine EL_call rfl (Spec.at1 z.1 (rset_spec (q := z) (hd.size + 2) 0 (by omega) (by omega))) ?_
            intro _
            have n4 : (st2 l3 (hd.size + 2) 0).length = l3.length := st2_len _ _ _
            obtain ⟨l4, e4⟩ : ∃ y, st2 l3 (hd.size + 2) 0 = y := ⟨_, rfl⟩
            rw [e4] at n4 ⊢
            rw [← n4]
            simp only [RwO]
            have hc := csum_lt (l4.drop hd.size)
            repeat (first | refine go ?_ | (refine goX ?_; intro))
            refine EK_sink 9 (RowC 5 1 z.1 l4.length z.2 (bytesR l4) * (Obj x10 96 [.int .i64 (hd.size : Int), .int .i64 (l4.length : Int), .int .i64 (hd.ttl : Int), .int .i64 (hd.proto : Int), .int .u32 (hd.src : Int), .int .u32 (hd.dst : Int)] * 1)) rfl rfl rfl ?_
            repeat (first | refine goQ ?_ | refine EG_done (by decide +kernel) ?_)
            refine EG_callQ rfl rfl rfl rfl rfl (Spec.at1 z.1 (rOf_row (q := z) hd.size (by omega) (by omega))) (fun _ => by simp only [RwO]; first | exact Ent.refl _ | exact Ent.last | (repeat (first | refine Ent.cons ?_ | refine Ent.objX ?_ | refine Ent.rowX ?_ | exact Ent.any | exact Ent.last))) ?_
            intro _
            simp only [RwO]
            repeat (first | refine goQ ?_ | refine EG_done (by decide +kernel) ?_)
            have n5 : (st2 l4 (hd.size + 2) (csum (l4.drop hd.size))).length = l4.length := st2_len _ _ _
            refine EG_callL rfl rfl rfl rfl (Spec.at1 z.1 (rset_spec (q := z) (hd.size + 2) _ (by omega) (by omega))) ?_
            intro _
            simp only [RwO]
            repeat (first | refine goQ ?_ | refine EG_done (by decide +kernel) ?_)
            rw [← n5]
            repeat (first | refine go ?_ | (refine goX ?_; intro))
            exact EK_ret (ER_2 rfl rfl rfl z rfl (Ent.sat (by first | exact Ent.refl _ | exact Ent.last | (repeat (first | refine Ent.cons ?_ | refine Ent.objX ?_ | refine Ent.rowX ?_ | exact Ent.any | exact Ent.last)))))
          · rw [show bodyT l2 (xo + xi.size) xi.proto (!true) port od2 addr = carT l2 (xo + xi.size) xi.proto false port od2 addr from if_neg g5]
            repeat (first | refine go ?_ | (refine goX ?_; intro))
            refine EL_call rfl (Spec.at1 z.1 (rcar_spec (q := z) (xo + xi.size) xi.proto port od2 addr false (by omega) (by omega) hp hw2 ha (by omega))) ?_
            intro _
            have n3 : (carT l2 (xo + xi.size) xi.proto false port od2 addr).length = l2.length := carT_len _ _ _ _ _ _ _
            obtain ⟨l3, e3⟩ : ∃ y, carT l2 (xo + xi.size) xi.proto false port od2 addr = y := ⟨_, rfl⟩
            rw [e3] at n3 ⊢
            rw [← n3]
            simp only [RwO]
            repeat (first | refine go ?_ | (refine goX ?_; intro))
            refine EL_call rfl (Spec.at1 z.1 (rset_spec (q := z) (hd.size + 2) 0 (by omega) (by omega))) ?_
            intro _
            have n4 : (st2 l3 (hd.size + 2) 0).length = l3.length := st2_len _ _ _
            obtain ⟨l4, e4⟩ : ∃ y, st2 l3 (hd.size + 2) 0 = y := ⟨_, rfl⟩
            rw [e4] at n4 ⊢
            rw [← n4]
            simp only [RwO]
            have hc := csum_lt (l4.drop hd.size)
            repeat (first | refine go ?_ | (refine goX ?_; intro))
            refine EK_sink 9 (RowC 5 1 z.1 l4.length z.2 (bytesR l4) * (Obj x10 96 [.int .i64 (hd.size : Int), .int .i64 (l4.length : Int), .int .i64 (hd.ttl : Int), .int .i64 (hd.proto : Int), .int .u32 (hd.src : Int), .int .u32 (hd.dst : Int)] * 1)) rfl rfl rfl ?_
            repeat (first | refine goQ ?_ | refine EG_done (by decide +kernel) ?_)
            refine EG_callQ rfl rfl rfl rfl rfl (Spec.at1 z.1 (rOf_row (q := z) hd.size (by omega) (by omega))) (fun _ => by simp only [RwO]; first | exact Ent.refl _ | exact Ent.last | (repeat (first | refine Ent.cons ?_ | refine Ent.objX ?_ | refine Ent.rowX ?_ | exact Ent.any | exact Ent.last))) ?_
            intro _
            simp only [RwO]
            repeat (first | refine goQ ?_ | refine EG_done (by decide +kernel) ?_)
            have n5 : (st2 l4 (hd.size + 2) (csum (l4.drop hd.size))).length = l4.length := st2_len _ _ _
            refine EG_callL rfl rfl rfl rfl (Spec.at1 z.1 (rset_spec (q := z) (hd.size + 2) _ (by omega) (by omega))) ?_
            intro _
            simp only [RwO]
            repeat (first | refine goQ ?_ | refine EG_done (by decide +kernel) ?_)
            rw [← n5]
            repeat (first | refine go ?_ | (refine goX ?_; intro))
            exact EK_ret (ER_2 rfl rfl rfl z rfl (Ent.sat (by first | exact Ent.refl _ | exact Ent.last | (repeat (first | refine Ent.cons ?_ | refine Ent.objX ?_ | refine Ent.rowX ?_ | exact Ent.any | exact Ent.last)))))
      | false =>
        have eA : adPl false = 16 := rfl
        have eB : adPl (!false) = 12 := rfl
        rw [show rwB hd ⟨xp, xs, xd, xf, xk, xc, xe, xi, xo, xb⟩ l false addr port = (if xe then inB (adT (l.take hd.len) 0 16 addr) hd.size xo xi.size xi.proto false addr port else bodyT (adT (l.take hd.len) 0 16 addr) hd.size hd.proto false port (w4 (l.take hd.len) 16) addr) from rfl]
        obtain ⟨b, hb⟩ : ∃ b, l.take hd.len = b := ⟨_, rfl⟩
        rw [hb] at hlen ⊢
        rw [Nat.zero_add, List.nil_append, ← hlen]
        have hw := w4_lt b 16
        repeat (first | refine go ?_ | (refine goX ?_; intro))
        refine EL_call rfl (raddr_spec (q := z) 0 16 addr (by omega) (by omega) (by decide) (by decide) ha) ?_
        intro _
        obtain ⟨b2, e2⟩ : ∃ y, adT b 0 16 addr = y := ⟨_, rfl⟩
        have n2 : b2.length = b.length := by rw [← e2, adT_len]
        rw [e2]
        obtain ⟨od, eo⟩ : ∃ y, w4 b 16 = y := ⟨_, rfl⟩
        rw [eo] at hw ⊢
        rw [← n2]
        simp only [RwO]
        cases xe with
        | false =>
          obtain ⟨m1, m2⟩ := k2 rfl
          rw [if_neg (by decide)]
          by_cases g4 : hd.proto = 1
          · rw [show bodyT b2 hd.size hd.proto false port od addr = echoT b2 hd.size port from if_pos g4]
            repeat (first | refine go ?_ | (refine goX ?_; intro))
            refine EL_call rfl (Spec.at1 z.1 (recho_spec (q := z) hd.size port (by omega) (by omega) hp)) ?_
            intro _
            have n3 : (echoT b2 hd.size port).length = b2.length := echoT_len _ _ _
            rw [← n3]
            simp only [RwO]
            repeat (first | refine go ?_ | (refine goX ?_; intro))
            exact EK_ret (ER_2 rfl rfl rfl z rfl (Ent.sat (by first | exact Ent.refl _ | exact Ent.last | (repeat (first | refine Ent.cons ?_ | refine Ent.objX ?_ | refine Ent.rowX ?_ | exact Ent.any | exact Ent.last)))))
          · rw [show bodyT b2 hd.size hd.proto false port od addr = carT b2 hd.size hd.proto false port od addr from if_neg g4]
            repeat (first | refine go ?_ | (refine goX ?_; intro))
            refine EL_call rfl (Spec.at1 z.1 (rcar_spec (q := z) hd.size hd.proto port od addr false (by omega) (by omega) hp hw ha (by omega))) ?_
            intro _
            have n3 : (carT b2 hd.size hd.proto false port od addr).length = b2.length := carT_len _ _ _ _ _ _ _
            rw [← n3]
            simp only [RwO]
            repeat (first | refine go ?_ | (refine goX ?_; intro))
            exact EK_ret (ER_2 rfl rfl rfl z rfl (Ent.sat (by first | exact Ent.refl _ | exact Ent.last | (repeat (first | refine Ent.cons ?_ | refine Ent.objX ?_ | refine Ent.rowX ?_ | exact Ent.any | exact Ent.last)))))
        | true =>
          obtain ⟨m1, m2, m3, m4, m5⟩ := k3 rfl
          rw [if_pos rfl]
          repeat (first | refine go ?_ | (refine goX ?_; intro))
          rw [show (xo : Int) + 28 - 16 = ((xo + 12 : Nat) : Int) by omega]
          have hw2 := w4_lt b2 (xo + 12)
          refine EL_call rfl (Spec.at1 z.1 (raddr_spec (q := z) xo (xo + 12) addr (by omega) (by omega) (by omega) (by omega) ha)) ?_
          intro _
          unfold inB
          dsimp only
          rw [eB]
          obtain ⟨l2, e5⟩ : ∃ y, adT b2 xo (xo + 12) addr = y := ⟨_, rfl⟩
          have n6 : l2.length = b2.length := by rw [← e5, adT_len]
          rw [e5]
          obtain ⟨od2, eo2⟩ : ∃ y, w4 b2 (xo + 12) = y := ⟨_, rfl⟩
          rw [eo2] at hw2 ⊢
          rw [← n6]
          simp only [RwO]
          by_cases g5 : xi.proto = 1
          · rw [show bodyT l2 (xo + xi.size) xi.proto (!false) port od2 addr = echoT l2 (xo + xi.size) port from if_pos g5]
            repeat (first | refine go ?_ | (refine goX ?_; intro))
            refine EL_call rfl (Spec.at1 z.1 (recho_spec (q := z) (xo + xi.size) port (by omega) (by omega) hp)) ?_
            intro _
            have n3 : (echoT l2 (xo + xi.size) port).length = l2.length := echoT_len _ _ _
            obtain ⟨l3, e3⟩ : ∃ y, echoT l2 (xo + xi.size) port = y := ⟨_, rfl⟩
            rw [e3] at n3 ⊢
            rw [← n3]
            simp only [RwO]
            repeat (first | refine go ?_ | (refine goX ?_; intro))
            refine EL_call rfl (Spec.at1 z.1 (rset_spec (q := z) (hd.size + 2) 0 (by omega) (by omega))) ?_
            intro _
            have n4 : (st2 l3 (hd.size + 2) 0).length = l3.length := st2_len _ _ _
            obtain ⟨l4, e4⟩ : ∃ y, st2 l3 (hd.size + 2) 0 = y := ⟨_, rfl⟩
            rw [e4] at n4 ⊢
            rw [← n4]
            simp only [RwO]
            have hc := csum_lt (l4.drop hd.size)
            repeat (first | refine go ?_ | (refine goX ?_; intro))
            refine EK_sink 9 (RowC 5 1 z.1 l4.length z.2 (bytesR l4) * (Obj x10 96 [.int .i64 (hd.size : Int), .int .i64 (l4.length : Int), .int .i64 (hd.ttl : Int), .int .i64 (hd.proto : Int), .int .u32 (hd.src : Int), .int .u32 (hd.dst : Int)] * 1)) rfl rfl rfl ?_
            repeat (first | refine goQ ?_ | refine EG_done (by decide +kernel) ?_)
            refine EG_callQ rfl rfl rfl rfl rfl (Spec.at1 z.1 (rOf_row (q := z) hd.size (by omega) (by omega))) (fun _ => by simp only [RwO]; first | exact Ent.refl _ | exact Ent.last | (repeat (first | refine Ent.cons ?_ | refine Ent.objX ?_ | refine Ent.rowX ?_ | exact Ent.any | exact Ent.last))) ?_
            intro _
            simp only [RwO]
            repeat (first | refine goQ ?_ | refine EG_done (by decide +kernel) ?_)
            have n5 : (st2 l4 (hd.size + 2) (csum (l4.drop hd.size))).length = l4.length := st2_len _ _ _
            refine EG_callL rfl rfl rfl rfl (Spec.at1 z.1 (rset_spec (q := z) (hd.size + 2) _ (by omega) (by omega))) ?_
            intro _
            simp only [RwO]
            repeat (first | refine goQ ?_ | refine EG_done (by decide +kernel) ?_)
            rw [← n5]
            repeat (first | refine go ?_ | (refine goX ?_; intro))
            exact EK_ret (ER_2 rfl rfl rfl z rfl (Ent.sat (by first | exact Ent.refl _ | exact Ent.last | (repeat (first | refine Ent.cons ?_ | refine Ent.objX ?_ | refine Ent.rowX ?_ | exact Ent.any | exact Ent.last)))))
          · rw [show bodyT l2 (xo + xi.size) xi.proto (!false) port od2 addr = carT l2 (xo + xi.size) xi.proto true port od2 addr from if_neg g5]
            repeat (first | refine go ?_ | (refine goX ?_; intro))
            refine EL_call rfl (Spec.at1 z.1 (rcar_spec (q := z) (xo + xi.size) xi.proto port od2 addr true (by omega) (by omega) hp hw2 ha (by omega))) ?_
            intro _
            have n3 : (carT l2 (xo + xi.size) xi.proto true port od2 addr).length = l2.length := carT_len _ _ _ _ _ _ _
            obtain ⟨l3, e3⟩ : ∃ y, carT l2 (xo + xi.size) xi.proto true port od2 addr = y := ⟨_, rfl⟩
            rw [e3] at n3 ⊢
            rw [← n3]
            simp only [RwO]
            repeat (first | refine go ?_ | (refine goX ?_; intro))
            refine EL_call rfl (Spec.at1 z.1 (rset_spec (q := z) (hd.size + 2) 0 (by omega) (by omega))) ?_
            intro _
            have n4 : (st2 l3 (hd.size + 2) 0).length = l3.length := st2_len _ _ _
            obtain ⟨l4, e4⟩ : ∃ y, st2 l3 (hd.size + 2) 0 = y := ⟨_, rfl⟩
            rw [e4] at n4 ⊢
            rw [← n4]
            simp only [RwO]
            have hc := csum_lt (l4.drop hd.size)
            repeat (first | refine go ?_ | (refine goX ?_; intro))
            refine EK_sink 9 (RowC 5 1 z.1 l4.length z.2 (bytesR l4) * (Obj x10 96 [.int .i64 (hd.size : Int), .int .i64 (l4.length : Int), .int .i64 (hd.ttl : Int), .int .i64 (hd.proto : Int), .int .u32 (hd.src : Int), .int .u32 (hd.dst : Int)] * 1)) rfl rfl rfl ?_
            repeat (first | refine goQ ?_ | refine EG_done (by decide +kernel) ?_)
            refine EG_callQ rfl rfl rfl rfl rfl (Spec.at1 z.1 (rOf_row (q := z) hd.size (by omega) (by omega))) (fun _ => by simp only [RwO]; first | exact Ent.refl _ | exact Ent.last | (repeat (first | refine Ent.cons ?_ | refine Ent.objX ?_ | refine Ent.rowX ?_ | exact Ent.any | exact Ent.last))) ?_
            intro _
            simp only [RwO]
            repeat (first | refine goQ ?_ | refine EG_done (by decide +kernel) ?_)
            have n5 : (st2 l4 (hd.size + 2) (csum (l4.drop hd.size))).length = l4.length := st2_len _ _ _
            refine EG_callL rfl rfl rfl rfl (Spec.at1 z.1 (rset_spec (q := z) (hd.size + 2) _ (by omega) (by omega))) ?_
            intro _
            simp only [RwO]
            repeat (first | refine goQ ?_ | refine EG_done (by decide +kernel) ?_)
            rw [← n5]
            repeat (first | refine go ?_ | (refine goX ?_; intro))
            exact EK_ret (ER_2 rfl rfl rfl z rfl (Ent.sat (by first | exact Ent.refl _ | exact Ent.last | (repeat (first | refine Ent.cons ?_ | refine Ent.objX ?_ | refine Ent.rowX ?_ | exact Ent.any | exact Ent.last)))))
    · rw [show partT hd l = pt0 from if_neg g2, if_neg g2]
      repeat (first | refine go ?_ | (refine goX ?_; intro))
      exact EK_ret (ER_2 rfl rfl rfl (none, 0) rfl (Ent.sat (Ent.none (by first | exact Ent.refl _ | exact Ent.last | (repeat (first | refine Ent.cons ?_ | refine Ent.objX ?_ | refine Ent.rowX ?_ | exact Ent.any | exact Ent.last))))))
  · rw [headT_of (rfl : headE false l = _), if_neg g1, if_neg g1, if_neg g1]
    repeat (first | refine go ?_ | (refine goX ?_; intro))
    exact EK_ret (ER_2 rfl rfl rfl (none, 0) rfl (Ent.sat (Ent.none (by first | exact Ent.refl _ | exact Ent.last | (repeat (first | refine Ent.cons ?_ | refine Ent.objX ?_ | refine Ent.rowX ?_ | exact Ent.any | exact Ent.last))))))
end
end Go.Proofs.YtianbkbehjppoaaGreatDoor
