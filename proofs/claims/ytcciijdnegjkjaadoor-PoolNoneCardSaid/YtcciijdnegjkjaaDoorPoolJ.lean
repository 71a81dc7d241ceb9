/-
  What the arguments' readings give; the frame.
-/
import Derived.Test.YtcciijdnegjkjaaDoorCards
import Derived.Test.YtcciijdnegjkjaaDoorTie
import Derived.Test.YtcciijdnegjkjaaDoorPoolG
import Derived.ProofKit
import Derived.OpenShut
import Derived.Deep.DeepHandedRow
import Derived.Deep.Slices
import Derived.Deep.Fields
import Derived.Lib.LaidTab
import Derived.Carry
namespace Go.Proofs.YtcciijdnegjkjaaDoor
open Go.ChangeShapes Go.WideShapes Go.ChangeAt Go.RowKit Go.Deep

section
variable {H : Type} {enc : TypeId × Value → H} {P : Program} {W : World} {base : Nat} {held : Bool}

theorem w64_of_wf {n : Int} (h : (Lit.int .i64 n).wf = true) : W64 n := by
  simp only [Lit.wf, Bool.and_eq_true, decide_eq_true_eq] at h
  exact h

theorem ints_at {t e : TypeId} {fuel : Nat} {v : Value} {x : DataW H × List MemPlace} (ht : P.underlying t = some (.slice e)) (he : P.underlying e = some (.int .i64)) (hc : P.cellsOf e = 1)
    (h : DataW.trod enc P W base (fun _ => true) held fuel t [v] = some x) : ∃ xs, IntsAt W v xs := by
  rcases open_ints ht he hc h with ⟨h0, _⟩ | ⟨a, len, cap, zs, h0, _, hl, hm, hz, _, hcell, hwf⟩
  · simp only [List.cons.injEq, and_true] at h0
    exact ⟨[], ⟨none, 0, h0, Nat.le_refl _, by omega, fun _ => rfl, fun g hg => by simp at hg⟩, fun z hz => by simp at hz⟩
  · simp only [List.cons.injEq, and_true] at h0
    simp only [if_true] at hz
    have hlen : (zs.take len).length = len := by rw [List.length_take]; omega
    refine ⟨zs.take len, ⟨some a, cap, by rw [hlen]; exact h0, by omega, by unfold maxLen at hm; omega, fun h => by simp at h, ?_⟩, fun z hz => w64_of_wf (hwf z (List.mem_of_mem_take hz))⟩
    intro g hg i z hi
    cases hg
    have hi' : zs[i]? = some z := by
      rw [List.getElem?_take] at hi
      split at hi
      · exact hi
      · simp at hi
    have hlt : i < zs.length := (List.getElem?_eq_some_iff.1 hi').1
    have := hcell i hlt
    rw [List.getD_eq_getElem?_getD, hi'] at this
    have hb := World.block_lt_of_cell? _ _ this
    have hadd : (a.add i).block = a.block := by unfold Addr.add; split <;> rfl
    exact ⟨hadd ▸ hb, this⟩

theorem spot_of {a : Addr} {c : Value} {w : World} (h : w.cell? a = some c) : a = ⟨a.block, a.off, none⟩ := by
  unfold World.cell? at h
  split at h
  · split at h
    · simp at h
    · rename_i hs
      obtain ⟨b, o, s⟩ := a
      cases s <;> simp_all
  · simp at h

theorem add_spot {a : Addr} (h : a.spot = none) (k : Nat) : a.add k = ⟨a.block, a.off + k, none⟩ := by
  obtain ⟨b, o, s⟩ := a
  simp only at h
  subst h
  unfold Addr.add
  split
  · simp_all
  · rfl

/-- A slice of structs of five cells, four integers and a slice of such. -/
theorem acts_at {t e ti tl : TypeId} {fs : Array Field} {fuel : Nat} {v : Value} {x : DataW H × List MemPlace} (ht : P.underlying t = some (.slice e)) (he : P.underlying e = some (.struct fs)) (hone : oneCellFields P fs = true) (hC : P.cellsOf e = 5)
    (hf : (fs.map (·.type)) = #[ti, ti, ti, ti, tl]) (hi : P.underlying ti = some (.int .i64)) (hci : P.cellsOf ti = 1) (hl : P.underlying tl = some (.slice ti))
    (h : DataW.trod enc P W base (fun _ => true) held fuel t [v] = some x) : ∃ l, ActsAt W v l := by
  have hfs : fs.size = 5 := by have := congrArg Array.size hf; simpa using this
  rcases Deep.open_slice ht h with ⟨h0, _⟩ | ⟨a, len, cap, m, n, D, Pl, h0, _, hle, hm, hmm, _, hel⟩
  · simp only [List.cons.injEq, and_true] at h0
    exact ⟨[], ⟨none, 0, h0, Nat.zero_le _, fun h => by simp at h⟩, fun x hx => by simp at hx⟩
  · simp only [List.cons.injEq, and_true] at h0
    simp only [if_true] at hmm
    subst hmm
    have each : ∀ i, i < len → ∃ y : ActD, (W.cell? (a.add (i * 5)) = some (.int .i64 y.what) ∧ W.cell? (a.add (i * 5 + 1)) = some (.int .i64 y.worker) ∧ W.cell? (a.add (i * 5 + 2)) = some (.int .i64 y.fr) ∧
        W.cell? (a.add (i * 5 + 3)) = some (.int .i64 y.most) ∧ W.cell? (a.add (i * 5 + 4)) = some y.pv) ∧ (W64 y.what ∧ W64 y.worker ∧ W64 y.fr ∧ W64 y.most ∧ IntsAt W y.pv y.ports) := by
      intro i hi'
      obtain ⟨cs', hcs, htr⟩ := hel i (by omega)
      rw [hC] at hcs
      obtain ⟨_, hcl, hat⟩ := World.cells?_some hcs
      obtain ⟨ys, n', _, _, hcl', hyl, hfl⟩ := DataW.trod_struct he htr
      match cs', hcl with
      | [c0, c1, c2, c3, c4], _ =>
        have fld : ∀ j (hj : j < 5), ∃ f y, fs[j]? = some f ∧ DataW.trod enc P W base (fun _ => true) held n' f.type [[c0, c1, c2, c3, c4].getD j c0] = some y := by
          intro j hj
          have hj' : j < fs.size := by omega
          have hfj : fs[j]? = some fs[j] := Array.getElem?_eq_getElem hj'
          obtain ⟨ho, hk⟩ := Deep.hone_of hone j _ hfj
          have h1 := hfl j _ hfj
          rw [ho, hk] at h1
          have hy : ys[j]? = some (ys[j]'(by omega)) := List.getElem?_eq_getElem (by omega)
          rw [Deep.take1_drop _ _ c0 (by simpa using hj)] at h1
          exact ⟨_, _, hfj, h1.trans hy⟩
        have ftype : ∀ (j : Nat) (f : Field), fs[j]? = some f → some f.type = (#[ti, ti, ti, ti, tl] : Array TypeId)[j]? := by
          intro j f hj
          rw [← hf]
          simp [hj]
        obtain ⟨f0, y0, g0, t0⟩ := fld 0 (by decide)
        obtain ⟨f1, y1, g1, t1⟩ := fld 1 (by decide)
        obtain ⟨f2, y2, g2, t2⟩ := fld 2 (by decide)
        obtain ⟨f3, y3, g3, t3⟩ := fld 3 (by decide)
        obtain ⟨f4, y4, g4, t4⟩ := fld 4 (by decide)
        have e0 : f0.type = ti := Option.some.inj (ftype 0 f0 g0)
        have e1 : f1.type = ti := Option.some.inj (ftype 1 f1 g1)
        have e2 : f2.type = ti := Option.some.inj (ftype 2 f2 g2)
        have e3 : f3.type = ti := Option.some.inj (ftype 3 f3 g3)
        have e4 : f4.type = tl := Option.some.inj (ftype 4 f4 g4)
        rw [e0] at t0
        rw [e1] at t1
        rw [e2] at t2
        rw [e3] at t3
        rw [e4] at t4
        obtain ⟨z0, q0, _, w0⟩ := DataW.trod_int hi t0
        obtain ⟨z1, q1, _, w1⟩ := DataW.trod_int hi t1
        obtain ⟨z2, q2, _, w2⟩ := DataW.trod_int hi t2
        obtain ⟨z3, q3, _, w3⟩ := DataW.trod_int hi t3
        obtain ⟨xs, hxs⟩ := ints_at hl hi hci t4
        have cell : ∀ j, j < 5 → W.cell? (a.add (i * 5 + j)) = some ([c0, c1, c2, c3, c4].getD j c0) := by
          intro j hj
          have := hat j hj
          rw [Deep.add_add] at this
          rw [this, List.getD_eq_getElem?_getD, List.getElem?_eq_getElem (by simpa using hj)]
          rfl
        have k0 := cell 0 (by decide)
        have k1 := cell 1 (by decide)
        have k2 := cell 2 (by decide)
        have k3 := cell 3 (by decide)
        have k4 := cell 4 (by decide)
        rw [List.cons.inj q0 |>.1] at k0
        rw [List.cons.inj q1 |>.1] at k1
        rw [List.cons.inj q2 |>.1] at k2
        rw [List.cons.inj q3 |>.1] at k3
        exact ⟨⟨z0, z1, z2, z3, c4, xs⟩, ⟨k0, k1, k2, k3, k4⟩, w64_of_wf w0, w64_of_wf w1, w64_of_wf w2, w64_of_wf w3, hxs⟩
    haveI : Inhabited ActD := ⟨⟨0, 0, 0, 0, .bool false, []⟩⟩
    obtain ⟨f, hfe⟩ := Deep.choose_lt each
    have hlen : ((List.range len).map f).length = len := by simp
    have hget : ∀ i y, ((List.range len).map f)[i]? = some y → i < len ∧ y = f i := by
      intro i y hy
      simp only [List.getElem?_map, Option.map_eq_some_iff] at hy
      obtain ⟨k, hk, rfl⟩ := hy
      by_cases hil : i < len
      · rw [List.getElem?_range hil] at hk
        cases hk
        exact ⟨hil, rfl⟩
      · rw [List.getElem?_eq_none (by simp; omega)] at hk
        simp at hk
    refine ⟨(List.range len).map f, ⟨some a, m, by rw [hlen]; exact h0, by rw [hlen]; unfold maxLen at hm; omega, ?_⟩, ?_⟩
    · intro hp
      rw [hlen] at hp
      have c0 := (hfe 0 hp).1.1
      rw [show a.add (0 * 5) = a by unfold Addr.add; simp] at c0
      have hb := World.block_lt_of_cell? _ _ c0
      have ha := spot_of c0
      refine ⟨a.block, a.off, by rw [← ha], hb, ?_⟩
      intro i y hy
      obtain ⟨hil, rfl⟩ := hget i y hy
      have hadd : ∀ k, a.add k = ⟨a.block, a.off + k, none⟩ := add_spot (congrArg Addr.spot ha)
      have := (hfe i hil).1
      simp only [hadd] at this
      exact this
    · intro y hy
      obtain ⟨i, hi', rfl⟩ := List.mem_map.1 hy
      exact (hfe i (List.mem_range.1 hi')).2

/-- The law's answer is true and nothing older has turned. -/
theorem post_below {f : Func} {s : ChangeSpec} {apart fresh handsOn again : Bool} {W W' : World} {args : Array Value} {v : Value} {ds : List (DataW H)} {before : List MemPlace} (hs : s.vars = []) (hl : laidOutB P = true)
    (hr : ∀ t ∈ f.params.toList, P.readableRec t = true ∧ t < P.types.size)
    (hW : DataW.Whole enc P f.params.toList s.vars apart W args.toList ds [] before)
    (hres : ∀ (b : Nat) (sp : Nat → Bool) (hd : Bool), DataW.TrodAll enc P W' b sp hd f.resultTypes.toList (v.resultList f.resultTypes.size) (s.fn H (ds ++ [])).results [])
    (hsame : (s.fn H (ds ++ [])).args = ds) (hsv : (s.fn H (ds ++ [])).vars = []) (hb : Below W.heap.size W W')
    (hok : ∀ (j : Nat) (t : TypeId) (r : Value), f.resultTypes[j]? = some t → (v.resultList f.resultTypes.size)[j]? = some r → Value.okWide P W' .any 0 t r) :
    s.post enc P f apart fresh handsOn again W args v W' := by
  have hlt : ∀ p ∈ before, p.block < W.heap.size := hW.lt
  obtain ⟨p, q, hA, hV, he, hz, hn⟩ := id hW
  rw [hs] at hV
  obtain ⟨_, rfl⟩ := trodVars_none hV
  obtain rfl : before = p := by rw [he]; simp
  have stay : ∀ (sp : Nat → Bool) (ts : List TypeId) (vs : List Value) (ds' : List (DataW H)) (ps : List MemPlace), (∀ t ∈ ts, P.readableRec t = true ∧ t < P.types.size) → (∀ x ∈ ps, x.block < W.heap.size) → (∀ x ∈ ps, sp x.block = true) →
      DataW.TrodAll enc P W 0 (fun _ => true) true ts vs ds' ps → DataW.TrodAll enc P W' 0 sp true ts vs ds' ps := by
    intro sp ts
    induction ts with
    | nil =>
      intro vs ds' ps _ _ _ h
      obtain ⟨rfl, rfl, rfl⟩ := trodAll_nil h
      exact trodAll_mk0
    | cons t ts ih =>
      intro vs ds' ps h1 h2 h3 h
      obtain ⟨v, vs, d, ds', a, b, rfl, rfl, rfl, hd, hrest⟩ := trodAll_cons h
      obtain ⟨r1, r2⟩ := h1 t (by simp)
      refine trodAll_cons_mk (WideElems.Trod_stays hl r1 r2 hd (fun x hx => hb.same (h2 x (by simp [hx]))) (fun x hx => h3 x (by simp [hx]))) (ih _ _ _ (fun t ht => h1 t (by simp [ht])) (fun x hx => h2 x (by simp [hx])) (fun x hx => h3 x (by simp [hx])) hrest)
  have hargs : ∀ sp : Nat → Bool, (∀ p ∈ before, sp p.block = true) → DataW.TrodAll enc P W' 0 sp true f.params.toList args.toList (s.fn H (ds ++ [])).args before := fun sp hsp => by
    rw [hsame]
    exact stay sp _ _ _ _ hr hlt hsp hA
  have hold : ∀ p ∈ before, (fun b => decide (b < W.heap.size)) p.block = true := fun p hp => by simpa using hlt p hp
  have hvars : ∀ sp : Nat → Bool, DataW.TrodVars enc P W' sp s.vars (s.fn H (ds ++ [])).vars [] := fun sp => by rw [hs, hsv]; exact rfl
  refine ⟨ds, [], before, [], before, [], hW, hres _ _ _, hargs _ hold, hvars _, hb.frame _, fun _ => ?_⟩
  refine ⟨hok, _, _, ([] ++ before) ++ [], ⟨[] ++ before, [], trodAll_append (hargs _ (fun _ _ => rfl)) (hres _ _ _), hvars _, rfl, ?_, ?_⟩, ?_⟩
  · intro b off hp
    have hp' : MemPlace.cell b off ∈ before := by simpa using hp
    rw [hb.frozen (p := ⟨b, off, none⟩) (hlt _ hp')]
    exact hz b off (by rw [he]; simpa using hp')
  · intro ha
    have := hn ha
    rw [he] at this
    simpa using this
  · intro p hp _
    simpa using hp
end
end Go.Proofs.YtcciijdnegjkjaaDoor
