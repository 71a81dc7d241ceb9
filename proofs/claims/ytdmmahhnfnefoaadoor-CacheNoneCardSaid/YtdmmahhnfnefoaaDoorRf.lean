/-
  Readings: a slice of structs of four ints and a slice of ints.
-/
import Derived.Test.YtdmmahhnfnefoaaDoorRe
namespace Go.Proofs.YtdmmahhnfnefoaaDoor
open Go.ChangeShapes Go.WideShapes Go.ChangeAt Go.RowKit Go.Deep

structure ActN where
  z : Nat → Int
  p : Option Addr
  c : Nat
  l : List Int
def actC (x : ActN) (j : Nat) : Value := if j < 4 then .int .i64 (x.z j) else .slice x.p x.l.length x.c
def actsR (n : Nat) (f : Nat → ActN) : List Value := (List.range (n * 5)).map fun t => actC (f (t / 5)) (t % 5)
theorem actsR_get {n i j : Nat} {f : Nat → ActN} (hi : i < n) (hj : j < 5) : (actsR n f)[i * 5 + j]? = some (actC (f i) j) := by
  have h : i * 5 + j < n * 5 := by omega
  simp [actsR, h, show (i * 5 + j) / 5 = i by omega, show (i * 5 + j) % 5 = j by omega]
instance RowAll.act (n : Nat) (f : Nat → ActN) (i : Nat) : RowAll (actsR n f) i 5 [.int .i64 ((f i).z 0), .int .i64 ((f i).z 1), .int .i64 ((f i).z 2), .int .i64 ((f i).z 3), .slice (f i).p (f i).l.length (f i).c] (i < n) := ⟨fun h => ⟨rfl, fun j v hv => by
  have hj : j < 5 := (List.getElem?_eq_some_iff.1 hv).1
  rw [actsR_get h hj, ← hv]
  match j, hj with
  | 0, _ => rfl
  | 1, _ => rfl
  | 2, _ => rfl
  | 3, _ => rfl
  | 4, _ => rfl⟩⟩
section
variable {H : Type} {enc : TypeId × Value → H} {P : Program} {W : World} {base : Nat} {held : Bool}
theorem acts_ro {t e ti tl : TypeId} {fs : Array Field} {fuel : Nat} {v : Value} {x : DataW H × List MemPlace} (ht : P.underlying t = some (.slice e)) (he : P.underlying e = some (.struct fs)) (hone : oneCellFields P fs = true) (hC : P.cellsOf e = 5)
    (hf : (fs.map (·.type)) = #[ti, ti, ti, ti, tl]) (hi : P.underlying ti = some (.int .i64)) (hci : P.cellsOf ti = 1) (hl : P.underlying tl = some (.slice ti))
    (h : DataW.trod enc P W base (fun _ => true) held fuel t [v] = some x) : ∃ (p : Option Addr) (n cap : Nat) (f : Nat → ActN), v = .slice p n cap ∧ Ro W p n (actsR n f) ∧ ∀ i, i < n → Ro W (f i).p (f i).l.length (intsR .i64 (f i).l) := by
  have hfs : fs.size = 5 := by have := congrArg Array.size hf; simpa using this
  rcases Deep.open_slice ht h with ⟨h0, _⟩ | ⟨a, len, cap, m, n, D, Pl, h0, _, hle, hm, hmm, _, hel⟩
  · simp only [List.cons.injEq, and_true] at h0
    exact ⟨none, 0, 0, fun _ => ⟨fun _ => 0, none, 0, []⟩, h0, ⟨fun i v hv => by simp [actsR] at hv, fun h => by simp at h⟩, fun i hi => by omega⟩
  · simp only [List.cons.injEq, and_true] at h0
    simp only [if_true] at hmm
    subst hmm
    have each : ∀ i, i < len → ∃ y : ActN, (∀ j, j < 5 → W.cell? (a.add (i * 5 + j)) = some (actC y j)) ∧ Ro W y.p y.l.length (intsR .i64 y.l) := by
      intro i hi'
      obtain ⟨cs', hcs, htr⟩ := hel i (by omega)
      rw [hC] at hcs
      obtain ⟨_, hcl, hat⟩ := World.cells?_some hcs
      obtain ⟨ys, n', _, _, hcl', hyl, hfl⟩ := DataW.trod_struct he htr
      match cs', hcl with
      | [c0, c1, c2, c3, c4], _ =>
        have fld : ∀ j (hj : j < 5), ∃ f y, fs[j]? = some f ∧ DataW.trod enc P W base (fun _ => true) held n' f.type [[c0, c1, c2, c3, c4].getD j c0] = some y := by
          intro j hj
          have hj' : j < fs.size := by omega
          have hfj : fs[j]? = some fs[j] := Array.getElem?_eq_getElem hj'
          obtain ⟨ho, hk⟩ := Deep.hone_of hone j _ hfj
          have h1 := hfl j _ hfj
          rw [ho, hk] at h1
          have hy : ys[j]? = some (ys[j]'(by omega)) := List.getElem?_eq_getElem (by omega)
          rw [Deep.take1_drop _ _ c0 (by simpa using hj)] at h1
          exact ⟨_, _, hfj, h1.trans hy⟩
        have ftype : ∀ (j : Nat) (f : Field), fs[j]? = some f → some f.type = (#[ti, ti, ti, ti, tl] : Array TypeId)[j]? := by
          intro j f hj
          rw [← hf]
          simp [hj]
        obtain ⟨f0, y0, g0, t0⟩ := fld 0 (by decide)
        obtain ⟨f1, y1, g1, t1⟩ := fld 1 (by decide)
        obtain ⟨f2, y2, g2, t2⟩ := fld 2 (by decide)
        obtain ⟨f3, y3, g3, t3⟩ := fld 3 (by decide)
        obtain ⟨f4, y4, g4, t4⟩ := fld 4 (by decide)
        have e0 : f0.type = ti := Option.some.inj (ftype 0 f0 g0)
        have e1 : f1.type = ti := Option.some.inj (ftype 1 f1 g1)
        have e2 : f2.type = ti := Option.some.inj (ftype 2 f2 g2)
        have e3 : f3.type = ti := Option.some.inj (ftype 3 f3 g3)
        have e4 : f4.type = tl := Option.some.inj (ftype 4 f4 g4)
        rw [e0] at t0
        rw [e1] at t1
        rw [e2] at t2
        rw [e3] at t3
        rw [e4] at t4
        obtain ⟨z0, q0, _, w0⟩ := DataW.trod_int hi t0
        obtain ⟨z1, q1, _, w1⟩ := DataW.trod_int hi t1
        obtain ⟨z2, q2, _, w2⟩ := DataW.trod_int hi t2
        obtain ⟨z3, q3, _, w3⟩ := DataW.trod_int hi t3
        obtain ⟨p4, n4, zs, hv4, hro⟩ := ints_ro hl hi hci t4
        have cell : ∀ j, j < 5 → W.cell? (a.add (i * 5 + j)) = some ([c0, c1, c2, c3, c4].getD j c0) := by
          intro j hj
          have := hat j hj
          rw [Deep.add_add] at this
          rw [this, List.getD_eq_getElem?_getD, List.getElem?_eq_getElem (by simpa using hj)]
          rfl
        have k0 := cell 0 (by decide)
        have k1 := cell 1 (by decide)
        have k2 := cell 2 (by decide)
        have k3 := cell 3 (by decide)
        have k4 := cell 4 (by decide)
        rw [List.cons.inj q0 |>.1] at k0
        rw [List.cons.inj q1 |>.1] at k1
        rw [List.cons.inj q2 |>.1] at k2
        rw [List.cons.inj q3 |>.1] at k3
        rw [show [c0, c1, c2, c3, c4].getD 4 c0 = .slice p4 zs.length n4 from hv4] at k4
        exact ⟨⟨fun j => [z0, z1, z2, z3].getD j 0, p4, n4, zs⟩, fun j hj => match j, hj with
          | 0, _ => k0
          | 1, _ => k1
          | 2, _ => k2
          | 3, _ => k3
          | 4, _ => k4, hro⟩
    haveI : Inhabited ActN := ⟨⟨fun _ => 0, none, 0, []⟩⟩
    obtain ⟨f, hfe⟩ := Deep.choose_lt each
    refine ⟨some a, len, m, f, h0, ⟨fun t v hv => ?_, fun _ => by simp⟩, fun i hi => (hfe i hi).2⟩
    have ht1 : t < len * 5 := by
      have := (List.getElem?_eq_some_iff.1 hv).1
      simpa [actsR] using this
    have hi1 : t / 5 < len := by omega
    have hj1 : t % 5 < 5 := Nat.mod_lt _ (by decide)
    have e1 : t / 5 * 5 + t % 5 = t := by omega
    have h3 := (hfe (t / 5) hi1).1 (t % 5) hj1
    have h4 := actsR_get (f := f) hi1 hj1
    rw [e1] at h3 h4
    rw [hv] at h4
    obtain rfl := Option.some.inj h4
    exact ⟨a.add t, rfl, World.block_lt_of_cell? _ _ h3, h3⟩
end
end Go.Proofs.YtdmmahhnfnefoaaDoor
