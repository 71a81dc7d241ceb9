/-
  Readings of the arguments: structs and arrays whose cells are numbers; the law's postcondition out of `Below`.
-/
import Derived.Test.YtafbipoagehdeaaDoorCards
import Derived.Test.YtafbipoagehdeaaDoorTie
import Derived.Test.YtafbipoagehdeaaDoorPn6
import Derived.ProofKit
import Derived.OpenShut
import Derived.Deep.DeepHandedRow
import Derived.Deep.Slices
import Derived.Deep.Fields
import Derived.Lib.LaidTab
import Derived.Carry
namespace Go.Proofs.YtafbipoagehdeaaDoor
open Go.ChangeShapes Go.WideShapes Go.ChangeAt Go.RowKit Go.Deep

section
variable {P : Program} {W : World} {r : Reach} {base : Nat}
theorem agg_cells {t : TypeId} {v : Value} {ts : List TypeId} (hu : (∃ fs, P.underlying t = some (.struct fs)) ∨ ∃ n e, P.underlying t = some (.array n e)) (hct : P.cellTypes P.depth t = some ts) (hsz : P.cellsOf t = ts.length) (h : Value.okWide P W r base t v) :
    ∃ cs : List Value, v = .agg cs.toArray ∧ cs.length = ts.length ∧ ∀ (i : Nat) (u : TypeId), ts[i]? = some u → ∃ x, cs[i]? = some x ∧ Cell.okWide P W r base u x := by
  have h' : ∃ cs, v = .agg cs ∧ cs.size = P.cellsOf t ∧ Row.okWide P W r base t cs := by
    unfold Value.okWide at h
    rcases hu with ⟨fs, hu⟩ | ⟨n, e, hu⟩ <;> rw [hu] at h <;> exact h
  obtain ⟨cs, rfl, hs, ts', h1, _, h2⟩ := h'
  rw [hct] at h1
  cases h1
  refine ⟨cs.toList, by simp, by simp [hs, hsz], fun i u hi => ?_⟩
  have hlt := (List.getElem?_eq_some_iff.1 hi).1
  have hlt' : i < cs.size := by rw [hs, hsz]; exact hlt
  obtain ⟨u', h3, h4⟩ := h2 i cs[i] (Array.getElem?_eq_getElem hlt')
  rw [Nat.mod_eq_of_lt hlt, hi] at h3
  cases h3
  exact ⟨cs[i], by simp [hlt'], h4⟩
theorem int_cell {u : TypeId} {k : IntKind} {x : Value} (hu : P.underlying u = some (.int k)) (h : Cell.okWide P W r base u x) : ∃ n, x = .int k n ∧ k.has n := by
  unfold Cell.okWide Cell.ok at h
  rw [hu] at h
  cases x <;> simp only at h
  obtain ⟨rfl, h⟩ := h
  exact ⟨_, rfl, h⟩
theorem has_i64 {n : Int} (h : IntKind.i64.has n) : I64 n := by
  unfold IntKind.has at h
  exact h
theorem has_u32 {n : Int} (h : IntKind.u32.has n) : 0 ≤ n ∧ n ≤ 4294967295 := by
  unfold IntKind.has at h
  exact h
theorem cfg_of {t ti tu : TypeId} {v : Value} {fs : Array Field} (hu : P.underlying t = some (.struct fs)) (hct : P.cellTypes P.depth t = some [ti, tu, ti, ti, ti, ti]) (hsz : P.cellsOf t = 6) (hi : P.underlying ti = some (.int .i64)) (hu32 : P.underlying tu = some (.int .u32)) (h : Value.okWide P W r base t v) :
    ∃ c : Cfg, v = c.val ∧ c.Fit := by
  obtain ⟨cs, rfl, hl, hc⟩ := agg_cells (.inl ⟨fs, hu⟩) hct hsz h
  match cs, hl with
  | [x0, x1, x2, x3, x4, x5], _ =>
    obtain ⟨y0, e0, g0⟩ := hc 0 ti rfl
    obtain ⟨y1, e1, g1⟩ := hc 1 tu rfl
    obtain ⟨y2, e2, g2⟩ := hc 2 ti rfl
    obtain ⟨y3, e3, g3⟩ := hc 3 ti rfl
    obtain ⟨y4, e4, g4⟩ := hc 4 ti rfl
    obtain ⟨y5, e5, g5⟩ := hc 5 ti rfl
    cases e0; cases e1; cases e2; cases e3; cases e4; cases e5
    obtain ⟨n0, rfl, k0⟩ := int_cell hi g0
    obtain ⟨n1, rfl, k1⟩ := int_cell hu32 g1
    obtain ⟨n2, rfl, k2⟩ := int_cell hi g2
    obtain ⟨n3, rfl, k3⟩ := int_cell hi g3
    obtain ⟨n4, rfl, k4⟩ := int_cell hi g4
    obtain ⟨n5, rfl, k5⟩ := int_cell hi g5
    exact ⟨⟨n0, n1, n2, n3, n4, n5⟩, rfl, has_i64 k0, has_u32 k1, has_i64 k2, has_i64 k3, has_i64 k4, has_i64 k5⟩
theorem pair_of {t ti : TypeId} {v : Value} {n e : Nat} (hu : P.underlying t = some (.array n e)) (hct : P.cellTypes P.depth t = some [ti, ti]) (hsz : P.cellsOf t = 2) (hi : P.underlying ti = some (.int .i64)) (h : Value.okWide P W r base t v) :
    ∃ a b, v = .agg #[.int .i64 a, .int .i64 b] ∧ I64 a ∧ I64 b := by
  obtain ⟨cs, rfl, hl, hc⟩ := agg_cells (.inr ⟨n, e, hu⟩) hct hsz h
  match cs, hl with
  | [x0, x1], _ =>
    obtain ⟨y0, e0, g0⟩ := hc 0 ti rfl
    obtain ⟨y1, e1, g1⟩ := hc 1 ti rfl
    cases e0; cases e1
    obtain ⟨n0, rfl, k0⟩ := int_cell hi g0
    obtain ⟨n1, rfl, k1⟩ := int_cell hi g1
    exact ⟨n0, n1, rfl, has_i64 k0, has_i64 k1⟩
theorem int_of {t : TypeId} {v : Value} (hi : P.underlying t = some (.int .i64)) (h : Value.okWide P W r base t v) : ∃ n, v = .int .i64 n ∧ I64 n := by
  unfold Value.okWide at h
  rw [hi] at h
  obtain ⟨n, rfl, k⟩ := int_cell hi h
  exact ⟨n, rfl, has_i64 k⟩
end
section
variable {H : Type} {enc : TypeId × Value → H} {P : Program}
theorem post_below {f : Func} {s : ChangeSpec} {apart fresh handsOn again : Bool} {W W' : World} {args : Array Value} {v : Value} {ds : List (DataW H)} {before : List MemPlace} (hs : s.vars = []) (hl : laidOutB P = true)
    (hr : ∀ t ∈ f.params.toList, P.readableRec t = true ∧ t < P.types.size)
    (hW : DataW.Whole enc P f.params.toList s.vars apart W args.toList ds [] before)
    (hres : ∀ (b : Nat) (sp : Nat → Bool) (hd : Bool), DataW.TrodAll enc P W' b sp hd f.resultTypes.toList (v.resultList f.resultTypes.size) (s.fn H (ds ++ [])).results [])
    (hsame : (s.fn H (ds ++ [])).args = ds) (hsv : (s.fn H (ds ++ [])).vars = []) (hb : Below W.heap.size W W')
    (hok : ∀ (j : Nat) (t : TypeId) (r : Value), f.resultTypes[j]? = some t → (v.resultList f.resultTypes.size)[j]? = some r → Value.okWide P W' .any 0 t r) :
    s.post enc P f apart fresh handsOn again W args v W' := by
  have hlt : ∀ p ∈ before, p.block < W.heap.size := hW.lt
  obtain ⟨p, q, hA, hV, he, hz, hn⟩ := id hW
  rw [hs] at hV
  obtain ⟨_, rfl⟩ := trodVars_none hV
  obtain rfl : before = p := by rw [he]; simp
  have stay : ∀ (sp : Nat → Bool) (ts : List TypeId) (vs : List Value) (ds' : List (DataW H)) (ps : List MemPlace), (∀ t ∈ ts, P.readableRec t = true ∧ t < P.types.size) → (∀ x ∈ ps, x.block < W.heap.size) → (∀ x ∈ ps, sp x.block = true) →
      DataW.TrodAll enc P W 0 (fun _ => true) true ts vs ds' ps → DataW.TrodAll enc P W' 0 sp true ts vs ds' ps := by
    intro sp ts
    induction ts with
    | nil =>
      intro vs ds' ps _ _ _ h
      obtain ⟨rfl, rfl, rfl⟩ := trodAll_nil h
      exact trodAll_mk0
    | cons t ts ih =>
      intro vs ds' ps h1 h2 h3 h
      obtain ⟨v, vs, d, ds', a, b, rfl, rfl, rfl, hd, hrest⟩ := trodAll_cons h
      obtain ⟨r1, r2⟩ := h1 t (by simp)
      refine trodAll_cons_mk (WideElems.Trod_stays hl r1 r2 hd (fun x hx => hb.same (h2 x (by simp [hx]))) (fun x hx => h3 x (by simp [hx]))) (ih _ _ _ (fun t ht => h1 t (by simp [ht])) (fun x hx => h2 x (by simp [hx])) (fun x hx => h3 x (by simp [hx])) hrest)
  have hargs : ∀ sp : Nat → Bool, (∀ p ∈ before, sp p.block = true) → DataW.TrodAll enc P W' 0 sp true f.params.toList args.toList (s.fn H (ds ++ [])).args before := fun sp hsp => by
    rw [hsame]
    exact stay sp _ _ _ _ hr hlt hsp hA
  have hold : ∀ p ∈ before, (fun b => decide (b < W.heap.size)) p.block = true := fun p hp => by simpa using hlt p hp
  have hvars : ∀ sp : Nat → Bool, DataW.TrodVars enc P W' sp s.vars (s.fn H (ds ++ [])).vars [] := fun sp => by rw [hs, hsv]; exact rfl
  refine ⟨ds, [], before, [], before, [], hW, hres _ _ _, hargs _ hold, hvars _, hb.frame _, fun _ => ?_⟩
  refine ⟨hok, _, _, ([] ++ before) ++ [], ⟨[] ++ before, [], trodAll_append (hargs _ (fun _ _ => rfl)) (hres _ _ _), hvars _, rfl, ?_, ?_⟩, ?_⟩
  · intro b off hp
    have hp' : MemPlace.cell b off ∈ before := by simpa using hp
    rw [hb.frozen (p := ⟨b, off, none⟩) (hlt _ hp')]
    exact hz b off (by rw [he]; simpa using hp')
  · intro ha
    have := hn ha
    rw [he] at this
    simpa using this
  · intro p hp _
    simpa using hp
end
theorem planW_of {W : World} (h : W.ShapedOpen Tryd.prog) : PlanW W := ⟨Tryd.laysM146.s1_3 W h⟩
def litV : DataW Unit → Value
  | .lit (.int k n) => .int k n
  | _ => .nilFunc
def cells1 : DataW Unit → List Value
  | .agg l => l.map litV
  | d => [litV d]
def cells2 : DataW Unit → List Value
  | .agg l => l.flatMap cells1
  | d => [litV d]
def putCells (w : World) (g : Nat) (cs : List Value) : World := { w with heap := w.heap.modify g fun
  | .cells _ t frozen => .cells cs.toArray t frozen
  | o => o }
noncomputable def utf8World (os : Os) : World :=
  putCells (putCells (World.holding Tryd.prog os ⟨#[], #[], []⟩) 3 (cells2 Rows.laid_unicode_utf8_acceptRanges)) 2 (cells1 Rows.laid_unicode_utf8_first)
end Go.Proofs.YtafbipoagehdeaaDoor
