/-
  Arrays; results in cells; equality of structs and arrays whose parts are numbers, truths and texts. Plain Lean: no program in sight.
-/
import Derived.Test.YtdmmahhnfnefoaaSs
import Derived.Laws.StructEq
import Derived.ChangeKeysEq
namespace Go.Proofs.Ytdmmahhnfnefoaa
open Go.RowKit

variable {X : Cx} {k : List KI} {σ : Env} {H : SL} {o : Oper}

/-! ### Truths -/
theorem run_eqBool {P : Program} {t : TypeId} [h : TBool P t] (p q : Bool) (w : World) : (Op.equal t (.bool p) (.bool q)).run P w = .ok (p == q) w := by
  unfold Op.equal
  obtain ⟨d, hd⟩ : ∃ d, Op.maxDepth = d + 1 := ⟨9999, rfl⟩
  rw [hd]
  exact run_equalIn_bool' w d t p q h.h
theorem OpVal_boolEq {x y : Operand} {t u : TypeId} {p q : Bool} (ho : o.op = .binOp .eql t x y u) (hx : ev σ x = some (.bool p)) (hy : ev σ y = some (.bool q)) [h : TBool X.P t] : OpVal X σ H o (.bool (p == q)) := by
  intro a' w ha _
  simp only [execOp, ho, ha.eval hx, ha.eval hy]
  have hg : ∀ p' q', (eqGuard .eql t p' q' (.bool p) (.bool q)).run X.P w = .ok () w := fun _ _ => rfl
  simp [Sem.run_bind, hg, binOp, run_eqBool p q w, go_sem]
theorem OpVal_boolNe {x y : Operand} {t u : TypeId} {p q : Bool} (ho : o.op = .binOp .neq t x y u) (hx : ev σ x = some (.bool p)) (hy : ev σ y = some (.bool q)) [h : TBool X.P t] : OpVal X σ H o (.bool (!(p == q))) := by
  intro a' w ha _
  simp only [execOp, ho, ha.eval hx, ha.eval hy]
  have hg : ∀ p' q', (eqGuard .neq t p' q' (.bool p) (.bool q)).run X.P w = .ok () w := fun _ _ => rfl
  simp [Sem.run_bind, hg, binOp, run_eqBool p q w, go_sem]
instance NatOf.iMin (a b : Int) (i j : Nat) [h : NatOf a i] [g : NatOf b j] : NatOf (min a b) (min i j) := ⟨by rw [h.eq, g.eq]; omega⟩
instance NatOf.iMax (a b : Int) (i j : Nat) [h : NatOf a i] [g : NatOf b j] : NatOf (max a b) (max i j) := ⟨by rw [h.eq, g.eq]; omega⟩
instance (priority := 1600) NatOf.l200 : NatOf 200 200 := ⟨rfl⟩

/-! ### Arrays -/
class TArrT (P : Program) (t : TypeId) (n : outParam Nat) (e : outParam TypeId) : Prop where h : P.underlying t = some (.array n e)
theorem OpVal_indexArrAddr {x y : Operand} {t : TypeId} {q : Option Addr} {z : Int} {kk : IntKind} {i n sz : Nat} (ho : o.op = .indexAddr t x y) (hx : ev σ x = some (.pointer q)) (hy : ev σ y = some (.int kk z)) [a : TArr X.P t n sz] [m : NatOf z i] [nn : NN H q] (hi : i < n) : OpVal X σ H o (.pointer (off q (i * sz))) := by
  intro b w hb hs
  have e := m.eq
  subst e
  obtain ⟨e, h1, h2⟩ := a.h
  obtain ⟨j, hj, hsz⟩ := map_info h2
  have hq := nn.nn X.W w hs
  cases q with
  | none => exact absurd rfl hq
  | some q =>
    have h3 : (i : Int) < (n : Int) := by omega
    simp only [execOp, ho, hb.eval hx, hb.eval hy]
    simp [Instr.indexAt, asIntOf, Instr.sureAddr, run_underlying h1, sizeOf, typeInfo, hj, hsz, hi, off, go_sem]
theorem OpVal_indexArr {x y : Operand} {t e : TypeId} {cs : List Value} {z : Int} {kk : IntKind} {i n : Nat} {v : Value} {φ : Prop} (ho : o.op = .index t x y) (hx : ev σ x = some (.agg cs.toArray)) (hy : ev σ y = some (.int kk z)) [a : TArrT X.P t n e] [b : TArr X.P t n 1] [c : TCell X.P e] [m : NatOf z i] [g : RowGet cs i 1 0 v φ] (hφ : φ) (hi : i < n) : OpVal X σ H o v := by
  intro d w hd hs
  have e1 := m.eq
  subst e1
  obtain ⟨e', h1, h2⟩ := b.h
  have h0 := a.h
  rw [h1] at h0
  cases h0
  obtain ⟨j, hj, hsz⟩ := map_info h2
  obtain ⟨dd, h3, h4⟩ := c.agg
  have hv := g.get hφ
  simp only [Nat.mul_one, Nat.add_zero] at hv
  have h5 : (i : Int) < (n : Int) := by omega
  simp only [execOp, ho, hd.eval hx, hd.eval hy]
  cases dd <;> simp at h4 <;> simp [Instr.index, asIntOf, run_underlying h1, sizeOf, typeInfo, hj, hsz, hi, part, isAgg, run_underlying h3, asAgg, hv, go_sem]
theorem fill_le {f g : Nat → Option (Nat × Nat)} (hfg : ∀ i q, f i = some q → g i = some q) : ∀ (l : List (Nat × Value)) (cs vs : Array Value), Instr.fill f cs l = some vs → Instr.fill g cs l = some vs
  | [], cs, vs, h => by simpa [Instr.fill] using h
  | (i, v) :: l, cs, vs, h => by
    simp only [Instr.fill] at h ⊢
    cases hf : f i with
    | none => simp [hf] at h
    | some q =>
      rw [hfg i q hf]
      simp only [hf] at h ⊢
      split at h
      · cases h
      · rename_i hc
        rw [if_neg hc]
        exact fill_le hfg l _ _ h
theorem OpVal_buildArr {t : TypeId} {parts : Array (Nat × Operand)} {n sz : Nat} {cs vs : List Value} (ho : o.op = .build t parts) [s : TArr X.P t n sz] [z : TZero X.P t cs] (hv : bld σ ((List.range n).map fun i => (i * sz, sz)) cs parts.toList = some vs) : OpVal X σ H o (.agg vs.toArray) := by
  intro a w ha hs
  obtain ⟨v, h1, h2⟩ := z.h
  obtain ⟨j, hj, hz⟩ := map_info h1
  obtain ⟨e, h3, h4⟩ := s.h
  obtain ⟨j', hj', hsz⟩ := map_info h4
  have h6 := fill_bld ha parts.toList cs vs hv
  have h7 := fill_le (g := fun i => some (i * sz, sz)) (fun i q hq => by
    simp only [List.getElem?_map, Option.map_eq_some_iff] at hq
    obtain ⟨i', hi', rfl⟩ := hq
    have : i' = i := by
      rw [List.getElem?_eq_some_iff] at hi'
      obtain ⟨_, h⟩ := hi'
      simpa using h.symm
    rw [this]) _ _ _ h6
  have hz2 : (zeroValue t).run X.P w = .ok v w := by simp [zeroValue, typeInfo, hj, hz, go_sem]
  have hs2 : (sizeOf e).run X.P w = .ok sz w := by simp [sizeOf, typeInfo, hj', hsz, go_sem]
  have h8 : Instr.fill (fun i => some (i * sz, sz)) v.cells (parts.map fun (q : Nat × Operand) => (q.1, a.eval q.2)).toList = some vs.toArray := by
    rw [h2, Array.toList_map]
    exact h7
  simp only [execOp, ho, Instr.build, Sem.run_bind, hz2, Result.andThen_ok, run_underlying h3]
  simp only [Sem.run_bind, hs2, Result.andThen_ok]
  rw [h8]
  rfl

/-! ### Results, some of them in cells -/
def LoadsV (P : Program) (W : World) (H : SL) (q : Option Addr) (t : TypeId) (v : Value) : Prop := ∀ w, Sat W w H → ∃ b, q = some b ∧ (loadVar t b).run P w = .ok v w
theorem LoadsV.agg {P : Program} {W : World} {q p : Option Addr} {t t0 : TypeId} {i n : Nat} {cs vs : List Value} {F : SL} [c : TAgg P t n] [l : Loc q p i] [r : AtP H p (Obj p t0 cs) F] (hv : slc cs i n = some vs) : LoadsV P W H q t (.agg vs.toArray) := by
  intro w hs
  obtain ⟨b, hb, hs'⟩ := Obj.open (r.eq ▸ hs)
  have hq := l.eq
  rw [hb] at hq
  simp only [off, Option.map_some, add_at, Nat.zero_add] at hq
  obtain ⟨d, h1, h2⟩ := c.agg
  obtain ⟨j, hj, hsz⟩ := map_info c.size
  obtain ⟨hl, rfl⟩ := slc_spec hv
  have := blk_loads (P := P) hs' hl
  unfold loadCells at this
  refine ⟨_, hq, ?_⟩
  cases d <;> simp at h2 <;> simp [loadVar, isAgg, run_underlying h1, sizeOf, typeInfo, hj, hsz, this, go_sem]
theorem LoadsV.cell {P : Program} {W : World} {q p : Option Addr} {t t0 : TypeId} {i : Nat} {cs : List Value} {F : SL} {v : Value} [c : TCell P t] [l : Loc q p i] [r : AtP H p (Obj p t0 cs) F] (hv : cs[i]? = some v) : LoadsV P W H q t v := by
  intro w hs
  obtain ⟨b, hb, hc⟩ := Obj.cell (r.eq ▸ hs) hv
  rw [← l.eq] at hb
  obtain ⟨d, h1, h2⟩ := c.agg
  refine ⟨b, hb, ?_⟩
  cases d <;> simp at h2 <;> simp [loadVar, isAgg, run_underlying h1, load, Sem.run, hc, go_sem]
def ResV (P : Program) (W : World) (σ : Env) (H : SL) : ResultVar → Value → Prop
  | .tmp t, v => σ.get t = some v
  | .cell a t, v => ∃ q, σ.get a = some (.pointer q) ∧ LoadsV P W H q t v
def ResVs (P : Program) (W : World) (σ : Env) (H : SL) : List ResultVar → List Value → Prop
  | [], [] => True
  | r :: rs, v :: vs => ResV P W σ H r v ∧ ResVs P W σ H rs vs
  | _, _ => False
def resOne (tmps : Array Value) : ResultVar → Sem Value
  | .tmp t => pure (tmps.getD t undef)
  | .cell b t => do loadVar t (← asAddr (tmps.getD b undef))
theorem getD_tmp {a : Array Value} {t : Nat} {v : Value} (h : a[t]? = some v) : a.getD t undef = v := by rw [Array.getD_eq_getD_getElem?, h]; rfl
theorem run_resVs {P : Program} {W w : World} {N : Nat} {a : Act} (ha : Fits N a σ) (hs : Sat W w H) : ∀ (rs : List ResultVar) (vs : List Value), ResVs P W σ H rs vs →
    (rs.mapM (resOne a.tmps)).run P w = .ok vs w
  | [], [], _ => by simp [go_sem]
  | [], _ :: _, h => h.elim
  | _ :: _, [], h => h.elim
  | r :: rs, v :: vs, ⟨h1, h2⟩ => by
    have ih := run_resVs ha hs rs vs h2
    cases r with
    | tmp t =>
      have := getD_tmp (ha.vals t v h1)
      simp only [List.mapM_cons, resOne, Sem.run_bind, this, Sem.run_pure, Result.andThen_ok, ih]
    | cell b t =>
      obtain ⟨q, h3, h4⟩ := h1
      have := getD_tmp (ha.vals b _ h3)
      obtain ⟨c, rfl, h5⟩ := h4 w hs
      have h6 : (asAddr (.pointer (some c))).run P w = .ok c w := by simp [asAddr, go_sem]
      simp only [List.mapM_cons, resOne, Sem.run_bind, this, h6, h5, Sem.run_pure, Result.andThen_ok, ih]
section leave
variable {P : Program} {N : Nat} {W : World} {fn : Func} {α : Type} {r : α → Value} {H' : α → SL}
theorem run_resAll {w : World} {a : Act} (ha : Fits N a σ) (hs : Sat W w H) {rs : List ResultVar} {vs : List Value} (hf : fn.results = rs.toArray) (h : ResVs P W σ H rs vs) :
    (results fn a.tmps).run P w = .ok (if h : vs.toArray.size = 1 then vs.toArray[0] else .tuple vs.toArray) w := by
  have h1 := run_resVs (P := P) ha hs rs vs h
  have e : results fn a.tmps = (do
      let vs ← fn.results.mapM (resOne a.tmps)
      pure (if h : vs.size = 1 then vs[0] else .tuple vs)) := by
    unfold results
    congr
  have h2 : (rs.toArray.mapM (resOne a.tmps)).run P w = .ok vs.toArray w := by
    rw [Array.mapM_eq_mapM_toList]
    show (Bind.bind (List.mapM (resOne a.tmps) rs) (fun l => (pure l.toArray : Sem (Array Value)))).run P w = _
    rw [Sem.run_bind, h1]
    rfl
  rw [e, hf, Sem.run_bind, h2]
  rfl
theorem ER_c1 {v : Value} {rv : ResultVar} (hf : fn.results = #[rv]) (h : ResV P W σ H rv v) (x : α) (hx : v = r x) (hs : ∀ w, Sat W w H → Sat W w (H' x)) : ER ⟨P, N, W, bodyPost P fn (Post W r H')⟩ σ H := fun _ w ha hw =>
  leaves (.inr rfl) ha (run_resAll (rs := [rv]) (vs := [v]) ha hw hf ⟨h, trivial⟩) x hx (hs w hw)
theorem ER_cn {v u : Value} {vs : List Value} {rs : List ResultVar} (hf : fn.results = rs.toArray) (h : ResVs P W σ H rs (v :: u :: vs)) (x : α) (hx : .tuple (v :: u :: vs).toArray = r x) (hs : ∀ w, Sat W w H → Sat W w (H' x)) : ER ⟨P, N, W, bodyPost P fn (Post W r H')⟩ σ H := fun _ w ha hw =>
  leaves (.inr rfl) ha (run_resAll ha hw hf h) x (by rw [← hx]; simp) (hs w hw)
end leave

/-! ### Equality of flat values -/
inductive KTag | i (k : IntKind) | b | s
def tagD : TypeDesc → Option KTag
  | .int k => some (.i k)
  | .bool => some .b
  | .string => some .s
  | _ => none
def tagOf (P : Program) (t : TypeId) : Option KTag := (P.underlying t).bind tagD
def fit1 : KTag → Value → Bool
  | .i k, .int k' _ => k == k'
  | .b, .bool _ => true
  | .s, .string _ => true
  | _, _ => false
def fits : List KTag → List Value → Bool
  | [], [] => true
  | t :: ts, v :: vs => fit1 t v && fits ts vs
  | _, _ => false
theorem fits_len : ∀ {ts : List KTag} {vs : List Value}, fits ts vs = true → vs.length = ts.length
  | [], [], _ => rfl
  | _ :: ts, _ :: vs, h => by
    simp only [fits, Bool.and_eq_true] at h
    simp [fits_len h.2]
  | [], _ :: _, h => by simp [fits] at h
  | _ :: _, [], h => by simp [fits] at h
theorem fits_get : ∀ {ts : List KTag} {vs : List Value} (_ : fits ts vs = true) {i : Nat} {t : KTag} (_ : ts[i]? = some t), ∃ v, vs[i]? = some v ∧ fit1 t v = true
  | t :: ts, v :: vs, h, 0, t', ht => by
    simp only [fits, Bool.and_eq_true] at h
    simp only [List.getElem?_cons_zero, Option.some.injEq] at ht
    subst ht
    exact ⟨v, rfl, h.1⟩
  | t :: ts, v :: vs, h, i + 1, t', ht => by
    simp only [fits, Bool.and_eq_true] at h
    simp only [List.getElem?_cons_succ] at ht ⊢
    exact fits_get h.2 ht
  | [], _, _, i, t', ht => by simp at ht
  | _ :: _, [], h, _, _, _ => by simp [fits] at h
theorem run_equal_cell {P : Program} (w : World) (d : Nat) {e : TypeId} {t : KTag} (ht : tagOf P e = some t) {a b : Value} (ha : fit1 t a = true) (hb : fit1 t b = true) :
    ∃ r : Bool, (Op.equalIn (d + 1) e a b).run P w = .ok r w ∧ (r = true ↔ a = b) := by
  unfold tagOf at ht
  cases hu : P.underlying e with
  | none => simp [hu] at ht
  | some dd =>
    rw [hu] at ht
    cases dd <;> simp only [Option.bind_some, tagD, Option.some.injEq, reduceCtorEq] at ht
    all_goals subst ht
    case int k =>
      cases a <;> simp only [fit1, beq_iff_eq, Bool.false_eq_true] at ha
      cases b <;> simp only [fit1, beq_iff_eq, Bool.false_eq_true] at hb
      subst ha; subst hb
      exact ⟨_, run_equalIn_int w d e _ _ _ _ hu, by simp⟩
    case bool =>
      cases a <;> simp only [fit1, Bool.false_eq_true] at ha
      cases b <;> simp only [fit1, Bool.false_eq_true] at hb
      exact ⟨_, run_equalIn_bool' w d e _ _ hu, by simp⟩
    case string =>
      cases a <;> simp only [fit1, Bool.false_eq_true] at ha
      cases b <;> simp only [fit1, Bool.false_eq_true] at hb
      rename_i x y
      refine ⟨_, run_equalIn_string w d e _ _ hu, ?_⟩
      rw [beq_iff_eq, ByteArray.toList_eq, ByteArray.toList_eq]
      constructor
      · intro h
        have : x.data = y.data := by rw [← Array.toArray_toList (xs := x.data), h, Array.toArray_toList]
        rw [ByteArray.ext this]
      · intro h
        cases h
        rfl
theorem run_part_tag {P : Program} (w : World) {e : TypeId} {t : KTag} (ht : tagOf P e = some t) {xs : Array Value} {off : Nat} {v : Value} (hx : xs[off]? = some v) : (part e xs off).run P w = .ok v w := by
  unfold tagOf at ht
  cases hu : P.underlying e with
  | none => simp [hu] at ht
  | some d => cases d <;> simp [hu, tagD] at ht <;> simp [part, isAgg, run_underlying hu, hx]
/-- A type whose parts are flat. -/
class TFlat (P : Program) (t : TypeId) (ks : outParam (List KTag)) : Prop where
  h : (∃ fs, P.underlying t = some (.struct fs) ∧ P.stoodInHeld t = false ∧ fs.toList.map (fun f => (f.name == "_", f.offset, tagOf P f.type)) = ks.zipIdx.map fun q => (false, q.2, some q.1)) ∨
    (∃ n e kk, P.underlying t = some (.array n e) ∧ (P.info? e).map (·.size) = some 1 ∧ tagOf P e = some kk ∧ ks = List.replicate n kk)
  g : P.eqGuardType P.depth t = false
theorem run_eqFields_flat {P : Program} (w : World) (d : Nat) (xs ys : List Value) (KS : List KTag) (hx : fits KS xs = true) (hy : fits KS ys = true) : ∀ (fs : List Field) (ks : List KTag) (i : Nat), KS.drop i = ks →
    fs.map (fun f => (f.name == "_", f.offset, tagOf P f.type)) = (ks.zipIdx i).map (fun q => (false, q.2, some q.1)) → ∃ r : Bool, (Op.eqFields (d + 1) xs.toArray ys.toArray fs).run P w = .ok r w ∧ (r = true ↔ xs.drop i = ys.drop i)
  | [], [], i, hd, _ => by
    have hl : KS.length ≤ i := by simpa using hd
    have h1 : xs.drop i = [] := List.drop_eq_nil_of_le (by rw [fits_len hx]; exact hl)
    have h2 : ys.drop i = [] := List.drop_eq_nil_of_le (by rw [fits_len hy]; exact hl)
    exact ⟨true, by simp [Op.eqFields], by rw [h1, h2]; simp⟩
  | [], _ :: _, _, _, h => by simp at h
  | _ :: _, [], _, _, h => by simp at h
  | f :: fs, t :: ks, i, hd, h => by
    simp only [List.map_cons, List.zipIdx_cons, List.cons.injEq, Prod.mk.injEq] at h
    obtain ⟨⟨hn, ho, ht⟩, hr⟩ := h
    have hi : KS[i]? = some t := by
      have := congrArg (fun l => l[0]?) hd
      simpa using this
    obtain ⟨a, ha, fa⟩ := fits_get hx hi
    obtain ⟨b, hb, fb⟩ := fits_get hy hi
    obtain ⟨r, h1, h2⟩ := run_equal_cell w d ht fa fb
    have hd' : KS.drop (i + 1) = ks := by
      have := congrArg List.tail hd
      simpa [List.tail_drop] using this
    obtain ⟨r', h3, h4⟩ := run_eqFields_flat w d xs ys KS hx hy fs ks (i + 1) hd' hr
    have hn' : f.name ≠ "_" := by simpa using hn
    have e1 : xs.drop i = a :: xs.drop (i + 1) := by
      obtain ⟨hl, rfl⟩ := List.getElem?_eq_some_iff.1 ha
      exact List.drop_eq_getElem_cons hl
    have e2 : ys.drop i = b :: ys.drop (i + 1) := by
      obtain ⟨hl, rfl⟩ := List.getElem?_eq_some_iff.1 hb
      exact List.drop_eq_getElem_cons hl
    have p1 := run_part_tag (P := P) w ht (xs := xs.toArray) (off := f.offset) (v := a) (by rw [ho]; simpa using ha)
    have p2 := run_part_tag (P := P) w ht (xs := ys.toArray) (off := f.offset) (v := b) (by rw [ho]; simpa using hb)
    simp only [Op.eqFields, if_pos hn', Sem.run_bind, p1, p2, h1, Result.andThen_ok]
    rw [e1, e2, List.cons.injEq]
    cases r with
    | false => exact ⟨false, by simp, by simp; intro g; exact absurd (h2.2 g) (by simp)⟩
    | true => exact ⟨r', by simpa using h3, by rw [h4]; simp [h2.1 rfl]⟩
theorem run_eqItems_flat {P : Program} (w : World) (d : Nat) {e : TypeId} {t : KTag} (ht : tagOf P e = some t) (hc : P.cellsOf e = 1) (xs ys : List Value) (n : Nat) (hx : fits (List.replicate n t) xs = true) (hy : fits (List.replicate n t) ys = true) : ∀ (m i : Nat), i + m = n →
    ∃ r : Bool, (Op.eqItems (d + 1) e (P.cellsOf e) xs.toArray ys.toArray (List.range' i m)).run P w = .ok r w ∧ (r = true ↔ xs.drop i = ys.drop i)
  | 0, i, h => by
    have h1 : xs.drop i = [] := List.drop_eq_nil_of_le (by rw [fits_len hx]; simp; omega)
    have h2 : ys.drop i = [] := List.drop_eq_nil_of_le (by rw [fits_len hy]; simp; omega)
    exact ⟨true, by simp [Op.eqItems], by rw [h1, h2]; simp⟩
  | m + 1, i, h => by
    have hi : (List.replicate n t)[i]? = some t := by rw [List.getElem?_replicate, if_pos (by omega)]
    obtain ⟨a, ha, fa⟩ := fits_get hx hi
    obtain ⟨b, hb, fb⟩ := fits_get hy hi
    obtain ⟨r, h1, h2⟩ := run_equal_cell w d ht fa fb
    obtain ⟨r', h3, h4⟩ := run_eqItems_flat w d ht hc xs ys n hx hy m (i + 1) (by omega)
    have e1 : xs.drop i = a :: xs.drop (i + 1) := by
      obtain ⟨hl, rfl⟩ := List.getElem?_eq_some_iff.1 ha
      exact List.drop_eq_getElem_cons hl
    have e2 : ys.drop i = b :: ys.drop (i + 1) := by
      obtain ⟨hl, rfl⟩ := List.getElem?_eq_some_iff.1 hb
      exact List.drop_eq_getElem_cons hl
    have p1 := run_part_tag (P := P) w ht (xs := xs.toArray) (off := i * 1) (v := a) (by simpa using ha)
    have p2 := run_part_tag (P := P) w ht (xs := ys.toArray) (off := i * 1) (v := b) (by simpa using hb)
    rw [hc] at h3 ⊢
    simp only [List.range'_succ, Op.eqItems, Sem.run_bind, p1, p2, h1, Result.andThen_ok]
    rw [e1, e2, List.cons.injEq]
    cases r with
    | false => exact ⟨false, by simp, by simp; intro g; exact absurd (h2.2 g) (by simp)⟩
    | true => exact ⟨r', by simpa using h3, by rw [h4]; simp [h2.1 rfl]⟩
theorem run_equal_flat {P : Program} (w : World) {t : TypeId} {ks : List KTag} [f : TFlat P t ks] {xs ys : List Value} (hx : fits ks xs = true) (hy : fits ks ys = true) :
    ∃ r : Bool, (Op.equalIn 10000 t (.agg xs.toArray) (.agg ys.toArray)).run P w = .ok r w ∧ (r = true ↔ xs = ys) := by
  rcases f.h with ⟨fs, h1, h2, h3⟩ | ⟨n, e, kk, h1, h2, h3, rfl⟩
  · have hfs : P.fieldsOf t = fs := by simp [Program.fieldsOf, h1]
    obtain ⟨r, h4, h5⟩ := run_eqFields_flat (P := P) w 9998 xs ys ks hx hy fs.toList ks 0 rfl h3
    refine ⟨r, ?_, by simpa using h5⟩
    have := run_equalIn_struct (P := P) w 9999 t xs.toArray ys.toArray (by rw [hfs]; exact h1) h2
    rw [hfs] at this
    exact this.trans h4
  · obtain ⟨i, hi, hsz⟩ := map_info h2
    have hc : P.cellsOf e = 1 := by simp [Program.cellsOf, hi, hsz]
    obtain ⟨r, h4, h5⟩ := run_eqItems_flat (P := P) w 9998 h3 hc xs ys n hx hy n 0 (by omega)
    refine ⟨r, ?_, by simpa using h5⟩
    have := run_equalIn_array (P := P) w 9999 xs.toArray ys.toArray h1 hi
    rw [List.range_eq_range'] at this
    exact this.trans h4
theorem OpVal_aggEq {x y : Operand} {t u : TypeId} {ks : List KTag} {xs ys : List Value} (ho : o.op = .binOp .eql t x y u) (hx : ev σ x = some (.agg xs.toArray)) (hy : ev σ y = some (.agg ys.toArray)) [f : TFlat X.P t ks] (h1 : fits ks xs = true) (h2 : fits ks ys = true) : OpVal X σ H o (.bool (@decide (xs = ys) (Classical.propDecidable _))) := by
  intro a w ha hs
  obtain ⟨r, h3, h4⟩ := run_equal_flat (P := X.P) w (t := t) h1 h2
  have e : @decide (xs = ys) (Classical.propDecidable _) = r := by
    by_cases g : xs = ys
    · rw [@decide_eq_true _ (Classical.propDecidable _) g]; exact (h4.2 g).symm
    · rw [@decide_eq_false _ (Classical.propDecidable _) g]
      cases r
      · rfl
      · exact absurd (h4.1 rfl) g
  simp only [execOp, ho, ha.eval hx, ha.eval hy, Sem.run_bind, run_eqGuard_agg w _ t x y _ _ f.g, Result.andThen_ok, run_eql_struct, h3, Sem.run_pure, e]
theorem OpVal_aggNe {x y : Operand} {t u : TypeId} {ks : List KTag} {xs ys : List Value} (ho : o.op = .binOp .neq t x y u) (hx : ev σ x = some (.agg xs.toArray)) (hy : ev σ y = some (.agg ys.toArray)) [f : TFlat X.P t ks] (h1 : fits ks xs = true) (h2 : fits ks ys = true) : OpVal X σ H o (.bool (!@decide (xs = ys) (Classical.propDecidable _))) := by
  intro a w ha hs
  obtain ⟨r, h3, h4⟩ := run_equal_flat (P := X.P) w (t := t) h1 h2
  have e : @decide (xs = ys) (Classical.propDecidable _) = r := by
    by_cases g : xs = ys
    · rw [@decide_eq_true _ (Classical.propDecidable _) g]; exact (h4.2 g).symm
    · rw [@decide_eq_false _ (Classical.propDecidable _) g]
      cases r
      · rfl
      · exact absurd (h4.1 rfl) g
  simp only [execOp, ho, ha.eval hx, ha.eval hy, Sem.run_bind, run_eqGuard_agg w _ t x y _ _ f.g, Result.andThen_ok, run_neq_struct, h3, Sem.run_pure, e]

end Go.Proofs.Ytdmmahhnfnefoaa
