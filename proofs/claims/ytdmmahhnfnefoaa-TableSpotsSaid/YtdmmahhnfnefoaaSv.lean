/-
  What operations do, of the assertions: new slices, append, parts of slices, struct values. Plain Lean: no program in sight.
-/
import Derived.Test.YtdmmahhnfnefoaaSw
namespace Go.Proofs.Ytdmmahhnfnefoaa
open Go.RowKit

variable {X : Cx} {k : List KI} {σ : Env} {H : SL} {o : Oper}

theorem TSlice.parts {P : Program} {t e sz by' : Nat} {z : List Value} (s : TSlice P t e sz by' z) : ∃ i v, P.info? e = some i ∧ i.zero = some v ∧ i.size = sz ∧ i.bytes = by' ∧ v.cells = z.toArray := by
  obtain ⟨v, h1, h2⟩ := s.info
  obtain ⟨i, hi, h3⟩ := map_info h1
  simp only [Prod.mk.injEq] at h3
  exact ⟨i, v, hi, h3.1, h3.2.1, h3.2.2, h2⟩

/-! ### append -/
theorem append_rowC {P : Program} {W w : World} {F : SL} {t ty e sz by' n cap m c : Nat} {z xs news : List Value} {p q : Option Addr} (s : TSlice P t e sz by' z) (h : Sat W w (RowC e sz p n cap xs * F))
    (hq : 0 < m → q ≠ none) (hnews : ∀ i v, news[i]? = some v → ∃ a, off q i = some a ∧ w.cell? a = some v) (hl : news.length = m * sz) (h1 : ones news = true) (h63 : n + m ≤ maxLen) (hby : (n + m) * by' ≤ 140737488355328) :
    ∃ p' c' w', (Builtin.append_ #[t, t] ty #[.slice p n cap, .slice q m c]).run P w = .ok (.slice p' (n + m) c') w' ∧ Sat W w' (RowC e sz p' (n + m) c' (xs ++ news) * F) := by
  obtain ⟨i, v, hi, hz, hsz, hbs, hzc⟩ := s.parts
  have hpos := s.pos
  have hzl : v.cells.size = sz := by rw [hzc]; simpa using s.len
  subst hsz
  subst hbs
  have hsmall : n + m ≤ 9223372036854775807 := by simp only [maxLen] at h63; omega
  by_cases hm : m = 0
  · subst hm
    have hn0 : news = [] := List.eq_nil_of_length_eq_zero (by simpa using hl)
    subst hn0
    obtain ⟨_, hnc, _⟩ := RowC.len h
    refine ⟨p, cap, w, ?_, by simpa using h⟩
    cases q <;> cases p <;> simp [Builtin.append_, run_underlying s.under, sizeOf, typeInfo, hi, Builtin.lenOf, hnc, Builtin.firstCells, loadCells, loadCellsFrom, storeCells]
  have hmp : 0 < m := by omega
  have hqn := hq hmp
  cases q with
  | none => exact absurd rfl hqn
  | some a =>
    have hnews' : ∀ j u, news[j]? = some u → w.cell? (a.add j) = some u := fun j u hu => by
      obtain ⟨b, h2, h3⟩ := hnews j u hu
      simp only [off, Option.map_some, Option.some.injEq] at h2
      rw [h2]; exact h3
    obtain ⟨⟨hxl, hnc, hcm⟩, ⟨_, hcz, hs⟩ | ⟨g, o, cur, rfl, h2, h3, hs⟩⟩ := RowC.open h
    · have hn0 : n = 0 := by omega
      subst hn0
      have hx0 : xs = [] := List.eq_nil_of_length_eq_zero (by simpa using hxl)
      subst hx0
      subst hcz
      cases p with
      | some a0 =>
        have hr := run_append_grow (P := P) w t ty e i v s.under hi hz a0 0 0 [] (by simp) (by simp) a m c news hl hnews' (by omega) (by omega) (growslice_fits (by omega) hby)
        have hge := grownCap_ge w (0 + m) 0 e
        have hcm' := grownCap_le_maxLen w (0 + m) 0 e h63
        refine ⟨_, _, _, hr, ?_⟩
        have hn := hs.drew.alloc (.cells ((([] : List Value).toArray) ++ news.toArray ++ Builtin.zeroCells v.cells (grownCap w (0 + m) 0 e - (0 + m))) e)
        have hc : (([] : List Value).toArray) ++ news.toArray ++ Builtin.zeroCells v.cells (grownCap w (0 + m) 0 e - (0 + m)) = (([] ++ news) ++ (Builtin.zeroCells v.cells (grownCap w (0 + m) 0 e - (0 + m))).toList).toArray := by simp
        rw [hc] at hn ⊢
        have hsz2 : (Builtin.zeroCells v.cells (grownCap w (0 + m) 0 e - (0 + m))).toList.length = (grownCap w (0 + m) 0 e - (0 + m)) * i.size := by simp [size_zeroCells, hzl]
        have hxn : (([] : List Value) ++ news).length = (0 + m) * i.size := by rw [List.length_append, hl]; simp
        exact RowC.shut (o := 0) hge hcm' (by rw [List.length_append, hsz2, hxn, ← Nat.add_mul]; exact Nat.le_of_eq (by rw [Nat.zero_add]; congr 1; omega)) (by rw [List.drop_zero, ← hxn, List.take_left]) hn
      | none =>
      have hr := run_append_nil (P := P) w t ty e i v s.under hi hz a m c news hl hnews' hmp (by omega) (by have := hby; simp only [Nat.zero_add] at this; omega)
      have hge := grownCap_ge w m 0 e
      have hcm := grownCap_le_maxLen w m 0 e (by omega)
      refine ⟨_, _, _, by rw [Nat.zero_add]; exact hr, ?_⟩
      have hn := hs.drew.alloc (.cells (news.toArray ++ Builtin.zeroCells v.cells (grownCap w m 0 e - m)) e)
      have hc : news.toArray ++ Builtin.zeroCells v.cells (grownCap w m 0 e - m) = (news ++ (Builtin.zeroCells v.cells (grownCap w m 0 e - m)).toList).toArray := by simp
      rw [hc] at hn ⊢
      have hsz2 : (Builtin.zeroCells v.cells (grownCap w m 0 e - m)).toList.length = (grownCap w m 0 e - m) * i.size := by simp [size_zeroCells, hzl]
      have := RowC.shut (e := e) (sz := i.size) (o := 0) (n := m) (cap := grownCap w m 0 e) (xs := news) hge hcm (by
        rw [List.length_append, hsz2, hl, ← Nat.add_mul]; exact Nat.le_of_eq (by rw [Nat.zero_add]; congr 1; omega)) (by rw [List.drop_zero, ← hl, List.take_left]) hn
      simpa using this
    · by_cases hroom : n + m ≤ cap
      · have hle : (n + m) * i.size ≤ cap * i.size := Nat.mul_le_mul_right _ hroom
        rw [Nat.add_mul] at hle
        obtain ⟨w', h4, h5⟩ := blk_stores (P := P) (o := o + n * i.size) (vs := news) hs (by rw [hl]; omega) h1
        have hf := run_firstCells_some (P := P) w i.size m a m c news hl hnews'
        refine ⟨some ⟨g, o, none⟩, cap, w', ?_, RowC.shut hroom hcm ?_ ?_ h5⟩
        · simp [Builtin.append_, run_underlying s.under, sizeOf, typeInfo, hi, Builtin.lenOf, hroom, hf, add_at, h4]
        · simp; omega
        · rw [Nat.add_mul, ← h3, List.drop_append_of_le_length (by simp; omega), List.drop_append_of_le_length (by simp; omega), List.drop_take, show o + n * i.size - o = n * i.size by omega]
          have e1 : ((List.take (n * i.size) (List.drop o cur)) ++ news).length = n * i.size + m * i.size := by simp; omega
          rw [← e1, List.take_left]
      · have holds : ∀ j u, xs[j]? = some u → w.cell? ((⟨g, o, none⟩ : Addr).add j) = some u := fun j u hu => by
          obtain ⟨b, h4, h5⟩ := RowC.cell h hu
          simp only [off, Option.map_some, Option.some.injEq] at h4
          rw [h4]; exact h5
        have hr := run_append_grow (P := P) w t ty e i v s.under hi hz ⟨g, o, none⟩ n cap xs hxl holds a m c news hl hnews' (by omega) (by omega) (growslice_fits (by omega) hby)
        have hge := grownCap_ge w (n + m) cap e
        have hcm' := grownCap_le_maxLen w (n + m) cap e h63
        refine ⟨_, _, _, hr, ?_⟩
        have hn := hs.drop.drew.alloc (.cells (xs.toArray ++ news.toArray ++ Builtin.zeroCells v.cells (grownCap w (n + m) cap e - (n + m))) e)
        have hc : xs.toArray ++ news.toArray ++ Builtin.zeroCells v.cells (grownCap w (n + m) cap e - (n + m)) = ((xs ++ news) ++ (Builtin.zeroCells v.cells (grownCap w (n + m) cap e - (n + m))).toList).toArray := by simp
        rw [hc] at hn ⊢
        have hsz2 : (Builtin.zeroCells v.cells (grownCap w (n + m) cap e - (n + m))).toList.length = (grownCap w (n + m) cap e - (n + m)) * i.size := by simp [size_zeroCells, hzl]
        have hxn : (xs ++ news).length = (n + m) * i.size := by rw [List.length_append, hxl, hl, Nat.add_mul]
        exact RowC.shut (o := 0) hge hcm' (by rw [List.length_append, hsz2, hxn, ← Nat.add_mul]; exact Nat.le_of_eq (by rw [Nat.zero_add]; congr 1; omega)) (by rw [List.drop_zero, ← hxn, List.take_left]) hn

theorem OpDoes_append {x y : Operand} {t e sz by' n cap m c : Nat} {z xs news : List Value} {p q : Option Addr} {F : SL} (ho : o.op = .call { callee := .builtin .append, args := #[x, y], argTypes := #[t, t] }) (hx : ev σ x = some (.slice p n cap)) (hy : ev σ y = some (.slice q m c))
    [s : TSlice X.P t e sz by' z] [r : AtP H p (RowC e sz p n cap xs) F] [r2 : Src X.W H q m news] [h1 : Ones news] (hl : news.length = m * sz) (hb : n + m ≤ 4294967296) (hby : by' ≤ 32768) :
    OpDoes X σ H o (fun q : Option Addr × Nat => .slice q.1 (n + m) q.2) (fun q => RowC e sz q.1 (n + m) q.2 (xs ++ news) * F) := by
  intro a w ha hs
  have hmul : (n + m) * by' ≤ 4294967296 * 32768 := Nat.mul_le_mul hb hby
  obtain ⟨p', c', w', h2, h3⟩ := append_rowC (ty := o.type) (c := c) s (r.eq ▸ hs) (fun h => r2.nn w hs h) (r2.cells w hs) hl h1.ones (by unfold maxLen; omega) (by omega)
  refine ⟨(p', c'), w', ?_, h3⟩
  simp only [execOp, ho, resolve, invoke, builtin, Sem.run_bind, Sem.run_pure, Result.andThen_ok, List.map_toArray, List.map_cons, List.map_nil, ha.eval hx, ha.eval hy, h2]
/-- .. of a slice that was made for it. -/
theorem OpDoes_append1 {x y : Operand} {t e sz by' n cap : Nat} {z xs news : List Value} {p q : Option Addr} {F F0 : SL} (ho : o.op = .call { callee := .builtin .append, args := #[x, y], argTypes := #[t, t] }) (hx : ev σ x = some (.slice p n cap)) (hy : ev σ y = some (.slice q 1 1))
    [s : TSlice X.P t e sz by' z] [r0 : AtP H q (RowC e sz q 1 1 news) F0] [r : AtP F0 p (RowC e sz p n cap xs) F] [h1 : Ones news] (hb : n ≤ 4294967295) (hby : by' ≤ 32768) :
    OpDoes X σ H o (fun q : Option Addr × Nat => .slice q.1 (n + 1) q.2) (fun q => RowC e sz q.1 (n + 1) q.2 (xs ++ news) * F) := by
  intro a w ha hs
  have hmul : (n + 1) * by' ≤ 4294967296 * 32768 := Nat.mul_le_mul (by omega) hby
  have hs0 := r0.eq ▸ hs
  obtain ⟨p', c', w', h2, h3⟩ := append_rowC (ty := o.type) (c := 1) (m := 1) s (r.eq ▸ hs0.drop) (fun h => RowC.nn hs0 h) (fun i v => RowC.cell hs0) (RowC.len hs0).1 h1.ones (by unfold maxLen; omega) (by omega)
  refine ⟨(p', c'), w', ?_, h3⟩
  simp only [execOp, ho, resolve, invoke, builtin, Sem.run_bind, Sem.run_pure, Result.andThen_ok, List.map_toArray, List.map_cons, List.map_nil, ha.eval hx, ha.eval hy, h2]

/-! ### make -/
def reps (n : Nat) (z : List Value) : List Value := (List.replicate n z).flatten
theorem reps_one (n : Nat) (v : Value) : reps n [v] = List.replicate n v := by
  induction n with
  | zero => rfl
  | succ n ih => simp only [reps, List.replicate_succ, List.flatten_cons] at ih ⊢; rw [ih]; rfl
theorem reps_len (n : Nat) (z : List Value) : (reps n z).length = n * z.length := by
  induction n with
  | zero => simp [reps]
  | succ n ih => simp only [reps, List.replicate_succ, List.flatten_cons, List.length_append] at ih ⊢; rw [ih, Nat.succ_mul, Nat.add_comm]
theorem made_reps (n : Nat) (z : List Value) (hz : 0 < z.length) : (madeCells z.toArray (n * z.length)).toList = reps n z := by
  have key : ∀ n, (List.range (n * z.length)).map (fun i => z[i % z.length]!) = reps n z := by
    intro n
    induction n with
    | zero => simp [reps]
    | succ n ih =>
      have e1 : reps (n + 1) z = reps n z ++ z := by
        simp only [reps, List.replicate_succ', List.flatten_append, List.flatten_cons, List.flatten_nil, List.append_nil]
      rw [e1, ← ih, Nat.succ_mul, List.range_add, List.map_append, List.map_map]
      congr 1
      apply List.ext_getElem (by simp)
      intro i h1 h2
      have hi : i < z.length := h2
      simp only [List.getElem_map, List.getElem_range, Function.comp, Nat.mul_add_mod_self_right, Nat.mod_eq_of_lt hi]
      exact (getElem!_pos z i hi)
  rw [← key]
  simp [madeCells]

theorem OpDoes_make {x y : Operand} {t e sz by' n : Nat} {k1 k2 : IntKind} {a b : Int} {z : List Value} (ho : o.op = .makeSlice t x y) (hx : ev σ x = some (.int k1 a)) (hy : ev σ y = some (.int k2 b)) [s : TSlice X.P t e sz by' z] [h1 : NatOf a n] [h2 : NatOf b n] (hb : n ≤ 4294967296) (hby : by' ≤ 32768) :
    OpDoes X σ H o (fun p : Option Addr => .slice p n n) (fun p => RowC e sz p n n (reps n z) * H) := by
  intro a' w ha hs
  obtain ⟨i, v, hi, hz, hsz, hbs, hzc⟩ := s.parts
  have e1 := h1.eq
  have e2 := h2.eq
  subst e1
  subst e2
  have hmul : by' * n ≤ 32768 * 4294967296 := Nat.mul_le_mul hby hb
  have h3 := run_make (P := X.P) w t e i v s.under hi hz k1 k2 (n : Int) (n : Int) (by omega) (by omega) (by rw [hbs]; omega) (by omega)
  refine ⟨some ⟨w.heap.size, 0, none⟩, w.alloc (.cells (madeCells v.cells (n * i.size)) e), ?_, ?_⟩
  · simp only [execOp, ho, ha.eval hx, ha.eval hy, Sem.run_bind, h3, Result.andThen_ok, Sem.run_pure, Int.toNat_natCast]
  · have hc : madeCells v.cells (n * i.size) = (reps n z).toArray := by
      rw [hzc, hsz, ← s.len, ← made_reps n z (by rw [s.len]; exact s.pos), Array.toArray_toList]
    rw [hc]
    have hlen : (reps n z).length = n * sz := by rw [reps_len, s.len]
    exact RowC.shut (o := 0) (Nat.le_refl _) (by unfold maxLen; omega) (by omega) (by rw [List.drop_zero, ← hlen, List.take_length]) (hs.alloc _)

/-! ### Literals -/
def appO : List Value → List Value → Option (List Value)
  | [], vs => some vs
  | c :: cs, vs => match appO cs vs with
    | some l => some (c :: l)
    | none => none
theorem appO_spec : ∀ {cs vs l : List Value}, appO cs vs = some l → l = cs ++ vs
  | [], vs, l, h => by simpa [appO] using h.symm
  | c :: cs, vs, l, h => by
    simp only [appO] at h
    split at h
    · rename_i m hm
      simp only [Option.some.injEq] at h
      subst h
      rw [appO_spec hm]; rfl
    · simp at h
def bsl (σ : Env) (sz : Nat) : Nat → List (Nat × Operand) → Option (List Value)
  | _, [] => some []
  | i, (j, x) :: l => match Nat.beq i j with
    | true => match ev σ x with
      | some v => match cellsS v with
        | some cs => match Nat.beq cs.length sz with
          | true => match bsl σ sz (i + 1) l with
            | some vs => appO cs vs
            | none => none
          | false => none
        | none => none
      | none => none
    | false => none

theorem foldl_set : ∀ (vs : List Value) (j o : Nat) (cs : List Value), o + j + vs.length ≤ cs.length → (vs.zipIdx j).foldl (fun (a : Array Value) (p : Value × Nat) => a.setIfInBounds (o + p.2) p.1) cs.toArray = (cs.take (o + j) ++ vs ++ cs.drop (o + j + vs.length)).toArray
  | [], j, o, cs, _ => by simp
  | v :: vs, j, o, cs, h => by
    simp only [List.length_cons] at h
    simp only [List.zipIdx_cons, List.foldl_cons, List.setIfInBounds_toArray]
    rw [foldl_set vs (j + 1) o (cs.set (o + j) v) (by simp; omega)]
    congr 1
    apply List.ext_getElem?
    intro q
    simp only [List.getElem?_append, List.getElem?_take, List.getElem?_drop, List.length_append, List.length_take, List.length_set, List.getElem?_set, List.length_cons, List.getElem?_cons]
    repeat' split
    all_goals first
      | rfl
      | omega
      | (congr 1; omega)
      | skip

theorem fill_bsl {P : Nat → Option (Nat × Nat)} {sz : Nat} {ρ : Operand → Value} (hP : ∀ i, P i = some (i * sz, sz)) {N : Nat} {a : Act} (ha : Fits N a σ) (hρ : ρ = a.eval) : ∀ (l : List (Nat × Operand)) (i : Nat) (vs pre suf : List Value), bsl σ sz i l = some vs → pre.length = i * sz → suf.length = vs.length →
    Instr.fill P (pre ++ suf).toArray (l.map fun (q : Nat × Operand) => (q.1, ρ q.2)) = some (pre ++ vs).toArray
  | [], i, vs, pre, suf, h, hp, hs => by
    simp only [bsl, Option.some.injEq] at h
    subst h
    have : suf = [] := List.eq_nil_of_length_eq_zero (by simpa using hs)
    subst this
    simp [Instr.fill]
  | (j, x) :: l, i, vs, pre, suf, h, hp, hs => by
    simp only [bsl] at h
    split at h
    · rename_i hj
      have hj := Nat.eq_of_beq_eq_true hj
      subst hj
      split at h
      · rename_i v hv
        split at h
        · rename_i cs0 hc0
          obtain rfl := cellsS_spec hc0
          split at h
          · rename_i hc
            have hc := Nat.eq_of_beq_eq_true hc
            split at h
            rotate_left
            · simp at h
            rename_i us hus
            obtain rfl := appO_spec h
            simp only [List.length_append] at hs
            have e1 : v.cells.size = sz := by rw [← hc, ← cellsL_spec, Array.length_toList]
            subst hρ
            simp only [List.map_cons, Instr.fill, hP, ha.eval hv, e1, ne_eq, not_true_eq_false, decide_false, Bool.false_or, decide_eq_true_eq, List.size_toArray, List.length_append]
            rw [if_neg (by omega)]
            have e2 : v.cells = (cellsL v).toArray := by rw [← cellsL_spec, Array.toArray_toList]
            have e3 := foldl_set (cellsL v) 0 (i * sz) (pre ++ suf) (by simp; omega)
            have e4 : (v.cells.zipIdx.foldl (fun (cs : Array Value) (x : Value × Nat) => cs.setIfInBounds (i * sz + x.2) x.1) (pre ++ suf).toArray) = (pre ++ cellsL v ++ suf.drop sz).toArray := by
              rw [e2, ← Array.foldl_toList, Array.toList_zipIdx]
              simp only [Nat.add_zero] at e3
              rw [e3, ← hp, List.take_left]
              congr 2
              rw [List.drop_append, List.drop_eq_nil_of_le (by omega), List.nil_append, hc]
              congr 1
              omega
            have e5 := fill_bsl hP ha rfl l (i + 1) us (pre ++ cellsL v) (suf.drop sz) hus (by rw [List.length_append, hp, hc, Nat.succ_mul]) (by rw [List.length_drop]; omega)
            rw [List.append_assoc] at e5
            rw [← List.append_assoc]
            refine Eq.trans (congrArg (fun c => Instr.fill P c _) e4) ?_
            rw [← List.append_assoc] at e5
            simpa using e5
          · simp at h
        · simp at h
      · simp at h
    · simp at h

theorem OpDoes_buildSlice {t e sz by' n : Nat} {z vs : List Value} {parts : Array (Nat × Operand)} (ho : o.op = .buildSlice t n parts) [s : TSlice X.P t e sz by' z] (hv : bsl σ sz 0 parts.toList = some vs) (hn : Nat.beq vs.length (n * sz) = true) (hn' : n ≤ 65536) (hsz : sz ≤ 256) :
    OpDoes X σ H o (fun p : Option Addr => .slice p n n) (fun p => RowC e sz p n n vs * H) := by
  intro a w ha hs
  obtain ⟨i, v, hi, hz, hs1, hbs, hzc⟩ := s.parts
  have hn := Nat.eq_of_beq_eq_true hn
  have hmul : n * sz ≤ 65536 * 256 := Nat.mul_le_mul hn' hsz
  have key : ∀ cs : Array Value, cs.size = n * sz → Instr.fill (fun i => some (i * sz, sz)) cs (parts.toList.map fun (q : Nat × Operand) => (q.1, a.eval q.2)) = some vs.toArray := fun cs hcs => by
    have := fill_bsl (P := fun i => some (i * sz, sz)) (fun _ => rfl) ha rfl parts.toList 0 vs [] cs.toList hv (by simp) (by rw [Array.length_toList]; omega)
    simpa using this
  refine ⟨some ⟨w.heap.size, 0, none⟩, w.alloc (.cells vs.toArray e), ?_, ?_⟩
  · have hlim : ¬ (16777216 < n * sz) := by omega
    have hz2 : (zeroValue e).run X.P w = .ok v w := by simp [zeroValue, typeInfo, hi, hz, go_sem]
    have hs2 : (sizeOf e).run X.P w = .ok sz w := by simp [sizeOf, typeInfo, hi, hs1, go_sem]
    simp only [execOp, ho]
    generalize a.eval = ρ at key ⊢
    by_cases h0 : n * sz = 0
    · simp [Instr.buildSlice, run_underlying s.under, hs2, h0, newRow, go_sem]
      rw [key #[] (by simp [h0])]
      simp [go_sem]
    · simp [Instr.buildSlice, run_underlying s.under, hs2, h0, hlim, newRow, hz2, go_sem]
      rw [key _ (by simp)]
      simp [go_sem]
  · exact RowC.shut (o := 0) (Nat.le_refl _) (by unfold maxLen; omega) (by rw [Nat.zero_add]; omega) (by rw [List.drop_zero, ← hn, List.take_length]) (hs.alloc _)

/-! ### Values of structs -/
class TStruct (P : Program) (t : TypeId) (pl : outParam (List (Nat × Nat))) : Prop where
  h : ∃ fs, P.underlying t = some (.struct fs) ∧ fs.toList.map (fun f => (f.offset, (P.info? f.type).map (·.size))) = pl.map fun q => (q.1, some q.2)
def bld (σ : Env) (pl : List (Nat × Nat)) : List Value → List (Nat × Operand) → Option (List Value)
  | cs, [] => some cs
  | cs, (f, x) :: l => match pl[f]? with
    | some (o, s) => match ev σ x with
      | some v => match Nat.beq (cellsL v).length s with
        | true => match spl cs o (cellsL v) with
          | some cs' => bld σ pl cs' l
          | none => none
        | false => none
      | none => none
    | none => none
theorem fill_bld {pl : List (Nat × Nat)} {N : Nat} {a : Act} (ha : Fits N a σ) : ∀ (l : List (Nat × Operand)) (cs vs : List Value), bld σ pl cs l = some vs → Instr.fill (fun i => pl[i]?) cs.toArray (l.map fun (q : Nat × Operand) => (q.1, a.eval q.2)) = some vs.toArray
  | [], cs, vs, h => by
    simp only [bld, Option.some.injEq] at h
    subst h
    simp [Instr.fill]
  | (f, x) :: l, cs, vs, h => by
    simp only [bld] at h
    split at h
    · rename_i o s hf
      split at h
      · rename_i v hv
        split at h
        · rename_i hc
          have hc := Nat.eq_of_beq_eq_true hc
          split at h
          · rename_i cs' hs
            obtain ⟨h1, h2⟩ := spl_spec hs
            have e1 : v.cells.size = s := by rw [← hc, ← cellsL_spec, Array.length_toList]
            simp only [List.map_cons, Instr.fill, hf, ha.eval hv, e1, ne_eq, not_true_eq_false, decide_false, Bool.false_or, decide_eq_true_eq, List.size_toArray]
            rw [if_neg (by omega)]
            have e2 : v.cells = (cellsL v).toArray := by rw [← cellsL_spec, Array.toArray_toList]
            have e3 := foldl_set (cellsL v) 0 o cs (by omega)
            have e4 : (v.cells.zipIdx.foldl (fun (c : Array Value) (q : Value × Nat) => c.setIfInBounds (o + q.2) q.1) cs.toArray) = cs'.toArray := by
              rw [e2, ← Array.foldl_toList, Array.toList_zipIdx]
              simp only [Nat.add_zero] at e3
              rw [e3, h2]
            exact (congrArg (fun c => Instr.fill (fun i => pl[i]?) c _) e4).trans (fill_bld ha l cs' vs h)
          · simp at h
        · simp at h
      · simp at h
    · simp at h
theorem run_places {P : Program} (w : World) : ∀ (fs : List Field) (pl : List (Nat × Nat)), fs.map (fun f => (f.offset, (P.info? f.type).map (·.size))) = pl.map (fun q => (q.1, some q.2)) → (fs.mapM fun f => do pure (f.offset, ← sizeOf f.type) : Sem (List (Nat × Nat))).run P w = .ok pl w
  | [], [], _ => by simp [go_sem]
  | [], _ :: _, h => by simp at h
  | _ :: _, [], h => by simp at h
  | f :: fs, q :: pl, h => by
    simp only [List.map_cons, List.cons.injEq, Prod.mk.injEq] at h
    obtain ⟨⟨h1, h2⟩, h3⟩ := h
    obtain ⟨i, hi, hs⟩ := map_info h2
    have ih := run_places w fs pl h3
    simp [List.mapM_cons, sizeOf, typeInfo, hi, hs, h1, go_sem] at ih ⊢
    simp [ih, go_sem]
theorem OpVal_build {t : TypeId} {parts : Array (Nat × Operand)} {pl : List (Nat × Nat)} {cs vs : List Value} (ho : o.op = .build t parts) [s : TStruct X.P t pl] [z : TZero X.P t cs] (hv : bld σ pl cs parts.toList = some vs) : OpVal X σ H o (.agg vs.toArray) := by
  intro a w ha hs
  obtain ⟨v, h1, h2⟩ := z.h
  obtain ⟨j, hj, hz⟩ := map_info h1
  obtain ⟨fs, h3, h4⟩ := s.h
  have h5 := run_places (P := X.P) w fs.toList pl h4
  have h6 := fill_bld ha parts.toList cs vs hv
  have h7 : (fs.mapM fun f => do pure (f.offset, ← sizeOf f.type) : Sem (Array (Nat × Nat))).run X.P w = .ok pl.toArray w := by
    rw [Array.mapM_eq_mapM_toList]
    show (Bind.bind (fs.toList.mapM fun f => do pure (f.offset, ← sizeOf f.type) : Sem (List (Nat × Nat))) (fun l => pure l.toArray)).run X.P w = _
    rw [Sem.run_bind, h5]
    rfl
  have hz2 : (zeroValue t).run X.P w = .ok v w := by simp [zeroValue, typeInfo, hj, hz, go_sem]
  have h8 : Instr.fill (pl.toArray[·]?) v.cells (parts.map fun (q : Nat × Operand) => (q.1, a.eval q.2)).toList = some vs.toArray := by
    rw [h2, Array.toList_map]
    simpa using h6
  simp only [execOp, ho, Instr.build, Sem.run_bind, hz2, Result.andThen_ok, run_underlying h3]
  simp only [Sem.run_bind, h7, Result.andThen_ok]
  rw [h8]
  rfl
/-- A field of a struct that lies in no variable. -/
class TFldT (P : Program) (s : TypeId) (f : Nat) (o : outParam Nat) (t : outParam TypeId) : Prop where
  h : ∃ fs g, P.underlying s = some (.struct fs) ∧ fs[f]? = some g ∧ g.offset = o ∧ g.type = t
theorem OpVal_field {s t : TypeId} {f i : Nat} {x : Operand} {cs : Array Value} {v : Value} (ho : o.op = .field s x f) (hx : ev σ x = some (.agg cs)) [g : TFldT X.P s f i t] [c : TCell X.P t] (hv : cs.toList[i]? = some v) : OpVal X σ H o v := by
  intro a w ha hs
  obtain ⟨fs, q, h1, h2, rfl, rfl⟩ := g.h
  obtain ⟨d, h3, h4⟩ := c.agg
  have hv' : cs[q.offset]? = some v := by simpa using hv
  simp only [execOp, ho, ha.eval hx]
  cases d <;> simp at h4 <;> simp [Instr.field, run_underlying h1, h2, part, isAgg, run_underlying h3, asAgg, hv', go_sem]
/-- A function value. -/
theorem OpVal_makeFunc {fn : Fn} {first cap : Array Operand} {vs us : List Value} (ho : o.op = .makeFunc fn first cap) (h1 : evs σ first.toList = some vs) (h2 : evs σ cap.toList = some us) : OpVal X σ H o (.func fn vs.toArray us.toArray) := by
  intro a w ha hs
  have e1 : first.map a.eval = vs.toArray := by
    have := ha.evals h1
    rw [← this, ← List.map_toArray, Array.toArray_toList]
  have e2 : cap.map a.eval = us.toArray := by
    have := ha.evals h2
    rw [← this, ← List.map_toArray, Array.toArray_toList]
  simp only [execOp, ho, e1, e2]
  rfl
theorem OpVal_min {x y : Operand} {ats : Array TypeId} {k k' : IntKind} {a b : Int} (ho : o.op = .call { callee := .builtin .min, args := #[x, y], argTypes := ats }) (hx : ev σ x = some (.int k a)) (hy : ev σ y = some (.int k' b)) : OpVal X σ H o (.int k (min a b)) := by
  intro a' w ha hs
  simp only [execOp, ho, resolve, invoke, builtin, Sem.run_bind, Sem.run_pure, Result.andThen_ok, List.map_toArray, List.map_cons, List.map_nil, ha.eval hx, ha.eval hy]
  have e : (if b < a then b else a) = min a b := by omega
  simp [Builtin.min_, Builtin.min2, e, go_sem]
theorem OpVal_max {x y : Operand} {ats : Array TypeId} {k k' : IntKind} {a b : Int} (ho : o.op = .call { callee := .builtin .max, args := #[x, y], argTypes := ats }) (hx : ev σ x = some (.int k a)) (hy : ev σ y = some (.int k' b)) : OpVal X σ H o (.int k (max a b)) := by
  intro a' w ha hs
  simp only [execOp, ho, resolve, invoke, builtin, Sem.run_bind, Sem.run_pure, Result.andThen_ok, List.map_toArray, List.map_cons, List.map_nil, ha.eval hx, ha.eval hy]
  have e : (if b > a then b else a) = max a b := by omega
  simp [Builtin.max_, Builtin.max2, e, go_sem]

end Go.Proofs.Ytdmmahhnfnefoaa
