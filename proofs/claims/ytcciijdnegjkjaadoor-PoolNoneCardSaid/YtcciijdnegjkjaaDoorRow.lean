/-
  Slices of the call's own, as assertions: reading, appending. Plain Lean: no program in sight.
-/
import Derived.Test.YtcciijdnegjkjaaDoorSl
namespace Go.Proofs.YtcciijdnegjkjaaDoor
open Go.RowKit

/-- What the program's table says of a slice type t with elements e: the element's zero, its cells, its bytes. -/
structure Elem (P : Program) (t e : TypeId) (z : Value) (size bytes : Nat) : Prop where
  under : P.underlying t = some (.slice e)
  info : (P.info? e).map (fun i => (i.zero, i.size, i.bytes)) = some (some z, size, bytes)
  cells : z.cells.size = size
  pos : 0 < size

/-- v is a slice of n elements of the call's own, whose cells are xs. -/
def Row (e size : Nat) (v : Value) (n : Nat) (xs : List Value) : SL := fun h =>
  xs.length = n * size ∧ ((v = .slice none 0 0 ∧ n = 0 ∧ SL.emp h) ∨
    ∃ g cap cur, v = .slice (some ⟨g, 0, none⟩) n cap ∧ n ≤ cap ∧ cap ≤ maxLen ∧ cur.size = cap * size ∧ cur.toList.take (n * size) = xs ∧ SL.blk g (.cells cur e (0, 0)) h)

/-- v is a slice of n elements anywhere in a block of the call's own: to be read. -/
def RowAt (e size : Nat) (v : Value) (n : Nat) (xs : List Value) : SL := fun h =>
  xs.length = n * size ∧ ((v = .slice none 0 0 ∧ n = 0 ∧ SL.emp h) ∨
    ∃ g off cap cur, v = .slice (some ⟨g, off, none⟩) n cap ∧ n ≤ cap ∧ cap ≤ maxLen ∧ off + n * size ≤ cur.size ∧ (cur.toList.drop off).take (n * size) = xs ∧ SL.blk g (.cells cur e (0, 0)) h)

variable {W w w' : World} {F : SL} {e size n : Nat} {v : Value} {xs : List Value}

theorem Row.le_at : SL.le (Row e size v n xs) (RowAt e size v n xs) := by
  rintro h ⟨hl, hv | ⟨g, cap, cur, hv, h1, h2, h3, h4, h5⟩⟩
  · exact ⟨hl, .inl hv⟩
  · exact ⟨hl, .inr ⟨g, 0, cap, cur, hv, h1, h2, by rw [h3, Nat.zero_add]; exact Nat.mul_le_mul_right _ h1, by simpa using h4, h5⟩⟩

theorem Row.nil_in (e size : Nat) (h : Sat W w F) : Sat W w (Row e size (.slice none 0 0) 0 [] * F) := by
  obtain ⟨hb, x, q, hx⟩ := h
  exact ⟨hb, x, ⟨fun _ => none, x, ⟨by simp, .inl ⟨rfl, rfl, fun _ => rfl⟩⟩, q, fun _ => .inl rfl, fun _ => by simp⟩, hx⟩

theorem Row.blk_in {g cap : Nat} {cur : Array Value} (h : Sat W w (SL.blk g (.cells cur e (0, 0)) * F)) (n : Nat) (h1 : n ≤ cap) (h2 : cap ≤ maxLen) (h3 : cur.size = cap * size) :
    Sat W w (Row e size (.slice (some ⟨g, 0, none⟩) n cap) n (cur.toList.take (n * size)) * F) := by
  refine h.left fun x hx => ⟨?_, .inr ⟨g, cap, cur, rfl, h1, h2, h3, rfl, hx⟩⟩
  rw [List.length_take, Array.length_toList, h3, Nat.min_eq_left (Nat.mul_le_mul_right _ h1)]

theorem Row.len (h : Sat W w (Row e size v n xs * F)) : xs.length = n * size := by
  obtain ⟨_, x, ⟨h1, h2, ⟨hl, _⟩, q, d, e'⟩, hx⟩ := h
  exact hl

theorem Row.open (h : Sat W w (Row e size v n xs * F)) : xs.length = n * size ∧ ((v = .slice none 0 0 ∧ n = 0 ∧ Sat W w F) ∨
    ∃ g cap cur, v = .slice (some ⟨g, 0, none⟩) n cap ∧ n ≤ cap ∧ cap ≤ maxLen ∧ cur.size = cap * size ∧ cur.toList.take (n * size) = xs ∧ Sat W w (SL.blk g (.cells cur e (0, 0)) * F)) := by
  refine ⟨Row.len h, ?_⟩
  have hd := h.drop
  obtain ⟨hb, x, ⟨h1, h2, ⟨hl, ⟨hv, hn, he⟩ | ⟨g, cap, cur, hv, a1, a2, a3, a4, a5⟩⟩, q, d, e'⟩, hx⟩ := h
  · exact .inl ⟨hv, hn, hd⟩
  · exact .inr ⟨g, cap, cur, hv, a1, a2, a3, a4, hb, x, ⟨h1, h2, a5, q, d, e'⟩, hx⟩

theorem RowAt.open (h : Sat W w (RowAt e size v n xs * F)) : xs.length = n * size ∧ ((v = .slice none 0 0 ∧ n = 0 ∧ Sat W w F) ∨
    ∃ g off cap cur, v = .slice (some ⟨g, off, none⟩) n cap ∧ n ≤ cap ∧ cap ≤ maxLen ∧ off + n * size ≤ cur.size ∧ (cur.toList.drop off).take (n * size) = xs ∧ Sat W w (SL.blk g (.cells cur e (0, 0)) * F)) := by
  have hd := h.drop
  obtain ⟨hb, x, ⟨h1, h2, ⟨hl, ⟨hv, hn, he⟩ | ⟨g, off, cap, cur, hv, a1, a2, a3, a4, a5⟩⟩, q, d, e'⟩, hx⟩ := h
  · exact ⟨hl, .inl ⟨hv, hn, hd⟩⟩
  · exact ⟨hl, .inr ⟨g, off, cap, cur, hv, a1, a2, a3, a4, hb, x, ⟨h1, h2, a5, q, d, e'⟩, hx⟩⟩

/-- The value's shape, and where its cells stand. -/
theorem RowAt.at (h : Sat W w (RowAt e size v n xs * F)) : ∃ a cap, v = .slice a n cap ∧ n ≤ cap ∧ cap ≤ maxLen ∧ (0 < n → ∃ g off, a = some ⟨g, off, none⟩ ∧ ∀ i u, xs[i]? = some u → w.cell? ⟨g, off + i, none⟩ = some u) := by
  obtain ⟨hl, ⟨hv, hn, _⟩ | ⟨g, off, cap, cur, hv, a1, a2, a3, a4, a5⟩⟩ := RowAt.open h
  · exact ⟨none, 0, by rw [hv, hn], by omega, Nat.zero_le _, fun h => by omega⟩
  · refine ⟨_, _, hv, a1, a2, fun _ => ⟨g, off, rfl, fun i u hi => ?_⟩⟩
    rw [a5.cell, ← hi, ← a4, List.getElem?_take, List.getElem?_drop]
    have : i < n * size := by
      have := (List.getElem?_eq_some_iff.1 hi).1
      omega
    simp [this]

theorem Row.at (h : Sat W w (Row e size v n xs * F)) : ∃ a cap, v = .slice a n cap ∧ n ≤ cap ∧ cap ≤ maxLen ∧ (0 < n → ∃ g, a = some ⟨g, 0, none⟩ ∧ (∀ i u, xs[i]? = some u → w.cell? ⟨g, i, none⟩ = some u) ∧ (∀ i, w.frozen? ⟨g, i, none⟩ = false)) := by
  obtain ⟨hl, ⟨hv, hn, _⟩ | ⟨g, cap, cur, hv, a1, a2, a3, a4, a5⟩⟩ := Row.open h
  · exact ⟨none, 0, by rw [hv, hn], by omega, Nat.zero_le _, fun h => by omega⟩
  · refine ⟨_, _, hv, a1, a2, fun _ => ⟨g, rfl, fun i u hi => ?_, fun i => a5.free i⟩⟩
    rw [a5.cell, ← hi, ← a4, List.getElem?_take]
    have : i < n * size := by
      have := (List.getElem?_eq_some_iff.1 hi).1
      omega
    simp [this]

/-- append to a slice of the call's own. -/
theorem append_row {P : Program} {t ty : TypeId} {z : Value} {bytes : Nat} (E : Elem P t e z size bytes) (h : Sat W w (Row e size v n xs * F))
    {a : Addr} {m c : Nat} {news : List Value} (hl : news.length = m * size) (hnews : ∀ j u, news[j]? = some u → w.cell? (a.add j) = some u) (h1 : ∀ u ∈ news, u.oneCell' = true)
    (h63 : n + m ≤ maxLen) (hbytes : (n + m) * bytes ≤ 140737488355328) :
    ∃ v' w', (Builtin.append_ #[t, t] ty #[v, .slice (some a) m c]).run P w = .ok v' w' ∧ Sat W w' (Row e size v' (n + m) (xs ++ news) * F) ∧ w.heap.size ≤ w'.heap.size := by
  obtain ⟨i, hi, hz, hsize, hby⟩ := info_parts E.info
  have hzs := E.cells
  have hsz := E.pos
  subst hsize
  subst hby
  have hsmall : n + m ≤ 9223372036854775807 := by simp only [maxLen] at h63; omega
  obtain ⟨hxl, ⟨rfl, rfl, hs⟩ | ⟨g, cap, cur, rfl, hnc, hcm, hcs, htake, hs⟩⟩ := Row.open h
  · have hx : xs = [] := List.eq_nil_of_length_eq_zero (by simpa using hxl)
    subst hx
    by_cases hm : m = 0
    · subst hm
      have hn : news = [] := List.eq_nil_of_length_eq_zero (by simpa using hl)
      subst hn
      refine ⟨.slice none 0 0, w, ?_, h, Nat.le_refl _⟩
      simp [Builtin.append_, run_underlying E.under, sizeOf, typeInfo, hi, Builtin.lenOf, Builtin.firstCells, loadCells, loadCellsFrom]
    · have hr := run_append_nil (P := P) w t ty e i z E.under hi hz a m c news hl hnews (by omega) (by omega) (by have hb := hbytes; simp only [Nat.zero_add] at hb; omega)
      have hge := grownCap_ge w m 0 e
      have hcm := grownCap_le_maxLen w m 0 e (by omega)
      refine ⟨_, _, hr, ?_, by simp⟩
      have hn := hs.drew.alloc (.cells (news.toArray ++ Builtin.zeroCells z.cells (grownCap w m 0 e - m)) e)
      have := Row.blk_in (size := i.size) hn m hge hcm (by simp only [Array.size_append, List.size_toArray, size_zeroCells, hl, hzs, ← Nat.add_mul]; congr 1; omega)
      rw [Nat.zero_add]
      simpa [← hl] using this
  · by_cases hroom : n + m ≤ cap
    · have hfit : n * i.size + news.length ≤ cur.size := by rw [hl, hcs, ← Nat.add_mul]; exact Nat.mul_le_mul_right _ hroom
      have hg := hs.get
      have hr := run_append_room (P := P) w t ty e i E.under hi g n cap cur hg a m c news hl hnews h1 hroom hfit
      refine ⟨_, _, hr, ?_, by simp⟩
      have hw := hs.write (o' := .cells (cur.toList.take (n * i.size) ++ news ++ cur.toList.drop (n * i.size + news.length)).toArray e (0, 0)) (w' := w.setRow g (cur.toList.take (n * i.size) ++ news ++ cur.toList.drop (n * i.size + news.length)).toArray)
        (by simp) rfl rfl rfl (fun k _ hk => setRow_other w g k _ hk) (setRow_heap w g cur _ e _ hg)
      have := Row.blk_in (size := i.size) hw (n + m) hroom hcm (by simp only [List.size_toArray, List.length_append, List.length_take, List.length_drop, Array.length_toList]; omega)
      refine this.ac ?_
      congr 2
      rw [htake]
      have hlen : (n + m) * i.size = (xs ++ news).length := by rw [List.length_append, hxl, hl, Nat.add_mul]
      rw [hlen]
      exact List.take_left
    · have holds : ∀ j u, xs[j]? = some u → w.cell? ((⟨g, 0, none⟩ : Addr).add j) = some u := by
        intro j u hu
        have hadd : (⟨g, 0, none⟩ : Addr).add j = ⟨g, j, none⟩ := by unfold Addr.add; split <;> simp_all
        rw [hadd, hs.cell, ← hu, ← htake, List.getElem?_take]
        have : j < n * i.size := by
          have := (List.getElem?_eq_some_iff.1 hu).1
          omega
        simp [this]
      have hr := run_append_grow (P := P) w t ty e i z E.under hi hz ⟨g, 0, none⟩ n cap xs hxl holds a m c news hl hnews (by omega) (by omega) (growslice_fits (by omega) hbytes)
      have hge := grownCap_ge w (n + m) cap e
      have hcm' := grownCap_le_maxLen w (n + m) cap e h63
      refine ⟨_, _, hr, ?_, by simp⟩
      have hn := hs.drop.drew.alloc (.cells (xs.toArray ++ news.toArray ++ Builtin.zeroCells z.cells (grownCap w (n + m) cap e - (n + m))) e)
      have := Row.blk_in (size := i.size) hn (n + m) hge hcm' (by simp only [Array.size_append, List.size_toArray, size_zeroCells, hxl, hl, hzs, ← Nat.add_mul]; congr 1; omega)
      refine this.ac ?_
      congr 2
      have hlen : (n + m) * i.size = (xs ++ news).length := by rw [List.length_append, hxl, hl, Nat.add_mul]
      rw [hlen]
      simp only [Array.toList_append]
      exact List.take_left

theorem wpList_append_row {P : Program} {Q : Exit → Act → World → Prop} {ops : Array Oper} {rest : List Oper} {o : Oper} {a : Act} (hgd : o.guard = none) (s x : Operand) (t : TypeId)
    (ho : o.op = .call { callee := .builtin .append, args := #[s, x], argTypes := #[t, t] }) {z : Value} {bytes : Nat} (E : Elem P t e z size bytes)
    (hs : a.eval s = v) (hown : Sat W w (Row e size v n xs * F))
    (ad : Addr) (m c : Nat) (news : List Value) (hx : a.eval x = .slice (some ad) m c) (hl : news.length = m * size) (hnews : ∀ j u, news[j]? = some u → w.cell? (ad.add j) = some u) (h1 : ∀ u ∈ news, u.oneCell' = true)
    (h63 : n + m ≤ maxLen) (hbytes : (n + m) * bytes ≤ 140737488355328)
    (h : ∀ v' w', Sat W w' (Row e size v' (n + m) (xs ++ news) * F) → w.heap.size ≤ w'.heap.size → wpList P ops Q rest (a.put o.dst v') w') : wpList P ops Q (o :: rest) a w := by
  refine wpList_plain hgd fun K hK => ?_
  obtain ⟨v', w', hr, h2, h3⟩ := append_row (ty := o.type) E hown hl hnews h1 h63 hbytes
  unfold Oper.wp execOp
  simp only [ho, resolve, invoke, builtin, Sem.run_bind, Sem.run_pure, Result.andThen_ok, List.map_toArray, List.map_cons, List.map_nil, hs, hx]
  rw [hr]
  exact hK _ _ (h v' w' h2 h3)

/-- The same in a region that draws its order. -/
theorem step_append_row {P : Program} {Q : Exit → Act → World → Prop} {ops : Array Oper} {o : Oper} {a : Act} {K : Act → World → Prop} {E' : Prop} (hgd : o.guard = none) (s x : Operand) (t : TypeId)
    (ho : o.op = .call { callee := .builtin .append, args := #[s, x], argTypes := #[t, t] }) {z : Value} {bytes : Nat} (E : Elem P t e z size bytes)
    (hs : a.eval s = v) (hown : Sat W w (Row e size v n xs * F))
    (ad : Addr) (m c : Nat) (news : List Value) (hx : a.eval x = .slice (some ad) m c) (hl : news.length = m * size) (hnews : ∀ j u, news[j]? = some u → w.cell? (ad.add j) = some u) (h1 : ∀ u ∈ news, u.oneCell' = true)
    (h63 : n + m ≤ maxLen) (hbytes : (n + m) * bytes ≤ 140737488355328)
    (h : ∀ b cap w', Sat W w' (Row e size (.slice b (n + m) cap) (n + m) (xs ++ news) * F) → w.heap.size ≤ w'.heap.size → K (a.put o.dst (.slice b (n + m) cap)) w') :
    if Region.wanted o (yielded ops a.tmps) = true then Oper.wp P o a w K Q else E' := by
  have hw : Region.wanted o (yielded ops a.tmps) = true := by simp [Region.wanted, hgd]
  rw [if_pos hw]
  obtain ⟨v', w', hr, h2, h3⟩ := append_row (ty := o.type) E hown hl hnews h1 h63 hbytes
  obtain ⟨b, cap, rfl, _, _, _⟩ := Row.at h2
  unfold Oper.wp execOp
  simp only [ho, resolve, invoke, builtin, Sem.run_bind, Sem.run_pure, Result.andThen_ok, List.map_toArray, List.map_cons, List.map_nil, hs, hx]
  rw [hr]
  exact h b cap w' h2 h3

end Go.Proofs.YtcciijdnegjkjaaDoor
