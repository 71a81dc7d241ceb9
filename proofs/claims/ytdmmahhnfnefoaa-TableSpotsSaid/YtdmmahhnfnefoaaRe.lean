/-
  Readings: a slice of structs of ints, as a table of numbers.
-/
import Derived.Test.YtdmmahhnfnefoaaRd
namespace Go.Proofs.Ytdmmahhnfnefoaa
open Go.ChangeShapes Go.WideShapes Go.ChangeAt Go.RowKit Go.Deep

/-- A table of numbers, n rows of k. -/
def tabR (k n : Nat) (f : Nat → Nat → Int) : List Value := (List.range (n * k)).map fun t => .int .i64 (f (t / k) (t % k))
theorem tabR_len (k n : Nat) (f : Nat → Nat → Int) : (tabR k n f).length = n * k := by simp [tabR]
theorem tabR_get {k n i j : Nat} {f : Nat → Nat → Int} (hi : i < n) (hj : j < k) : (tabR k n f)[i * k + j]? = some (.int .i64 (f i j)) := by
  have h : i * k + j < n * k := by
    have := Nat.mul_le_mul_right k (show i + 1 ≤ n from hi)
    rw [Nat.succ_mul] at this
    omega
  have e1 : (i * k + j) / k = i := by
    rw [Nat.mul_comm, Nat.mul_add_div (by omega), Nat.div_eq_of_lt hj, Nat.add_zero]
  have e2 : (i * k + j) % k = j := by rw [Nat.mul_comm, Nat.mul_add_mod, Nat.mod_eq_of_lt hj]
  simp [tabR, h, e1, e2]
instance RowGet.tab (k n : Nat) (f : Nat → Nat → Int) (i j : Nat) : RowGet (tabR k n f) i k j (.int .i64 (f i j)) (i < n ∧ j < k) := ⟨fun h => tabR_get h.1 h.2⟩
def rowF (f : Nat → Nat → Int) (i : Nat) (k : Nat) : List Value := (List.range k).map fun j => .int .i64 (f i j)
instance RowAll.tab3 (n : Nat) (f : Nat → Nat → Int) (i : Nat) : RowAll (tabR 3 n f) i 3 [.int .i64 (f i 0), .int .i64 (f i 1), .int .i64 (f i 2)] (i < n) := ⟨fun h => ⟨rfl, fun j v hv => by
  have hj : j < 3 := (List.getElem?_eq_some_iff.1 hv).1
  rw [tabR_get h hj, ← hv]
  match j, hj with
  | 0, _ => rfl
  | 1, _ => rfl
  | 2, _ => rfl⟩⟩
instance RowAll.tab2 (n : Nat) (f : Nat → Nat → Int) (i : Nat) : RowAll (tabR 2 n f) i 2 [.int .i64 (f i 0), .int .i64 (f i 1)] (i < n) := ⟨fun h => ⟨rfl, fun j v hv => by
  have hj : j < 2 := (List.getElem?_eq_some_iff.1 hv).1
  rw [tabR_get h hj, ← hv]
  match j, hj with
  | 0, _ => rfl
  | 1, _ => rfl⟩⟩
section
variable {H : Type} {enc : TypeId × Value → H} {P : Program} {W : World} {base : Nat} {held : Bool}
theorem spot_of {a : Addr} {c : Value} {w : World} (h : w.cell? a = some c) : a = ⟨a.block, a.off, none⟩ := by
  unfold World.cell? at h
  split at h
  · split at h
    · simp at h
    · rename_i hs
      obtain ⟨b, o, s⟩ := a
      cases s <;> simp_all
  · simp at h
theorem tab_ro {t e ti k : Nat} {fs : Array Field} {fuel : Nat} {v : Value} {x : DataW H × List MemPlace} (ht : P.underlying t = some (.slice e)) (he : P.underlying e = some (.struct fs)) (hone : oneCellFields P fs = true) (hC : P.cellsOf e = k)
    (hf : (fs.map (·.type)) = Array.replicate k ti) (hi : P.underlying ti = some (.int .i64)) (hk : 0 < k)
    (h : DataW.trod enc P W base (fun _ => true) held fuel t [v] = some x) : ∃ (p : Option Addr) (n cap : Nat) (f : Nat → Nat → Int), v = .slice p n cap ∧ Ro W p n (tabR k n f) := by
  have hfs : fs.size = k := by have := congrArg Array.size hf; simpa using this
  rcases Deep.open_slice ht h with ⟨h0, _⟩ | ⟨a, len, cap, m, n, D, Pl, h0, _, hle, hm, hmm, _, hel⟩
  · simp only [List.cons.injEq, and_true] at h0
    exact ⟨none, 0, 0, fun _ _ => 0, h0, ⟨fun i v hv => by simp [tabR] at hv, fun h => by simp at h⟩⟩
  · simp only [List.cons.injEq, and_true] at h0
    simp only [if_true] at hmm
    subst hmm
    have each : ∀ i, i < len → ∃ y : Nat → Int, ∀ j, j < k → W.cell? (a.add (i * k + j)) = some (.int .i64 (y j)) := by
      intro i hi'
      obtain ⟨cs', hcs, htr⟩ := hel i (by omega)
      rw [hC] at hcs
      obtain ⟨_, hcl, hat⟩ := World.cells?_some hcs
      obtain ⟨ys, n', _, _, hcl', hyl, hfl⟩ := DataW.trod_struct he htr
      have fld : ∀ j, j < k → ∃ z : Int, cs'[j]? = some (.int .i64 z) := by
        intro j hj
        have hj' : j < fs.size := by omega
        have hfj : fs[j]? = some fs[j] := Array.getElem?_eq_getElem hj'
        obtain ⟨ho, hk1⟩ := Deep.hone_of hone j _ hfj
        have h1 := hfl j _ hfj
        rw [ho, hk1] at h1
        have hy : ys[j]? = some (ys[j]'(by omega)) := List.getElem?_eq_getElem (by omega)
        have hjc : j < cs'.length := by omega
        rw [Deep.take1_drop _ _ (cs'[j]) hjc] at h1
        have e0 : fs[j].type = ti := by
          have := congrArg (fun z => z[j]?) hf
          simp [hj', hj] at this
          exact this
        rw [e0] at h1
        obtain ⟨z, q, _, _⟩ := DataW.trod_int hi (h1.trans hy)
        refine ⟨z, ?_⟩
        rw [List.getElem?_eq_getElem hjc]
        have := List.cons.inj q |>.1
        rw [List.getD_eq_getElem?_getD, List.getElem?_eq_getElem hjc] at this
        exact congrArg some this
      have hex : ∀ j, ∃ z : Int, j < k → cs'[j]? = some (.int .i64 z) := fun j => by
        by_cases hj : j < k
        · obtain ⟨z, hz⟩ := fld j hj
          exact ⟨z, fun _ => hz⟩
        · exact ⟨0, fun h => absurd h hj⟩
      refine ⟨fun j => Classical.choose (hex j), fun j hj => ?_⟩
      have h2 := Classical.choose_spec (hex j) hj
      have hjc : j < cs'.length := by omega
      have h3 := hat j (by omega)
      rw [Deep.add_add] at h3
      rw [h3, ← h2]
    obtain ⟨f, hfe⟩ := Deep.choose_lt each
    refine ⟨some a, len, m, f, h0, ⟨fun t v hv => ?_, fun _ => by simp⟩⟩
    have ht1 : t < len * k := by
      have := (List.getElem?_eq_some_iff.1 hv).1
      rwa [tabR_len] at this
    have hi1 : t / k < len := Nat.div_lt_of_lt_mul (by rw [Nat.mul_comm]; exact ht1)
    have hj1 : t % k < k := Nat.mod_lt _ hk
    have e1 : t / k * k + t % k = t := by rw [Nat.mul_comm]; exact Nat.div_add_mod t k
    have h3 := hfe (t / k) hi1 (t % k) hj1
    have h4 := tabR_get (f := f) hi1 hj1
    rw [e1] at h3 h4
    rw [hv] at h4
    rw [h4]
    exact ⟨a.add t, rfl, World.block_lt_of_cell? _ _ h3, h3⟩
end
end Go.Proofs.Ytdmmahhnfnefoaa
