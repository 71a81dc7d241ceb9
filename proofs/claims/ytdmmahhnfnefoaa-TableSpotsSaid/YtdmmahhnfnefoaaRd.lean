/-
  Plain rows: readings of slices of numbers; the law's postcondition out of `Below`.
-/
import Derived.Test.YtdmmahhnfnefoaaRows
import Derived.Test.YtdmmahhnfnefoaaSxT
import Derived.Test.YtdmmahhnfnefoaaSa
import Derived.ProofKit
import Derived.OpenShut
import Derived.Deep.DeepHandedRow
import Derived.Deep.Slices
import Derived.Deep.Fields
import Derived.Carry
namespace Go.Proofs.Ytdmmahhnfnefoaa
open Go.ChangeShapes Go.WideShapes Go.ChangeAt Go.RowKit Go.Deep
section
variable {H : Type} {enc : TypeId × Value → H} {P : Program}
theorem post_below {f : Func} {s : ChangeSpec} {apart fresh handsOn again : Bool} {W W' : World} {args : Array Value} {v : Value} {ds : List (DataW H)} {before : List MemPlace} (hs : s.vars = []) (hl : laidOutB P = true)
    (hr : ∀ t ∈ f.params.toList, P.readableRec t = true ∧ t < P.types.size)
    (hW : DataW.Whole enc P f.params.toList s.vars apart W args.toList ds [] before)
    (hres : ∀ (b : Nat) (sp : Nat → Bool) (hd : Bool), DataW.TrodAll enc P W' b sp hd f.resultTypes.toList (v.resultList f.resultTypes.size) (s.fn H (ds ++ [])).results [])
    (hsame : (s.fn H (ds ++ [])).args = ds) (hsv : (s.fn H (ds ++ [])).vars = []) (hb : Below W.heap.size W W')
    (hok : ∀ (j : Nat) (t : TypeId) (r : Value), f.resultTypes[j]? = some t → (v.resultList f.resultTypes.size)[j]? = some r → Value.okWide P W' .any 0 t r) :
    s.post enc P f apart fresh handsOn again W args v W' := by
  have hlt : ∀ p ∈ before, p.block < W.heap.size := hW.lt
  obtain ⟨p, q, hA, hV, he, hz, hn⟩ := id hW
  rw [hs] at hV
  obtain ⟨_, rfl⟩ := trodVars_none hV
  obtain rfl : before = p := by rw [he]; simp
  have stay : ∀ (sp : Nat → Bool) (ts : List TypeId) (vs : List Value) (ds' : List (DataW H)) (ps : List MemPlace), (∀ t ∈ ts, P.readableRec t = true ∧ t < P.types.size) → (∀ x ∈ ps, x.block < W.heap.size) → (∀ x ∈ ps, sp x.block = true) →
      DataW.TrodAll enc P W 0 (fun _ => true) true ts vs ds' ps → DataW.TrodAll enc P W' 0 sp true ts vs ds' ps := by
    intro sp ts
    induction ts with
    | nil =>
      intro vs ds' ps _ _ _ h
      obtain ⟨rfl, rfl, rfl⟩ := trodAll_nil h
      exact trodAll_mk0
    | cons t ts ih =>
      intro vs ds' ps h1 h2 h3 h
      obtain ⟨v, vs, d, ds', a, b, rfl, rfl, rfl, hd, hrest⟩ := trodAll_cons h
      obtain ⟨r1, r2⟩ := h1 t (by simp)
      refine trodAll_cons_mk (WideElems.Trod_stays hl r1 r2 hd (fun x hx => hb.same (h2 x (by simp [hx]))) (fun x hx => h3 x (by simp [hx]))) (ih _ _ _ (fun t ht => h1 t (by simp [ht])) (fun x hx => h2 x (by simp [hx])) (fun x hx => h3 x (by simp [hx])) hrest)
  have hargs : ∀ sp : Nat → Bool, (∀ p ∈ before, sp p.block = true) → DataW.TrodAll enc P W' 0 sp true f.params.toList args.toList (s.fn H (ds ++ [])).args before := fun sp hsp => by
    rw [hsame]
    exact stay sp _ _ _ _ hr hlt hsp hA
  have hold : ∀ p ∈ before, (fun b => decide (b < W.heap.size)) p.block = true := fun p hp => by simpa using hlt p hp
  have hvars : ∀ sp : Nat → Bool, DataW.TrodVars enc P W' sp s.vars (s.fn H (ds ++ [])).vars [] := fun sp => by rw [hs, hsv]; exact rfl
  refine ⟨ds, [], before, [], before, [], hW, hres _ _ _, hargs _ hold, hvars _, hb.frame _, fun _ => ?_⟩
  refine ⟨hok, _, _, ([] ++ before) ++ [], ⟨[] ++ before, [], trodAll_append (hargs _ (fun _ _ => rfl)) (hres _ _ _), hvars _, rfl, ?_, ?_⟩, ?_⟩
  · intro b off hp
    have hp' : MemPlace.cell b off ∈ before := by simpa using hp
    rw [hb.frozen (p := ⟨b, off, none⟩) (hlt _ hp')]
    exact hz b off (by rw [he]; simpa using hp')
  · intro ha
    have := hn ha
    rw [he] at this
    simpa using this
  · intro p hp _
    simpa using hp
end
section
variable {H : Type} {enc : TypeId × Value → H} {P : Program} {W : World} {base : Nat} {held : Bool}
theorem ints_ro {t e : TypeId} {fuel : Nat} {v : Value} {x : DataW H × List MemPlace} (ht : P.underlying t = some (.slice e)) (he : P.underlying e = some (.int .i64)) (hc : P.cellsOf e = 1)
    (h : DataW.trod enc P W base (fun _ => true) held fuel t [v] = some x) : ∃ (p : Option Addr) (cap : Nat) (xs : List Int), v = .slice p xs.length cap ∧ Ro W p xs.length (intsR .i64 xs) := by
  rcases open_ints ht he hc h with ⟨h0, _⟩ | ⟨a, len, cap, zs, h0, _, hl, hm, hz, _, hcell, hwf⟩
  · simp only [List.cons.injEq, and_true] at h0
    exact ⟨none, 0, [], h0, ⟨fun i v hv => by simp [intsR] at hv, fun h => by simp at h⟩⟩
  · simp only [List.cons.injEq, and_true] at h0
    simp only [if_true] at hz
    have hlen : (zs.take len).length = len := by rw [List.length_take]; omega
    refine ⟨some a, cap, zs.take len, by rw [hlen]; exact h0, ⟨fun i v hv => ?_, fun _ => by simp⟩⟩
    unfold intsR at hv
    rw [List.getElem?_map, List.getElem?_take] at hv
    split at hv
    · rename_i hi
      have hlt : i < zs.length := by omega
      rw [List.getElem?_eq_getElem hlt] at hv
      simp only [Option.map_some, Option.some.injEq] at hv
      subst hv
      have := hcell i hlt
      rw [List.getD_eq_getElem?_getD, List.getElem?_eq_getElem hlt] at this
      exact ⟨a.add i, rfl, World.block_lt_of_cell? _ _ this, this⟩
    · simp at hv
end
end Go.Proofs.Ytdmmahhnfnefoaa
