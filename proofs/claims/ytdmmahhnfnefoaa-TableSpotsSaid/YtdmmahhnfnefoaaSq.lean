/-
  Regions that draw their order, with guards and calls: what only reads is taken first, also where a guard allows it. Plain Lean: no program in sight.
-/
import Derived.Test.YtdmmahhnfnefoaaSg
namespace Go.Proofs.Ytdmmahhnfnefoaa
open Go.RowKit
variable {X : Cx} {k : List KI} {σ : Env} {H S : SL} {ops : List Oper} {fuel L : Nat} {listed : Array Bool}

/-- Does a guard allow it? -/
def guardV (ops : List Oper) (σ : Env) : Option (Nat × Bool) → Option Bool
  | none => some true
  | some (gj, w) => match (ops[gj]?).bind (·.dst) with
    | some t => match σ.get t with
      | some (.bool b) => some (b == w)
      | _ => none
    | none => none
theorem guardV_spec {a : Act} (ha : Fits X.N a σ) {d : Option Nat} {op : Op} {ty : TypeId} {pos : String} {aft : Array Edge} {g : Option (Nat × Bool)} {b : Bool} (h : guardV ops σ g = some b) :
    Region.wanted (⟨d, op, ty, pos, aft, g⟩ : Oper) (yielded ops.toArray a.tmps) = b := by
  cases g with
  | none =>
    simp only [guardV, Option.some.injEq] at h
    subst h
    rfl
  | some q =>
    obtain ⟨gj, w⟩ := q
    simp only [guardV] at h
    split at h
    · rename_i t hj
      split at h
      · rename_i b' ht
        simp only [Option.some.injEq] at h
        rw [wanted_of ha hj ht rfl, h]
      · cases h
    · cases h
theorem EG_takeQ (n : Nat) {d : Nat} {v : Value} {op : Op} {ty : TypeId} {pos : String} {aft : Array Edge} {g : Option (Nat × Bool)} {i : Nat} (hn : nthF listed.toList n 0 = some i) (hi : ops.toArray[i]? = some ⟨some d, op, ty, pos, aft, g⟩) (hd : Nat.blt d X.N = true)
    (hg : guardV ops σ g = some true) (hv : OpVal X σ S ⟨some d, op, ty, pos, aft, none⟩ v)
    (hb : (Region.noSelect ops.toArray && Region.free .any ops.toArray listed i && (Region.ready .any ops.toArray listed).contains i && closedB .any ops.toArray listed && lastB .any ops.toArray L i) = true) (hS : Ent H S) {ls : Array Bool} (hl : listed.setIfInBounds i true = ls)
    (h : EG X k ops S L fuel ls ((d, v) :: σ) H) : EG X k ops S L (fuel + 1) listed σ H := by
  subst hl
  simp only [Bool.and_eq_true] at hb
  obtain ⟨⟨⟨⟨hs, hf⟩, hr⟩, hc⟩, hla⟩ := hb
  obtain ⟨h1, h2⟩ := lastB_spec hla
  intro a w ha hw
  exact wpAnyL_first hi (Region.noSelect_spec hs) (fun _ _ _ h => h.elim) h2 h1 fuel listed a w (Region.free_spec hi hf) (by simpa using hr) (closedB_spec hc) (.inl ⟨guardV_spec ha hg, fun w hs => hv a w ha hs⟩) (hS.sat _ hw) (h _ _ (ha.put hd v) hw)
/-- What a guard bars. -/
theorem EG_takeN (n : Nat) {d : Nat} {op : Op} {ty : TypeId} {pos : String} {aft : Array Edge} {gj t : Nat} {want : Bool} {i : Nat} (hn : nthF listed.toList n 0 = some i) (hi : ops.toArray[i]? = some ⟨some d, op, ty, pos, aft, some (gj, want)⟩) (hd : Nat.blt d X.N = true)
    (hj : (ops[gj]?).bind (·.dst) = some t) (ht : σ.get t = some (.bool !want) ∨ σ.get t = some undef)
    (hb : (Region.noSelect ops.toArray && Region.free .any ops.toArray listed i && (Region.ready .any ops.toArray listed).contains i && closedB .any ops.toArray listed && lastB .any ops.toArray L i) = true) (hS : Ent H S) {ls : Array Bool} (hl : listed.setIfInBounds i true = ls)
    (h : EG X k ops S L fuel ls ((d, undef) :: σ) H) : EG X k ops S L (fuel + 1) listed σ H := by
  subst hl
  simp only [Bool.and_eq_true] at hb
  obtain ⟨⟨⟨⟨hs, hf⟩, hr⟩, hc⟩, hla⟩ := hb
  obtain ⟨h1, h2⟩ := lastB_spec hla
  intro a w ha hw
  refine wpAnyL_first hi (Region.noSelect_spec hs) (fun _ _ _ h => h.elim) h2 h1 fuel listed a w (Region.free_spec hi hf) (by simpa using hr) (closedB_spec hc) (.inr ⟨?_, rfl⟩) (hS.sat _ hw) (h _ _ (ha.put hd undef) hw)
  rcases ht with ht | ht
  · rw [wanted_of (o := ⟨some d, op, ty, pos, aft, some (gj, want)⟩) ha hj ht rfl]
    cases want <;> rfl
  · simp only [Region.wanted, yielded, List.getElem?_toArray, hj, Option.bind_some, ha.vals t _ ht]
    rfl
theorem EG_callQ {α : Type} {r : α → Value} {H' : α → SL} {f : FuncId} [IsFn X.P f] {args : Array Operand} {ats : Array TypeId} {vs : List Value} {d : Nat} {ty : TypeId} {pos : String} {aft : Array Edge} {g : Option (Nat × Bool)} {i : Nat} {ls : Array Bool} (hn : nthF listed.toList 0 0 = some i)
    (hi : ops.toArray[i]? = some ⟨some d, .call { callee := .value (.func f), args := args, argTypes := ats }, ty, pos, aft, g⟩) (hargs : evs σ args.toList = some vs) (hg : guardV ops σ g = some true) (hl : listed.setIfInBounds i true = ls) (hc : Spec X.P f vs X.W H r H') (hS : ∀ x, Ent (H' x) S)
    (h : ∀ x, EG X k ops S L fuel ls ((d, r x) :: σ) (H' x)) (hr : Region.ready .any ops.toArray listed = [i] := by decide +kernel) (hd : Nat.blt d X.N = true := by rfl) : EG X k ops S L (fuel + 1) listed σ H := by
  subst hl
  intro a w ha hw
  refine EG_all hr ?_
  unfold wpOp
  rw [hi]
  simp only [guardV_spec ha hg, Oper.wp, if_true]
  refine .inl ?_
  have hrun := run_call (d := some d) (ty := ty) (pos := pos) (aft := aft) (ats := ats) (f := f) (w := w) ha hargs
  have hrun' : (execOp a.eval ⟨some d, .call { callee := .value (.func f), args := args, argTypes := ats }, ty, pos, aft, g⟩).run X.P w = .ok (.enter f vs.toArray) w := hrun
  rw [hrun', Oper.upon_enter]
  refine (hc w hw).mono ?_
  rintro e w' ⟨x, rfl, hs'⟩
  exact ⟨fun _ => (hS x).sat _ hs', h x _ _ (ha.put hd _) hs'⟩
end Go.Proofs.Ytdmmahhnfnefoaa
