/-
  Regions that draw their order and end in a writer that waits for all: what only reads is taken first; behind the last writer nothing need hold any more. Plain Lean: no program in sight.
-/
import Derived.Test.YtdmmahhnfnefoaaSm
import Derived.OrdersHeld
namespace Go.Proofs.Ytdmmahhnfnefoaa
open Go.RowKit

section
variable {P : Program} {ops : Array Oper} {Q : Exit → Act → World → Prop} {md : Region.Mode} {S : World → Prop} {L : Nat}

def wpAnyL (P : Program) (md : Region.Mode) (ops : Array Oper) (Q : Exit → Act → World → Prop) (S : World → Prop) (L : Nat) : Nat → Array Bool → Act → World → Prop
  | 0, listed, a, w => Region.ready md ops listed = [] ∧ Q .normal a w
  | fuel + 1, listed, a, w =>
    (Region.ready md ops listed = [] → Q .normal a w) ∧
    ∀ i ∈ Region.ready md ops listed, wpOp P ops Q i (fun a' w' => (i ≠ L → S w') ∧ wpAnyL P md ops Q S L fuel (listed.setIfInBounds i true) a' w') a w
theorem wpAny_of_L : ∀ (fuel : Nat) (listed : Array Bool) (a : Act) (w : World), wpAnyL P md ops Q S L fuel listed a w → wpAny P md ops Q fuel listed a w
  | 0, _, _, _, h => h
  | fuel + 1, _, _, _, h => ⟨h.1, fun i hi => wpOp_mono (fun a' w' h' => wpAny_of_L fuel _ a' w' h'.2) (h.2 i hi)⟩

/-- What is listed had all that it waits for listed. -/
def Closed (md : Region.Mode) (ops : Array Oper) (listed : Array Bool) : Prop := ∀ (k : Nat) (o : Oper), ops[k]? = some o → listed.getD k true = true → ∀ e ∈ o.after, Region.binds md e = true → listed.getD e.on false = true
def closedB (md : Region.Mode) (ops : Array Oper) (listed : Array Bool) : Bool :=
  (List.range ops.size).all fun k => match ops[k]? with
    | none => true
    | some o => !listed.getD k true || o.after.all fun e => !Region.binds md e || listed.getD e.on false
theorem closedB_spec {listed : Array Bool} (h : closedB md ops listed = true) : Closed md ops listed := by
  intro k o ho hk e he hb
  have hlt := (Array.getElem?_eq_some_iff.1 ho).1
  have h1 := List.all_eq_true.1 h k (List.mem_range.2 hlt)
  rw [ho] at h1
  simp only [hk, Bool.not_true, Bool.false_or, Array.all_eq_true'] at h1
  have h2 := h1 e he
  simpa [hb] using h2
def ancB (md : Region.Mode) (ops : Array Oper) (i : Nat) : Nat → Nat → Bool
  | 0, _ => false
  | f + 1, k => match ops[k]? with
    | none => false
    | some o => o.after.any fun e => Region.binds md e && (e.on == i || ancB md ops i f e.on)
theorem ancB_spec {listed : Array Bool} {i : Nat} (hc : Closed md ops listed) : ∀ (f k : Nat) (o : Oper), ops[k]? = some o → ancB md ops i f k = true → (∀ e ∈ o.after, Region.binds md e = true → listed.getD e.on false = true) → listed.getD i false = true
  | 0, _, _, _, h, _ => by simp [ancB] at h
  | f + 1, k, o, ho, h, hl => by
    simp only [ancB, ho, Array.any_eq_true', Bool.and_eq_true, Bool.or_eq_true, beq_iff_eq] at h
    obtain ⟨e, he, hb, h | h⟩ := h
    · rw [← h]; exact hl e he hb
    · have h1 := hl e he hb
      cases ho2 : ops[e.on]? with
      | none =>
        cases f with
        | zero => simp [ancB] at h
        | succ f => simp [ancB, ho2] at h
      | some o2 =>
        have h2 : listed.getD e.on true = true := by
          rcases Nat.lt_or_ge e.on listed.size with g | g
          · simpa [g] using h1
          · simp [Array.getElem?_eq_none g]
        exact ancB_spec hc f e.on o2 ho2 h fun e' he' hb' => hc e.on o2 ho2 h2 e' he' hb'
theorem Closed.set {listed : Array Bool} {j : Nat} (hc : Closed md ops listed) (hj : j ∈ Region.ready md ops listed) : Closed md ops (listed.setIfInBounds j true) := by
  intro k o ho hk e he hb
  obtain ⟨_, oj, hoj, hall⟩ := mem_ready.1 hj
  by_cases hjk : j = k
  · subst hjk
    rw [hoj] at ho
    cases ho
    exact getD_set_true (hall e he hb)
  · rw [getD_set_ne true hjk] at hk
    exact getD_set_true (hc k o ho hk e he hb)
theorem getD_same {listed : Array Bool} {i : Nat} (h : listed.getD i true = false) : listed.getD i false = false := by
  rcases Nat.lt_or_ge i listed.size with h' | h'
  · simpa [h'] using h
  · simp [Array.getElem?_eq_none h'] at h

theorem wpAnyL_first {i : Nat} {oi : Oper} {v : Value} (hi : ops[i]? = some oi) (hsel : ∀ (j : Nat) (o : Oper) cs b, ops[j]? = some o → o.op ≠ .select cs b)
    (hQ : ∀ c a w, Q (.panic c) (a.put oi.dst v) w → Q (.panic c) a w) (hL : ∀ (listed : Array Bool), Closed md ops listed → L ∈ Region.ready md ops listed → i ≠ L → listed.getD i true = true) (hiL : i ≠ L) :
    ∀ (fuel : Nat) (listed : Array Bool) (a : Act) (w : World),
      (∀ j oj, ops[j]? = some oj → j ≠ i → listed.getD j true = false → (∀ e ∈ oj.after, Region.binds md e = true → e.on ≠ i) → oi.apart ops oj = true) →
      i ∈ Region.ready md ops listed → Closed md ops listed → YieldsIf P ops S oi v a → S w →
      wpAnyL P md ops Q S L fuel (listed.setIfInBounds i true) (a.put oi.dst v) w → wpAnyL P md ops Q S L (fuel + 1) listed a w := by
  intro fuel
  induction fuel with
  | zero =>
    intro listed a w _ hr _ hy hS H
    refine ⟨fun h => (by rw [h] at hr; cases hr), fun j hj => ?_⟩
    by_cases hji : j = i
    · subst hji; exact hy.wpOp hi hS ⟨fun _ => hS, H⟩
    · have := ready_mono hj hji
      rw [H.1] at this
      cases this
  | succ fuel ih =>
    intro listed a w hfree hr hc hy hS H
    refine ⟨fun h => (by rw [h] at hr; cases hr), fun j hj => ?_⟩
    by_cases hji : j = i
    · subst hji; exact hy.wpOp hi hS ⟨fun _ => hS, H⟩
    · have hjL : j ≠ L := fun e => by
        subst e
        have h1 := hL listed hc hj hiL
        rw [(mem_ready.1 hr).1] at h1
        cases h1
      have h1 := H.2 j (ready_mono hj hji)
      obtain ⟨hjun, oj, hoj, hall⟩ := mem_ready.1 hj
      have hnot : ∀ e ∈ oj.after, Region.binds md e = true → e.on ≠ i := fun e he hb heq => by
        have h1 := hall e he hb
        rw [heq, getD_same (mem_ready.1 hr).1] at h1
        cases h1
      have h2 := wpOp_putIf hoj (hfree j oj hoj hji hjun hnot) (fun cs b => hsel i oi cs b hi) (fun cs b => hsel j oj cs b hoj) hQ hy h1
      have hfree' : ∀ k ok, ops[k]? = some ok → k ≠ i → (listed.setIfInBounds j true).getD k true = false →
          (∀ e ∈ ok.after, Region.binds md e = true → e.on ≠ i) → oi.apart ops ok = true := fun k ok hk hki hun hno => by
        refine hfree k ok hk hki ?_ hno
        by_cases hjk : j = k
        · subst hjk; exact hjun
        · rw [getD_set_ne true hjk] at hun; exact hun
      refine wpOp_mono (fun a' w' h3 => ⟨h3.2.1, ih (listed.setIfInBounds j true) a' w' hfree' (ready_mono hr (Ne.symm hji)) (hc.set hj) h3.1 (h3.2.1 hjL) ?_⟩) h2
      rw [Array.setIfInBounds_comm _ _ hji]
      exact h3.2.2
/-- The last writer waits for it, or there is none. -/
def lastB (md : Region.Mode) (ops : Array Oper) (L i : Nat) : Bool := match ops[L]? with
  | none => !(i == L)
  | some _ => !(i == L) && ancB md ops i ops.size L
theorem lastB_spec {i : Nat} (h : lastB md ops L i = true) : i ≠ L ∧ ∀ (listed : Array Bool), Closed md ops listed → L ∈ Region.ready md ops listed → i ≠ L → listed.getD i true = true := by
  unfold lastB at h
  cases ho : ops[L]? with
  | none =>
    rw [ho] at h
    refine ⟨by simpa using h, fun listed _ hr _ => ?_⟩
    obtain ⟨_, o, h1, _⟩ := mem_ready.1 hr
    rw [ho] at h1
    cases h1
  | some o =>
    rw [ho] at h
    simp only [Bool.and_eq_true, Bool.not_eq_true', beq_eq_false_iff_ne] at h
    refine ⟨h.1, fun listed hc hr _ => ?_⟩
    obtain ⟨_, o', h1, h2⟩ := mem_ready.1 hr
    rw [ho] at h1
    cases h1
    have h3 := ancB_spec hc _ L o ho h.2 h2
    rcases Nat.lt_or_ge i listed.size with g | g
    · simpa [g] using h3
    · simp [Array.getElem?_eq_none g]
end

def onlyQ (R : Act → World → Prop) : Exit → Act → World → Prop
  | .normal, a, w => R a w
  | _, _, _ => False
/-- A region under way: S is what the readers need till the last writer has written. -/
def EG (X : Cx) (k : List KI) (ops : List Oper) (S : SL) (L fuel : Nat) (listed : Array Bool) (σ : Env) (H : SL) : Prop :=
  ∀ a w, Fits X.N a σ → Sat X.W w H → wpAnyL X.P .any ops.toArray (onlyQ (run X.P X.R k .normal)) (fun w => Sat X.W w S) L fuel listed a w
variable {X : Cx} {k : List KI} {σ : Env} {H S : SL} {ops : List Oper} {fuel L : Nat} {listed : Array Bool}
theorem EK_sink {id n : Nat} {ls : Array Bool} (L : Nat) (S : SL) (hm : X.P.follows .mixedOrders = true) (hn : ops.toArray.size = n) (hl : Array.replicate n false = ls) (h : EG X k ops S L n ls σ H) : EK X (.code (.region id ops.toArray true) :: k) σ H := by
  subst hn hl
  intro a w ha hs
  refine Code.wp_mono (Q := onlyQ (run X.P X.R k .normal)) ?_ (wp_region_any hm (wpAny_of_L _ _ _ _ (h a _ ha hs.drew)))
  intro e a w he
  cases e <;> first | exact he | exact he.elim
/-- The number of the n-th that hasn't come up yet. -/
def nthF : List Bool → Nat → Nat → Option Nat
  | [], _, _ => none
  | true :: l, n, i => nthF l n (i + 1)
  | false :: _, 0, i => some i
  | false :: l, n + 1, i => nthF l n (i + 1)
theorem EG_take (n : Nat) {d : Nat} {v : Value} {op : Op} {ty : TypeId} {pos : String} {aft : Array Edge} {i : Nat} (hn : nthF listed.toList n 0 = some i) (hi : ops.toArray[i]? = some ⟨some d, op, ty, pos, aft, none⟩) (hd : Nat.blt d X.N = true)
    (hv : OpVal X σ S ⟨some d, op, ty, pos, aft, none⟩ v)
    (hb : (Region.noSelect ops.toArray && Region.free .any ops.toArray listed i && (Region.ready .any ops.toArray listed).contains i && closedB .any ops.toArray listed && lastB .any ops.toArray L i) = true) (hS : Ent H S) {ls : Array Bool} (hl : listed.setIfInBounds i true = ls)
    (h : EG X k ops S L fuel ls ((d, v) :: σ) H) : EG X k ops S L (fuel + 1) listed σ H := by
  subst hl
  simp only [Bool.and_eq_true] at hb
  obtain ⟨⟨⟨⟨hs, hf⟩, hr⟩, hc⟩, hla⟩ := hb
  obtain ⟨h1, h2⟩ := lastB_spec hla
  intro a w ha hw
  exact wpAnyL_first hi (Region.noSelect_spec hs) (fun _ _ _ h => h.elim) h2 h1 fuel listed a w (Region.free_spec hi hf) (by simpa using hr) (closedB_spec hc) (.inl ⟨rfl, fun w hs => hv a w ha hs⟩) (hS.sat _ hw) (h _ _ (ha.put hd v) hw)
theorem EG_all {i : Nat} (hr : Region.ready .any ops.toArray listed = [i]) {a : Act} {w : World} (h : wpOp X.P ops.toArray (onlyQ (run X.P X.R k .normal)) i (fun a' w' => (i ≠ L → Sat X.W w' S) ∧ wpAnyL X.P .any ops.toArray (onlyQ (run X.P X.R k .normal)) (fun w => Sat X.W w S) L fuel (listed.setIfInBounds i true) a' w') a w) :
    wpAnyL X.P .any ops.toArray (onlyQ (run X.P X.R k .normal)) (fun w => Sat X.W w S) L (fuel + 1) listed a w :=
  ⟨fun h0 => (by rw [hr] at h0; cases h0), fun j hj => by
    rw [hr, List.mem_singleton] at hj
    subst hj
    exact h⟩
theorem EG_does {α : Type} {r : α → Value} {H' : α → SL} {d : Nat} {op : Op} {ty : TypeId} {pos : String} {aft : Array Edge} {i : Nat} (hn : nthF listed.toList 0 0 = some i) (hi : ops.toArray[i]? = some ⟨some d, op, ty, pos, aft, none⟩) (hd : Nat.blt d X.N = true)
    (hv : OpDoes X σ H ⟨some d, op, ty, pos, aft, none⟩ r H') (hr : Region.ready .any ops.toArray listed = [i]) {ls : Array Bool} (hl : listed.setIfInBounds i true = ls)
    (hS : ∀ x, Ent (H' x) S) (h : ∀ x, EG X k ops S L fuel ls ((d, r x) :: σ) (H' x)) : EG X k ops S L (fuel + 1) listed σ H := by
  subst hl
  intro a w ha hw
  refine EG_all hr ?_
  obtain ⟨x, w', h1, h2⟩ := hv a w ha hw
  unfold wpOp
  rw [hi]
  simp only [Region.wanted, Oper.wp, h1, Oper.upon, if_true]
  exact .inl ⟨fun _ => (hS x).sat _ h2, h x _ _ (ha.put hd _) h2⟩
theorem EG_val {v : Value} {d : Nat} {op : Op} {ty : TypeId} {pos : String} {aft : Array Edge} {i : Nat} (hn : nthF listed.toList 0 0 = some i) (hi : ops.toArray[i]? = some ⟨some d, op, ty, pos, aft, none⟩) (hd : Nat.blt d X.N = true)
    (hv : OpVal X σ H ⟨some d, op, ty, pos, aft, none⟩ v) (hr : Region.ready .any ops.toArray listed = [i]) (hS : Ent H S) {ls : Array Bool} (hl : listed.setIfInBounds i true = ls)
    (h : EG X k ops S L fuel ls ((d, v) :: σ) H) : EG X k ops S L (fuel + 1) listed σ H := by
  subst hl
  intro a w ha hw
  refine EG_all hr ?_
  unfold wpOp
  rw [hi]
  simp only [Region.wanted, Oper.wp, hv a w ha hw, Oper.upon, if_true]
  exact .inl ⟨fun _ => hS.sat _ hw, h _ _ (ha.put hd _) hw⟩
theorem EG_call {α : Type} {r : α → Value} {H' : α → SL} {f : FuncId} [IsFn X.P f] {args : Array Operand} {ats : Array TypeId} {vs : List Value} {d : Nat} {ty : TypeId} {pos : String} {aft : Array Edge} {i : Nat} (hn : nthF listed.toList 0 0 = some i)
    (hi : ops.toArray[i]? = some ⟨some d, .call { callee := .value (.func f), args := args, argTypes := ats }, ty, pos, aft, none⟩) (hargs : evs σ args.toList = some vs) (hc : Spec X.P f vs X.W H r H') (hr : Region.ready .any ops.toArray listed = [i]) (hS : ∀ x, Ent (H' x) S)
    (h : ∀ x, EG X k ops S L fuel (listed.setIfInBounds i true) ((d, r x) :: σ) (H' x)) (hd : Nat.blt d X.N = true := by rfl) : EG X k ops S L (fuel + 1) listed σ H := by
  intro a w ha hw
  refine EG_all hr ?_
  unfold wpOp
  rw [hi]
  simp only [Region.wanted, Oper.wp, run_call ha hargs, if_true]
  refine .inl ?_
  rw [Oper.upon_enter]
  refine (hc w hw).mono ?_
  rintro e w' ⟨x, rfl, hs'⟩
  exact ⟨fun _ => (hS x).sat _ hs', h x _ _ (ha.put hd _) hs'⟩
theorem EG_skip {H' : SL} {op : Op} {ty : TypeId} {pos : String} {aft : Array Edge} {i : Nat} (hn : nthF listed.toList 0 0 = some i) (hi : ops.toArray[i]? = some ⟨none, op, ty, pos, aft, none⟩)
    (hv : OpSkip X σ H ⟨none, op, ty, pos, aft, none⟩ H') (hr : Region.ready .any ops.toArray listed = [i]) (hS : Ent H' S) {ls : Array Bool} (hl : listed.setIfInBounds i true = ls)
    (h : EG X k ops S L fuel ls σ H') : EG X k ops S L (fuel + 1) listed σ H := by
  subst hl
  intro a w ha hw
  refine EG_all hr ?_
  obtain ⟨w', h1, h2⟩ := hv a w ha hw
  unfold wpOp
  rw [hi]
  simp only [Region.wanted, Oper.wp, h1, Oper.upon, if_true]
  exact .inl ⟨fun _ => hS.sat _ h2, h _ _ ha h2⟩
/-- The last writer writes. -/
theorem EG_last {H' : SL} {op : Op} {ty : TypeId} {pos : String} {aft : Array Edge} (hi : ops.toArray[L]? = some ⟨none, op, ty, pos, aft, none⟩)
    (hv : OpSkip X σ H ⟨none, op, ty, pos, aft, none⟩ H') (hr : Region.ready .any ops.toArray listed = [L]) (hr2 : Region.ready .any ops.toArray (listed.setIfInBounds L true) = []) (h : EK X k σ H') : EG X k ops S L (fuel + 1) listed σ H := by
  intro a w ha hw
  refine EG_all hr ?_
  obtain ⟨w', h1, h2⟩ := hv a w ha hw
  unfold wpOp
  rw [hi]
  simp only [Region.wanted, Oper.wp, h1, Oper.upon, if_true]
  refine .inl ⟨fun e => absurd rfl e, ?_⟩
  have h3 : onlyQ (run X.P X.R k .normal) .normal (a.put none undef) w' := h _ _ ha h2
  cases fuel with
  | zero => exact ⟨hr2, h3⟩
  | succ f => exact ⟨fun _ => h3, by rw [hr2]; simp⟩
theorem EG_done (hr : Region.ready .any ops.toArray listed = []) (h : EK X k σ H) : EG X k ops S L fuel listed σ H := fun a w ha hw => by
  have h3 : onlyQ (run X.P X.R k .normal) .normal a w := h _ _ ha hw
  cases fuel with
  | zero => exact ⟨hr, h3⟩
  | succ f => exact ⟨fun _ => h3, by rw [hr]; simp⟩
end Go.Proofs.Ytdmmahhnfnefoaa
