/-
  Regions that draw their order: where all operations but a last few leave the assertion as it is, the order makes no difference. Plain Lean: no program in sight.
-/
import Derived.Test.YtdmmahhnfnefoaaSv
import Derived.StillTail
import Derived.StillTailTactics
namespace Go.Proofs.Ytdmmahhnfnefoaa
open Go.RowKit

section
variable {P : Program} {ops : Array Oper} {md : Region.Mode} {S : World → Prop} {Q : Exit → Act → World → Prop}

/-- In state a, in every world that meets S: the operation leaves v, and S. -/
def Steady (P : Program) (ops : Array Oper) (S : World → Prop) (o : Oper) (v : Value) (a : Act) : Prop :=
  (Region.wanted o (yielded ops a.tmps) = true ∧ ∀ w, S w → (∃ w', (execOp a.eval o).run P w = .ok (.value v) w' ∧ S w') ∨ (v = undef ∧ ∃ w', (execOp a.eval o).run P w = .ok .skip w' ∧ S w') ∨
    ∃ f args w', (execOp a.eval o).run P w = .ok (.enter f args) w' ∧ Calls P f args w' (fun e w'' => e = .returned v ∧ S w'')) ∨
  (Region.wanted o (yielded ops a.tmps) = false ∧ v = undef)

theorem Steady.same {o : Oper} {v : Value} {a a' : Act} (hy : Steady P ops S o v a) (he : execOp a'.eval o = execOp a.eval o)
    (hw : Region.wanted o (yielded ops a'.tmps) = Region.wanted o (yielded ops a.tmps)) : Steady P ops S o v a' := by
  unfold Steady at *
  rw [he, hw]
  exact hy

theorem Steady.wpOp {i : Nat} {o : Oper} {v : Value} {a : Act} {w : World} {K : Act → World → Prop} (hi : ops[i]? = some o) (hy : Steady P ops S o v a) (hS : S w) (h : ∀ w', S w' → K (a.put o.dst v) w') : wpOp P ops Q i K a w := by
  unfold Go.wpOp
  simp only [hi]
  rcases hy with ⟨hw, hv⟩ | ⟨hw, rfl⟩
  · rw [if_pos hw]
    refine .inl ?_
    unfold Oper.wp
    rcases hv w hS with ⟨w', hr, hS'⟩ | ⟨rfl, w', hr, hS'⟩ | ⟨f, args, w', hr, hc⟩
    · rw [hr]; exact h _ hS'
    · rw [hr]; exact h _ hS'
    · rw [hr, Oper.upon_enter]
      refine hc.mono ?_
      rintro e w'' ⟨rfl, hS'⟩
      exact h _ hS'
  · rw [if_neg (by simp [hw])]
    exact h _ hS

/-- Operation i, whatever world meets S. -/
def stS (P : Program) (ops : Array Oper) (S : World → Prop) (i : Nat) (K : Act → Prop) (a : Act) : Prop :=
  match ops[i]? with
  | none => K a
  | some o => ∃ v, Steady P ops S o v a ∧ K (a.put o.dst v)
theorem stS.wpOp {i : Nat} {a : Act} {w : World} {K : Act → Prop} {K' : Act → World → Prop} (h : stS P ops S i K a) (hS : S w) (hK : ∀ a w, K a → S w → K' a w) : wpOp P ops Q i K' a w := by
  unfold stS at h
  cases hi : ops[i]? with
  | none =>
    rw [hi] at h
    unfold Go.wpOp
    simp only [hi]
    exact hK _ _ h hS
  | some o =>
    rw [hi] at h
    obtain ⟨v, h1, h2⟩ := h
    exact h1.wpOp hi hS fun w' hS' => hK _ _ h2 hS'
theorem stS.mono {i : Nat} {a : Act} {K K' : Act → Prop} (h : stS P ops S i K a) (hK : ∀ a, K a → K' a) : stS P ops S i K' a := by
  unfold stS at *
  split
  · rename_i hi; rw [hi] at h; exact hK _ h
  · rename_i o hi; rw [hi] at h; obtain ⟨v, h1, h2⟩ := h; exact ⟨v, h1, hK _ h2⟩
theorem stS.put {j : Nat} {oi oj : Oper} {v : Value} (hj : ops[j]? = some oj) (hap : oi.apart ops oj = true) (hsi : ∀ cs b, oi.op ≠ .select cs b) (hsj : ∀ cs b, oj.op ≠ .select cs b) {K : Act → Prop} {a : Act}
    (hy : Steady P ops S oi v a) (h : stS P ops S j K (a.put oi.dst v)) : stS P ops S j (fun a' => Steady P ops S oi v a' ∧ K (a'.put oi.dst v)) a := by
  obtain ⟨h1, h2, h3⟩ := Oper.apart_spec hap
  unfold stS at *
  simp only [hj] at *
  obtain ⟨u, k1, k2⟩ := h
  refine ⟨u, k1.same (execOp_put oj hsj a oi.dst v h1).symm (wanted_put oj a oi.dst v h1).symm, hy.same (execOp_put oi hsi a oj.dst u h3) (wanted_put oi a oj.dst u h3), ?_⟩
  rw [← Act.put_comm a v u h2]
  exact k2

/-- A row of operations, in the order of the text. -/
def wpSt (P : Program) (ops : Array Oper) (S : World → Prop) (Q : Act → Prop) : List Oper → Act → Prop
  | [], a => Q a
  | o :: rest, a => ∃ v, Steady P ops S o v a ∧ wpSt P ops S Q rest (a.put o.dst v)

/-! all operations steady -/
def wpAnyF (P : Program) (md : Region.Mode) (ops : Array Oper) (S : World → Prop) (Q : Act → Prop) : Nat → Array Bool → Act → Prop
  | 0, listed, a => Region.ready md ops listed = [] ∧ Q a
  | f + 1, listed, a => (Region.ready md ops listed = [] → Q a) ∧ ∀ i ∈ Region.ready md ops listed, stS P ops S i (wpAnyF P md ops S Q f (listed.setIfInBounds i true)) a
theorem wpAny_of_F {Q' : Act → Prop} (hQ : ∀ a w, Q' a → S w → Q .normal a w) : ∀ (f : Nat) (listed : Array Bool) (a : Act) (w : World), wpAnyF P md ops S Q' f listed a → S w → wpAny P md ops Q f listed a w
  | 0, _, _, _, h, hS => ⟨h.1, hQ _ _ h.2 hS⟩
  | f + 1, _, _, _, h, hS => ⟨fun h0 => hQ _ _ (h.1 h0) hS, fun i hi => (h.2 i hi).wpOp hS fun a w h' hS' => wpAny_of_F hQ f _ a w h' hS'⟩
theorem wpAnyF_first {Q' : Act → Prop} {i : Nat} {oi : Oper} {v : Value} (hi : ops[i]? = some oi) (hsel : ∀ (j : Nat) (o : Oper) cs b, ops[j]? = some o → o.op ≠ .select cs b) :
    ∀ (f : Nat) (listed : Array Bool) (a : Act),
      (∀ j oj, ops[j]? = some oj → j ≠ i → listed.getD j true = false → (∀ e ∈ oj.after, Region.binds md e = true → e.on ≠ i) → oi.apart ops oj = true) →
      i ∈ Region.ready md ops listed → Steady P ops S oi v a →
      wpAnyF P md ops S Q' f (listed.setIfInBounds i true) (a.put oi.dst v) → wpAnyF P md ops S Q' (f + 1) listed a := by
  intro f
  induction f with
  | zero =>
    intro listed a _ hr hy H
    refine ⟨fun h => (by rw [h] at hr; cases hr), fun j hj => ?_⟩
    by_cases hji : j = i
    · subst hji; unfold stS; simp only [hi]; exact ⟨v, hy, H⟩
    · have := ready_mono hj hji
      rw [H.1] at this
      cases this
  | succ f ih =>
    intro listed a hfree hr hy H
    refine ⟨fun h => (by rw [h] at hr; cases hr), fun j hj => ?_⟩
    by_cases hji : j = i
    · subst hji; unfold stS; simp only [hi]; exact ⟨v, hy, H⟩
    · have h1 := H.2 j (ready_mono hj hji)
      obtain ⟨hjun, oj, hoj, hall⟩ := mem_ready.1 hj
      have hun := (mem_ready.1 hr).1
      have hnot : ∀ e ∈ oj.after, Region.binds md e = true → e.on ≠ i := fun e he hb heq => by
        have h2 := hall e he hb
        rw [heq, getD_both hun] at h2
        cases h2
      have h2 := stS.put hoj (hfree j oj hoj hji hjun hnot) (fun cs b => hsel i oi cs b hi) (fun cs b => hsel j oj cs b hoj) hy h1
      have hfree' : ∀ k ok, ops[k]? = some ok → k ≠ i → (listed.setIfInBounds j true).getD k true = false →
          (∀ e ∈ ok.after, Region.binds md e = true → e.on ≠ i) → oi.apart ops ok = true := fun k ok hk hki hun hno => by
        refine hfree k ok hk hki ?_ hno
        by_cases hjk : j = k
        · subst hjk; exact hjun
        · rw [getD_set_ne true hjk] at hun; exact hun
      refine h2.mono fun a' h3 => ih (listed.setIfInBounds j true) a' hfree' (ready_mono hr (Ne.symm hji)) h3.1 ?_
      rw [Array.setIfInBounds_comm _ _ hji]
      exact h3.2
theorem wpAnyF_lex {Q' : Act → Prop} (hs : Region.noSelect ops = true) : ∀ (l : List Oper) (k : Nat) (listed : Array Bool) (a : Act), (∀ j, l[j]? = ops[k + j]?) →
    Region.lexFrom md ops l.length k listed = true → wpSt P ops S Q' l a → wpAnyF P md ops S Q' l.length listed a
  | [], k, listed, a, _, hB, h => ⟨by simpa [Region.lexFrom] using hB, h⟩
  | o :: l, k, listed, a, hl, hB, h => by
    have h0 : ops[k]? = some o := by simpa using (hl 0).symm
    simp only [List.length_cons, Region.lexFrom, Bool.and_eq_true] at hB
    obtain ⟨⟨hr, hf⟩, hB'⟩ := hB
    obtain ⟨v, hy, hK⟩ := h
    exact wpAnyF_first h0 (Region.noSelect_spec hs) l.length listed a (Region.free_spec h0 hf) (by simpa using hr) hy
      (wpAnyF_lex hs l (k + 1) _ _ (fun j => by have := hl (j + 1); simpa [Nat.add_assoc, Nat.add_comm 1 j] using this) hB' hK)

theorem wp_region_steady {id : Nat} {a : Act} {w : World} {l : List Oper} (hm : P.follows .mixedOrders = true) (hB : Region.lexB .any l.toArray = true) (hd : ∀ w, S w → S w.drew) (hS : S w)
    (h : wpSt P l.toArray S (fun a' => ∀ w', S w' → Q .normal a' w') l a) : (Code.region id l.toArray true).wp P Q a w := by
  simp only [Region.lexB, Bool.and_eq_true] at hB
  refine wp_region_any hm (wpAny_of_F (Q' := fun a' => ∀ w', S w' → Q .normal a' w') (fun a w h hS => h w hS) _ _ _ _ ?_ (hd w hS))
  have := wpAnyF_lex (md := .any) hB.1 l 0 (Array.replicate l.toArray.size false) a (by simp) (by simpa using hB.2) h
  simpa using this

/-! the last few in their order -/
def wpAnyT (P : Program) (md : Region.Mode) (ops : Array Oper) (S : World → Prop) (n : Nat) (L : Array Bool → Act → Prop) : Nat → Array Bool → Act → Prop
  | 0, listed, a => L listed a
  | f + 1, listed, a => Region.ready md ops listed ≠ [] ∧ ∀ i ∈ Region.ready md ops listed, i < n ∧ stS P ops S i (wpAnyT P md ops S n L f (listed.setIfInBounds i true)) a
theorem wpAny_of_T {n g : Nat} {L : Array Bool → Act → Prop} (hL : ∀ listed a w, L listed a → S w → wpAny P md ops Q g listed a w) :
    ∀ (f : Nat) (listed : Array Bool) (a : Act) (w : World), wpAnyT P md ops S n L f listed a → S w → wpAny P md ops Q (f + g) listed a w
  | 0, listed, a, w, h, hS => by rw [Nat.zero_add]; exact hL _ _ _ h hS
  | f + 1, listed, a, w, h, hS => by
    rw [show f + 1 + g = (f + g) + 1 by omega]
    exact ⟨fun h0 => absurd h0 h.1, fun i hi => (h.2 i hi).2.wpOp hS fun a' w' h' hS' => wpAny_of_T hL f _ a' w' h' hS'⟩
theorem wpAnyT_first {n i : Nat} {oi : Oper} {v : Value} {L : Array Bool → Act → Prop} (hi : ops[i]? = some oi) (hsel : ∀ (j : Nat) (o : Oper) cs b, ops[j]? = some o → o.op ≠ .select cs b)
    (hs : Region.sinkB md ops n = true) (hc : Region.chainB md ops n = true) (hn : n < ops.size) (hin : i < n) (hdone : ∀ listed a, L listed a → ∀ j ∈ Region.ready md ops listed, n ≤ j) :
    ∀ (f : Nat) (listed : Array Bool) (a : Act), HeadInv md ops n listed →
      (∀ j oj, ops[j]? = some oj → j ≠ i → listed.getD j true = false → (∀ e ∈ oj.after, Region.binds md e = true → e.on ≠ i) → oi.apart ops oj = true) →
      i ∈ Region.ready md ops listed → Steady P ops S oi v a →
      wpAnyT P md ops S n L f (listed.setIfInBounds i true) (a.put oi.dst v) → wpAnyT P md ops S n L (f + 1) listed a := by
  intro f
  induction f with
  | zero =>
    intro listed a inv _ hr hy H
    have hun := (mem_ready.1 hr).1
    refine ⟨fun h => (by rw [h] at hr; cases hr), fun j hj => ?_⟩
    have hjn : j < n := by
      rcases Nat.lt_or_ge j n with h | h
      · exact h
      · exact absurd hj (tail_waits hs hc hn inv _ i rfl hin hun j h)
    refine ⟨hjn, ?_⟩
    by_cases hji : j = i
    · subst hji; unfold stS; simp only [hi]; exact ⟨v, hy, H⟩
    · have := hdone _ _ H j (ready_mono hj hji)
      omega
  | succ f ih =>
    intro listed a inv hfree hr hy H
    have hun := (mem_ready.1 hr).1
    refine ⟨fun h => (by rw [h] at hr; cases hr), fun j hj => ?_⟩
    have hjn : j < n := by
      rcases Nat.lt_or_ge j n with h | h
      · exact h
      · exact absurd hj (tail_waits hs hc hn inv _ i rfl hin hun j h)
    refine ⟨hjn, ?_⟩
    by_cases hji : j = i
    · subst hji; unfold stS; simp only [hi]; exact ⟨v, hy, H⟩
    · have h1 := (H.2 j (ready_mono hj hji)).2
      obtain ⟨hjun, oj, hoj, hall⟩ := mem_ready.1 hj
      have hnot : ∀ e ∈ oj.after, Region.binds md e = true → e.on ≠ i := fun e he hb heq => by
        have h2 := hall e he hb
        rw [heq, getD_both hun] at h2
        cases h2
      have h2 := stS.put hoj (hfree j oj hoj hji hjun hnot) (fun cs b => hsel i oi cs b hi) (fun cs b => hsel j oj cs b hoj) hy h1
      have hfree' : ∀ k ok, ops[k]? = some ok → k ≠ i → (listed.setIfInBounds j true).getD k true = false →
          (∀ e ∈ ok.after, Region.binds md e = true → e.on ≠ i) → oi.apart ops ok = true := fun k ok hk hki hun hno => by
        refine hfree k ok hk hki ?_ hno
        by_cases hjk : j = k
        · subst hjk; exact hjun
        · rw [getD_set_ne true hjk] at hun; exact hun
      refine h2.mono fun a' h3 => ih (listed.setIfInBounds j true) a' (inv.set hj hjn) hfree' (ready_mono hr (Ne.symm hji)) h3.1 ?_
      rw [Array.setIfInBounds_comm _ _ hji]
      exact h3.2
theorem wpAnyT_lex {n g : Nat} {Lq : Act → Prop} (hsel : Region.noSelect ops = true) (hs : Region.sinkB md ops n = true) (hc : Region.chainB md ops n = true) (hn : n < ops.size) :
    ∀ (l : List Oper) (k : Nat) (listed : Array Bool) (a : Act), (∀ j, j < l.length → l[j]? = ops[k + j]?) → k + l.length = n → HeadInv md ops n listed →
    Region.lexHead md ops g l.length k listed = true → wpSt P ops S Lq l a →
    wpAnyT P md ops S n (fun listed' a' => Region.seqB md ops g n listed' = true ∧ Lq a') l.length listed a
  | [], k, listed, a, _, hk, _, hB, h => by
    have : k = n := by simpa using hk
    subst this
    exact ⟨by simpa [Region.lexHead] using hB, h⟩
  | o :: l, k, listed, a, hl, hk, inv, hB, h => by
    have h0 : ops[k]? = some o := by simpa using (hl 0 (by simp)).symm
    simp only [List.length_cons, Region.lexHead, Bool.and_eq_true] at hB
    obtain ⟨⟨hr, hf⟩, hB'⟩ := hB
    have hkn : k < n := by simp only [List.length_cons] at hk; omega
    have hr' : k ∈ Region.ready md ops listed := by simpa using hr
    obtain ⟨v, hy, hK⟩ := h
    exact wpAnyT_first h0 (Region.noSelect_spec hsel) hs hc hn hkn (fun listed' a' hL => seqB_ready hL.1) l.length listed a inv (Region.free_spec h0 hf) hr' hy
      (wpAnyT_lex hsel hs hc hn l (k + 1) _ _ (fun j hj => by have := hl (j + 1) (by simp; omega); simpa [Nat.add_assoc, Nat.add_comm 1 j] using this) (by simp only [List.length_cons] at hk; omega) (inv.set hr' hkn) hB' hK)

theorem wp_region_steady_tail {id : Nat} {a : Act} {w : World} {l : List Oper} (n : Nat) (hm : P.follows .mixedOrders = true) (hB : Region.lexTailB .any l.toArray n = true) (hd : ∀ w, S w → S w.drew) (hS : S w)
    (h : wpSt P l.toArray S (fun a' => ∀ w', S w' → wpList P l.toArray Q (l.drop n) a' w') (l.take n) a) : (Code.region id l.toArray true).wp P Q a w := by
  simp only [Region.lexTailB, Bool.and_eq_true, decide_eq_true_eq] at hB
  obtain ⟨⟨⟨⟨hsel, hn⟩, hs⟩, hc⟩, hlex⟩ := hB
  have hn' : n < l.length := by simpa using hn
  have htl : (l.take n).length = n := by simp; omega
  have hdl : (l.drop n).length = l.toArray.size - n := by simp
  have inv0 : HeadInv .any l.toArray n (Array.replicate l.toArray.size false) :=
    ⟨by simp, fun j oj _ hl => (by rw [getD_replicate_false] at hl; cases hl), fun t _ ht => getD_in (by simpa using ht) (getD_replicate_false _ _)⟩
  have H := wpAnyT_lex (md := .any) (g := l.toArray.size - n) hsel hs hc hn (l.take n) 0 _ a (fun j hj => by
    have hj' : j < n := by rw [htl] at hj; exact hj
    simp [hj']) (by simpa using htl) inv0 (by rw [htl]; exact hlex) h
  refine wp_region_any hm ?_
  have h2 := wpAny_of_T (Q := Q) (g := l.toArray.size - n) (fun listed a' w' hL hS' => by
    rw [← hdl]
    exact wpAny_of_seq (l.drop n) n listed a' w' (fun j => by simp) (by rw [hdl]; exact hL.1) (hL.2 w' hS')) _ _ _ _ H (hd w hS)
  rw [htl] at h2
  have e : n + (l.toArray.size - n) = l.toArray.size := by omega
  rwa [e] at h2
end

/-! ### The same, over assertions -/
variable {X : Cx} {k : List KI} {σ : Env} {H : SL}

/-- The steady part of a region: the operations l; then what Z says. -/
def ES (X : Cx) (ops : List Oper) (l : List Oper) (σ : Env) (H : SL) (Z : Act → Prop) : Prop := ∀ a, Fits X.N a σ → wpSt X.P ops.toArray (fun w => Sat X.W w H) Z l a

theorem EK_drawn {id : Nat} {ops : List Oper} (hm : X.P.follows .mixedOrders = true) (hB : Region.lexB .any ops.toArray = true) (h : ES X ops ops σ H (fun a => ∀ w, Sat X.W w H → run X.P X.R k .normal a w)) : EK X (.code (.region id ops.toArray true) :: k) σ H :=
  fun a w ha hs => wp_region_steady (S := fun w => Sat X.W w H) hm hB (fun _ h => h.drew) hs (h a ha)
theorem EK_drawnT {id : Nat} {ops pre suf : List Oper} (n : Nat) (hm : X.P.follows .mixedOrders = true) (hB : Region.lexTailB .any ops.toArray n = true) (hp : ops.take n = pre) (hsuf : ops.drop n = suf)
    (h : ES X ops pre σ H (fun a => ∀ w, Sat X.W w H → wpList X.P ops.toArray (run X.P X.R k) suf a w)) : EK X (.code (.region id ops.toArray true) :: k) σ H :=
  fun a w ha hs => wp_region_steady_tail (S := fun w => Sat X.W w H) n hm hB (fun _ h => h.drew) hs (by rw [hp, hsuf]; exact h a ha)
theorem ES_nil {ops : List Oper} (h : EK X k σ H) : ES X ops [] σ H (fun a => ∀ w, Sat X.W w H → run X.P X.R k .normal a w) := fun a ha w hs => h a w ha hs
theorem ES_tail {ops suf : List Oper} (h : EL X k ops suf σ H) : ES X ops [] σ H (fun a => ∀ w, Sat X.W w H → wpList X.P ops.toArray (run X.P X.R k) suf a w) := fun a ha w hs => h a w ha hs

variable {ops l : List Oper} {Z : Act → Prop}
theorem ES_val {d : Nat} {v : Value} {op : Op} {ty : TypeId} {pos : String} {aft : Array Edge} (hv : OpVal X σ H ⟨some d, op, ty, pos, aft, none⟩ v) (hd : Nat.blt d X.N = true) (h : ES X ops l ((d, v) :: σ) H Z) :
    ES X ops (⟨some d, op, ty, pos, aft, none⟩ :: l) σ H Z :=
  fun a ha => ⟨v, .inl ⟨rfl, fun w hs => .inl ⟨w, hv a w ha hs, hs⟩⟩, h _ (ha.put hd v)⟩
theorem ES_val0 {v : Value} {op : Op} {ty : TypeId} {pos : String} {aft : Array Edge} (hv : OpVal X σ H ⟨none, op, ty, pos, aft, none⟩ v) (h : ES X ops l σ H Z) :
    ES X ops (⟨none, op, ty, pos, aft, none⟩ :: l) σ H Z :=
  fun a ha => ⟨v, .inl ⟨rfl, fun w hs => .inl ⟨w, hv a w ha hs, hs⟩⟩, h _ ha⟩
theorem ES_guard_yes {d : Option Nat} {op : Op} {ty : TypeId} {pos : String} {aft : Array Edge} {gj t : Nat} {want : Bool} (hj : (ops[gj]?).bind (·.dst) = some t) (ht : σ.get t = some (.bool want))
    (h : ES X ops (⟨d, op, ty, pos, aft, none⟩ :: l) σ H Z) : ES X ops (⟨d, op, ty, pos, aft, some (gj, want)⟩ :: l) σ H Z := by
  intro a ha
  obtain ⟨v, h1, h2⟩ := h a ha
  refine ⟨v, ?_, h2⟩
  rcases h1 with ⟨_, h1⟩ | ⟨h1, _⟩
  · exact .inl ⟨by rw [wanted_of (o := ⟨d, op, ty, pos, aft, some (gj, want)⟩) ha hj ht rfl]; simp, h1⟩
  · simp [Region.wanted] at h1
theorem ES_guard_no {d : Nat} {op : Op} {ty : TypeId} {pos : String} {aft : Array Edge} {gj t : Nat} {want : Bool} (hj : (ops[gj]?).bind (·.dst) = some t) (ht : σ.get t = some (.bool !want)) (hd : Nat.blt d X.N = true)
    (h : ES X ops l ((d, undef) :: σ) H Z) : ES X ops (⟨some d, op, ty, pos, aft, some (gj, want)⟩ :: l) σ H Z :=
  fun a ha => ⟨undef, .inr ⟨by rw [wanted_of (o := ⟨some d, op, ty, pos, aft, some (gj, want)⟩) ha hj ht rfl]; cases want <;> rfl, rfl⟩, h _ (ha.put hd _)⟩
theorem ES_guard_undef {d : Nat} {op : Op} {ty : TypeId} {pos : String} {aft : Array Edge} {gj t : Nat} {want : Bool} (hj : (ops[gj]?).bind (·.dst) = some t) (ht : σ.get t = some undef) (hd : Nat.blt d X.N = true)
    (h : ES X ops l ((d, undef) :: σ) H Z) : ES X ops (⟨some d, op, ty, pos, aft, some (gj, want)⟩ :: l) σ H Z :=
  fun a ha => ⟨undef, .inr ⟨by simp only [Region.wanted, yielded, List.getElem?_toArray, hj, Option.bind_some, ha.vals t _ ht]; rfl, rfl⟩, h _ (ha.put hd _)⟩
theorem ES_guard_split {d : Option Nat} {op : Op} {ty : TypeId} {pos : String} {aft : Array Edge} {gj t : Nat} {b want : Bool} (ht : σ.get t = some (.bool b))
    (h1 : b = true → ES X ops (⟨d, op, ty, pos, aft, some (gj, want)⟩ :: l) ((t, .bool true) :: σ) H Z) (h2 : b = false → ES X ops (⟨d, op, ty, pos, aft, some (gj, want)⟩ :: l) ((t, .bool false) :: σ) H Z) :
    ES X ops (⟨d, op, ty, pos, aft, some (gj, want)⟩ :: l) σ H Z := by
  intro a ha
  cases hb : b with
  | true => exact h1 hb a (ha.fact ht (by rw [hb]))
  | false => exact h2 hb a (ha.fact ht (by rw [hb]))
/-- A guard that is a test. -/
theorem EL_guard_dec {d : Option Nat} {op : Op} {ty : TypeId} {pos : String} {aft : Array Edge} {gj t : Nat} {want : Bool} {p : Prop} [Decidable p] (hj : (ops[gj]?).bind (·.dst) = some t) (ht : σ.get t = some (.bool (decide p)))
    (h1 : p → EL X k ops (⟨d, op, ty, pos, aft, some (gj, want)⟩ :: l) ((t, .bool true) :: σ) H) (h2 : ¬ p → EL X k ops (⟨d, op, ty, pos, aft, some (gj, want)⟩ :: l) ((t, .bool false) :: σ) H) :
    EL X k ops (⟨d, op, ty, pos, aft, some (gj, want)⟩ :: l) σ H := EL_guard_split hj ht (fun h => h1 (of_decide_eq_true h)) (fun h => h2 (of_decide_eq_false h))
theorem EL_guard_ndec {d : Option Nat} {op : Op} {ty : TypeId} {pos : String} {aft : Array Edge} {gj t : Nat} {want : Bool} {p : Prop} [Decidable p] (hj : (ops[gj]?).bind (·.dst) = some t) (ht : σ.get t = some (.bool (!decide p)))
    (h1 : ¬ p → EL X k ops (⟨d, op, ty, pos, aft, some (gj, want)⟩ :: l) ((t, .bool true) :: σ) H) (h2 : p → EL X k ops (⟨d, op, ty, pos, aft, some (gj, want)⟩ :: l) ((t, .bool false) :: σ) H) :
    EL X k ops (⟨d, op, ty, pos, aft, some (gj, want)⟩ :: l) σ H := EL_guard_split hj ht (fun h => h1 (by simpa using h)) (fun h => h2 (by simpa using h))
theorem ES_guard_dec {d : Option Nat} {op : Op} {ty : TypeId} {pos : String} {aft : Array Edge} {gj t : Nat} {want : Bool} {p : Prop} [Decidable p] (ht : σ.get t = some (.bool (decide p)))
    (h1 : p → ES X ops (⟨d, op, ty, pos, aft, some (gj, want)⟩ :: l) ((t, .bool true) :: σ) H Z) (h2 : ¬ p → ES X ops (⟨d, op, ty, pos, aft, some (gj, want)⟩ :: l) ((t, .bool false) :: σ) H Z) :
    ES X ops (⟨d, op, ty, pos, aft, some (gj, want)⟩ :: l) σ H Z := ES_guard_split ht (fun h => h1 (of_decide_eq_true h)) (fun h => h2 (of_decide_eq_false h))
theorem ES_guard_ndec {d : Option Nat} {op : Op} {ty : TypeId} {pos : String} {aft : Array Edge} {gj t : Nat} {want : Bool} {p : Prop} [Decidable p] (ht : σ.get t = some (.bool (!decide p)))
    (h1 : ¬ p → ES X ops (⟨d, op, ty, pos, aft, some (gj, want)⟩ :: l) ((t, .bool true) :: σ) H Z) (h2 : p → ES X ops (⟨d, op, ty, pos, aft, some (gj, want)⟩ :: l) ((t, .bool false) :: σ) H Z) :
    ES X ops (⟨d, op, ty, pos, aft, some (gj, want)⟩ :: l) σ H Z := ES_guard_split ht (fun h => h1 (by simpa using h)) (fun h => h2 (by simpa using h))
/-- A call that leaves the assertion as it is, and tells a value that is known. -/
theorem ES_call {v : Value} {f : FuncId} [IsFn X.P f] {args : Array Operand} {ats : Array TypeId} {vs : List Value} {d : Nat} {ty : TypeId} {pos : String} {aft : Array Edge}
    (hargs : evs σ args.toList = some vs) (hc : Spec X.P f vs X.W H (fun _ : Unit => v) (fun _ => H)) (h : ES X ops l ((d, v) :: σ) H Z) (hd : Nat.blt d X.N = true := by rfl) :
    ES X ops (⟨some d, .call { callee := .value (.func f), args := args, argTypes := ats }, ty, pos, aft, none⟩ :: l) σ H Z := by
  intro a ha
  refine ⟨v, .inl ⟨rfl, fun w hs => .inr (.inr ⟨f, vs.toArray, w, run_call ha hargs, ?_⟩)⟩, h _ (ha.put hd _)⟩
  refine (hc w hs).mono ?_
  rintro e w' ⟨x, rfl, hs'⟩
  exact ⟨rfl, hs'⟩

/-! ### Tests whose outcome is known -/
theorem OpVal_decT {o : Oper} {p : Prop} {d : Decidable p} (h : evPure σ o.op = some (.bool (@decide p d))) (hp : p) : OpVal X σ H o (.bool true) := by
  have := OpVal_pure (X := X) (H := H) h
  rwa [decide_eq_true hp] at this
theorem OpVal_decF {o : Oper} {p : Prop} {d : Decidable p} (h : evPure σ o.op = some (.bool (@decide p d))) (hp : ¬ p) : OpVal X σ H o (.bool false) := by
  have := OpVal_pure (X := X) (H := H) h
  rwa [decide_eq_false hp] at this
theorem OpVal_ndecT {o : Oper} {p : Prop} {d : Decidable p} (h : evPure σ o.op = some (.bool (!(@decide p d)))) (hp : ¬ p) : OpVal X σ H o (.bool true) := by
  have := OpVal_pure (X := X) (H := H) h
  rwa [decide_eq_false hp] at this
theorem OpVal_ndecF {o : Oper} {p : Prop} {d : Decidable p} (h : evPure σ o.op = some (.bool (!(@decide p d)))) (hp : p) : OpVal X σ H o (.bool false) := by
  have := OpVal_pure (X := X) (H := H) h
  rwa [decide_eq_true hp] at this

/-! ### What follows, of assertions -/
/-- H bears G (and maybe more). -/
def Ent (H G : SL) : Prop := ∀ h, H h → ∃ h', G h' ∧ ∀ b o, h' b = some o → h b = some o
theorem Ent.sat {H G : SL} (k : Ent H G) {W : World} : ∀ w, Sat W w H → Sat W w G := fun w ⟨hb, x, p, hx⟩ =>
  let ⟨y, q, hy⟩ := k x p
  ⟨hb, y, q, fun b o ho => hx b o (hy b o ho)⟩
theorem Ent.refl (H : SL) : Ent H H := fun h p => ⟨h, p, fun _ _ h => h⟩
theorem Ent.trans {A B C : SL} (h : Ent A B) (k : Ent B C) : Ent A C := fun x p =>
  let ⟨y, q, hy⟩ := h x p
  let ⟨z, r, hz⟩ := k y q
  ⟨z, r, fun b o ho => hy b o (hz b o ho)⟩
theorem Ent.of_eq {A B : SL} (h : A = B) : Ent A B := h ▸ Ent.refl A
theorem Ent.of_le {A B : SL} (h : SL.le A B) : Ent A B := fun x p => ⟨x, h x p, fun _ _ h => h⟩
theorem Ent.star {A B F G : SL} (h : Ent A B) (k : Ent F G) : Ent (A * F) (B * G) := by
  rintro x ⟨h1, h2, p, q, d, e⟩
  obtain ⟨y1, p', k1⟩ := h h1 p
  obtain ⟨y2, q', k2⟩ := k h2 q
  have e1 : ∀ b, h1 b = none → y1 b = none := fun b hb => by
    cases hy : y1 b with
    | none => rfl
    | some o => rw [k1 b o hy] at hb; cases hb
  have e2 : ∀ b, h2 b = none → y2 b = none := fun b hb => by
    cases hy : y2 b with
    | none => rfl
    | some o => rw [k2 b o hy] at hb; cases hb
  refine ⟨fun b => (y1 b).or (y2 b), ⟨y1, y2, p', q', fun b => ?_, fun _ => rfl⟩, fun b o ho => ?_⟩
  · rcases d b with hb | hb
    · exact .inl (e1 b hb)
    · exact .inr (e2 b hb)
  · replace ho : (y1 b).or (y2 b) = some o := ho
    rw [e b]
    cases hy : y1 b with
    | some o' =>
      rw [k1 b o' hy]
      rw [hy] at ho
      exact ho
    | none =>
      rw [hy] at ho
      have h2b := k2 b o (by simpa using ho)
      rcases d b with hb | hb
      · rw [hb, h2b]; rfl
      · rw [h2b] at hb; cases hb
theorem Ent.drop {A F : SL} : Ent (A * F) F := by
  rintro x ⟨h1, h2, p, q, d, e⟩
  refine ⟨h2, q, fun b o ho => ?_⟩
  have := d b
  rw [e b]
  cases hh : h1 b <;> simp_all
theorem Ent.any {H : SL} : Ent H 1 := fun _ _ => ⟨fun _ => none, fun _ => rfl, fun _ _ h => by cases h⟩
theorem Ent.last {H F R : SL} [h : Frame H F R] : Ent H F := (Ent.of_eq (h.eq.trans (SL.sep_comm F R))).trans Ent.drop
theorem Ent.cons {H P F G : SL} [h : Frame H P F] (k : Ent F G) : Ent H (P * G) := (Ent.of_eq h.eq).trans (Ent.star (Ent.refl P) k)
theorem Ent.at {H C C' F G : SL} (p : Option Addr) [h : AtP H p C F] (hc : C = C') (k : Ent F G) : Ent H (C' * G) := hc ▸ (Ent.of_eq h.eq).trans (Ent.star (Ent.refl C) k)
theorem Ent.obj {H F G : SL} {t : TypeId} {cs cs' : List Value} (p : Option Addr) [h : AtP H p (Obj p t cs) F] (hc : cs = cs') (k : Ent F G) : Ent H (Obj p t cs' * G) := hc ▸ (Ent.of_eq h.eq).trans (Ent.star (Ent.refl _) k)
theorem Ent.row {H F G : SL} {e sz n n' c : Nat} {xs xs' : List Value} (p : Option Addr) [h : AtP H p (RowC e sz p n c xs) F] (hn : n = n') (hc : xs = xs') (k : Ent F G) : Ent H (RowC e sz p n' c xs' * G) := by
  subst hn
  subst hc
  exact (Ent.of_eq h.eq).trans (Ent.star (Ent.refl _) k)
theorem Ent.none {H G : SL} {e sz : Nat} (k : Ent H G) : Ent H (RowC e sz none 0 0 [] * G) := by
  intro x p
  obtain ⟨y, q, hy⟩ := k x p
  exact ⟨y, ⟨fun _ => .none, y, ⟨by simp, .inl ⟨trivial, rfl, fun _ => rfl⟩⟩, q, fun _ => .inl rfl, fun _ => by simp⟩, hy⟩
theorem Ent.ex {α : Sort _} {H G : SL} {P : α → SL} (a : α) (k : Ent H (P a * G)) : Ent H (SL.ex P * G) := k.trans (Ent.star (Ent.of_le (SL.le_ex P a)) (Ent.refl G))
theorem Ent.assoc {H A B G : SL} (k : Ent H (A * (B * G))) : Ent H ((A * B) * G) := SL.sep_assoc A B G ▸ k
theorem Ent.assoc' {G A B H : SL} (k : Ent (A * (B * H)) G) : Ent ((A * B) * H) G := SL.sep_assoc A B H ▸ k
theorem Ent.ex_out {α : Sort _} {H G : SL} {P : α → SL} (k : ∀ a, Ent (P a * H) G) : Ent (SL.ex P * H) G := by
  rw [SL.sep_ex]
  rintro x ⟨a, p⟩
  exact k a x p
theorem Ent.pure {H G : SL} {p : Prop} (hp : p) (k : Ent H G) : Ent H (SL.pure p * G) := by
  intro x q
  obtain ⟨y, r, hy⟩ := k x q
  exact ⟨y, ⟨fun _ => .none, y, ⟨hp, fun _ => rfl⟩, r, fun _ => .inl rfl, fun _ => by simp⟩, hy⟩

/-- An assertion of which something exists, opened. -/
theorem EK_ex {α : Sort _} {F : SL} {P : α → SL} (h : ∀ a, EK X k σ (P a * F)) : EK X k σ (SL.ex P * F) := fun a w ha hs =>
  let ⟨x, hx⟩ := hs.ex_out
  h x a w ha hx
theorem EK_pure {F : SL} {p : Prop} (h : p → EK X k σ F) : EK X k σ (SL.pure p * F) := fun a w ha hs => h hs.out.1 a w ha hs.out.2
theorem EK_ent {G : SL} (e : Ent H G) (h : EK X k σ G) : EK X k σ H := EK_le e.sat h
theorem EL_ent {G : SL} (e : Ent H G) (h : EL X k ops l σ G) : EL X k ops l σ H := EL_le e.sat h
/-- The part at p comes to the front. -/
theorem EK_at {C F : SL} (p : Option Addr) [r : AtP H p C F] (h : EK X k σ (C * F)) : EK X k σ H := r.eq ▸ h
theorem EL_at {C F : SL} (p : Option Addr) [r : AtP H p C F] (h : EL X k ops l σ (C * F)) : EL X k ops l σ H := r.eq ▸ h
/-- What a row's shape tells. -/
theorem EK_row {e sz n c : Nat} {xs : List Value} {F : SL} (p : Option Addr) [r : AtP H p (RowC e sz p n c xs) F] (h : xs.length = n * sz → n ≤ c → c ≤ maxLen → EK X k σ H) : EK X k σ H := fun a w ha hs =>
  let hl := RowC.len (r.eq ▸ hs)
  h hl.1 hl.2.1 hl.2.2 a w ha hs

/-! ### Contracts, framed -/
theorem Spec.mono {P : Program} {f : FuncId} {vs : List Value} {W : World} {H : SL} {α β : Type} {r : α → Value} {H' : α → SL} {r2 : β → Value} {H2 : β → SL} (h : Spec P f vs W H r H') (k : ∀ x, ∃ y, r x = r2 y ∧ Ent (H' x) (H2 y)) : Spec P f vs W H r2 H2 := fun w hs =>
  (h w hs).mono fun e w' ⟨x, he, hx⟩ =>
    let ⟨y, e1, e2⟩ := k x
    ⟨y, by rw [he, e1], e2.sat _ hx⟩
theorem Spec.pre {P : Program} {f : FuncId} {vs : List Value} {W : World} {H G : SL} {α : Type} {r : α → Value} {H' : α → SL} (h : Spec P f vs W G r H') (k : Ent H G) : Spec P f vs W H r H' := fun w hs => h w (k.sat w hs)
/-- The contract wants the parts at p, q, ..: they are brought to the front. -/
theorem Spec.at1 {P : Program} {f : FuncId} {vs : List Value} {W : World} {H C F : SL} (p : Option Addr) [r : AtP H p C F] {α : Type} {rr : α → Value} {H' : α → SL} (h : Spec P f vs W (C * F) rr H') : Spec P f vs W H rr H' := r.eq ▸ h
theorem Spec.at2 {P : Program} {f : FuncId} {vs : List Value} {W : World} {H C F D G : SL} (p q : Option Addr) [r : AtP H p C F] [r2 : AtP F q D G] {α : Type} {rr : α → Value} {H' : α → SL} (h : Spec P f vs W (C * (D * G)) rr H') : Spec P f vs W H rr H' := by
  rw [r.eq, r2.eq]; exact h
theorem Spec.at3 {P : Program} {f : FuncId} {vs : List Value} {W : World} {H C F D G E K : SL} (p q s : Option Addr) [r : AtP H p C F] [r2 : AtP F q D G] [r3 : AtP G s E K] {α : Type} {rr : α → Value} {H' : α → SL} (h : Spec P f vs W (C * (D * (E * K))) rr H') : Spec P f vs W H rr H' := by
  rw [r.eq, r2.eq, r3.eq]; exact h

end Go.Proofs.Ytdmmahhnfnefoaa
