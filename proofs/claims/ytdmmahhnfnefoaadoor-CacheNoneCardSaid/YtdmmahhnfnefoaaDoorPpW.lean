/-
  PoolOwns: what the rounds keep. No walk.
-/
import Derived.Test.YtdmmahhnfnefoaaDoorPpO
namespace Go.Proofs.YtdmmahhnfnefoaaDoor
open Go.RowKit
variable {m n k w : Nat} {ws o : List Nat} {s : PStep} {ss : List (Option PStep)} {bs : List Bool}

def ownBack (before after : List Nat) (o : List Nat) : List Nat := before.foldl (fun o b => if b ∈ after then o else o.set b 0) o
def ownTake (w : Nat) (g : List Nat) (o : List Nat) : List Nat := g.foldl (fun o x => o.set x (w + 1)) o
theorem ownBack_len (before after : List Nat) : ∀ o : List Nat, (ownBack before after o).length = o.length := by
  unfold ownBack
  induction before with
  | nil => simp
  | cons b l ih => intro o; simp only [List.foldl_cons]; rw [ih]; split <;> simp
theorem ownTake_len (w : Nat) (g : List Nat) : ∀ o : List Nat, (ownTake w g o).length = o.length := by
  unfold ownTake
  induction g with
  | nil => simp
  | cons b l ih => intro o; simp only [List.foldl_cons]; rw [ih]; simp
theorem getD_set (o : List Nat) (i x v : Nat) : (o.set i v).getD x 0 = if i = x ∧ i < o.length then v else o.getD x 0 := by
  simp only [List.getD_eq_getElem?_getD, List.getElem?_set]
  by_cases h : i = x
  · subst h
    by_cases h2 : i < o.length
    · simp [h2]
    · simp [h2]
  · simp [h]
theorem ownBack_get (after : List Nat) (x : Nat) : ∀ (before o : List Nat), (∀ b ∈ before, b < o.length) → (ownBack before after o).getD x 0 = if x ∈ before ∧ x ∉ after then 0 else o.getD x 0
  | [], o, _ => by simp [ownBack]
  | b :: l, o, h => by
    have e : ownBack (b :: l) after o = ownBack l after (if b ∈ after then o else o.set b 0) := rfl
    have hb : b < o.length := h b List.mem_cons_self
    rw [e, ownBack_get after x l _ (fun c hc => by
      have := h c (List.mem_cons_of_mem _ hc)
      split
      · exact this
      · rw [List.length_set]; exact this)]
    by_cases ha : b ∈ after
    · rw [if_pos ha]
      have : (x ∈ b :: l ∧ x ∉ after) ↔ (x ∈ l ∧ x ∉ after) := by
        rw [List.mem_cons]
        constructor
        · rintro ⟨rfl | h1, h2⟩
          · exact absurd ha h2
          · exact ⟨h1, h2⟩
        · exact fun h => ⟨.inr h.1, h.2⟩
      simp only [this]
    · rw [if_neg ha, getD_set]
      by_cases hx : b = x
      · subst hx
        simp [ha, hb]
      · have : (x ∈ b :: l ∧ x ∉ after) ↔ (x ∈ l ∧ x ∉ after) := by
          rw [List.mem_cons]
          exact ⟨fun h => ⟨h.1.resolve_left fun e => hx e.symm, h.2⟩, fun h => ⟨.inr h.1, h.2⟩⟩
        simp only [this, hx, false_and, if_false]
theorem ownTake_get (w x : Nat) : ∀ (g o : List Nat), (∀ b ∈ g, b < o.length) → (ownTake w g o).getD x 0 = if x ∈ g then w + 1 else o.getD x 0
  | [], o, _ => by simp [ownTake]
  | b :: l, o, h => by
    have e : ownTake w (b :: l) o = ownTake w l (o.set b (w + 1)) := rfl
    have hb : b < o.length := h b List.mem_cons_self
    rw [e, ownTake_get w x l _ (fun c hc => by rw [List.length_set]; exact h c (List.mem_cons_of_mem _ hc)), getD_set]
    by_cases hx : b = x
    · subst hx
      simp [hb]
    · have : x ∈ b :: l ↔ x ∈ l := by rw [List.mem_cons]; exact ⟨fun h => h.resolve_left fun e => hx e.symm, .inr⟩
      simp only [this, hx, false_and, if_false]
structure StepI (k m : Nat) (o : List Nat) (w1 : Nat) (s : PStep) (b : Bool) : Prop where
  ok : s.Ok m
  done : s.done = false
  ports : s.ports = []
  plen : s.parts.length ≤ 40
  kind : if b = true then s.kind = 2 ∧ PartsOk s.parts ∧ (∀ y ∈ leftN s.parts, y < k ∧ o.getD y 0 = w1) else s.kind = 0
structure OwnI (k m : Nat) (ws o : List Nat) (ss : List (Option PStep)) (bs : List Bool) : Prop where
  words : WordsOk m ws
  km : k ≤ m * 32
  len : o.length = k
  free : ∀ x, x < k → (o.getD x 0 = 0 ↔ isFree ws x = true)
  tail : ∀ x, k ≤ x → x < m * 32 → isFree ws x = false
  ssl : ss.length = 4
  bsl : bs.length = 4
  step : ∀ w s, w < 4 → ss.getD w none = some s → StepI k m o (w + 1) s (bs.getD w false)
theorem getD_setO {α : Type} (l : List α) (i x : Nat) (v d : α) (hi : i < l.length) : (l.set i v).getD x d = if i = x then v else l.getD x d := by
  simp only [List.getD_eq_getElem?_getD, List.getElem?_set]
  by_cases h : i = x
  · subst h; simp [hi]
  · simp [h]
/-- A step that begins. -/
theorem OwnI.begin (h : OwnI k m ws o ss bs) (hw : w < 4) (b : Bool) (hs : StepI k m o (w + 1) s b) : OwnI k m ws o (ss.set w (some s)) (bs.set w b) where
  words := h.words
  km := h.km
  len := h.len
  free := h.free
  tail := h.tail
  ssl := by rw [List.length_set]; exact h.ssl
  bsl := by rw [List.length_set]; exact h.bsl
  step := fun v t hv ht => by
    rw [getD_setO _ _ _ _ _ (by rw [h.ssl]; exact hw)] at ht
    rw [getD_setO _ _ _ _ _ (by rw [h.bsl]; exact hw)]
    by_cases e : w = v
    · subst e
      rw [if_pos rfl] at ht ⊢
      obtain rfl := Option.some.inj ht
      exact hs
    · rw [if_neg e] at ht ⊢
      exact h.step v t hv ht
def ownNext (w : Nat) (b : Bool) (s s' : PStep) (o : List Nat) : List Nat := if b = true then ownBack (leftS s.parts) (leftS s'.parts) o else o
def ssNext (w : Nat) (s' : PStep) (ss : List (Option PStep)) : List (Option PStep) := ss.set w (if s'.done = true then none else some s')
theorem StepI.other {w1 : Nat} {b : Bool} {o' : List Nat} (h : StepI k m o w1 s b) (ho : ∀ y, y < k → o.getD y 0 = w1 → o'.getD y 0 = w1) : StepI k m o' w1 s b where
  ok := h.ok
  done := h.done
  ports := h.ports
  plen := h.plen
  kind := by
    have := h.kind
    split
    · rename_i hb
      rw [if_pos hb] at this
      exact ⟨this.1, this.2.1, fun y hy => ⟨(this.2.2 y hy).1, ho y (this.2.2 y hy).1 (this.2.2 y hy).2⟩⟩
    · rename_i hb
      rw [if_neg hb] at this
      exact this
/-- A step: those that it told were free ones; what is kept. -/
theorem OwnI.does (h : OwnI k m ws o ss bs) (hw : w < 4) (hs : ss.getD w none = some s) :
    let s' := (doS ws s).2
    let o1 := ownNext w (bs.getD w false) s s' o
    (∀ i, i < s'.ports.length → s'.ports.getD i 0 < k ∧ (ownTake w (s'.ports.take i) o1).getD (s'.ports.getD i 0) 0 = 0) ∧ (bs.getD w false = true → s'.ports = []) ∧ (s'.done = false → s'.ports = []) ∧ s'.parts.length ≤ 40 ∧ (∀ y ∈ leftS s.parts, bs.getD w false = true → y < k) ∧
      OwnI k m (doS ws s).1 (ownTake w s'.ports o1) (ssNext w s' ss) bs := by
  obtain ⟨hok, hdone, hports, hplen, hkind⟩ := h.step w s hw hs
  obtain ⟨hw2, hs2⟩ := doS_ok h.words hok
  have hlen := h.len
  have hwl := h.words.len
  intro s' o1
  show _ ∧ _ ∧ _ ∧ _ ∧ _ ∧ _
  have hs2' : s'.Ok m := hs2
  by_cases hb : bs.getD w false = true
  · rw [if_pos hb] at hkind
    obtain ⟨hk, hpo, hown⟩ := hkind
    have hnf : ∀ y ∈ leftN s.parts, isFree ws y = false := fun y hy => by
      obtain ⟨h1, h2⟩ := hown y hy
      have := h.free y h1
      cases hf : isFree ws y with
      | false => rfl
      | true => exact absurd (this.2 hf) (by omega)
    have eff := back_eff h.words hok hk hdone hpo hnf
    have hp0 : s'.ports = [] := by rw [← hports]; exact eff.ports
    have ho1 : o1 = ownBack (leftS s.parts) (leftS s'.parts) o := if_pos hb
    have hle : ∀ y ∈ leftS s.parts, y < k := fun y hy => (hown y (mem_leftS.1 hy)).1
    have hget : ∀ x, o1.getD x 0 = if x ∈ leftN s.parts ∧ x ∉ leftN s'.parts then 0 else o.getD x 0 := fun x => by
      rw [ho1, ownBack_get _ _ _ _ (fun b hb => by rw [hlen]; exact hle b hb)]
      simp only [mem_leftS]
    have hpl : s'.parts.length ≤ 40 := by
      have hps : s'.parts = s.parts ∨ s'.parts = s.parts.tail := by
        show (doS ws s).2.parts = s.parts ∨ (doS ws s).2.parts = s.parts.tail
        have e : doS ws s = backS ws s := by unfold doS; rw [if_neg (by simp [hdone]), if_neg (by omega), if_neg (by omega)]
        rw [e]
        rcases hpp : s.parts with _ | ⟨⟨j, mask⟩, rest⟩
        · rw [backS_nil hpp]; exact .inl hpp
        · rw [backS_cons hpp]
          split
          · split
            · exact .inr rfl
            · exact .inl hpp
          · split
            · exact .inr rfl
            · exact .inl hpp
      rcases hps with e | e
      · rw [e]; exact hplen
      · rw [e, List.length_tail]; omega
    rw [show ownTake w s'.ports o1 = o1 by rw [hp0]; rfl]
    refine ⟨by rw [hp0]; simp, fun _ => hp0, fun _ => hp0, hpl, fun y hy _ => hle y hy, ⟨hw2, h.km, by rw [ho1, ownBack_len]; exact hlen, fun x hx => ?_, fun x h1 h2 => ?_, by unfold ssNext; rw [List.length_set]; exact h.ssl, h.bsl, fun v t hv ht => ?_⟩⟩
    · rw [hget, eff.after]
      by_cases hc : x ∈ leftN s.parts ∧ x ∉ leftN s'.parts
      · rw [if_pos hc]; exact ⟨fun _ => .inr hc, fun _ => rfl⟩
      · rw [if_neg hc, h.free x hx]
        exact ⟨.inl, fun h => h.resolve_right hc⟩
    · have h3 := h.tail x h1 h2
      have h4 := eff.after x
      cases hf : isFree (doS ws s).1 x with
      | false => rfl
      | true =>
        rcases h4.1 hf with h5 | ⟨h5, _⟩
        · rw [h3] at h5; simp at h5
        · have := (hown x h5).1; omega
    · unfold ssNext at ht
      rw [getD_setO _ _ _ _ _ (by rw [h.ssl]; exact hw)] at ht
      by_cases e : w = v
      · subst e
        rw [if_pos rfl] at ht
        by_cases hd : s'.done = true
        · rw [if_pos hd] at ht; simp at ht
        · rw [if_neg hd] at ht
          obtain rfl := Option.some.inj ht
          refine ⟨hs2', by simpa using hd, hp0, hpl, ?_⟩
          rw [if_pos hb]
          refine ⟨eff.kind, eff.parts, fun y hy => ?_⟩
          have h1 := hown y (eff.left y hy)
          refine ⟨h1.1, ?_⟩
          rw [hget, if_neg (fun h => h.2 hy)]
          exact h1.2
      · rw [if_neg e] at ht
        refine (h.step v t hv ht).other fun y hy hv1 => ?_
        rw [hget, if_neg]
        · exact hv1
        · intro hc
          have := (hown y hc.1).2
          omega
  · have hb' : bs.getD w false = false := by simpa using hb
    rw [if_neg hb] at hkind
    have eff := take_eff h.words hok hkind hdone hports
    have ho1 : o1 = o := if_neg hb
    have hgk : ∀ g ∈ s'.ports, g < k ∧ o.getD g 0 = 0 := fun g hg => by
      have h1 := eff.free g hg
      have h2 := eff.small g hg
      have h3 : g < k := by
        rcases Nat.lt_or_ge g k with h' | h'
        · exact h'
        · rw [h.tail g h' (by omega)] at h1; simp at h1
      exact ⟨h3, (h.free g h3).2 h1⟩
    have hget : ∀ x, (ownTake w s'.ports o).getD x 0 = if x ∈ s'.ports then w + 1 else o.getD x 0 := fun x => ownTake_get w x _ _ fun b hb => by rw [hlen]; exact (hgk b hb).1
    have hpl : s'.parts.length ≤ 40 := by
      have := eff.parts
      rw [show s'.parts = s.parts from this]; exact hplen
    rw [ho1]
    refine ⟨fun i hi => ?_, fun h' => absurd h' hb, eff.none, hpl, fun y _ h' => absurd h' hb, ⟨hw2, h.km, by rw [ownTake_len]; exact hlen, fun x hx => ?_, fun x h1 h2 => ?_, by unfold ssNext; rw [List.length_set]; exact h.ssl, h.bsl, fun v t hv ht => ?_⟩⟩
    · have hg : s'.ports.getD i 0 = s'.ports[i] := by rw [List.getD_eq_getElem?_getD, List.getElem?_eq_getElem hi]; rfl
      have h1 := hgk s'.ports[i] (List.getElem_mem hi)
      rw [hg]
      refine ⟨h1.1, ?_⟩
      rw [ownTake_get w _ _ _ (fun b hb => by rw [hlen]; exact (hgk b (List.mem_of_mem_take hb)).1), if_neg]
      · exact h1.2
      · intro hm
        obtain ⟨j, hj, e⟩ := List.getElem_of_mem hm
        rw [List.getElem_take] at e
        have hj' : j < i := by rw [List.length_take] at hj; omega
        have := (List.pairwise_iff_getElem.1 eff.nodup) j i (Nat.lt_trans hj' hi) hi hj'
        exact this e
    · rw [hget, eff.after]
      by_cases hc : x ∈ s'.ports
      · rw [if_pos hc]
        exact ⟨fun h => by omega, fun h => absurd hc h.2⟩
      · rw [if_neg hc, h.free x hx]
        exact ⟨fun h => ⟨h, hc⟩, fun h => h.1⟩
    · have h3 := h.tail x h1 h2
      have h4 := eff.after x
      cases hf : isFree (doS ws s).1 x with
      | false => rfl
      | true =>
        have := (h4.1 hf).1
        rw [h3] at this; simp at this
    · unfold ssNext at ht
      rw [getD_setO _ _ _ _ _ (by rw [h.ssl]; exact hw)] at ht
      by_cases e : w = v
      · subst e
        rw [if_pos rfl] at ht
        by_cases hd : s'.done = true
        · rw [if_pos hd] at ht; simp at ht
        · rw [if_neg hd] at ht
          obtain rfl := Option.some.inj ht
          refine ⟨hs2', by simpa using hd, eff.none (by simpa using hd), hpl, ?_⟩
          rw [if_neg hb]
          exact eff.kind
      · rw [if_neg e] at ht
        refine (h.step v t hv ht).other fun y hy hv1 => ?_
        rw [hget, if_neg]
        · exact hv1
        · intro hc
          have := (hgk y hc).2
          omega
end Go.Proofs.YtdmmahhnfnefoaaDoor
