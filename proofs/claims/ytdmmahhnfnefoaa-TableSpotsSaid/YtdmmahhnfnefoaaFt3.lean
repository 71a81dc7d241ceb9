/-
  Package table: look.
-/
import Derived.Test.YtdmmahhnfnefoaaFt2
namespace Go.Proofs.Ytdmmahhnfnefoaa
open Go.RowKit
set_option maxRecDepth 10000
attribute [local irreducible] EK EX ER EN EL ES EG OpVal OpDoes OpSkip
variable {W : World} {F : SL} {X : Cx} {k : List KI} {σ : Env} {p pp g q : Option Addr} {ws cs pl : List Nat} {n np : Nat} {s : TStep}
set_option maxHeartbeats 2000000 in
theorem look_spec (h : OkT n np cs pl s) : Spec Try.prog 92 [.pointer p, .pointer q] W (TStepC q s * (Obj p 110 [.pointer pp, .pointer g, .int .i64 (n : Int)] * (PlaceC pp pl * F))) (fun _ : Unit => .bool (lookS pl s).2)
    (fun _ => TStepC q (lookS pl s).1 * (Obj p 110 [.pointer pp, .pointer g, .int .i64 (n : Int)] * (PlaceC pp pl * F))) := by
  refine Spec.of Try.func92 rfl Try.ntmps92 rfl ?_
  have hst := skipN_stop (word := s.word) (id := s.id) 4 s.at_ (by omega)
  have hle := skipN_le s.word s.id 4 s.at_ h.at4
  have hsw := h.word
  repeat (first | refine go ?_ | (refine goX ?_; intro))
  refine EK_exits (γ := TStep) (fun t => t = { s with at_ := skipN s.word s.id 4 s.at_ }) (fun _ => [(0, .pointer p), (1, .pointer q), (4, .bool false)]) (fun t => TStepC q t * (Obj p 110 [.pointer pp, .pointer g, .int .i64 (n : Int)] * (PlaceC pp pl * F))) ?_ ?_
  · refine EK_loop (γ := Nat × TStep) (fun g => g.2.at_ ≤ 4 ∧ 4 ≤ g.2.at_ + g.1 ∧ skipN s.word s.id g.1 g.2.at_ = skipN s.word s.id 4 s.at_ ∧ g.2 = { s with at_ := g.2.at_ }) (fun _ => [(0, .pointer p), (1, .pointer q), (4, .bool false)]) (fun i => TStepC q i.2 * (Obj p 110 [.pointer pp, .pointer g, .int .i64 (n : Int)] * (PlaceC pp pl * F))) (fun g => 4 - g.2.at_) (4, s) ⟨h.at4, by dsimp only; omega, rfl, rfl⟩ ⟨rfl, rfl, rfl, trivial⟩ (Ent.sat (Ent.refl _)) ?_
    intro ⟨fu, t⟩ ⟨hi, hfu, he0, ht⟩; dsimp only at hi hfu he0 ht ⊢
    have htw : t.word = s.word := by rw [ht]
    have hti : t.id = s.id := by rw [ht]
    have he := he0
    rw [← htw, ← hti] at he
    rw [← htw] at hsw
    refine TStepC.open ?_
    repeat (first | refine go ?_ | (refine goX ?_; intro))
    by_cases hi4 : t.at_ < 4
    · obtain ⟨f, rfl⟩ : ∃ f, fu = f + 1 := ⟨fu - 1, by omega⟩
      have hrf := h.refs t.at_ hi4
      rw [← htw] at hrf
      refine EK_sink 99 (Obj q 123 (tsL t) * 1) rfl rfl rfl ?_
      repeat (first | refine goQ ?_ | refine EG_done (by decide +kernel) ?_)
      refine EG_callQ rfl rfl rfl rfl rfl (ref_spec hsw hi4) (fun _ => by first | exact Ent.refl _ | exact Ent.last | (repeat (first | refine Ent.cons ?_ | exact Ent.any | exact Ent.last))) ?_
      intro _
      by_cases h1 : refN t.word t.at_ < 0
      · repeat (first | refine goQ ?_ | refine EG_done (by decide +kernel) ?_)
        repeat (first | refine go ?_ | (refine goX ?_; intro))
        refine EK_round (f, { t with at_ := t.at_ + 1 }) ⟨by dsimp only; omega, by dsimp only; omega, by dsimp only; rw [← htw, ← hti, ← he, skipN, if_pos ⟨hi4, .inl h1⟩], by dsimp only; rw [ht]⟩ (by dsimp only; omega) ⟨rfl, rfl, rfl, trivial⟩ (Ent.sat ?_)
        exact TStepC.shut (by rfl)
      · by_cases h2 : refN t.word t.at_ = t.id
        · repeat (first | refine goQ ?_ | refine EG_done (by decide +kernel) ?_)
          refine EG_callQ rfl rfl rfl rfl rfl (ref_spec hsw hi4) (fun _ => by first | exact Ent.refl _ | exact Ent.last | (repeat (first | refine Ent.cons ?_ | exact Ent.any | exact Ent.last))) ?_
          intro _
          repeat (first | refine goQ ?_ | refine EG_done (by decide +kernel) ?_)
          repeat (first | refine go ?_ | (refine goX ?_; intro))
          refine EK_round (f, { t with at_ := t.at_ + 1 }) ⟨by dsimp only; omega, by dsimp only; omega, by dsimp only; rw [← htw, ← hti, ← he, skipN, if_pos ⟨hi4, .inr h2⟩], by dsimp only; rw [ht]⟩ (by dsimp only; omega) ⟨rfl, rfl, rfl, trivial⟩ (Ent.sat ?_)
          exact TStepC.shut (by rfl)
        · repeat (first | refine goQ ?_ | refine EG_done (by decide +kernel) ?_)
          refine EG_callQ rfl rfl rfl rfl rfl (ref_spec hsw hi4) (fun _ => by first | exact Ent.refl _ | exact Ent.last | (repeat (first | refine Ent.cons ?_ | exact Ent.any | exact Ent.last))) ?_
          intro _
          repeat (first | refine goQ ?_ | refine EG_done (by decide +kernel) ?_)
          repeat (first | refine go ?_ | (refine goX ?_; intro))
          have he1 : skipN s.word s.id (f + 1) t.at_ = t.at_ := by rw [← htw, ← hti, skipN, if_neg (fun e => e.2.elim h1 h2)]
          rw [he1] at he0
          refine EK_meet t (by rw [ht, ← he0]) ⟨rfl, rfl, rfl, trivial⟩ (Ent.sat ?_)
          exact TStepC.shut (by rfl)
    · refine EK_sink 99 (Obj q 123 (tsL t) * 1) rfl rfl rfl ?_
      repeat (first | refine goQ ?_ | refine EG_done (by decide +kernel) ?_)
      repeat (first | refine go ?_ | (refine goX ?_; intro))
      have he1 : skipN s.word s.id fu t.at_ = t.at_ := by
        cases fu with
        | zero => rfl
        | succ f => rw [skipN, if_neg (fun e => hi4 e.1)]
      rw [he1] at he0
      refine EK_meet t (by rw [ht, ← he0]) ⟨rfl, rfl, rfl, trivial⟩ (Ent.sat ?_)
      exact TStepC.shut (by rfl)
  · intro t ht
    have htw : t.word = s.word := by rw [ht]
    have hti : t.id = s.id := by rw [ht]
    have hta : t.at_ = skipN s.word s.id 4 s.at_ := by rw [ht]
    have hf1 : t.f1 ≤ 255 := by rw [ht]; exact h.f1
    have hf2 : t.f2 < 4294967296 := by rw [ht]; exact h.f2
    have hf3 : t.f3 < 65536 := by rw [ht]; exact h.f3
    rw [← hta, ← htw, ← hti] at hst
    rw [← hta] at hle
    rw [← htw] at hsw
    have hpw := h.pw
    have hpl := h.plen
    have hnp := h.np2
    rw [show lookS pl s = lookR pl t by unfold lookS; rw [ht]]
    have hrefs := h.refs
    rw [← htw] at hrefs
    clear ht hta htw hti
    refine TStepC.open ?_
    by_cases h4 : t.at_ = 4
    · repeat (first | refine go ?_ | (refine goX ?_; intro))
      have e : lookR pl t = (t, true) := by unfold lookR; rw [if_pos h4]
      rw [e]
      exact EK_ret (ER_1 rfl rfl () rfl (Ent.sat (TStepC.shut (by rfl))))
    · have hi4 : t.at_ < 4 := by omega
      have hrf := hrefs t.at_ hi4
      have hr0 : ¬ refN t.word t.at_ < 0 := fun e => hst ⟨hi4, .inl e⟩
      obtain ⟨j, hj⟩ : ∃ j : Nat, refN t.word t.at_ = (j : Int) := ⟨(refN t.word t.at_).toNat, by omega⟩
      repeat (first | refine go ?_ | (refine goX ?_; intro))
      refine EK_sink 99 (Obj q 123 (tsL t) * 1) rfl rfl rfl ?_
      repeat (first | refine goQ ?_ | refine EG_done (by decide +kernel) ?_)
      refine EG_callQ rfl rfl rfl rfl rfl (ref_spec hsw hi4) (fun _ => by first | exact Ent.refl _ | exact Ent.last | (repeat (first | refine Ent.cons ?_ | exact Ent.any | exact Ent.last))) ?_
      intro _
      rw [hj]
      repeat (first | refine goQ ?_ | refine EG_done (by decide +kernel) ?_)
      cases hh : t.half with
      | false =>
        repeat (first | refine go ?_ | (refine goX ?_; intro))
        refine EL_call rfl (Spec.at1 pp (PLoad_spec hpl hnp (by omega) hpw)) ?_
        intro _
        have e : lookR pl t = if (PWord.of (pl.getD (2 * j) 0)).st = 1 ∨ (PWord.of (pl.getD (2 * j) 0)).st = 2 then ({ t with seen := PWord.of (pl.getD (2 * j) 0), half := true }, false) else ({ t with seen := PWord.of (pl.getD (2 * j) 0), at_ := t.at_ + 1 }, decide (t.at_ + 1 = 4)) := by
          unfold lookR; rw [if_neg h4, hj, if_pos hh, Int.toNat_natCast]
        rw [e]
        generalize PWord.of (pl.getD (2 * j) 0) = w at *
        by_cases w1 : w.st = 1
        · repeat (first | refine go ?_ | (refine goX ?_; intro))
          rw [if_pos (.inl w1)]
          exact EK_ret (ER_1 rfl rfl () rfl (Ent.sat (TStepC.ent (by rfl) (by first | exact Ent.refl _ | exact Ent.last | (repeat (first | refine Ent.cons ?_ | exact Ent.any | exact Ent.last))))))
        · by_cases w2 : w.st = 2
          · repeat (first | refine go ?_ | (refine goX ?_; intro))
            rw [if_pos (.inr w2)]
            exact EK_ret (ER_1 rfl rfl () rfl (Ent.sat (TStepC.ent (by rfl) (by first | exact Ent.refl _ | exact Ent.last | (repeat (first | refine Ent.cons ?_ | exact Ent.any | exact Ent.last))))))
          · repeat (first | refine go ?_ | (refine goX ?_; intro))
            rw [if_neg (fun e => e.elim w1 w2)]
            refine EK_ret (ER_1 rfl rfl () ?_ (Ent.sat (TStepC.ent (by unfold tsV; dsimp only; rw [hh]; rfl) (by first | exact Ent.refl _ | exact Ent.last | (repeat (first | refine Ent.cons ?_ | exact Ent.any | exact Ent.last))))))
            exact congrArg _ (decide_eq_decide.2 (by omega))
      | true =>
        repeat (first | refine go ?_ | (refine goX ?_; intro))
        refine EK_sink 99 (Obj p 110 [.pointer pp, .pointer g, .int .i64 (n : Int)] * (Obj q 123 (tsL { t with half := false }) * 1)) rfl rfl rfl ?_
        repeat (first | refine goQ ?_ | refine EG_done (by decide +kernel) ?_)
        refine EG_callQ rfl rfl rfl rfl rfl (Spec.at1 pp (PKey_spec hpl hnp (by omega) hpw)) (fun _ => by first | exact Ent.refl _ | exact Ent.last | (repeat (first | refine Ent.cons ?_ | exact Ent.any | exact Ent.last))) ?_
        intro _
        repeat (first | refine goQ ?_ | refine EG_done (by decide +kernel) ?_)
        dsimp only
        rw [key_dec (hpw (2 * j + 1)) hf1 hf2 hf3]
        have e : lookR pl t = if pl.getD (2 * j + 1) 0 = keyN t.f1 t.f2 t.f3 then ({ t with half := false, found := (j : Int), foundAs := t.seen, done := true, end_ := if t.kind = 1 then 10 else 0 }, false) else ({ t with half := false, at_ := t.at_ + 1 }, decide (t.at_ + 1 = 4)) := by
          unfold lookR; rw [if_neg h4, hj, hh]; rfl
        rw [e]
        by_cases hk : pl.getD (2 * j + 1) 0 = keyN t.f1 t.f2 t.f3
        · rw [if_pos hk, decide_eq_true hk]
          repeat (first | refine go ?_ | (refine goX ?_; intro))
          refine EL_call rfl (Spec.pre (finish_spec (p := q) (e := 0) (s := { t with half := false, found := (j : Int), foundAs := t.seen })) (TStepC.ent (by rfl) (Ent.refl _))) ?_
          intro _
          refine TStepC.openL ?_
          dsimp only [finishS]
          by_cases hkd : t.kind = 1
          · repeat (first | refine go ?_ | (refine goX ?_; intro))
            rw [if_pos hkd]
            exact EK_ret (ER_1 rfl rfl () rfl (Ent.sat (TStepC.ent (by rfl) (by first | exact Ent.refl _ | exact Ent.last | (repeat (first | refine Ent.cons ?_ | exact Ent.any | exact Ent.last))))))
          · repeat (first | refine go ?_ | (refine goX ?_; intro))
            rw [if_neg hkd]
            exact EK_ret (ER_1 rfl rfl () rfl (Ent.sat (TStepC.ent (by rfl) (by first | exact Ent.refl _ | exact Ent.last | (repeat (first | refine Ent.cons ?_ | exact Ent.any | exact Ent.last))))))
        · rw [if_neg hk, decide_eq_false hk]
          repeat (first | refine go ?_ | (refine goX ?_; intro))
          refine EK_ret (ER_1 rfl rfl () ?_ (Ent.sat (TStepC.ent (by rfl) (by first | exact Ent.refl _ | exact Ent.last | (repeat (first | refine Ent.cons ?_ | exact Ent.any | exact Ent.last))))))
          exact congrArg _ (decide_eq_decide.2 (by omega))
end Go.Proofs.Ytdmmahhnfnefoaa
