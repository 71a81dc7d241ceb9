/-
  The document's numbers: Digits, number, take.
-/
import Derived.Test.YtafbipoagehdeaaDoorPn1
import Derived.Test.YtafbipoagehdeaaDoorPq3
import Derived.Test.YtafbipoagehdeaaDoorSm
namespace Go.Proofs.YtafbipoagehdeaaDoor
open Go.RowKit
set_option maxRecDepth 10000
attribute [local irreducible] EK EX ER EN EL ES OpVal OpDoes OpSkip
variable {W : World} {F : SL} {X : Cx} {k : List KI} {σ : Env}

theorem dig_one {n : Nat} (h : n < 10) : str [UInt8.ofNat ((48 : Int) + (n : Int)).toNat] = str (Lib.decDigits n) := by
  rw [Lib.decDigits, dif_pos h, show ((48 : Int) + (n : Int)).toNat = 48 + n by omega]
theorem dec_len20 {n : Nat} (h : n ≤ 9223372036854775807) : (Lib.decDigits n).length ≤ 20 := dec_len 20 n (by decide) (by omega)
theorem Digits_spec : ∀ (n : Nat), n ≤ 9223372036854775807 → ∀ F : SL, Spec Tryd.prog 40 [.int .i64 (n : Int)] W F (fun _ : Unit => str (Lib.decDigits n)) (fun _ => F) := by
  intro n
  induction n using Nat.strongRecOn with
  | _ n ih =>
  intro hn F
  refine Spec.of Tryd.func40 rfl Tryd.ntmps40 rfl ?_
  repeat (first | refine go ?_ | (refine goX ?_; intro))
  refine EK_cond_dec rfl (fun h => ?_) (fun h => ?_)
  · repeat (first | refine go ?_ | (refine goX ?_; intro))
    exact EK_ret (ER_1 rfl rfl () (dig_one (by omega)) (Ent.sat Ent.last))
  · have h1 := dec_len20 (n := n / 10) (by omega)
    have h2 := dec_len20 (n := n % 10) (by omega)
    repeat (first | refine go ?_ | (refine goX ?_; intro))
    refine EL_call (vs := [.int .i64 ((n / 10 : Nat) : Int)]) (by rw [Int.natCast_ediv]; rfl) (ih (n / 10) (by omega) (by omega) _) ?_
    intro
    repeat (first | refine go ?_ | (refine goX ?_; intro))
    refine EL_call (vs := [.int .i64 ((n % 10 : Nat) : Int)]) (by rw [Int.natCast_emod]; rfl) (ih (n % 10) (by omega) (by omega) _) ?_
    intro
    repeat (first | refine go ?_ | (refine goX ?_; intro))
    exact EK_ret (ER_1 rfl rfl () (by
      have e : Lib.decDigits n = Lib.decDigits (n / 10) ++ Lib.decDigits (n % 10) := by
        rw [Lib.decDigits, dif_neg (by omega), Lib.decDigits_one (i := n % 10) (by omega)]
      rw [e]) (Ent.sat Ent.last))

theorem rnum_bad {m : Nat} {l : List UInt8} (h : rnumBad m l) : Value.tuple #[.int .i64 0, .int .i64 0] = .tuple #[.int .i64 (((rnumT m l).1 : Nat) : Int), .int .i64 (((rnumT m l).2 : Nat) : Int)] := by rw [rnumT, if_pos h]; rfl
theorem rnum_good {m k : Nat} {l : List UInt8} (h : ¬ rnumBad m l) (hp : pre m l = l.take k) (hk : k ≤ l.length) : Value.tuple #[.int .i64 ((digsN (l.take k) : Nat) : Int), .int .i64 (k : Int)] = .tuple #[.int .i64 (((rnumT m l).1 : Nat) : Int), .int .i64 (((rnumT m l).2 : Nat) : Int)] := by
  rw [rnumT, if_neg h, hp, List.length_take, Nat.min_eq_left hk]
theorem bad_iff {m k : Nat} {l : List UInt8} (hp : pre m l = l.take k) (hk : k ≤ l.length) : rnumBad m l ↔ (1 < k ∧ l.getD 0 0 = 48) ∨ (k < l.length ∧ isD (l.getD k 0)) := by
  unfold rnumBad
  rw [hp, List.length_take, Nat.min_eq_left hk]
theorem rnumber_spec (l : List UInt8) (m : Nat) (hm : m ≤ 9) :
    Spec Tryd.prog 48 [str l, .int .i64 (m : Int)] W F (fun _ : Unit => .tuple #[.int .i64 (((rnumT m l).1 : Nat) : Int), .int .i64 (((rnumT m l).2 : Nat) : Int)]) (fun _ => F) := by
  refine Spec.of Tryd.func48 rfl Tryd.ntmps48 rfl ?_
  repeat (first | refine go ?_ | (refine goX ?_; intro))
  refine EK_exits (γ := Nat) (fun k => k ≤ l.length ∧ k ≤ m ∧ (∀ i, i < k → isD (l.getD i 0)) ∧ (k = l.length ∨ k = m ∨ ¬ isD (l.getD k 0))) (fun k => [(0, str l), (6, .int .i64 ((digsN (l.take k) : Nat) : Int)), (7, .int .i64 (k : Int))]) (fun _ => F) ?_ ?_
  · refine EK_loop (γ := Nat) (fun k => k ≤ l.length ∧ k ≤ m ∧ ∀ i, i < k → isD (l.getD i 0)) (fun k => [(0, str l), (1, .int .i64 (m : Int)), (6, .int .i64 ((digsN (l.take k) : Nat) : Int)), (7, .int .i64 (k : Int))])
      (fun _ => F) (fun k => l.length - k) 0 ⟨Nat.zero_le _, Nat.zero_le _, fun i hi => by omega⟩ ⟨rfl, rfl, rfl, rfl, trivial⟩ (Ent.sat (Ent.refl _)) ?_
    intro k ⟨hk, hkm, hd⟩; try dsimp only at hk hkm hd ⊢
    have hsm : digsN (l.take k) < 1000000000 := digs_small (by omega) hk hd
    repeat (first | refine go ?_ | (refine goX ?_; intro))
    refine EL_guard_dec rfl rfl (fun h1 => ?_) (fun h1 => ?_)
    rotate_left
    · repeat (first | refine go ?_ | (refine goX ?_; intro))
      exact EK_meet k ⟨hk, hkm, hd, .inl (by omega)⟩ ⟨rfl, rfl, rfl, trivial⟩ (Ent.sat (Ent.refl _))
    repeat (first | refine go ?_ | (refine goX ?_; intro))
    refine EL_guard_dec rfl rfl (fun h2 => ?_) (fun h2 => ?_)
    rotate_left
    · repeat (first | refine go ?_ | (refine goX ?_; intro))
      exact EK_meet k ⟨hk, hkm, hd, .inr (.inl (by omega))⟩ ⟨rfl, rfl, rfl, trivial⟩ (Ent.sat (Ent.refl _))
    repeat (first | refine go ?_ | (refine goX ?_; intro))
    refine EL_guard_dec rfl rfl (fun h3 => ?_) (fun h3 => ?_)
    rotate_left
    · repeat (first | refine go ?_ | (refine goX ?_; intro))
      exact EK_meet k ⟨hk, hkm, hd, .inr (.inr (by unfold isD; omega))⟩ ⟨rfl, rfl, rfl, trivial⟩ (Ent.sat (Ent.refl _))
    repeat (first | refine go ?_ | (refine goX ?_; intro))
    refine EK_cond_dec rfl (fun h4 => ?_) (fun h4 => ?_)
    rotate_left
    · repeat (first | refine go ?_ | (refine goX ?_; intro))
      exact EK_meet k ⟨hk, hkm, hd, .inr (.inr (by unfold isD; omega))⟩ ⟨rfl, rfl, rfl, trivial⟩ (Ent.sat (Ent.refl _))
    have hdk : isD (l.getD k 0) := by unfold isD; omega
    repeat (first | refine go ?_ | (refine goX ?_; intro))
    refine EK_round (k + 1) ⟨by omega, by omega, fun i hi => ?_⟩ (by omega) ⟨rfl, rfl, by rw [← take_digs (by omega) hdk]; rfl, rfl, trivial⟩ (Ent.sat (Ent.refl _))
    rcases Nat.lt_or_ge i k with g | g
    · exact hd i g
    · have : i = k := by omega
      subst this
      exact hdk
  · intro k ⟨hk, hkm, hd, hst⟩; try dsimp only at hk hkm hd hst ⊢
    have hp : pre m l = l.take k := pre_take hk hkm hd hst
    have hbad := bad_iff hp hk
    repeat (first | refine go ?_ | (refine goX ?_; intro))
    refine EL_guard_dec rfl rfl (fun h1 => ?_) (fun h1 => ?_)
    · repeat (first | refine go ?_ | (refine goX ?_; intro))
      refine EL_guard_dec rfl rfl (fun h2 => ?_) (fun h2 => ?_)
      · repeat (first | refine go ?_ | (refine goX ?_; intro))
        exact EK_ret (ER_2 rfl rfl rfl () (rnum_bad (hbad.2 (by first | exact .inl ⟨by omega, u8_48 (by assumption)⟩ | exact .inr ⟨by omega, by unfold isD; omega⟩))) (Ent.sat Ent.last))
      have h48 : ¬ l.getD 0 0 = 48 := fun g => h2 (by rw [g]; rfl)
      (repeat (first | refine go ?_ | (refine goX ?_; intro))); (refine EL_guard_dec rfl rfl (fun h4 => ?_) (fun h4 => ?_))
      · repeat (first | refine go ?_ | (refine goX ?_; intro))
        refine EL_guard_dec rfl rfl (fun h5 => ?_) (fun h5 => ?_)
        · repeat (first | refine go ?_ | (refine goX ?_; intro))
          refine EK_cond_dec rfl (fun h6 => ?_) (fun h6 => ?_)
          · repeat (first | refine go ?_ | (refine goX ?_; intro))
            exact EK_ret (ER_2 rfl rfl rfl () (rnum_bad (hbad.2 (by first | exact .inl ⟨by omega, u8_48 (by assumption)⟩ | exact .inr ⟨by omega, by unfold isD; omega⟩))) (Ent.sat Ent.last))
          · repeat (first | refine go ?_ | (refine goX ?_; intro))
            exact EK_ret (ER_2 rfl rfl rfl () (rnum_good (fun g => by rcases hbad.1 g with ⟨g1, g2⟩ | ⟨g1, g2⟩ <;> first | omega | (unfold isD at g2; omega) | exact h48 g2) hp hk) (Ent.sat Ent.last))
        · repeat (first | refine go ?_ | (refine goX ?_; intro))
          exact EK_ret (ER_2 rfl rfl rfl () (rnum_good (fun g => by rcases hbad.1 g with ⟨g1, g2⟩ | ⟨g1, g2⟩ <;> first | omega | (unfold isD at g2; omega) | exact h48 g2) hp hk) (Ent.sat Ent.last))
      · repeat (first | refine go ?_ | (refine goX ?_; intro))
        exact EK_ret (ER_2 rfl rfl rfl () (rnum_good (fun g => by rcases hbad.1 g with ⟨g1, g2⟩ | ⟨g1, g2⟩ <;> first | omega | (unfold isD at g2; omega) | exact h48 g2) hp hk) (Ent.sat Ent.last))
    have h48 : 1 < k → ¬ l.getD 0 0 = 48 := fun g => by omega
    (repeat (first | refine go ?_ | (refine goX ?_; intro))); (refine EL_guard_dec rfl rfl (fun h4 => ?_) (fun h4 => ?_))
    · repeat (first | refine go ?_ | (refine goX ?_; intro))
      refine EL_guard_dec rfl rfl (fun h5 => ?_) (fun h5 => ?_)
      · repeat (first | refine go ?_ | (refine goX ?_; intro))
        refine EK_cond_dec rfl (fun h6 => ?_) (fun h6 => ?_)
        · repeat (first | refine go ?_ | (refine goX ?_; intro))
          exact EK_ret (ER_2 rfl rfl rfl () (rnum_bad (hbad.2 (by first | exact .inl ⟨by omega, u8_48 (by assumption)⟩ | exact .inr ⟨by omega, by unfold isD; omega⟩))) (Ent.sat Ent.last))
        · repeat (first | refine go ?_ | (refine goX ?_; intro))
          exact EK_ret (ER_2 rfl rfl rfl () (rnum_good (fun g => by rcases hbad.1 g with ⟨g1, g2⟩ | ⟨g1, g2⟩ <;> first | omega | (unfold isD at g2; omega) | exact h48 g2) hp hk) (Ent.sat Ent.last))
      · repeat (first | refine go ?_ | (refine goX ?_; intro))
        exact EK_ret (ER_2 rfl rfl rfl () (rnum_good (fun g => by rcases hbad.1 g with ⟨g1, g2⟩ | ⟨g1, g2⟩ <;> first | omega | (unfold isD at g2; omega) | exact h48 g2) hp hk) (Ent.sat Ent.last))
    · repeat (first | refine go ?_ | (refine goX ?_; intro))
      exact EK_ret (ER_2 rfl rfl rfl () (rnum_good (fun g => by rcases hbad.1 g with ⟨g1, g2⟩ | ⟨g1, g2⟩ <;> first | omega | (unfold isD at g2; omega) | exact h48 g2) hp hk) (Ent.sat Ent.last))
theorem rnum_le (m : Nat) (l : List UInt8) : (rnumT m l).2 ≤ l.length := by
  unfold rnumT
  split
  · exact Nat.zero_le _
  · obtain ⟨t, ht⟩ := pre_prefix m l
    have := congrArg List.length ht
    rw [List.length_append] at this
    dsimp only
    omega
abbrev tripV (x : Nat × List UInt8 × Bool) : Value := .tuple #[.int .i64 ((x.1 : Nat) : Int), str x.2.1, .bool x.2.2]
theorem take_no {s w : List UInt8} {m : Nat} (h : s.length < w.length ∨ ¬ s.take w.length = w) : Value.tuple #[.int .i64 0, .string ⟨#[]⟩, .bool false] = tripV (takeT s w m) := by rw [takeT, if_pos h]; rfl
theorem take_spec (s w : List UInt8) (m : Nat) (hm : m ≤ 9) (hs : s.length ≤ 100000) (hw : w.length ≤ 100) :
    Spec Tryd.prog 39 [str s, str w, .int .i64 (m : Int)] W F (fun _ : Unit => tripV (takeT s w m)) (fun _ => F) := by
  refine Spec.of Tryd.func39 rfl Tryd.ntmps39 rfl ?_
  repeat (first | refine go ?_ | (refine goX ?_; intro))
  refine EL_guard_dec rfl rfl (fun h1 => ?_) (fun h1 => ?_)
  · repeat (first | refine go ?_ | (refine goX ?_; intro))
    exact EK_ret (ER_3 rfl rfl rfl rfl () (take_no (.inl (by omega))) (Ent.sat Ent.last))
  repeat (first | refine go ?_ | (refine goX ?_; intro))
  refine EK_cond_ndec rfl (fun h2 => ?_) (fun h2 => ?_)
  · repeat (first | refine go ?_ | (refine goX ?_; intro))
    exact EK_ret (ER_3 rfl rfl rfl rfl () (take_no (.inr h2)) (Ent.sat Ent.last))
  repeat (first | refine go ?_ | (refine goX ?_; intro))
  refine EL_call rfl (rnumber_spec (s.drop w.length) m hm) ?_
  intro
  have h3 := rnum_le m (s.drop w.length)
  rw [List.length_drop] at h3
  have h4 : takeT s w m = ((rnumT m (s.drop w.length)).1, s.drop (w.length + (rnumT m (s.drop w.length)).2), decide (0 < (rnumT m (s.drop w.length)).2)) := by rw [takeT, if_neg (by simp only [not_or, Classical.not_not]; exact ⟨by omega, h2⟩)]
  generalize rnumT m (s.drop w.length) = q at *
  repeat (first | refine go ?_ | (refine goX ?_; intro))
  refine EK_drawn rfl (by kernel_rfl) ?_
  repeat (refine goS ?_)
  repeat (first | refine go ?_ | (refine goX ?_; intro))
  exact EK_ret (ER_3 rfl rfl rfl rfl () (by rw [h4]; simp [tripV]) (Ent.sat Ent.last))
end Go.Proofs.YtafbipoagehdeaaDoor
