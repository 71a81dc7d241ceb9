/-
  The document's line, read; both texts of a line.
-/
import Derived.Test.YtafbipoagehdeaaDoorPq4
namespace Go.Proofs.YtafbipoagehdeaaDoor
open Go.RowKit
set_option maxRecDepth 10000
attribute [local irreducible] EK EX ER EN EL ES OpVal OpDoes OpSkip
variable {W : World} {F : SL} {X : Cx} {k : List KI} {σ : Env}

theorem kSp_eq {s : List UInt8} {k : Nat} (hk : k ≤ s.length) (hno : ∀ i, i < k → ¬ s.getD i 0 = 32) (hst : k = s.length ∨ s.getD k 0 = 32) : kSp s = k := by
  have h2 : (s.take k).length = k := by rw [List.length_take]; omega
  have hall : ∀ c ∈ s.take k, (fun c : UInt8 => c != 32) c = true := by
    intro c hc
    obtain ⟨i, hi, rfl⟩ := List.mem_iff_getElem.1 hc
    have hi' : i < k := by omega
    have := hno i hi'
    rw [List.getD_eq_getElem?_getD, List.getElem?_eq_getElem (by omega)] at this
    simpa using this
  have hd : (s.drop k).takeWhile (fun c : UInt8 => c != 32) = [] := by
    rcases Nat.lt_or_ge k s.length with hlt | hge
    · rw [List.drop_eq_getElem_cons hlt]
      have h3 : s.getD k 0 = s[k] := by rw [List.getD_eq_getElem?_getD, List.getElem?_eq_getElem hlt]; rfl
      have h4 : s[k] = 32 := by
        rcases hst with h | h
        · omega
        · rw [← h3]; exact h
      rw [h4]; rfl
    · rw [List.drop_eq_nil_of_le hge]; rfl
  unfold kSp
  conv => lhs; rw [← List.take_append_drop k s]
  rw [List.takeWhile_append_of_pos hall, hd, List.append_nil, h2]
theorem u8_32 {c : UInt8} (h : ((c.toNat : Nat) : Int) = 32) : c = 32 := UInt8.toNat_inj.1 (show c.toNat = 32 by omega)
theorem rparse_none {l : List UInt8} (h : rrawT l = none) : Value.tuple #[.agg zeroV.toArray, .int .i64 3] = .tuple #[(rparseT l).1.val, .int .i64 (rparseT l).2] := by rw [rparseT, h]; rfl
theorem rparse_some {l : List UInt8} {c : Cfg} (h : rrawT l = some c) : rparseT l = if wrongT c = [] then (c, 0) else (zeroC, 1) := by rw [rparseT, h]
theorem rr1 {s : List UInt8} (h : (rawD s).2.2 = false ∨ (rawD s).2.1.length < 7 ∨ ¬ (rawD s).2.1.take 7 = outerW) : rrawT s = none := by rw [rrawT, if_pos h]
theorem rr2 {s : List UInt8} (h0 : ¬ ((rawD s).2.2 = false ∨ (rawD s).2.1.length < 7 ∨ ¬ (rawD s).2.1.take 7 = outerW)) (h : (rawB s).2 = false ∨ (rawL s).2.2 = false) : rrawT s = none := by rw [rrawT, if_neg h0, if_pos h]
theorem rr3 {s : List UInt8} (h0 : ¬ ((rawD s).2.2 = false ∨ (rawD s).2.1.length < 7 ∨ ¬ (rawD s).2.1.take 7 = outerW)) (h1 : ¬ ((rawB s).2 = false ∨ (rawL s).2.2 = false))
    (h : (rawH s).2.2 = false ∨ (rawE s).2.2 = false ∨ (rawF s).2.2 = false ∨ ¬ (rawF s).2.1 = []) : rrawT s = none := by rw [rrawT, if_neg h0, if_neg h1, if_pos h]
theorem rr4 {s : List UInt8} (h0 : ¬ ((rawD s).2.2 = false ∨ (rawD s).2.1.length < 7 ∨ ¬ (rawD s).2.1.take 7 = outerW)) (h1 : ¬ ((rawB s).2 = false ∨ (rawL s).2.2 = false))
    (h : ¬ ((rawH s).2.2 = false ∨ (rawE s).2.2 = false ∨ (rawF s).2.2 = false ∨ ¬ (rawF s).2.1 = [])) : rrawT s = some ⟨(rawD s).1, (rawB s).1, (rawL s).1, (rawH s).1, (rawE s).1, (rawF s).1⟩ := by rw [rrawT, if_neg h0, if_neg h1, if_neg h]
theorem rawB_lt {s : List UInt8} (h : (rawB s).2 = true) : (rawB s).1 < 4294967296 := by
  have h1 : rAddrT ((rawS2 s).take (kSp (rawS2 s))) = some (rawB s).1 := by rw [rAddrP_eq]; exact if_pos h
  exact (raddr_iff.1 h1).text.2
theorem notF {b : Bool} (h : (!b) = false) : ¬ b = false := by cases b <;> simp_all
theorem notT {b : Bool} (h : (!b) = true) : b = false := by cases b <;> simp_all
theorem raw_facts (s : List UInt8) : ((rawD s).1 < 10 ^ 5 ∧ (rawL s).1 < 10 ^ 5 ∧ (rawH s).1 < 10 ^ 5 ∧ (rawE s).1 < 10 ^ 5 ∧ (rawF s).1 < 10 ^ 5) ∧
    (rawD s).2.1.length ≤ s.length ∧ (rawS2 s).length ≤ s.length ∧ (rawL s).2.1.length ≤ s.length ∧ (rawH s).2.1.length ≤ (rawL s).2.1.length ∧ (rawE s).2.1.length ≤ (rawH s).2.1.length ∧ kSp (rawS2 s) ≤ (rawS2 s).length := by
  have g1 : (rawD s).2.1.length ≤ s.length := take_len _ _ _
  have g2 : (rawS2 s).length ≤ s.length := by unfold rawS2; rw [List.length_drop]; omega
  have g3 : (rawL s).2.1.length ≤ s.length := by
    have : (rawL s).2.1.length ≤ _ := take_len _ _ _
    rw [List.length_drop] at this; omega
  refine ⟨⟨take_lt _ _ _, take_lt _ _ _, take_lt _ _ _, take_lt _ _ _, take_lt _ _ _⟩, g1, g2, g3, take_len _ _ _, take_len _ _ _, ?_⟩
  unfold kSp
  exact (List.takeWhile_sublist _).length_le
theorem e_D (s : List UInt8) : takeT s (nameL 0) 5 = rawD s := rfl
theorem e_S (s : List UInt8) : (rawD s).2.1.drop 7 = rawS2 s := rfl
theorem e_B (s : List UInt8) : rAddrP ((rawS2 s).take (kSp (rawS2 s))) = rawB s := rfl
theorem e_L (s : List UInt8) : takeT ((rawS2 s).drop (kSp (rawS2 s))) portsW 5 = rawL s := rfl
theorem e_H (s : List UInt8) : takeT (rawL s).2.1 [45] 5 = rawH s := rfl
theorem e_E (s : List UInt8) : takeT (rawH s).2.1 bucketsW 5 = rawE s := rfl
theorem e_F (s : List UInt8) : takeT (rawE s).2.1 ringW 5 = rawF s := rfl
section
attribute [local irreducible] rawD rawS2 rawB rawL rawH rawE rawF kSp takeT rAddrP
set_option maxHeartbeats 800000 in
theorem rParse_spec (s : List UInt8) (hs : s.length ≤ 100000) :
    Spec Tryd.prog 32 [str s] W F (fun _ : Unit => .tuple #[(rparseT s).1.val, .int .i64 (rparseT s).2]) (fun _ => F) := by
  obtain ⟨⟨f1, f2, f3, f4, f5⟩, g1, g2, g3, g4, g5, hkl⟩ := raw_facts s
  refine Spec.of Tryd.func32 rfl Tryd.ntmps32 rfl ?_
  repeat (first | refine go ?_ | (refine goX ?_; intro))
  refine EL_call rfl (take_spec s (nameL 0) 5 (by decide) hs (by decide)) ?_
  intro
  rw [e_D]
  repeat (first | refine go ?_ | (refine goX ?_; intro))
  refine EL_guard_split rfl rfl (fun hb1 => ?_) (fun hb1 => ?_)
  · have hnone := rr1 (s := s) (.inl (notT hb1))
    repeat (first | refine go ?_ | (refine goX ?_; intro))
    exact EK_ret (ER_cn (rs := [.cell 2 24, .tmp 3]) (v := .agg zeroV.toArray) (u := .int .i64 3) (vs := []) rfl ⟨⟨_, rfl, LoadsV.agg rfl⟩, rfl, trivial⟩ () (rparse_none hnone) (Ent.sat Ent.last))
  repeat (first | refine go ?_ | (refine goX ?_; intro))
  refine EL_guard_dec rfl rfl (fun hb2 => ?_) (fun hb2 => ?_)
  · have hnone := rr1 (s := s) (.inr (.inl (by omega)))
    repeat (first | refine go ?_ | (refine goX ?_; intro))
    exact EK_ret (ER_cn (rs := [.cell 2 24, .tmp 3]) (v := .agg zeroV.toArray) (u := .int .i64 3) (vs := []) rfl ⟨⟨_, rfl, LoadsV.agg rfl⟩, rfl, trivial⟩ () (rparse_none hnone) (Ent.sat Ent.last))
  repeat (first | refine go ?_ | (refine goX ?_; intro))
  refine EK_cond_ndec rfl (fun hb3 => ?_) (fun hb3 => ?_)
  · have hnone := rr1 (s := s) (.inr (.inr hb3))
    repeat (first | refine go ?_ | (refine goX ?_; intro))
    exact EK_ret (ER_cn (rs := [.cell 2 24, .tmp 3]) (v := .agg zeroV.toArray) (u := .int .i64 3) (vs := []) rfl ⟨⟨_, rfl, LoadsV.agg rfl⟩, rfl, trivial⟩ () (rparse_none hnone) (Ent.sat Ent.last))
  have h0 : ¬ ((rawD s).2.2 = false ∨ (rawD s).2.1.length < 7 ∨ ¬ (rawD s).2.1.take 7 = outerW) := by
    rintro (g | g | g)
    · exact notF hb1 g
    · omega
    · exact g hb3
  repeat (first | refine go ?_ | (refine goX ?_; intro))
  rw [e_S]
  rename_i pr pc _
  refine EK_exits (γ := Unit) (fun _ => True) (fun _ => [(0, str (rawS2 s)), (2, .pointer pr), (4, .pointer pc), (10, .int .i64 (kSp (rawS2 s) : Int))])
    (fun _ => Obj pc 24 [.int .i64 ((rawD s).1 : Nat), .int .u32 0, .int .i64 0, .int .i64 0, .int .i64 0, .int .i64 0] * (Obj pr 24 zeroV * F)) ?_ ?_
  · refine EK_loop (γ := Nat) (fun k => k ≤ (rawS2 s).length ∧ ∀ i, i < k → ¬ (rawS2 s).getD i 0 = 32) (fun k => [(0, str (rawS2 s)), (2, .pointer pr), (4, .pointer pc), (10, .int .i64 (k : Int))])
      (fun _ => Obj pc 24 [.int .i64 ((rawD s).1 : Nat), .int .u32 0, .int .i64 0, .int .i64 0, .int .i64 0, .int .i64 0] * (Obj pr 24 zeroV * F)) (fun k => (rawS2 s).length - k) 0 ⟨Nat.zero_le _, fun i hi => by omega⟩ ⟨rfl, rfl, rfl, rfl, trivial⟩ (Ent.sat (Ent.refl _)) ?_
    intro k ⟨hk, hn⟩; try dsimp only at hk hn ⊢
    repeat (first | refine go ?_ | (refine goX ?_; intro))
    refine EL_guard_dec rfl rfl (fun h1 => ?_) (fun h1 => ?_)
    · repeat (first | refine go ?_ | (refine goX ?_; intro))
      refine EK_cond_ndec rfl (fun h2 => ?_) (fun h2 => ?_)
      · repeat (first | refine go ?_ | (refine goX ?_; intro))
        refine EK_round (k + 1) ⟨by omega, fun i hi => ?_⟩ (by omega) ⟨rfl, rfl, rfl, rfl, trivial⟩ (Ent.sat (Ent.refl _))
        rcases Nat.lt_or_ge i k with g | g
        · exact hn i g
        · have : i = k := by omega
          subst this
          exact fun e => h2 (by rw [e]; rfl)
      · repeat (first | refine go ?_ | (refine goX ?_; intro))
        have e := kSp_eq hk hn (.inr (u8_32 h2))
        exact EK_meet () trivial ⟨rfl, rfl, rfl, by rw [e]; rfl, trivial⟩ (Ent.sat (Ent.refl _))
    · repeat (first | refine go ?_ | (refine goX ?_; intro))
      have e := kSp_eq hk hn (.inl (by omega))
      exact EK_meet () trivial ⟨rfl, rfl, rfl, by rw [e]; rfl, trivial⟩ (Ent.sat (Ent.refl _))
  intro _ _; try dsimp only
  repeat (first | refine go ?_ | (refine goX ?_; intro))
  refine EL_call rfl (rParseAddress_spec ((rawS2 s).take (kSp (rawS2 s))) (by rw [List.length_take]; omega)) ?_
  intro
  rw [rAddrV, e_B]
  repeat (first | refine go ?_ | (refine goX ?_; intro))
  refine EL_call rfl (take_spec ((rawS2 s).drop (kSp (rawS2 s))) portsW 5 (by decide) (by rw [List.length_drop]; omega) (by decide)) ?_
  intro
  rw [e_L]
  repeat (first | refine go ?_ | (refine goX ?_; intro))
  refine EL_guard_split rfl rfl (fun hb1 => ?_) (fun hb1 => ?_)
  · have hnone := rr2 (s := s) h0 (.inl (notT hb1))
    repeat (first | refine go ?_ | (refine goX ?_; intro))
    exact EK_ret (ER_cn (rs := [.cell 2 24, .tmp 3]) (v := .agg zeroV.toArray) (u := .int .i64 3) (vs := []) rfl ⟨⟨_, rfl, LoadsV.agg rfl⟩, rfl, trivial⟩ () (rparse_none hnone) (Ent.sat Ent.last))
  repeat (first | refine go ?_ | (refine goX ?_; intro))
  refine EK_cond rfl (fun hb2 => ?_) (fun hb2 => ?_)
  · have hnone := rr2 (s := s) h0 (.inr (notT hb2))
    repeat (first | refine go ?_ | (refine goX ?_; intro))
    exact EK_ret (ER_cn (rs := [.cell 2 24, .tmp 3]) (v := .agg zeroV.toArray) (u := .int .i64 3) (vs := []) rfl ⟨⟨_, rfl, LoadsV.agg rfl⟩, rfl, trivial⟩ () (rparse_none hnone) (Ent.sat Ent.last))
  have hbb : (rawB s).2 = true := eq_true_of_ne_false (notF hb1)
  have h1 : ¬ ((rawB s).2 = false ∨ (rawL s).2.2 = false) := by
    rintro (g | g)
    · exact notF hb1 g
    · exact notF hb2 g
  have f6 := rawB_lt hbb
  repeat (first | refine go ?_ | (refine goX ?_; intro))
  refine EL_call rfl (take_spec (rawL s).2.1 [45] 5 (by decide) (by omega) (by decide)) ?_
  intro
  rw [e_H]
  repeat (first | refine go ?_ | (refine goX ?_; intro))
  refine EL_call rfl (take_spec (rawH s).2.1 bucketsW 5 (by decide) (by omega) (by decide)) ?_
  intro
  rw [e_E]
  repeat (first | refine go ?_ | (refine goX ?_; intro))
  refine EL_call rfl (take_spec (rawE s).2.1 ringW 5 (by decide) (by omega) (by decide)) ?_
  intro
  rw [e_F]
  repeat (first | refine go ?_ | (refine goX ?_; intro))
  refine EL_guard_split rfl rfl (fun hb3 => ?_) (fun hb3 => ?_)
  · have hnone := rr3 (s := s) h0 h1 (.inl (notT hb3))
    repeat (first | refine go ?_ | (refine goX ?_; intro))
    exact EK_ret (ER_cn (rs := [.cell 2 24, .tmp 3]) (v := .agg zeroV.toArray) (u := .int .i64 3) (vs := []) rfl ⟨⟨_, rfl, LoadsV.agg rfl⟩, rfl, trivial⟩ () (rparse_none hnone) (Ent.sat Ent.last))
  repeat (first | refine go ?_ | (refine goX ?_; intro))
  refine EL_guard_split rfl rfl (fun hb4 => ?_) (fun hb4 => ?_)
  · have hnone := rr3 (s := s) h0 h1 (.inr (.inl (notT hb4)))
    repeat (first | refine go ?_ | (refine goX ?_; intro))
    exact EK_ret (ER_cn (rs := [.cell 2 24, .tmp 3]) (v := .agg zeroV.toArray) (u := .int .i64 3) (vs := []) rfl ⟨⟨_, rfl, LoadsV.agg rfl⟩, rfl, trivial⟩ () (rparse_none hnone) (Ent.sat Ent.last))
  repeat (first | refine go ?_ | (refine goX ?_; intro))
  refine EL_guard_split rfl rfl (fun hb5 => ?_) (fun hb5 => ?_)
  · have hnone := rr3 (s := s) h0 h1 (.inr (.inr (.inl (notT hb5))))
    repeat (first | refine go ?_ | (refine goX ?_; intro))
    exact EK_ret (ER_cn (rs := [.cell 2 24, .tmp 3]) (v := .agg zeroV.toArray) (u := .int .i64 3) (vs := []) rfl ⟨⟨_, rfl, LoadsV.agg rfl⟩, rfl, trivial⟩ () (rparse_none hnone) (Ent.sat Ent.last))
  repeat (first | refine go ?_ | (refine goX ?_; intro))
  refine EK_cond_ndec rfl (fun hb6 => ?_) (fun hb6 => ?_)
  · have hnone := rr3 (s := s) h0 h1 (.inr (.inr (.inr hb6)))
    repeat (first | refine go ?_ | (refine goX ?_; intro))
    exact EK_ret (ER_cn (rs := [.cell 2 24, .tmp 3]) (v := .agg zeroV.toArray) (u := .int .i64 3) (vs := []) rfl ⟨⟨_, rfl, LoadsV.agg rfl⟩, rfl, trivial⟩ () (rparse_none hnone) (Ent.sat Ent.last))
  have hsome := rr4 h0 h1 (by
    rintro (g | g | g | g)
    · exact notF hb3 g
    · exact notF hb4 g
    · exact notF hb5 g
    · exact g hb6)
  have hfit : (⟨(rawD s).1, (rawB s).1, (rawL s).1, (rawH s).1, (rawE s).1, (rawF s).1⟩ : Cfg).Fit := ⟨by unfold I64; dsimp only; omega, by dsimp only; omega, by unfold I64; dsimp only; omega, by unfold I64; dsimp only; omega, by unfold I64; dsimp only; omega, by unfold I64; dsimp only; omega⟩
  repeat (first | refine go ?_ | (refine goX ?_; intro))
  refine EL_call rfl (rWrong_spec ⟨(rawD s).1, (rawB s).1, (rawL s).1, (rawH s).1, (rawE s).1, (rawF s).1⟩ hfit) ?_
  intro
  repeat (first | refine go ?_ | (refine goX ?_; intro))
  refine EK_cond_ndec rfl (fun hw => ?_) (fun hw => ?_)
  · repeat (first | refine go ?_ | (refine goX ?_; intro))
    exact EK_ret (ER_cn (rs := [.cell 2 24, .tmp 3]) (v := .agg zeroV.toArray) (u := .int .i64 1) (vs := []) rfl ⟨⟨_, rfl, LoadsV.agg rfl⟩, rfl, trivial⟩ () (by rw [rparse_some hsome, if_neg hw]; rfl) (Ent.sat Ent.last))
  · repeat (first | refine go ?_ | (refine goX ?_; intro))
    exact EK_ret (ER_cn (rs := [.cell 2 24, .tmp 3]) (v := (⟨(rawD s).1, (rawB s).1, (rawL s).1, (rawH s).1, (rawE s).1, (rawF s).1⟩ : Cfg).val) (u := .int .i64 0) (vs := []) rfl ⟨⟨_, rfl, LoadsV.agg rfl⟩, rfl, trivial⟩ () (by rw [rparse_some hsome, if_pos hw]) (Ent.sat Ent.last))
end

/-! ### Texts -/
theorem text_no {c : Cfg} (h : ¬ wrongT c = []) : Value.string ⟨#[]⟩ = str (textT c) := by rw [textT, if_neg h]; rfl
theorem text_yes {w o lo hi b r : Nat} (h : wrongT ⟨w, o, lo, hi, b, r⟩ = []) : textT ⟨w, o, lo, hi, b, r⟩ = nameL 0 ++ Lib.decDigits w ++ outerW ++ addrL o ++ portsW ++ Lib.decDigits lo ++ [45] ++ Lib.decDigits hi ++ bucketsW ++ Lib.decDigits b ++ ringW ++ Lib.decDigits r := by
  rw [textT, if_pos h, lineL]
  simp
theorem good_nats {c : Cfg} (h : c.Good) (ho : 0 ≤ c.o) : ∃ w o lo hi b r : Nat, c = ⟨w, o, lo, hi, b, r⟩ := by
  obtain ⟨h1, h2, h3, h4, h5⟩ := h
  have hb : 0 ≤ c.b := by unfold pow2 at h4; omega
  obtain ⟨w, o, lo, hi, b, r⟩ := c
  dsimp only at *
  exact ⟨w.toNat, o.toNat, lo.toNat, hi.toNat, b.toNat, r.toNat, by rw [Int.toNat_of_nonneg (by omega), Int.toNat_of_nonneg (by omega), Int.toNat_of_nonneg (by omega), Int.toNat_of_nonneg (by omega), Int.toNat_of_nonneg (by omega), Int.toNat_of_nonneg (by omega)]⟩
theorem Text_spec [PlanT W] (c : Cfg) (hc : c.Fit) : Spec Tryd.prog 28 [c.val] W F (fun _ : Unit => str (textT c)) (fun _ => F) := by
  refine Spec.of Tryd.func28 rfl Tryd.ntmps28 rfl ?_
  repeat (first | refine go ?_ | (refine goX ?_; intro))
  refine EL_call rfl (Wrong_spec c hc) ?_
  intro
  repeat (first | refine go ?_ | (refine goX ?_; intro))
  refine EK_cond_ndec rfl (fun hw => ?_) (fun hw => ?_)
  · repeat (first | refine go ?_ | (refine goX ?_; intro))
    exact EK_ret (ER_1 rfl rfl () (text_no hw) (Ent.sat Ent.last))
  have hg := wrongT_nil.1 hw
  obtain ⟨w, o, lo, hi, b, r, rfl⟩ := good_nats hg hc.o.1
  obtain ⟨k1, k2, k3, k4, k5⟩ := hg
  have k6 := hc.o
  have hb : (b : Int) ≤ 1024 := by unfold pow2 at k4; dsimp only at k4; omega
  dsimp only at k1 k2 k3 k5 k6
  have l1 := dec_len20 (n := w) (by omega)
  have l2 := dec_len20 (n := lo) (by omega)
  have l3 := dec_len20 (n := hi) (by omega)
  have l4 := dec_len20 (n := b) (by omega)
  have l5 := dec_len20 (n := r) (by omega)
  have l6 := addrL_len o
  repeat (first | refine go ?_ | (refine goX ?_; intro))
  refine EK_drawn rfl (by kernel_rfl) ?_
  repeat (refine goS ?_)
  refine ES_call rfl (Itoa_spec (w : Int) (by omega) (by omega)) ?_
  rw [itoa_nat]
  repeat (refine goS ?_)
  refine ES_call rfl (Address_spec o (by omega)) ?_
  repeat (refine goS ?_)
  refine ES_call rfl (Itoa_spec (lo : Int) (by omega) (by omega)) ?_
  rw [itoa_nat]
  repeat (refine goS ?_)
  refine ES_call rfl (Itoa_spec (hi : Int) (by omega) (by omega)) ?_
  rw [itoa_nat]
  repeat (refine goS ?_)
  refine ES_call rfl (Itoa_spec (b : Int) (by omega) (by omega)) ?_
  rw [itoa_nat]
  repeat (refine goS ?_)
  refine ES_call rfl (Itoa_spec (r : Int) (by omega) (by omega)) ?_
  rw [itoa_nat]
  repeat (refine goS ?_)
  repeat (first | refine go ?_ | (refine goX ?_; intro))
  exact EK_ret (ER_1 rfl rfl () (by rw [text_yes hw]; rfl) (Ent.sat Ent.last))
theorem rText_spec (c : Cfg) (hc : c.Fit) : Spec Tryd.prog 30 [c.val] W F (fun _ : Unit => str (textT c)) (fun _ => F) := by
  refine Spec.of Tryd.func30 rfl Tryd.ntmps30 rfl ?_
  repeat (first | refine go ?_ | (refine goX ?_; intro))
  refine EL_call rfl (rWrong_spec c hc) ?_
  intro
  repeat (first | refine go ?_ | (refine goX ?_; intro))
  refine EK_cond_ndec rfl (fun hw => ?_) (fun hw => ?_)
  · repeat (first | refine go ?_ | (refine goX ?_; intro))
    exact EK_ret (ER_1 rfl rfl () (text_no hw) (Ent.sat Ent.last))
  have hg := wrongT_nil.1 hw
  obtain ⟨w, o, lo, hi, b, r, rfl⟩ := good_nats hg hc.o.1
  obtain ⟨k1, k2, k3, k4, k5⟩ := hg
  have k6 := hc.o
  have hb : (b : Int) ≤ 1024 := by unfold pow2 at k4; dsimp only at k4; omega
  dsimp only at k1 k2 k3 k5 k6
  have l1 := dec_len20 (n := w) (by omega)
  have l2 := dec_len20 (n := lo) (by omega)
  have l3 := dec_len20 (n := hi) (by omega)
  have l4 := dec_len20 (n := b) (by omega)
  have l5 := dec_len20 (n := r) (by omega)
  have l6 := addrL_len o
  repeat (first | refine go ?_ | (refine goX ?_; intro))
  refine EK_drawn rfl (by kernel_rfl) ?_
  repeat (refine goS ?_)
  refine ES_call rfl (Digits_spec w (by omega) _) ?_
  repeat (refine goS ?_)
  refine ES_call rfl (rAddress_spec o (by omega)) ?_
  repeat (refine goS ?_)
  refine ES_call rfl (Digits_spec lo (by omega) _) ?_
  repeat (refine goS ?_)
  refine ES_call rfl (Digits_spec hi (by omega) _) ?_
  repeat (refine goS ?_)
  refine ES_call rfl (Digits_spec b (by omega) _) ?_
  repeat (refine goS ?_)
  refine ES_call rfl (Digits_spec r (by omega) _) ?_
  repeat (refine goS ?_)
  repeat (first | refine go ?_ | (refine goX ?_; intro))
  exact EK_ret (ER_1 rfl rfl () (by rw [text_yes hw]; rfl) (Ent.sat Ent.last))
theorem From_spec (c : Cfg) : Spec Tryd.prog 31 [c.val] W F (fun _ : Unit => c.val) (fun _ => F) := by
  refine Spec.of Tryd.func31 rfl Tryd.ntmps31 rfl ?_
  repeat (first | refine go ?_ | (refine goX ?_; intro))
  exact EK_ret (ER_c1 (rv := .cell 2 24) (v := c.val) rfl ⟨_, rfl, LoadsV.agg rfl⟩ () rfl (Ent.sat Ent.last))
end Go.Proofs.YtafbipoagehdeaaDoor
