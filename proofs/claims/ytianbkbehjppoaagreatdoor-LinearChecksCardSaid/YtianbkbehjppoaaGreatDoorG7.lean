/-
  Fa, Gb, Me, Br, Ev, Rm, Rs, Fc, Fw, Hu, Ap, Aq, Hi, Ln: joined by a program (wip/bundle.py).
-/
import Derived.Lib.AppendStr
import Derived.Shelf.Strconv.AppendIntPublic10
import Derived.Lib.ItoaLen
import Derived.Test.YtianbkbehjppoaaGreatDoorG0
import Derived.Test.YtianbkbehjppoaaGreatDoorG1
import Derived.Test.YtianbkbehjppoaaGreatDoorG2
import Derived.Test.YtianbkbehjppoaaGreatDoorG3
import Derived.Test.YtianbkbehjppoaaGreatDoorG4
import Derived.Test.YtianbkbehjppoaaGreatDoorG5
import Derived.Test.YtianbkbehjppoaaGreatDoorG6
namespace Go.Proofs.YtianbkbehjppoaaGreatDoor
open Go.RowKit
set_option maxRecDepth 10000
attribute [local irreducible] EK EX ER EN EL ES EG OpVal OpDoes OpSkip
variable {W : World} {F : SL} {X : Cx} {k : List KI} {σ : Env}
section
variable {p : Option Addr} {c i j : Nat} {l : List UInt8}
theorem pnum_spec [s : Src W F p l.length (bytesR l)] (h : 2 ≤ l.length) : Spec Tryz.prog 140 [.slice p l.length c] W F (fun _ : Unit => .int .u16 (w2 l 0 : Int)) (fun _ => F) := by
  refine Spec.of Tryz.func140 rfl Tryz.ntmps140 rfl ?_
  have h0 := b1_lt l 0
  have h1 := b1_lt l 1
  repeat (first | refine go ?_ | (refine goX ?_; intro))
  refine EK_sink 99 F rfl rfl rfl ?_
  repeat (first | refine goQ ?_ | refine EG_done (by decide +kernel) ?_)
  repeat (first | refine go ?_ | (refine goX ?_; intro))
  exact EK_ret (ER_1 rfl rfl () (by rw [or8 h0 h1]; rfl) (Ent.sat (by first | exact Ent.refl _ | exact Ent.last | (repeat (first | refine Ent.cons ?_ | refine Ent.objX ?_ | exact Ent.any | exact Ent.last)))))
theorem pnum_at (i : Nat) (s : Src W F p l.length (bytesR l)) (r : Room W F p l.length c) (h : i + 2 ≤ l.length) (m : Nat) : Spec Tryz.prog 140 [.slice (dropP p i c 1) (l.length - i) m] W F (fun _ : Unit => .int .u16 (w2 l i : Int)) (fun _ => F) := by
  haveI := Src.low s r (i := i) (by omega)
  have h1 := pnum_spec (W := W) (F := F) (c := m) (l := l.drop i) (p := dropP p i c 1) (by rw [List.length_drop]; omega)
  rw [w2_drop, List.length_drop, Nat.add_zero] at h1
  exact h1
theorem put_spec (q : Option Addr) (cc : Nat) (l : List UInt8) (n m : Nat) (hl : l.length ≤ 100) (hm : m ≤ 4) (hn : n < 4294967296) : Spec Tryz.prog 167 [.slice q l.length cc, .int .u32 (n : Int), .int .i64 (m : Int)] W (RowC 5 1 q l.length cc (bytesR l) * F)
    (fun z : Slab => .slice z.1 (l ++ beN n m).length z.2) (fun z => RowC 5 1 z.1 (l ++ beN n m).length z.2 (bytesR (l ++ beN n m)) * F) := by
  refine Spec.of Tryz.func167 rfl Tryz.ntmps167 rfl ?_
  repeat (first | refine go ?_ | (refine goX ?_; intro))
  refine EK_loop (γ := Nat × Slab × List UInt8) (fun a => a.1 ≤ m ∧ a.2.2 ++ beN n a.1 = l ++ beN n m ∧ a.2.2.length ≤ 104) (fun a => [(0, .slice a.2.1.1 a.2.2.length a.2.1.2), (1, .int .u32 (n : Int)), (7, .int .i64 ((a.1 : Int) - 1))]) (fun a => RowC 5 1 a.2.1.1 a.2.2.length a.2.1.2 (bytesR a.2.2) * F) (fun a => a.1)
    (m, (q, cc), l) ⟨Nat.le_refl _, rfl, by dsimp only; omega⟩ ⟨rfl, rfl, rfl, trivial⟩ (Ent.sat (Ent.refl _)) ?_
  intro ⟨t, z, o⟩ ⟨h1, h2, h3⟩; dsimp only at h1 h2 h3 ⊢
  match t, h1, h2 with
  | 0, _, h2 =>
    have e : o = l ++ beN n m := by simpa [beN] using h2
    subst e
    repeat (first | refine go ?_ | (refine goX ?_; intro))
    exact EK_ret (ER_1 rfl rfl z rfl (Ent.sat (by first | exact Ent.refl _ | exact Ent.last | (repeat (first | refine Ent.cons ?_ | refine Ent.objX ?_ | exact Ent.any | exact Ent.last)))))
  | t + 1, h1, h2 =>
    rw [show ((t + 1 : Nat) : Int) - 1 = (t : Int) by omega]
    repeat (first | refine go ?_ | (refine goX ?_; intro))
    rename_i z2
    refine EK_round (t, z2, o ++ [u8 (n / 256 ^ t)]) ⟨by dsimp only; omega, by rw [List.append_assoc]; exact h2, ?_⟩ (by dsimp only; omega) ⟨by rw [List.length_append]; rfl, rfl, rfl, trivial⟩ (Ent.sat ?_)
    · have := congrArg List.length h2
      rw [List.length_append, List.length_append, beN_len, beN_len] at this
      rw [List.length_append, List.length_singleton]
      omega
    dsimp only
    rw [List.length_append, List.length_singleton, bytesR_snoc, ← u8_shr]
    first | exact Ent.refl _ | exact Ent.last | (repeat (first | refine Ent.cons ?_ | refine Ent.objX ?_ | exact Ent.any | exact Ent.last))
theorem put_none (n m : Nat) (hm : m ≤ 4) (hn : n < 4294967296) : Spec Tryz.prog 167 [.slice none 0 0, .int .u32 (n : Int), .int .i64 (m : Int)] W F
    (fun z : Slab => .slice z.1 (beN n m).length z.2) (fun z => RowC 5 1 z.1 (beN n m).length z.2 (bytesR (beN n m)) * F) := fun w hs =>
  put_spec none 0 [] n m (by decide) hm hn w (RowC.none_in _ _ hs)
theorem pseudo_spec [s : Src W F p l.length (bytesR l)] (src dst proto : Nat) (h1 : src < 4294967296) (h2 : dst < 4294967296) (h3 : proto < 256) (hl : l.length ≤ 65535) : Spec Tryz.prog 141 [.int .u32 (src : Int), .int .u32 (dst : Int), .int .i64 (proto : Int), .slice p l.length c] W F (fun _ : Unit => .int .u16 (pseT src dst proto l : Int)) (fun _ => F) := by
  refine Spec.of Tryz.func141 rfl Tryz.ntmps141 rfl ?_
  repeat (first | refine go ?_ | (refine goX ?_; intro))
  refine EL_call rfl (put_none src 4 (by decide) h1) ?_
  intro z1
  repeat (first | refine go ?_ | (refine goX ?_; intro))
  refine EL_call rfl (put_spec z1.1 z1.2 (beN src 4) dst 4 (by rw [beN_len]; decide) (by decide) h2) ?_
  intro z2
  have l2 : (beN src 4 ++ beN dst 4).length = 8 := by rw [List.length_append, beN_len, beN_len]
  repeat (first | refine go ?_ | (refine goX ?_; intro))
  rename_i z3
  have e3 : (beN src 4 ++ beN dst 4).length + 2 = (beN src 4 ++ beN dst 4 ++ [0, u8 proto]).length := by simp [beN_len]
  have e4 : bytesR (beN src 4 ++ beN dst 4) ++ [Value.int IntKind.u8 0, Value.int IntKind.u8 (proto : Int)] = bytesR (beN src 4 ++ beN dst 4 ++ [0, u8 proto]) := by
    rw [bytesR_append (beN src 4 ++ beN dst 4)]
    have : (u8 proto).toNat = proto := by rw [u8_toNat]; omega
    simp [bytesR, this]
  rw [e3, e4]
  refine EL_call rfl (put_spec z3.1 z3.2 (beN src 4 ++ beN dst 4 ++ [0, u8 proto]) l.length 2 (by simp [beN_len]) (by decide) (by omega)) ?_
  intro z4
  have ea : beN src 4 ++ beN dst 4 ++ [0, u8 proto] ++ beN l.length 2 = ahead src dst proto l.length := rfl
  rw [ea]
  have hal := ahead_len src dst proto l.length
  repeat (first | refine go ?_ | (refine goX ?_; intro))
  refine EL_call rfl (More_spec (n := 0) (by decide) z4.1 z4.2 (ahead src dst proto l.length) (by omega)) ?_
  intro _
  have hf := foldN_le (0 + rawS true (ahead src dst proto l.length))
  repeat (first | refine go ?_ | (refine goX ?_; intro))
  refine EL_call rfl (More_spec (n := foldN (0 + rawS true (ahead src dst proto l.length))) (by omega) p c l (by omega)) ?_
  intro _
  have hf2 := foldN_le (foldN (0 + rawS true (ahead src dst proto l.length)) + rawS true l)
  repeat (first | refine go ?_ | (refine goX ?_; intro))
  refine EL_call rfl (done_spec (n := foldN (foldN (0 + rawS true (ahead src dst proto l.length)) + rawS true l)) (by omega)) ?_
  intro _
  repeat (first | refine go ?_ | (refine goX ?_; intro))
  exact EK_ret (ER_1 rfl rfl () (by rw [pseT_eq]) (Ent.sat (by first | exact Ent.refl _ | exact Ent.last | (repeat (first | refine Ent.cons ?_ | refine Ent.objX ?_ | exact Ent.any | exact Ent.last)))))
theorem ports_spec [s : Src W F p l.length (bytesR l)] [r : Room W F p l.length c] (h : 4 ≤ l.length) (x : PtT) : Spec Tryz.prog 142 [.agg (ptV x).toArray, .slice p l.length c] W F (fun _ : Unit => .agg (ptV { x with sp := w2 l 0, dp := w2 l 2 }).toArray) (fun _ => F) := by
  refine Spec.of Tryz.func142 rfl Tryz.ntmps142 rfl ?_
  repeat (first | refine go ?_ | (refine goX ?_; intro))
  rename_i x2 x4
  refine EK_sink 8 (ObjX x2 157 * F) rfl rfl rfl ?_
  repeat (first | refine goQ ?_ | refine EG_done (by decide +kernel) ?_)
  refine EG_callQ rfl rfl rfl rfl rfl (pnum_spec (l := l) (by omega)) (fun _ => by first | exact Ent.refl _ | exact Ent.last | (repeat (first | refine Ent.cons ?_ | refine Ent.objX ?_ | exact Ent.any | exact Ent.last))) ?_
  intro _
  repeat (first | refine goQ ?_ | refine EG_done (by decide +kernel) ?_)
  refine EG_callQ rfl rfl rfl rfl rfl (pnum_at (l := l) 2 inferInstance inferInstance (by omega) _) (fun _ => by first | exact Ent.refl _ | exact Ent.last | (repeat (first | refine Ent.cons ?_ | refine Ent.objX ?_ | exact Ent.any | exact Ent.last))) ?_
  intro _
  repeat (first | refine goQ ?_ | refine EG_done (by decide +kernel) ?_)
  repeat (first | refine goG ?_ | (refine goGX ?_; intro) | refine goGL ?_ | refine goGS ?_ | refine goGV ?_ | refine EG_done (by decide +kernel) ?_)
  repeat (first | refine go ?_ | (refine goX ?_; intro))
  exact EK_ret (ER_c1 (rv := .cell 4 157) rfl ⟨_, rfl, LoadsV.agg rfl⟩ () rfl (Ent.sat (by first | exact Ent.refl _ | exact Ent.last | (repeat (first | refine Ent.cons ?_ | refine Ent.objX ?_ | exact Ent.any | exact Ent.last)))))
abbrev resP (x : PtT) (e : Nat) : Value := .tuple #[.agg (ptV x).toArray, .int .i64 (e : Int)]
theorem udp_spec [s : Src W F p l.length (bytesR l)] [r : Room W F p l.length c] (hd : HdT) (h1 : hd.src < 4294967296) (h2 : hd.dst < 4294967296) (hl : l.length ≤ 65535) : Spec Tryz.prog 120 [.agg (hdV hd).toArray, .slice p l.length c] W F (fun _ : Unit => resP (if udpE hd.src hd.dst l = 0 then udpP l else pt0) (udpE hd.src hd.dst l)) (fun _ => F) := by
  refine Spec.of Tryz.func120 rfl Tryz.ntmps120 rfl ?_
  have e0 : udpE hd.src hd.dst l = _ := rfl
  conv at e0 => rhs; unfold udpE
  by_cases g1 : l.length < 8
  · rw [if_pos g1] at e0
    rw [e0]
    repeat (first | refine go ?_ | (refine goX ?_; intro))
    exact EK_ret (ER_cn (rs := [.cell 4 157, .tmp 5]) (v := .agg (ptV pt0).toArray) (u := .int .i64 ((2 : Nat) : Int)) (vs := []) rfl ⟨⟨_, rfl, LoadsV.agg rfl⟩, rfl, trivial⟩ () rfl (Ent.sat (by first | exact Ent.refl _ | exact Ent.last | (repeat (first | refine Ent.cons ?_ | refine Ent.objX ?_ | exact Ent.any | exact Ent.last)))))
  rw [if_neg g1] at e0
  repeat (first | refine go ?_ | (refine goX ?_; intro))
  refine EL_call rfl (pnum_at (l := l) 4 inferInstance inferInstance (by omega) _) ?_
  intro _
  have w4' := w2_lt l 4
  have w6 := w2_lt l 6
  by_cases g2 : w2 l 4 = l.length
  · rw [if_neg (fun g => g g2)] at e0
    repeat (first | refine go ?_ | (refine goX ?_; intro))
    refine EL_call rfl (pnum_at (l := l) 6 inferInstance inferInstance (by omega) _) ?_
    intro _
    by_cases g3 : w2 l 6 = 0
    · rw [if_neg (fun g => g.1 g3)] at e0
      rw [e0, if_pos rfl, show udpP l = { pt0 with proto := 17, sp := w2 l 0, dp := w2 l 2, bare := true } by unfold udpP; rw [decide_eq_true g3]]
      repeat (first | refine go ?_ | (refine goX ?_; intro))
      refine EL_call rfl (ports_spec (l := l) (by omega) { pt0 with proto := 17, bare := true }) ?_
      intro _
      repeat (first | refine go ?_ | (refine goX ?_; intro))
      exact EK_ret (ER_cn (rs := [.cell 4 157, .tmp 5]) (v := .agg (ptV { pt0 with proto := 17, sp := w2 l 0, dp := w2 l 2, bare := true }).toArray) (u := .int .i64 ((0 : Nat) : Int)) (vs := []) rfl ⟨⟨_, rfl, LoadsV.agg rfl⟩, rfl, trivial⟩ () rfl (Ent.sat (by first | exact Ent.refl _ | exact Ent.last | (repeat (first | refine Ent.cons ?_ | refine Ent.objX ?_ | exact Ent.any | exact Ent.last)))))
    · have hp := pseT_lt hd.src hd.dst 17 l
      repeat (first | refine go ?_ | (refine goX ?_; intro))
      refine EL_call rfl (pseudo_spec (l := l) hd.src hd.dst 17 h1 h2 (by decide) hl) ?_
      intro _
      by_cases g4 : pseT hd.src hd.dst 17 l = 0
      · rw [if_neg (fun g => g.2 g4)] at e0
        rw [e0, if_pos rfl, show udpP l = { pt0 with proto := 17, sp := w2 l 0, dp := w2 l 2, bare := false } by unfold udpP; rw [decide_eq_false g3]]
        repeat (first | refine go ?_ | (refine goX ?_; intro))
        refine EL_call rfl (ports_spec (l := l) (by omega) { pt0 with proto := 17, bare := false }) ?_
        intro _
        repeat (first | refine go ?_ | (refine goX ?_; intro))
        exact EK_ret (ER_cn (rs := [.cell 4 157, .tmp 5]) (v := .agg (ptV { pt0 with proto := 17, sp := w2 l 0, dp := w2 l 2, bare := false }).toArray) (u := .int .i64 ((0 : Nat) : Int)) (vs := []) rfl ⟨⟨_, rfl, LoadsV.agg rfl⟩, rfl, trivial⟩ () rfl (Ent.sat (by first | exact Ent.refl _ | exact Ent.last | (repeat (first | refine Ent.cons ?_ | refine Ent.objX ?_ | exact Ent.any | exact Ent.last)))))
      · rw [if_pos ⟨g3, g4⟩] at e0
        rw [e0]
        repeat (first | refine go ?_ | (refine goX ?_; intro))
        exact EK_ret (ER_cn (rs := [.cell 4 157, .tmp 5]) (v := .agg (ptV pt0).toArray) (u := .int .i64 ((4 : Nat) : Int)) (vs := []) rfl ⟨⟨_, rfl, LoadsV.agg rfl⟩, rfl, trivial⟩ () rfl (Ent.sat (by first | exact Ent.refl _ | exact Ent.last | (repeat (first | refine Ent.cons ?_ | refine Ent.objX ?_ | exact Ent.any | exact Ent.last)))))
  · rw [if_pos g2] at e0
    rw [e0]
    repeat (first | refine go ?_ | (refine goX ?_; intro))
    exact EK_ret (ER_cn (rs := [.cell 4 157, .tmp 5]) (v := .agg (ptV pt0).toArray) (u := .int .i64 ((3 : Nat) : Int)) (vs := []) rfl ⟨⟨_, rfl, LoadsV.agg rfl⟩, rfl, trivial⟩ () rfl (Ent.sat (by first | exact Ent.refl _ | exact Ent.last | (repeat (first | refine Ent.cons ?_ | refine Ent.objX ?_ | exact Ent.any | exact Ent.last)))))
theorem tcp_spec [s : Src W F p l.length (bytesR l)] [r : Room W F p l.length c] (hd : HdT) (h1 : hd.src < 4294967296) (h2 : hd.dst < 4294967296) (hl : l.length ≤ 65535) : Spec Tryz.prog 121 [.agg (hdV hd).toArray, .slice p l.length c] W F (fun _ : Unit => resP (if tcpE hd.src hd.dst l = 0 then tcpP l else pt0) (tcpE hd.src hd.dst l)) (fun _ => F) := by
  refine Spec.of Tryz.func121 rfl Tryz.ntmps121 rfl ?_
  have e0 : tcpE hd.src hd.dst l = _ := rfl
  conv at e0 => rhs; unfold tcpE
  by_cases g1 : l.length < 20
  · rw [if_pos g1] at e0
    rw [e0]
    repeat (first | refine go ?_ | (refine goX ?_; intro))
    exact EK_ret (ER_cn (rs := [.cell 4 157, .tmp 5]) (v := .agg (ptV pt0).toArray) (u := .int .i64 ((2 : Nat) : Int)) (vs := []) rfl ⟨⟨_, rfl, LoadsV.agg rfl⟩, rfl, trivial⟩ () rfl (Ent.sat (by first | exact Ent.refl _ | exact Ent.last | (repeat (first | refine Ent.cons ?_ | refine Ent.objX ?_ | exact Ent.any | exact Ent.last)))))
  rw [if_neg g1] at e0
  have h12 := b1_lt l 12
  have e4 : IntKind.i64.wrap (4 * IntKind.i64.wrap ((b1 l 12 : Int) / 2 ^ Int.toNat 4)) = ((b1 l 12 / 16 * 4 : Nat) : Int) := by
    rw [show (b1 l 12 : Int) / 2 ^ Int.toNat 4 = ((b1 l 12 / 16 : Nat) : Int) from shr_n _ 4, InK.wrap (k := .i64) (z := ((b1 l 12 / 16 : Nat) : Int)) (by simp only [InK]; omega), InK.wrap (k := .i64) (by simp only [InK]; omega)]
    omega
  repeat (first | refine go ?_ | (refine goX ?_; intro))
  rw [e4]
  by_cases g2 : b1 l 12 / 16 * 4 < 20
  · rw [if_pos (Or.inl g2)] at e0
    rw [e0, decide_eq_true (show ((b1 l 12 / 16 * 4 : Nat) : Int) < 20 by omega)]
    repeat (first | refine go ?_ | (refine goX ?_; intro))
    exact EK_ret (ER_cn (rs := [.cell 4 157, .tmp 5]) (v := .agg (ptV pt0).toArray) (u := .int .i64 ((3 : Nat) : Int)) (vs := []) rfl ⟨⟨_, rfl, LoadsV.agg rfl⟩, rfl, trivial⟩ () rfl (Ent.sat (by first | exact Ent.refl _ | exact Ent.last | (repeat (first | refine Ent.cons ?_ | refine Ent.objX ?_ | exact Ent.any | exact Ent.last)))))
  rw [decide_eq_false (show ¬ ((b1 l 12 / 16 * 4 : Nat) : Int) < 20 by omega)]
  by_cases g3 : b1 l 12 / 16 * 4 > l.length
  · rw [if_pos (Or.inr g3)] at e0
    rw [e0]
    repeat (first | refine go ?_ | (refine goX ?_; intro))
    exact EK_ret (ER_cn (rs := [.cell 4 157, .tmp 5]) (v := .agg (ptV pt0).toArray) (u := .int .i64 ((3 : Nat) : Int)) (vs := []) rfl ⟨⟨_, rfl, LoadsV.agg rfl⟩, rfl, trivial⟩ () rfl (Ent.sat (by first | exact Ent.refl _ | exact Ent.last | (repeat (first | refine Ent.cons ?_ | refine Ent.objX ?_ | exact Ent.any | exact Ent.last)))))
  rw [if_neg (fun g => g.elim g2 g3)] at e0
  have hp := pseT_lt hd.src hd.dst 6 l
  repeat (first | refine go ?_ | (refine goX ?_; intro))
  refine EL_call rfl (pseudo_spec (l := l) hd.src hd.dst 6 h1 h2 (by decide) hl) ?_
  intro _
  by_cases g4 : pseT hd.src hd.dst 6 l = 0
  · rw [if_neg (fun g => g g4)] at e0
    rw [e0, if_pos rfl]
    have h13 := b1_lt l 13
    repeat (first | refine go ?_ | (refine goX ?_; intro))
    refine EL_call rfl (ports_spec (l := l) (by omega) { pt0 with proto := 6, flags := b1 l 13 }) ?_
    intro _
    repeat (first | refine go ?_ | (refine goX ?_; intro))
    exact EK_ret (ER_cn (rs := [.cell 4 157, .tmp 5]) (v := .agg (ptV (tcpP l)).toArray) (u := .int .i64 ((0 : Nat) : Int)) (vs := []) rfl ⟨⟨_, rfl, LoadsV.agg rfl⟩, rfl, trivial⟩ () rfl (Ent.sat (by first | exact Ent.refl _ | exact Ent.last | (repeat (first | refine Ent.cons ?_ | refine Ent.objX ?_ | exact Ent.any | exact Ent.last)))))
  · rw [if_pos g4] at e0
    rw [e0]
    repeat (first | refine go ?_ | (refine goX ?_; intro))
    exact EK_ret (ER_cn (rs := [.cell 4 157, .tmp 5]) (v := .agg (ptV pt0).toArray) (u := .int .i64 ((4 : Nat) : Int)) (vs := []) rfl ⟨⟨_, rfl, LoadsV.agg rfl⟩, rfl, trivial⟩ () rfl (Ent.sat (by first | exact Ent.refl _ | exact Ent.last | (repeat (first | refine Ent.cons ?_ | refine Ent.objX ?_ | exact Ent.any | exact Ent.last)))))
abbrev icV (k c : Nat) : List Value := [.int .i64 1, .int .u16 0, .int .u16 0, .int .i64 0, .int .i64 (k : Int), .int .i64 (c : Int), .bool false, .int .i64 0, .int .i64 0, .int .i64 0, .int .i64 0, .int .u32 0, .int .u32 0, .int .i64 0, .bool false]
def icP (kind code : Nat) : PtT := { pt0 with proto := 1, kind := kind, code := code }
set_option maxHeartbeats 1000000 in
theorem fault_spec [s : Src W F p l.length (bytesR l)] [r : Room W F p l.length c] (hd : HdT) (kind code : Nat) (hs : hd.size ≤ 60) (hl : l.length ≤ 65535) : Spec Tryz.prog 143 [.agg (ptV (icP kind code)).toArray, .agg (hdV hd).toArray, .slice p l.length c] W F (fun _ : Unit => resP (if faultE l = 0 then faultP kind code hd.size l else pt0) (faultE l)) (fun _ => F) := by
  refine Spec.of Tryz.func143 rfl Tryz.ntmps143 rfl ?_
  have e0 : faultE l = _ := rfl
  conv at e0 => rhs; unfold faultE
  repeat (first | refine go ?_ | (refine goX ?_; intro))
  refine EL_call rfl (hPart_spec (by omega)) ?_
  intro _
  by_cases g1' : headE true l ≠ 0
  · rw [if_pos g1'] at e0
    rw [e0, if_neg g1', headT_of (rfl : headE true l = _), if_neg g1']
    repeat (first | refine go ?_ | (refine goX ?_; intro))
    exact EK_ret (ER_cn (rs := [.cell 6 157, .tmp 7]) (v := .agg (ptV pt0).toArray) (u := .int .i64 ((headE true l : Nat) : Int)) (vs := []) rfl ⟨⟨_, rfl, LoadsV.agg rfl⟩, rfl, trivial⟩ () rfl (Ent.sat (by first | exact Ent.refl _ | exact Ent.last | (repeat (first | refine Ent.cons ?_ | refine Ent.objX ?_ | exact Ent.any | exact Ent.last)))))
  rw [if_neg g1'] at e0
  have g1 : headE true l = 0 := by omega
  obtain ⟨k1, k2, k3, k4, _, k6⟩ := headE_ok g1
  rw [k6, g1]
  have eF : faultP kind code hd.size l = { pt0 with proto := 1, kind := kind, code := code, err := true, inner := headH l, pos := hd.size + 8, sp := if (headH l).proto = 1 then w2 l ((headH l).size + 4) else w2 l (headH l).size, dp := if (headH l).proto = 1 then w2 l ((headH l).size + 4) else w2 l ((headH l).size + 2) } := rfl
  obtain ⟨hi, f0⟩ : ∃ x, headH l = x := ⟨_, rfl⟩
  have hpr : hi.proto < 256 := by rw [← f0]; exact b1_lt l 9
  have hlen : hi.len < 65536 := by rw [← f0]; exact w2_lt l 2
  rw [f0] at e0 eF k1 k2 k3 k4 ⊢
  repeat (first | refine go ?_ | (refine goX ?_; intro))
  rename_i x3 x4 x6 _ _ x8
  have ey : l.length - hi.size = (l.drop hi.size).length := by rw [List.length_drop]
  have y0 := b1_drop l hi.size 0
  have y1 := w2_drop l hi.size 0
  have y2 := w2_drop l hi.size 2
  have y4 := w2_drop l hi.size 4
  haveI sy := Src.low s r k3
  haveI ry := Room.low (i := hi.size) r
  obtain ⟨y, hy⟩ : ∃ y, l.drop hi.size = y := ⟨_, rfl⟩
  rw [hy] at ey y0 y1 y2 y4 sy ry
  rw [Nat.add_zero] at y0 y1
  rw [← y1, ← y2, ← y4] at eF
  rw [ey, ← y0] at e0
  rw [ey]
  obtain ⟨q, hq⟩ : ∃ q, dropP p hi.size c 1 = q := ⟨_, rfl⟩
  obtain ⟨cc, hcc⟩ : ∃ cc, c - hi.size = cc := ⟨_, rfl⟩
  rw [hq, hcc] at ry
  rw [hq] at sy
  rw [hq, hcc]
  haveI := sy
  haveI := ry
  by_cases g2 : y.length < 8
  · rw [if_pos (Or.inl g2)] at e0
    rw [e0, decide_eq_true (show ((y.length : Nat) : Int) < 8 by omega)]
    repeat (first | refine go ?_ | (refine goX ?_; intro))
    exact EK_ret (ER_cn (rs := [.cell 6 157, .tmp 7]) (v := .agg (ptV pt0).toArray) (u := .int .i64 ((3 : Nat) : Int)) (vs := []) rfl ⟨⟨_, rfl, LoadsV.agg rfl⟩, rfl, trivial⟩ () rfl (Ent.sat (by first | exact Ent.refl _ | exact Ent.last | (repeat (first | refine Ent.cons ?_ | refine Ent.objX ?_ | exact Ent.any | exact Ent.last)))))
  rw [decide_eq_false (show ¬ ((y.length : Nat) : Int) < 8 by omega)]
  by_cases g3 : hi.len < hi.size + 8
  · rw [if_pos (Or.inr g3)] at e0
    rw [e0]
    repeat (first | refine go ?_ | (refine goX ?_; intro))
    exact EK_ret (ER_cn (rs := [.cell 6 157, .tmp 7]) (v := .agg (ptV pt0).toArray) (u := .int .i64 ((3 : Nat) : Int)) (vs := []) rfl ⟨⟨_, rfl, LoadsV.agg rfl⟩, rfl, trivial⟩ () rfl (Ent.sat (by first | exact Ent.refl _ | exact Ent.last | (repeat (first | refine Ent.cons ?_ | refine Ent.objX ?_ | exact Ent.any | exact Ent.last)))))
  rw [if_neg (fun g => g.elim g2 g3)] at e0
  have hb0 := b1_lt y 0
  have hw4 := w2_lt y 4
  repeat (first | refine go ?_ | (refine goX ?_; intro))
  refine EK_sink 9 (Obj x8 155 (hdV hi) * (Obj x4 155 (hdV hd) * (ObjX x3 157 * F))) rfl rfl rfl ?_
  repeat (first | refine goQ ?_ | refine EG_done (by decide +kernel) ?_)
  repeat (first | refine goG ?_ | (refine goGX ?_; intro) | refine goGL ?_ | refine goGS ?_ | refine goGV ?_ | refine EG_done (by decide +kernel) ?_)
  by_cases g4 : hi.proto = 17 ∨ hi.proto = 6
  · rw [if_pos g4] at e0
    rw [e0, if_pos rfl, eF, if_neg (by omega), if_neg (by omega)]
    rcases g4 with g4 | g4
    all_goals
      repeat (first | refine go ?_ | (refine goX ?_; intro))
      refine EL_call rfl (ports_spec (l := y) (by omega) { pt0 with proto := 1, kind := kind, code := code, err := true, inner := hi, pos := hd.size + 8, sp := 0, dp := 0 }) ?_
      intro _
      repeat (first | refine go ?_ | (refine goX ?_; intro))
      exact EK_ret (ER_cn (rs := [.cell 6 157, .tmp 7]) (v := .agg (ptV { pt0 with proto := 1, kind := kind, code := code, err := true, inner := hi, pos := hd.size + 8, sp := w2 y 0, dp := w2 y 2 }).toArray) (u := .int .i64 ((0 : Nat) : Int)) (vs := []) rfl ⟨⟨_, rfl, LoadsV.agg rfl⟩, rfl, trivial⟩ () rfl (Ent.sat (by first | exact Ent.refl _ | exact Ent.last | (repeat (first | refine Ent.cons ?_ | refine Ent.objX ?_ | exact Ent.any | exact Ent.last)))))
  rw [if_neg g4] at e0
  by_cases g5 : ¬ (hi.proto = 1)
  · rw [if_neg (fun g => g5 g.1)] at e0
    rw [e0]
    repeat (first | refine go ?_ | (refine goX ?_; intro))
    exact EK_ret (ER_cn (rs := [.cell 6 157, .tmp 7]) (v := .agg (ptV pt0).toArray) (u := .int .i64 ((6 : Nat) : Int)) (vs := []) rfl ⟨⟨_, rfl, LoadsV.agg rfl⟩, rfl, trivial⟩ () rfl (Ent.sat (by first | exact Ent.refl _ | exact Ent.last | (repeat (first | refine Ent.cons ?_ | refine Ent.objX ?_ | exact Ent.any | exact Ent.last)))))
  have g5 := Decidable.not_not.1 g5
  by_cases g6 : ¬ (b1 y 0 = 0 ∨ b1 y 0 = 8)
  · rw [if_neg (fun g => g6 g.2)] at e0
    rw [e0]
    repeat (first | refine go ?_ | (refine goX ?_; intro))
    exact EK_ret (ER_cn (rs := [.cell 6 157, .tmp 7]) (v := .agg (ptV pt0).toArray) (u := .int .i64 ((6 : Nat) : Int)) (vs := []) rfl ⟨⟨_, rfl, LoadsV.agg rfl⟩, rfl, trivial⟩ () rfl (Ent.sat (by first | exact Ent.refl _ | exact Ent.last | (repeat (first | refine Ent.cons ?_ | refine Ent.objX ?_ | exact Ent.any | exact Ent.last)))))
  have g6 := Decidable.not_not.1 g6
  rw [if_pos ⟨g5, g6⟩] at e0
  rw [e0, if_pos rfl, eF, if_pos g5, if_pos g5]
  rcases g6 with g6 | g6
  all_goals
    repeat (first | refine go ?_ | (refine goX ?_; intro))
    refine EK_sink 9 (ObjX x3 157 * F) rfl rfl rfl ?_
    repeat (first | refine goQ ?_ | refine EG_done (by decide +kernel) ?_)
    refine EG_callQ rfl rfl rfl rfl rfl (pnum_at (l := y) 4 inferInstance inferInstance (by omega) _) (fun _ => by first | exact Ent.refl _ | exact Ent.last | (repeat (first | refine Ent.cons ?_ | refine Ent.objX ?_ | exact Ent.any | exact Ent.last))) ?_
    intro _
    repeat (first | refine goQ ?_ | refine EG_done (by decide +kernel) ?_)
    refine EG_callQ rfl rfl rfl rfl rfl (pnum_at (l := y) 4 inferInstance inferInstance (by omega) _) (fun _ => by first | exact Ent.refl _ | exact Ent.last | (repeat (first | refine Ent.cons ?_ | refine Ent.objX ?_ | exact Ent.any | exact Ent.last))) ?_
    intro _
    repeat (first | refine goQ ?_ | refine EG_done (by decide +kernel) ?_)
    repeat (first | refine goG ?_ | (refine goGX ?_; intro) | refine goGL ?_ | refine goGS ?_ | refine goGV ?_ | refine EG_done (by decide +kernel) ?_)
    repeat (first | refine go ?_ | (refine goX ?_; intro))
    exact EK_ret (ER_cn (rs := [.cell 6 157, .tmp 7]) (v := .agg (ptV { pt0 with proto := 1, kind := kind, code := code, err := true, inner := hi, pos := hd.size + 8, sp := w2 y 4, dp := w2 y 4 }).toArray) (u := .int .i64 ((0 : Nat) : Int)) (vs := []) rfl ⟨⟨_, rfl, LoadsV.agg rfl⟩, rfl, trivial⟩ () rfl (Ent.sat (by first | exact Ent.refl _ | exact Ent.last | (repeat (first | refine Ent.cons ?_ | refine Ent.objX ?_ | exact Ent.any | exact Ent.last)))))
theorem fault_at (i : Nat) (s : Src W F p l.length (bytesR l)) (r : Room W F p l.length c) (hi : i ≤ l.length) (hd : HdT) (kind code : Nat) (hs : hd.size ≤ 60) (hl : l.length ≤ 65535) : Spec Tryz.prog 143 [.agg (ptV (icP kind code)).toArray, .agg (hdV hd).toArray, .slice (dropP p i c 1) (l.length - i) (c - i)] W F (fun _ : Unit => resP (if faultE (l.drop i) = 0 then faultP kind code hd.size (l.drop i) else pt0) (faultE (l.drop i))) (fun _ => F) := by
  haveI := Src.low s r hi
  haveI := Room.low (i := i) r
  have h := fault_spec (W := W) (F := F) (p := dropP p i c 1) (c := c - i) (l := l.drop i) hd kind code hs (by rw [List.length_drop]; omega)
  rwa [List.length_drop] at h
theorem errK_of {k : Nat} (h : ¬ errK k) : k ≠ 3 ∧ k ≠ 11 ∧ k ≠ 12 := ⟨fun g => h (.inl g), fun g => h (.inr (.inl g)), fun g => h (.inr (.inr g))⟩
set_option maxHeartbeats 1000000 in
theorem icmp_spec [s : Src W F p l.length (bytesR l)] [r : Room W F p l.length c] (hd : HdT) (hs : hd.size ≤ 60) (hl : l.length ≤ 65535) : Spec Tryz.prog 122 [.agg (hdV hd).toArray, .slice p l.length c] W F (fun _ : Unit => resP (if icmpE l = 0 then icmpP hd.size l else pt0) (icmpE l)) (fun _ => F) := by
  refine Spec.of Tryz.func122 rfl Tryz.ntmps122 rfl ?_
  have e0 : icmpE l = _ := rfl
  conv at e0 => rhs; unfold icmpE
  by_cases g1 : l.length < 8
  · rw [if_pos g1] at e0
    rw [e0]
    repeat (first | refine go ?_ | (refine goX ?_; intro))
    exact EK_ret (ER_cn (rs := [.cell 4 157, .tmp 5]) (v := .agg (ptV pt0).toArray) (u := .int .i64 ((2 : Nat) : Int)) (vs := []) rfl ⟨⟨_, rfl, LoadsV.agg rfl⟩, rfl, trivial⟩ () rfl (Ent.sat (by first | exact Ent.refl _ | exact Ent.last | (repeat (first | refine Ent.cons ?_ | refine Ent.objX ?_ | exact Ent.any | exact Ent.last)))))
  rw [if_neg g1] at e0
  have hc := csum_lt l
  repeat (first | refine go ?_ | (refine goX ?_; intro))
  refine EL_call rfl (Of_spec p c l (by omega)) ?_
  intro _
  by_cases g2 : csum l ≠ 0
  · rw [if_pos g2] at e0
    rw [e0]
    repeat (first | refine go ?_ | (refine goX ?_; intro))
    exact EK_ret (ER_cn (rs := [.cell 4 157, .tmp 5]) (v := .agg (ptV pt0).toArray) (u := .int .i64 ((4 : Nat) : Int)) (vs := []) rfl ⟨⟨_, rfl, LoadsV.agg rfl⟩, rfl, trivial⟩ () rfl (Ent.sat (by first | exact Ent.refl _ | exact Ent.last | (repeat (first | refine Ent.cons ?_ | refine Ent.objX ?_ | exact Ent.any | exact Ent.last)))))
  rw [if_neg g2] at e0
  have hb0 := b1_lt l 0
  have hb1 := b1_lt l 1
  repeat (first | refine go ?_ | (refine goX ?_; intro))
  rename_i x2 x4 _
  refine EK_sink 10 F rfl rfl rfl ?_
  repeat (first | refine goQ ?_ | refine EG_done (by decide +kernel) ?_)
  repeat (first | refine goG ?_ | (refine goGX ?_; intro) | refine goGL ?_ | refine goGS ?_ | refine goGV ?_ | refine EG_done (by decide +kernel) ?_)
  rename_i x6
  by_cases g3 : b1 l 0 = 0 ∨ b1 l 0 = 8
  · rw [if_pos g3] at e0
    by_cases g4 : b1 l 1 ≠ 0
    · rw [if_pos g4] at e0
      rw [e0]
      rcases g3 with g3 | g3
      all_goals
        repeat (first | refine go ?_ | (refine goX ?_; intro))
        exact EK_ret (ER_cn (rs := [.cell 4 157, .tmp 5]) (v := .agg (ptV pt0).toArray) (u := .int .i64 ((3 : Nat) : Int)) (vs := []) rfl ⟨⟨_, rfl, LoadsV.agg rfl⟩, rfl, trivial⟩ () rfl (Ent.sat (by first | exact Ent.refl _ | exact Ent.last | (repeat (first | refine Ent.cons ?_ | refine Ent.objX ?_ | exact Ent.any | exact Ent.last)))))
    rw [if_neg g4] at e0
    have g4' : b1 l 1 = 0 := by omega
    rw [e0, if_pos rfl, show icmpP hd.size l = { pt0 with proto := 1, kind := b1 l 0, code := 0, sp := w2 l 4, dp := w2 l 4 } from if_pos g3, g4']
    have hw4 := w2_lt l 4
    rcases g3 with g3 | g3
    all_goals
      repeat (first | refine go ?_ | (refine goX ?_; intro))
      refine EK_sink 9 (ObjX x6 157 * F) rfl rfl rfl ?_
      repeat (first | refine goQ ?_ | refine EG_done (by decide +kernel) ?_)
      refine EG_callQ rfl rfl rfl rfl rfl (pnum_at (l := l) 4 inferInstance inferInstance (by omega) _) (fun _ => by first | exact Ent.refl _ | exact Ent.last | (repeat (first | refine Ent.cons ?_ | refine Ent.objX ?_ | exact Ent.any | exact Ent.last))) ?_
      intro _
      repeat (first | refine goQ ?_ | refine EG_done (by decide +kernel) ?_)
      refine EG_callQ rfl rfl rfl rfl rfl (pnum_at (l := l) 4 inferInstance inferInstance (by omega) _) (fun _ => by first | exact Ent.refl _ | exact Ent.last | (repeat (first | refine Ent.cons ?_ | refine Ent.objX ?_ | exact Ent.any | exact Ent.last))) ?_
      intro _
      repeat (first | refine goQ ?_ | refine EG_done (by decide +kernel) ?_)
      repeat (first | refine goG ?_ | (refine goGX ?_; intro) | refine goGL ?_ | refine goGS ?_ | refine goGV ?_ | refine EG_done (by decide +kernel) ?_)
      repeat (first | refine go ?_ | (refine goX ?_; intro))
      exact EK_ret (ER_cn (rs := [.cell 4 157, .tmp 5]) (v := .agg (ptV { pt0 with proto := 1, kind := b1 l 0, code := 0, sp := w2 l 4, dp := w2 l 4 }).toArray) (u := .int .i64 ((0 : Nat) : Int)) (vs := []) rfl ⟨⟨_, rfl, LoadsV.agg rfl⟩, rfl, trivial⟩ () rfl (Ent.sat (by first | exact Ent.refl _ | exact Ent.last | (repeat (first | refine Ent.cons ?_ | refine Ent.objX ?_ | exact Ent.any | exact Ent.last)))))
  rw [if_neg g3] at e0
  have g30 : b1 l 0 ≠ 0 := fun g => g3 (.inl g)
  have g38 : b1 l 0 ≠ 8 := fun g => g3 (.inr g)
  by_cases g5 : errK (b1 l 0)
  · rw [if_pos g5] at e0
    rw [e0, show icmpP hd.size l = faultP (b1 l 0) (b1 l 1) hd.size (l.drop 8) from if_neg g3]
    rcases g5 with g5 | g5 | g5
    all_goals
      repeat (first | refine go ?_ | (refine goX ?_; intro))
      refine EK_sink 7 (Obj x6 157 (icV (b1 l 0) (b1 l 1)) * (Obj x2 155 (hdV hd) * F)) rfl rfl rfl ?_
      repeat (first | refine goQ ?_ | refine EG_done (by decide +kernel) ?_)
      refine EG_callQ rfl rfl rfl rfl rfl (fault_at (l := l) 8 inferInstance inferInstance (by omega) hd (b1 l 0) (b1 l 1) hs hl) (fun _ => by first | exact Ent.refl _ | exact Ent.last | (repeat (first | refine Ent.cons ?_ | refine Ent.objX ?_ | exact Ent.any | exact Ent.last))) ?_
      intro _
      repeat (first | refine goQ ?_ | refine EG_done (by decide +kernel) ?_)
      repeat (first | refine goG ?_ | (refine goGX ?_; intro) | refine goGL ?_ | refine goGS ?_ | refine goGV ?_ | refine EG_done (by decide +kernel) ?_)
      repeat (first | refine go ?_ | (refine goX ?_; intro))
      exact EK_ret (ER_cn (rs := [.cell 4 157, .tmp 5]) (v := .agg (ptV _).toArray) (u := .int .i64 ((faultE (l.drop 8) : Nat) : Int)) (vs := []) rfl ⟨⟨_, rfl, LoadsV.agg rfl⟩, rfl, trivial⟩ () rfl (Ent.sat (by first | exact Ent.refl _ | exact Ent.last | (repeat (first | refine Ent.cons ?_ | refine Ent.objX ?_ | exact Ent.any | exact Ent.last)))))
  obtain ⟨g6, g7, g8⟩ := errK_of g5
  rw [if_neg g5] at e0
  rw [e0]
  repeat (first | refine go ?_ | (refine goX ?_; intro))
  exact EK_ret (ER_cn (rs := [.cell 4 157, .tmp 5]) (v := .agg (ptV pt0).toArray) (u := .int .i64 ((6 : Nat) : Int)) (vs := []) rfl ⟨⟨_, rfl, LoadsV.agg rfl⟩, rfl, trivial⟩ () rfl (Ent.sat (by first | exact Ent.refl _ | exact Ent.last | (repeat (first | refine Ent.cons ?_ | refine Ent.objX ?_ | exact Ent.any | exact Ent.last)))))
def HdOk (hd : HdT) (n : Nat) : Prop := 20 ≤ hd.size ∧ hd.size ≤ 60 ∧ hd.size ≤ hd.len ∧ hd.len ≤ n ∧ hd.len ≤ 1500 ∧ hd.src < 4294967296 ∧ hd.dst < 4294967296 ∧ hd.proto < 256
theorem HdOk.of {l : List UInt8} (h : headE false l = 0) : HdOk (headH l) l.length := by
  obtain ⟨h1, h2, h3, h4, h5, _⟩ := headE_ok h
  obtain ⟨h6, h7⟩ := h5 rfl
  exact ⟨h1, h2, h4, h7, h6, w4_lt l 12, w4_lt l 16, b1_lt l 9⟩
theorem bodyOf_eq (hd : HdT) (l : List UInt8) : bodyOf hd l = cutB l hd.size hd.len := rfl
set_option maxHeartbeats 1000000 in
theorem pGet_spec [s : Src W F p l.length (bytesR l)] [r : Room W F p l.length c] (hd : HdT) (h : HdOk hd l.length) : Spec Tryz.prog 105 [.agg (hdV hd).toArray, .slice p l.length c] W F (fun _ : Unit => resP (partT hd l) (partE hd l)) (fun _ => F) := by
  refine Spec.of Tryz.func105 rfl Tryz.ntmps105 rfl ?_
  obtain ⟨h1, h2, h3, h4, h5, h6, h7, h8⟩ := h
  have e0 : partE hd l = _ := rfl
  conv at e0 => rhs; unfold partE
  haveI sy := Src.cut s r h3 h4
  haveI ry := Room.cut (i := hd.size) r h4
  have ey := cutB_len l (i := hd.size) h4
  rw [bodyOf_eq] at e0
  have eP : partP hd l = _ := rfl
  conv at eP => rhs; unfold partP
  rw [bodyOf_eq] at eP
  obtain ⟨y, hy⟩ : ∃ y, cutB l hd.size hd.len = y := ⟨_, rfl⟩
  rw [hy] at sy ry ey e0 eP
  unfold partT
  by_cases g1 : hd.proto = 17
  · rw [if_pos g1] at e0 eP
    rw [e0, eP]
    repeat (first | refine go ?_ | (refine goX ?_; intro))
    rw [← ey]
    refine EL_call rfl (udp_spec (l := y) hd h6 h7 (by omega)) ?_
    intro _
    repeat (first | refine go ?_ | (refine goX ?_; intro))
    exact EK_ret (ER_cn (rs := [.cell 4 157, .tmp 5]) (v := .agg (ptV _).toArray) (u := .int .i64 (udpE hd.src hd.dst y : Int)) (vs := []) rfl ⟨⟨_, rfl, LoadsV.agg rfl⟩, rfl, trivial⟩ () rfl (Ent.sat (by first | exact Ent.refl _ | exact Ent.last | (repeat (first | refine Ent.cons ?_ | refine Ent.objX ?_ | exact Ent.any | exact Ent.last)))))
  rw [if_neg g1] at e0 eP
  by_cases g2 : hd.proto = 6
  · rw [if_pos g2] at e0 eP
    rw [e0, eP]
    repeat (first | refine go ?_ | (refine goX ?_; intro))
    rw [← ey]
    refine EL_call rfl (tcp_spec (l := y) hd h6 h7 (by omega)) ?_
    intro _
    repeat (first | refine go ?_ | (refine goX ?_; intro))
    exact EK_ret (ER_cn (rs := [.cell 4 157, .tmp 5]) (v := .agg (ptV _).toArray) (u := .int .i64 (tcpE hd.src hd.dst y : Int)) (vs := []) rfl ⟨⟨_, rfl, LoadsV.agg rfl⟩, rfl, trivial⟩ () rfl (Ent.sat (by first | exact Ent.refl _ | exact Ent.last | (repeat (first | refine Ent.cons ?_ | refine Ent.objX ?_ | exact Ent.any | exact Ent.last)))))
  rw [if_neg g2] at e0 eP
  by_cases g3 : hd.proto = 1
  · rw [if_pos g3] at e0
    rw [e0, eP]
    repeat (first | refine go ?_ | (refine goX ?_; intro))
    rw [← ey]
    refine EL_call rfl (icmp_spec (l := y) hd h2 (by omega)) ?_
    intro _
    repeat (first | refine go ?_ | (refine goX ?_; intro))
    exact EK_ret (ER_cn (rs := [.cell 4 157, .tmp 5]) (v := .agg (ptV _).toArray) (u := .int .i64 (icmpE y : Int)) (vs := []) rfl ⟨⟨_, rfl, LoadsV.agg rfl⟩, rfl, trivial⟩ () rfl (Ent.sat (by first | exact Ent.refl _ | exact Ent.last | (repeat (first | refine Ent.cons ?_ | refine Ent.objX ?_ | exact Ent.any | exact Ent.last)))))
  rw [if_neg g3] at e0
  rw [e0]
  repeat (first | refine go ?_ | (refine goX ?_; intro))
  exact EK_ret (ER_cn (rs := [.cell 4 157, .tmp 5]) (v := .agg (ptV pt0).toArray) (u := .int .i64 ((6 : Nat) : Int)) (vs := []) rfl ⟨⟨_, rfl, LoadsV.agg rfl⟩, rfl, trivial⟩ () rfl (Ent.sat (by first | exact Ent.refl _ | exact Ent.last | (repeat (first | refine Ent.cons ?_ | refine Ent.objX ?_ | exact Ent.any | exact Ent.last)))))
end
end Go.Proofs.YtianbkbehjppoaaGreatDoor

namespace Go.Proofs.YtianbkbehjppoaaGreatDoor
open Go.RowKit
set_option maxRecDepth 10000
attribute [local irreducible] EK EX ER EN EL ES EG OpVal OpDoes OpSkip
variable {W : World} {F : SL} {X : Cx} {k : List KI} {σ : Env}
theorem fl_all {f : Nat} (h : f < 256) : bits .and .i64 (f : Int) 4 = ((f / 4 % 2 * 4 : Nat) : Int) ∧ bits .and .i64 (f : Int) 1 = ((f % 2 : Nat) : Int) ∧ bits .and .i64 (f : Int) 2 = ((f / 2 % 2 * 2 : Nat) : Int) ∧ bits .and .i64 (f : Int) 16 = ((f / 16 % 2 * 16 : Nat) : Int) ∧
    bits .and .i64 (f : Int) 18 = ((f / 2 % 2 * 2 + f / 16 % 2 * 16 : Nat) : Int) ∧ bits .and .i64 (f : Int) 23 = ((f % 2 + f / 2 % 2 * 2 + f / 4 % 2 * 4 + f / 16 % 2 * 16 : Nat) : Int) := by
  have e : ∀ m : Nat, m < 256 → bits .and .i64 (f : Int) (m : Int) = ((f &&& m : Nat) : Int) := fun m hm => i64_and_nat f m (by omega) (by omega)
  have d : ∀ f : Fin 256, (f.val &&& 4 = f.val / 4 % 2 * 4) ∧ (f.val &&& 1 = f.val % 2) ∧ (f.val &&& 2 = f.val / 2 % 2 * 2) ∧ (f.val &&& 16 = f.val / 16 % 2 * 16) ∧ (f.val &&& 18 = f.val / 2 % 2 * 2 + f.val / 16 % 2 * 16) ∧ (f.val &&& 23 = f.val % 2 + f.val / 2 % 2 * 2 + f.val / 4 % 2 * 4 + f.val / 16 % 2 * 16) := by decide +kernel
  obtain ⟨d1, d2, d3, d4, d5, d6⟩ := d ⟨f, h⟩
  dsimp only at d1 d2 d3 d4 d5 d6
  have e4 := e 4 (by decide); have e1 := e 1 (by decide); have e2 := e 2 (by decide); have e16 := e 16 (by decide); have e18 := e 18 (by decide); have e23 := e 23 (by decide)
  rw [d1] at e4; rw [d2] at e1; rw [d3] at e2; rw [d4] at e16; rw [d5] at e18; rw [d6] at e23
  exact ⟨e4, e1, e2, e16, e18, e23⟩
theorem ended_spec (s : Nat) (out : Bool) (h : s ≤ 4) : Spec Tryz.prog 124 [.int .i64 (s : Int), .bool out] W F (fun _ : Unit => .int .i64 (endT s out : Int)) (fun _ => F) := by
  refine Spec.of Tryz.func124 rfl Tryz.ntmps124 rfl ?_
  have hc : s = 0 ∨ s = 1 ∨ s = 2 ∨ s = 3 ∨ s = 4 := by omega
  rcases hc with rfl | rfl | rfl | rfl | rfl <;> cases out
  all_goals
    repeat (first | refine go ?_ | (refine goX ?_; intro))
    exact EK_ret (ER_1 rfl rfl () rfl (Ent.sat (by first | exact Ent.refl _ | exact Ent.last | (repeat (first | refine Ent.cons ?_ | exact Ent.any | exact Ent.last)))))
theorem Next_spec (proto s flags : Nat) (out : Bool) (h : s ≤ 4) (hf : flags < 256) (hp : proto < 256) : Spec Tryz.prog 108 [.int .i64 (proto : Int), .int .i64 (s : Int), .bool out, .int .i64 (flags : Int)] W F (fun _ : Unit => .int .i64 (nextT proto s out flags : Int)) (fun _ => F) := by
  refine Spec.of Tryz.func108 rfl Tryz.ntmps108 rfl ?_
  obtain ⟨f4, f1, _, f16, f18, _⟩ := fl_all hf
  have e0 : nextT proto s out flags = _ := rfl
  conv at e0 => rhs; unfold nextT
  by_cases g1 : proto ≠ 6
  · rw [if_pos g1] at e0
    rw [e0]
    repeat (first | refine go ?_ | (refine goX ?_; intro))
    exact EK_ret (ER_1 rfl rfl () rfl (Ent.sat (by first | exact Ent.refl _ | exact Ent.last | (repeat (first | refine Ent.cons ?_ | exact Ent.any | exact Ent.last)))))
  rw [if_neg g1] at e0
  by_cases g2 : flags / 4 % 2 = 1
  · rw [if_pos g2] at e0
    rw [e0]
    repeat (first | refine go ?_ | (refine goX ?_; intro))
    exact EK_ret (ER_1 rfl rfl () rfl (Ent.sat (by first | exact Ent.refl _ | exact Ent.last | (repeat (first | refine Ent.cons ?_ | exact Ent.any | exact Ent.last)))))
  rw [if_neg g2] at e0
  by_cases g3 : flags % 2 = 1
  · rw [if_pos g3] at e0
    rw [e0]
    repeat (first | refine go ?_ | (refine goX ?_; intro))
    refine EL_call rfl (ended_spec s out h) ?_
    intro _
    repeat (first | refine go ?_ | (refine goX ?_; intro))
    exact EK_ret (ER_1 rfl rfl () rfl (Ent.sat (by first | exact Ent.refl _ | exact Ent.last | (repeat (first | refine Ent.cons ?_ | exact Ent.any | exact Ent.last)))))
  rw [if_neg g3] at e0
  by_cases g4 : flags / 2 % 2 = 1 ∧ flags / 16 % 2 = 0
  · cases out with
    | true =>
      by_cases g5 : s = 4
      · rw [if_pos ⟨g4, rfl, g5⟩] at e0
        rw [e0]
        repeat (first | refine go ?_ | (refine goX ?_; intro))
        exact EK_ret (ER_1 rfl rfl () rfl (Ent.sat (by first | exact Ent.refl _ | exact Ent.last | (repeat (first | refine Ent.cons ?_ | exact Ent.any | exact Ent.last)))))
      · rw [if_neg (fun g => g5 g.2.2), if_neg (fun g => by cases g.2.1)] at e0
        rw [e0]
        repeat (first | refine go ?_ | (refine goX ?_; intro))
        exact EK_ret (ER_1 rfl rfl () rfl (Ent.sat (by first | exact Ent.refl _ | exact Ent.last | (repeat (first | refine Ent.cons ?_ | exact Ent.any | exact Ent.last)))))
    | false =>
      rw [if_neg (fun g => by cases g.2.1), if_neg (by omega)] at e0
      rw [e0]
      repeat (first | refine go ?_ | (refine goX ?_; intro))
      exact EK_ret (ER_1 rfl rfl () rfl (Ent.sat (by first | exact Ent.refl _ | exact Ent.last | (repeat (first | refine Ent.cons ?_ | exact Ent.any | exact Ent.last)))))
  rw [if_neg (fun g => g4 g.1)] at e0
  by_cases g6 : flags / 16 % 2 = 1
  · cases out with
    | true =>
      rw [if_neg (fun g => by cases g.2.1)] at e0
      rw [e0]
      repeat (first | refine go ?_ | (refine goX ?_; intro))
      exact EK_ret (ER_1 rfl rfl () rfl (Ent.sat (by first | exact Ent.refl _ | exact Ent.last | (repeat (first | refine Ent.cons ?_ | exact Ent.any | exact Ent.last)))))
    | false =>
      by_cases g5 : s = 0
      · rw [if_pos ⟨g6, rfl, g5⟩] at e0
        rw [e0]
        repeat (first | refine go ?_ | (refine goX ?_; intro))
        exact EK_ret (ER_1 rfl rfl () rfl (Ent.sat (by first | exact Ent.refl _ | exact Ent.last | (repeat (first | refine Ent.cons ?_ | exact Ent.any | exact Ent.last)))))
      · rw [if_neg (fun g => g5 g.2.2)] at e0
        rw [e0]
        repeat (first | refine go ?_ | (refine goX ?_; intro))
        exact EK_ret (ER_1 rfl rfl () rfl (Ent.sat (by first | exact Ent.refl _ | exact Ent.last | (repeat (first | refine Ent.cons ?_ | exact Ent.any | exact Ent.last)))))
  rw [if_neg (fun g => g6 g.1)] at e0
  rw [e0]
  repeat (first | refine go ?_ | (refine goX ?_; intro))
  exact EK_ret (ER_1 rfl rfl () rfl (Ent.sat (by first | exact Ent.refl _ | exact Ent.last | (repeat (first | refine Ent.cons ?_ | exact Ent.any | exact Ent.last)))))
theorem Life_spec (proto s : Nat) (hp : proto < 256) (h : s ≤ 4) : Spec Tryz.prog 77 [.int .i64 (proto : Int), .int .i64 (s : Int)] W F (fun _ : Unit => .int .i64 (lifeT proto s : Int)) (fun _ => F) := by
  refine Spec.of Tryz.func77 rfl Tryz.ntmps77 rfl ?_
  unfold lifeT
  by_cases g1 : proto = 17
  · rw [if_pos g1]
    repeat (first | refine go ?_ | (refine goX ?_; intro))
    exact EK_ret (ER_1 rfl rfl () rfl (Ent.sat (by first | exact Ent.refl _ | exact Ent.last | (repeat (first | refine Ent.cons ?_ | exact Ent.any | exact Ent.last)))))
  rw [if_neg g1]
  by_cases g2 : proto = 1
  · rw [if_pos g2]
    repeat (first | refine go ?_ | (refine goX ?_; intro))
    exact EK_ret (ER_1 rfl rfl () rfl (Ent.sat (by first | exact Ent.refl _ | exact Ent.last | (repeat (first | refine Ent.cons ?_ | exact Ent.any | exact Ent.last)))))
  rw [if_neg g2]
  by_cases g3 : proto = 6
  · rw [if_pos g3]
    by_cases g4 : s = 1
    · rw [if_pos g4]
      repeat (first | refine go ?_ | (refine goX ?_; intro))
      exact EK_ret (ER_1 rfl rfl () rfl (Ent.sat (by first | exact Ent.refl _ | exact Ent.last | (repeat (first | refine Ent.cons ?_ | exact Ent.any | exact Ent.last)))))
    · rw [if_neg g4]
      repeat (first | refine go ?_ | (refine goX ?_; intro))
      exact EK_ret (ER_1 rfl rfl () rfl (Ent.sat (by first | exact Ent.refl _ | exact Ent.last | (repeat (first | refine Ent.cons ?_ | exact Ent.any | exact Ent.last)))))
  rw [if_neg g3]
  repeat (first | refine go ?_ | (refine goX ?_; intro))
  exact EK_ret (ER_1 rfl rfl () rfl (Ent.sat (by first | exact Ent.refl _ | exact Ent.last | (repeat (first | refine Ent.cons ?_ | exact Ent.any | exact Ent.last)))))
theorem Renews_spec (proto : Nat) (out : Bool) : Spec Tryz.prog 109 [.int .i64 (proto : Int), .bool out] W F (fun _ : Unit => .bool (renewsT proto out)) (fun _ => F) := by
  refine Spec.of Tryz.func109 rfl Tryz.ntmps109 rfl ?_
  by_cases g1 : proto = 6
  · rw [show renewsT proto out = true by simp [renewsT, g1]]
    repeat (first | refine go ?_ | (refine goX ?_; intro))
    exact EK_ret (ER_1 rfl rfl () rfl (Ent.sat (by first | exact Ent.refl _ | exact Ent.last | (repeat (first | refine Ent.cons ?_ | exact Ent.any | exact Ent.last)))))
  by_cases g2 : proto = 17
  · rw [show renewsT proto out = out by simp [renewsT, g2]]
    repeat (first | refine go ?_ | (refine goX ?_; intro))
    exact EK_ret (ER_1 rfl rfl () rfl (Ent.sat (by first | exact Ent.refl _ | exact Ent.last | (repeat (first | refine Ent.cons ?_ | exact Ent.any | exact Ent.last)))))
  by_cases g3 : proto = 1
  · rw [show renewsT proto out = out by simp [renewsT, g3]]
    repeat (first | refine go ?_ | (refine goX ?_; intro))
    exact EK_ret (ER_1 rfl rfl () rfl (Ent.sat (by first | exact Ent.refl _ | exact Ent.last | (repeat (first | refine Ent.cons ?_ | exact Ent.any | exact Ent.last)))))
  rw [show renewsT proto out = false by simp [renewsT, g1, g2, g3]]
  repeat (first | refine go ?_ | (refine goX ?_; intro))
  exact EK_ret (ER_1 rfl rfl () rfl (Ent.sat (by first | exact Ent.refl _ | exact Ent.last | (repeat (first | refine Ent.cons ?_ | exact Ent.any | exact Ent.last)))))
theorem beginsT_tcp (kind flags : Nat) : beginsT 6 kind flags = decide (flags / 2 % 2 = 1 ∧ flags % 2 = 0 ∧ flags / 4 % 2 = 0 ∧ flags / 16 % 2 = 0) := by
  unfold beginsT
  rw [Bool.eq_iff_iff]
  simp [and_assoc]
theorem Begins_spec (proto kind flags : Nat) (hf : flags < 256) : Spec Tryz.prog 123 [.int .i64 (proto : Int), .int .i64 (kind : Int), .int .i64 (flags : Int)] W F (fun _ : Unit => .bool (beginsT proto kind flags)) (fun _ => F) := by
  refine Spec.of Tryz.func123 rfl Tryz.ntmps123 rfl ?_
  obtain ⟨_, _, _, _, _, f23⟩ := fl_all hf
  by_cases g1 : proto = 17
  · rw [show beginsT proto kind flags = true by simp [beginsT, g1]]
    repeat (first | refine go ?_ | (refine goX ?_; intro))
    exact EK_ret (ER_1 rfl rfl () rfl (Ent.sat (by first | exact Ent.refl _ | exact Ent.last | (repeat (first | refine Ent.cons ?_ | exact Ent.any | exact Ent.last)))))
  by_cases g2 : proto = 6
  · subst g2
    rw [beginsT_tcp]
    by_cases g4 : flags / 2 % 2 = 1 ∧ flags % 2 = 0 ∧ flags / 4 % 2 = 0 ∧ flags / 16 % 2 = 0
    · rw [decide_eq_true g4]
      repeat (first | refine go ?_ | (refine goX ?_; intro))
      exact EK_ret (ER_1 rfl rfl () rfl (Ent.sat (by first | exact Ent.refl _ | exact Ent.last | (repeat (first | refine Ent.cons ?_ | exact Ent.any | exact Ent.last)))))
    · rw [decide_eq_false g4]
      repeat (first | refine go ?_ | (refine goX ?_; intro))
      exact EK_ret (ER_1 rfl rfl () rfl (Ent.sat (by first | exact Ent.refl _ | exact Ent.last | (repeat (first | refine Ent.cons ?_ | exact Ent.any | exact Ent.last)))))
  by_cases g3 : proto = 1
  · by_cases g5 : kind = 8
    · rw [show beginsT proto kind flags = true by simp [beginsT, g3, g5]]
      repeat (first | refine go ?_ | (refine goX ?_; intro))
      exact EK_ret (ER_1 rfl rfl () rfl (Ent.sat (by first | exact Ent.refl _ | exact Ent.last | (repeat (first | refine Ent.cons ?_ | exact Ent.any | exact Ent.last)))))
    · rw [show beginsT proto kind flags = false by simp [beginsT, g3, g5]]
      repeat (first | refine go ?_ | (refine goX ?_; intro))
      exact EK_ret (ER_1 rfl rfl () rfl (Ent.sat (by first | exact Ent.refl _ | exact Ent.last | (repeat (first | refine Ent.cons ?_ | exact Ent.any | exact Ent.last)))))
  rw [show beginsT proto kind flags = false by simp [beginsT, g1, g2, g3]]
  repeat (first | refine go ?_ | (refine goX ?_; intro))
  exact EK_ret (ER_1 rfl rfl () rfl (Ent.sat (by first | exact Ent.refl _ | exact Ent.last | (repeat (first | refine Ent.cons ?_ | exact Ent.any | exact Ent.last)))))
theorem hasT (flags : Nat) (bit : Int) (h : ¬ bits .and .i64 (flags : Int) bit = 0) : Spec Tryz.prog 63 [.int .i64 (flags : Int), .int .i64 bit] W F (fun _ : Unit => .bool true) (fun _ => F) := by
  refine Spec.of Tryz.func63 rfl Tryz.ntmps63 rfl ?_
  repeat (first | refine go ?_ | (refine goX ?_; intro))
  exact EK_ret (ER_1 rfl rfl () rfl (Ent.sat (by first | exact Ent.refl _ | exact Ent.last | (repeat (first | refine Ent.cons ?_ | exact Ent.any | exact Ent.last)))))
theorem hasF (flags : Nat) (bit : Int) (h : bits .and .i64 (flags : Int) bit = 0) : Spec Tryz.prog 63 [.int .i64 (flags : Int), .int .i64 bit] W F (fun _ : Unit => .bool false) (fun _ => F) := by
  refine Spec.of Tryz.func63 rfl Tryz.ntmps63 rfl ?_
  repeat (first | refine go ?_ | (refine goX ?_; intro))
  exact EK_ret (ER_1 rfl rfl () rfl (Ent.sat (by first | exact Ent.refl _ | exact Ent.last | (repeat (first | refine Ent.cons ?_ | exact Ent.any | exact Ent.last)))))
theorem rNext_spec (proto s flags : Nat) (out : Bool) (h : s ≤ 4) (hf : flags < 256) (hp : proto < 256) : Spec Tryz.prog 39 [.int .i64 (proto : Int), .int .i64 (s : Int), .bool out, .int .i64 (flags : Int)] W F (fun _ : Unit => .int .i64 (nextT proto s out flags : Int)) (fun _ => F) := by
  refine Spec.of Tryz.func39 rfl Tryz.ntmps39 rfl ?_
  obtain ⟨f4, f1, f2, f16, _, _⟩ := fl_all hf
  have e0 : nextT proto s out flags = _ := rfl
  conv at e0 => rhs; unfold nextT
  by_cases g1 : proto ≠ 6
  · rw [if_pos g1] at e0
    rw [e0]
    repeat (first | refine go ?_ | (refine goX ?_; intro))
    exact EK_ret (ER_1 rfl rfl () rfl (Ent.sat (by first | exact Ent.refl _ | exact Ent.last | (repeat (first | refine Ent.cons ?_ | exact Ent.any | exact Ent.last)))))
  rw [if_neg g1] at e0
  repeat (first | refine go ?_ | (refine goX ?_; intro))
  by_cases g2 : flags / 4 % 2 = 1
  · rw [if_pos g2] at e0
    rw [e0]
    refine EL_call rfl (hasT flags 4 (by omega)) ?_
    intro _
    repeat (first | refine go ?_ | (refine goX ?_; intro))
    exact EK_ret (ER_1 rfl rfl () rfl (Ent.sat (by first | exact Ent.refl _ | exact Ent.last | (repeat (first | refine Ent.cons ?_ | exact Ent.any | exact Ent.last)))))
  rw [if_neg g2] at e0
  refine EL_call rfl (hasF flags 4 (by omega)) ?_
  intro _
  repeat (first | refine go ?_ | (refine goX ?_; intro))
  by_cases g3 : flags % 2 = 1
  · rw [if_pos g3] at e0
    rw [e0]
    refine EL_call rfl (hasT flags 1 (by omega)) ?_
    intro _
    have hc : s = 0 ∨ s = 1 ∨ s = 2 ∨ s = 3 ∨ s = 4 := by omega
    rcases hc with rfl | rfl | rfl | rfl | rfl <;> cases out
    all_goals
      repeat (first | refine go ?_ | (refine goX ?_; intro))
      exact EK_ret (ER_1 rfl rfl () rfl (Ent.sat (by first | exact Ent.refl _ | exact Ent.last | (repeat (first | refine Ent.cons ?_ | exact Ent.any | exact Ent.last)))))
  rw [if_neg g3] at e0
  refine EL_call rfl (hasF flags 1 (by omega)) ?_
  intro _
  repeat (first | refine go ?_ | (refine goX ?_; intro))
  by_cases g4 : flags / 2 % 2 = 1
  · refine EL_call rfl (hasT flags 2 (by omega)) ?_
    intro _
    repeat (first | refine go ?_ | (refine goX ?_; intro))
    by_cases g6 : flags / 16 % 2 = 1
    · refine EL_call rfl (hasT flags 16 (by omega)) ?_
      intro _
      rw [if_neg (by omega)] at e0
      repeat (first | refine go ?_ | (refine goX ?_; intro))
      refine EL_call rfl (hasT flags 16 (by omega)) ?_
      intro _
      cases out with
      | true =>
        rw [if_neg (fun g => by cases g.2.1)] at e0
        rw [e0]
        repeat (first | refine go ?_ | (refine goX ?_; intro))
        exact EK_ret (ER_1 rfl rfl () rfl (Ent.sat (by first | exact Ent.refl _ | exact Ent.last | (repeat (first | refine Ent.cons ?_ | exact Ent.any | exact Ent.last)))))
      | false =>
        by_cases g5 : s = 0
        · rw [if_pos ⟨g6, rfl, g5⟩] at e0
          rw [e0]
          repeat (first | refine go ?_ | (refine goX ?_; intro))
          exact EK_ret (ER_1 rfl rfl () rfl (Ent.sat (by first | exact Ent.refl _ | exact Ent.last | (repeat (first | refine Ent.cons ?_ | exact Ent.any | exact Ent.last)))))
        · rw [if_neg (fun g => g5 g.2.2)] at e0
          rw [e0]
          repeat (first | refine go ?_ | (refine goX ?_; intro))
          exact EK_ret (ER_1 rfl rfl () rfl (Ent.sat (by first | exact Ent.refl _ | exact Ent.last | (repeat (first | refine Ent.cons ?_ | exact Ent.any | exact Ent.last)))))
    · refine EL_call rfl (hasF flags 16 (by omega)) ?_
      intro _
      cases out with
      | true =>
        by_cases g5 : s = 4
        · rw [if_pos ⟨⟨g4, by omega⟩, rfl, g5⟩] at e0
          rw [e0]
          repeat (first | refine go ?_ | (refine goX ?_; intro))
          exact EK_ret (ER_1 rfl rfl () rfl (Ent.sat (by first | exact Ent.refl _ | exact Ent.last | (repeat (first | refine Ent.cons ?_ | exact Ent.any | exact Ent.last)))))
        · rw [if_neg (fun g => g5 g.2.2), if_neg (fun g => by cases g.2.1)] at e0
          rw [e0]
          repeat (first | refine go ?_ | (refine goX ?_; intro))
          refine EL_call rfl (hasF flags 16 (by omega)) ?_
          intro _
          repeat (first | refine go ?_ | (refine goX ?_; intro))
          exact EK_ret (ER_1 rfl rfl () rfl (Ent.sat (by first | exact Ent.refl _ | exact Ent.last | (repeat (first | refine Ent.cons ?_ | exact Ent.any | exact Ent.last)))))
      | false =>
        rw [if_neg (fun g => by cases g.2.1), if_neg (by omega)] at e0
        rw [e0]
        repeat (first | refine go ?_ | (refine goX ?_; intro))
        refine EL_call rfl (hasF flags 16 (by omega)) ?_
        intro _
        repeat (first | refine go ?_ | (refine goX ?_; intro))
        exact EK_ret (ER_1 rfl rfl () rfl (Ent.sat (by first | exact Ent.refl _ | exact Ent.last | (repeat (first | refine Ent.cons ?_ | exact Ent.any | exact Ent.last)))))
  · refine EL_call rfl (hasF flags 2 (by omega)) ?_
    intro _
    rw [if_neg (by omega)] at e0
    repeat (first | refine go ?_ | (refine goX ?_; intro))
    by_cases g6 : flags / 16 % 2 = 1
    · refine EL_call rfl (hasT flags 16 (by omega)) ?_
      intro _
      cases out with
      | true =>
        rw [if_neg (fun g => by cases g.2.1)] at e0
        rw [e0]
        repeat (first | refine go ?_ | (refine goX ?_; intro))
        exact EK_ret (ER_1 rfl rfl () rfl (Ent.sat (by first | exact Ent.refl _ | exact Ent.last | (repeat (first | refine Ent.cons ?_ | exact Ent.any | exact Ent.last)))))
      | false =>
        by_cases g5 : s = 0
        · rw [if_pos ⟨g6, rfl, g5⟩] at e0
          rw [e0]
          repeat (first | refine go ?_ | (refine goX ?_; intro))
          exact EK_ret (ER_1 rfl rfl () rfl (Ent.sat (by first | exact Ent.refl _ | exact Ent.last | (repeat (first | refine Ent.cons ?_ | exact Ent.any | exact Ent.last)))))
        · rw [if_neg (fun g => g5 g.2.2)] at e0
          rw [e0]
          repeat (first | refine go ?_ | (refine goX ?_; intro))
          exact EK_ret (ER_1 rfl rfl () rfl (Ent.sat (by first | exact Ent.refl _ | exact Ent.last | (repeat (first | refine Ent.cons ?_ | exact Ent.any | exact Ent.last)))))
    · refine EL_call rfl (hasF flags 16 (by omega)) ?_
      intro _
      rw [if_neg (by omega)] at e0
      rw [e0]
      repeat (first | refine go ?_ | (refine goX ?_; intro))
      exact EK_ret (ER_1 rfl rfl () rfl (Ent.sat (by first | exact Ent.refl _ | exact Ent.last | (repeat (first | refine Ent.cons ?_ | exact Ent.any | exact Ent.last)))))
theorem rLife_spec (proto s : Nat) (hp : proto < 256) (h : s ≤ 4) : Spec Tryz.prog 46 [.int .i64 (proto : Int), .int .i64 (s : Int)] W F (fun _ : Unit => .int .i64 (lifeT proto s : Int)) (fun _ => F) := by
  refine Spec.of Tryz.func46 rfl Tryz.ntmps46 rfl ?_
  unfold lifeT
  by_cases g1 : proto = 17
  · rw [if_pos g1]
    repeat (first | refine go ?_ | (refine goX ?_; intro))
    exact EK_ret (ER_1 rfl rfl () rfl (Ent.sat (by first | exact Ent.refl _ | exact Ent.last | (repeat (first | refine Ent.cons ?_ | exact Ent.any | exact Ent.last)))))
  rw [if_neg g1]
  by_cases g2 : proto = 1
  · rw [if_pos g2]
    repeat (first | refine go ?_ | (refine goX ?_; intro))
    exact EK_ret (ER_1 rfl rfl () rfl (Ent.sat (by first | exact Ent.refl _ | exact Ent.last | (repeat (first | refine Ent.cons ?_ | exact Ent.any | exact Ent.last)))))
  rw [if_neg g2]
  by_cases g3 : proto = 6
  · rw [if_pos g3]
    by_cases g4 : s = 1
    · rw [if_pos g4]
      repeat (first | refine go ?_ | (refine goX ?_; intro))
      exact EK_ret (ER_1 rfl rfl () rfl (Ent.sat (by first | exact Ent.refl _ | exact Ent.last | (repeat (first | refine Ent.cons ?_ | exact Ent.any | exact Ent.last)))))
    · rw [if_neg g4]
      repeat (first | refine go ?_ | (refine goX ?_; intro))
      exact EK_ret (ER_1 rfl rfl () rfl (Ent.sat (by first | exact Ent.refl _ | exact Ent.last | (repeat (first | refine Ent.cons ?_ | exact Ent.any | exact Ent.last)))))
  rw [if_neg g3]
  repeat (first | refine go ?_ | (refine goX ?_; intro))
  exact EK_ret (ER_1 rfl rfl () rfl (Ent.sat (by first | exact Ent.refl _ | exact Ent.last | (repeat (first | refine Ent.cons ?_ | exact Ent.any | exact Ent.last)))))
theorem rRenews_spec (proto : Nat) (out : Bool) : Spec Tryz.prog 40 [.int .i64 (proto : Int), .bool out] W F (fun _ : Unit => .bool (renewsT proto out)) (fun _ => F) := by
  refine Spec.of Tryz.func40 rfl Tryz.ntmps40 rfl ?_
  by_cases g1 : proto = 6
  · rw [show renewsT proto out = true by simp [renewsT, g1]]
    repeat (first | refine go ?_ | (refine goX ?_; intro))
    exact EK_ret (ER_1 rfl rfl () rfl (Ent.sat (by first | exact Ent.refl _ | exact Ent.last | (repeat (first | refine Ent.cons ?_ | exact Ent.any | exact Ent.last)))))
  by_cases g2 : proto = 17
  · rw [show renewsT proto out = out by simp [renewsT, g2]]
    cases out
    all_goals
      repeat (first | refine go ?_ | (refine goX ?_; intro))
      exact EK_ret (ER_1 rfl rfl () rfl (Ent.sat (by first | exact Ent.refl _ | exact Ent.last | (repeat (first | refine Ent.cons ?_ | exact Ent.any | exact Ent.last)))))
  by_cases g3 : proto = 1
  · rw [show renewsT proto out = out by simp [renewsT, g3]]
    cases out
    all_goals
      repeat (first | refine go ?_ | (refine goX ?_; intro))
      exact EK_ret (ER_1 rfl rfl () rfl (Ent.sat (by first | exact Ent.refl _ | exact Ent.last | (repeat (first | refine Ent.cons ?_ | exact Ent.any | exact Ent.last)))))
  rw [show renewsT proto out = false by simp [renewsT, g1, g2, g3]]
  cases out
  all_goals
    repeat (first | refine go ?_ | (refine goX ?_; intro))
    exact EK_ret (ER_1 rfl rfl () rfl (Ent.sat (by first | exact Ent.refl _ | exact Ent.last | (repeat (first | refine Ent.cons ?_ | exact Ent.any | exact Ent.last)))))
theorem rBegins_spec (proto kind flags : Nat) (hf : flags < 256) : Spec Tryz.prog 68 [.int .i64 (proto : Int), .int .i64 (kind : Int), .int .i64 (flags : Int)] W F (fun _ : Unit => .bool (beginsT proto kind flags)) (fun _ => F) := by
  refine Spec.of Tryz.func68 rfl Tryz.ntmps68 rfl ?_
  obtain ⟨f4, f1, f2, f16, _, _⟩ := fl_all hf
  by_cases g1 : proto = 17
  · rw [show beginsT proto kind flags = true by simp [beginsT, g1]]
    repeat (first | refine go ?_ | (refine goX ?_; intro))
    exact EK_ret (ER_1 rfl rfl () rfl (Ent.sat (by first | exact Ent.refl _ | exact Ent.last | (repeat (first | refine Ent.cons ?_ | exact Ent.any | exact Ent.last)))))
  by_cases g2 : proto = 6
  · subst g2
    rw [beginsT_tcp]
    repeat (first | refine go ?_ | (refine goX ?_; intro))
    by_cases a : flags / 2 % 2 = 1
    · refine EL_call rfl (hasT flags 2 (by omega)) ?_
      intro _
      repeat (first | refine go ?_ | (refine goX ?_; intro))
      by_cases b : flags % 2 = 1
      · rw [decide_eq_false (by omega)]
        refine EL_call rfl (hasT flags 1 (by omega)) ?_
        intro _
        repeat (first | refine go ?_ | (refine goX ?_; intro))
        exact EK_ret (ER_1 rfl rfl () rfl (Ent.sat (by first | exact Ent.refl _ | exact Ent.last | (repeat (first | refine Ent.cons ?_ | exact Ent.any | exact Ent.last)))))
      · refine EL_call rfl (hasF flags 1 (by omega)) ?_
        intro _
        repeat (first | refine go ?_ | (refine goX ?_; intro))
        by_cases c : flags / 4 % 2 = 1
        · rw [decide_eq_false (by omega)]
          refine EL_call rfl (hasT flags 4 (by omega)) ?_
          intro _
          repeat (first | refine go ?_ | (refine goX ?_; intro))
          exact EK_ret (ER_1 rfl rfl () rfl (Ent.sat (by first | exact Ent.refl _ | exact Ent.last | (repeat (first | refine Ent.cons ?_ | exact Ent.any | exact Ent.last)))))
        · refine EL_call rfl (hasF flags 4 (by omega)) ?_
          intro _
          repeat (first | refine go ?_ | (refine goX ?_; intro))
          by_cases d : flags / 16 % 2 = 1
          · rw [decide_eq_false (by omega)]
            refine EL_call rfl (hasT flags 16 (by omega)) ?_
            intro _
            repeat (first | refine go ?_ | (refine goX ?_; intro))
            exact EK_ret (ER_1 rfl rfl () rfl (Ent.sat (by first | exact Ent.refl _ | exact Ent.last | (repeat (first | refine Ent.cons ?_ | exact Ent.any | exact Ent.last)))))
          · rw [decide_eq_true (by omega)]
            refine EL_call rfl (hasF flags 16 (by omega)) ?_
            intro _
            repeat (first | refine go ?_ | (refine goX ?_; intro))
            exact EK_ret (ER_1 rfl rfl () rfl (Ent.sat (by first | exact Ent.refl _ | exact Ent.last | (repeat (first | refine Ent.cons ?_ | exact Ent.any | exact Ent.last)))))
    · rw [decide_eq_false (by omega)]
      refine EL_call rfl (hasF flags 2 (by omega)) ?_
      intro _
      repeat (first | refine go ?_ | (refine goX ?_; intro))
      exact EK_ret (ER_1 rfl rfl () rfl (Ent.sat (by first | exact Ent.refl _ | exact Ent.last | (repeat (first | refine Ent.cons ?_ | exact Ent.any | exact Ent.last)))))
  by_cases g3 : proto = 1
  · by_cases g5 : kind = 8
    · rw [show beginsT proto kind flags = true by simp [beginsT, g3, g5]]
      repeat (first | refine go ?_ | (refine goX ?_; intro))
      exact EK_ret (ER_1 rfl rfl () rfl (Ent.sat (by first | exact Ent.refl _ | exact Ent.last | (repeat (first | refine Ent.cons ?_ | exact Ent.any | exact Ent.last)))))
    · rw [show beginsT proto kind flags = false by simp [beginsT, g3, g5]]
      repeat (first | refine go ?_ | (refine goX ?_; intro))
      exact EK_ret (ER_1 rfl rfl () rfl (Ent.sat (by first | exact Ent.refl _ | exact Ent.last | (repeat (first | refine Ent.cons ?_ | exact Ent.any | exact Ent.last)))))
  rw [show beginsT proto kind flags = false by simp [beginsT, g1, g2, g3]]
  repeat (first | refine go ?_ | (refine goX ?_; intro))
  exact EK_ret (ER_1 rfl rfl () rfl (Ent.sat (by first | exact Ent.refl _ | exact Ent.last | (repeat (first | refine Ent.cons ?_ | exact Ent.any | exact Ent.last)))))
end Go.Proofs.YtianbkbehjppoaaGreatDoor

namespace Go.Proofs.YtianbkbehjppoaaGreatDoor
open Go.RowKit
set_option maxRecDepth 10000
attribute [local irreducible] EK EX ER EN EL ES EG OpVal OpDoes OpSkip
variable {W : World} {F : SL} {X : Cx} {k : List KI} {σ : Env}
abbrev flV (f : FlowT) : List Value := [.int .i64 (f.proto : Int), .int .u32 (f.addr : Int), .int .u16 (f.port : Int)]
abbrev bdV (b : BindT) : List Value := [.int .i64 (b.flow.proto : Int), .int .u32 (b.flow.addr : Int), .int .u16 (b.flow.port : Int), .int .i64 (b.port : Int), .int .i64 (b.track : Int), .int .i64 (b.seen : Int)]
abbrev resR (h : HdT) (p : PtT) (e : Nat) : Value := .tuple #[.agg (hdV h).toArray, .agg (ptV p).toArray, .int .i64 (e : Int)]
abbrev resW (f : FlowT) (e : Nat) : Value := .tuple #[.agg (flV f).toArray, .int .i64 (e : Int)]
section
variable {p : Option Addr} {c : Nat} {l : List UInt8}
def rdH (l : List UInt8) : HdT := if readE l = 0 then headH l else hd0
def rdP (l : List UInt8) : PtT := if readE l = 0 then frP l else pt0
theorem read_spec (hl : l.length ≤ 140737488355328) [s : Src W F p l.length (bytesR l)] [r : Room W F p l.length c] : Spec Tryz.prog 79 [.slice p l.length c] W F (fun _ : Unit => resR (rdH l) (rdP l) (readE l)) (fun _ => F) := by
  refine Spec.of Tryz.func79 rfl Tryz.ntmps79 rfl ?_
  repeat (first | refine go ?_ | (refine goX ?_; intro))
  refine EL_call rfl (hGet_spec hl) ?_
  intro _
  by_cases g1 : headE false l = 0
  · have g0 := HdOk.of g1
    have eR : readE l = partE (headH l) l := if_pos g1
    rw [headT_of g1, g1, if_pos rfl]
    repeat (first | refine go ?_ | (refine goX ?_; intro))
    refine EL_call rfl (pGet_spec (headH l) g0) ?_
    intro _
    by_cases g2 : partE (headH l) l = 0
    · have eR0 : readE l = 0 := by rw [eR, g2]
      rw [show partT (headH l) l = frP l from if_pos g2, g2, show rdH l = headH l from if_pos eR0, show rdP l = frP l from if_pos eR0, eR0]
      obtain ⟨hd, f0⟩ : ∃ x, headH l = x := ⟨_, rfl⟩
      obtain ⟨x, f1⟩ : ∃ x, frP l = x := ⟨_, rfl⟩
      rw [f0, f1]
      repeat (first | refine go ?_ | (refine goX ?_; intro))
      rename_i x2 x3 _ x5 _ x7
      refine EK_sink 3 (Obj x5 155 (hdV hd) * (Obj x7 157 (ptV x) * 1)) rfl rfl rfl ?_
      repeat (first | refine goQ ?_ | refine EG_done (by decide +kernel) ?_)
      repeat (first | refine goG ?_ | (refine goGX ?_; intro) | refine goGL ?_ | refine goGS ?_ | refine goGV ?_ | refine EG_done (by decide +kernel) ?_)
      repeat (first | refine go ?_ | (refine goX ?_; intro))
      exact EK_ret (ER_cn (rs := [.cell 2 155, .cell 3 157, .tmp 4]) (v := .agg (hdV hd).toArray) (u := .agg (ptV x).toArray) (vs := [.int .i64 ((0 : Nat) : Int)]) rfl ⟨⟨_, rfl, LoadsV.agg rfl⟩, ⟨_, rfl, LoadsV.agg rfl⟩, rfl, trivial⟩ () rfl (Ent.sat (by first | exact Ent.refl _ | exact Ent.last | (repeat (first | refine Ent.cons ?_ | refine Ent.objX ?_ | refine Ent.rowX ?_ | exact Ent.any | exact Ent.last)))))
    · have eR0 : ¬ readE l = 0 := by rw [eR]; exact g2
      rw [show partT (headH l) l = pt0 from if_neg g2, show rdH l = hd0 from if_neg eR0, show rdP l = pt0 from if_neg eR0, eR]
      repeat (first | refine go ?_ | (refine goX ?_; intro))
      exact EK_ret (ER_cn (rs := [.cell 2 155, .cell 3 157, .tmp 4]) (v := .agg (hdV hd0).toArray) (u := .agg (ptV pt0).toArray) (vs := [.int .i64 (partE (headH l) l : Int)]) rfl ⟨⟨_, rfl, LoadsV.agg rfl⟩, ⟨_, rfl, LoadsV.agg rfl⟩, rfl, trivial⟩ () rfl (Ent.sat (by first | exact Ent.refl _ | exact Ent.last | (repeat (first | refine Ent.cons ?_ | refine Ent.objX ?_ | refine Ent.rowX ?_ | exact Ent.any | exact Ent.last)))))
  · have eR : readE l = headE false l := if_neg g1
    have eR0 : ¬ readE l = 0 := by rw [eR]; exact g1
    rw [headT_of (rfl : headE false l = _), if_neg g1, show rdH l = hd0 from if_neg eR0, show rdP l = pt0 from if_neg eR0, eR]
    repeat (first | refine go ?_ | (refine goX ?_; intro))
    exact EK_ret (ER_cn (rs := [.cell 2 155, .cell 3 157, .tmp 4]) (v := .agg (hdV hd0).toArray) (u := .agg (ptV pt0).toArray) (vs := [.int .i64 (headE false l : Int)]) rfl ⟨⟨_, rfl, LoadsV.agg rfl⟩, ⟨_, rfl, LoadsV.agg rfl⟩, rfl, trivial⟩ () rfl (Ent.sat (by first | exact Ent.refl _ | exact Ent.last | (repeat (first | refine Ent.cons ?_ | refine Ent.objX ?_ | refine Ent.rowX ?_ | exact Ent.any | exact Ent.last)))))
theorem inside_spec (h : HdT) (x : PtT) : Spec Tryz.prog 102 [.agg (hdV h).toArray, .agg (ptV x).toArray] W F (fun _ : Unit => .agg (flV (inF h x)).toArray) (fun _ => F) := by
  refine Spec.of Tryz.func102 rfl Tryz.ntmps102 rfl ?_
  obtain ⟨xp, xs, xd, xf, xk, xc, xe, xi, xo, xb⟩ := x
  cases xe with
  | true =>
    repeat (first | refine go ?_ | (refine goX ?_; intro))
    exact EK_ret (ER_c1 (rv := .cell 4 126) rfl ⟨_, rfl, LoadsV.agg rfl⟩ () rfl (Ent.sat (by first | exact Ent.refl _ | exact Ent.last | (repeat (first | refine Ent.cons ?_ | refine Ent.objX ?_ | refine Ent.rowX ?_ | exact Ent.any | exact Ent.last)))))
  | false =>
    repeat (first | refine go ?_ | (refine goX ?_; intro))
    exact EK_ret (ER_c1 (rv := .cell 4 126) rfl ⟨_, rfl, LoadsV.agg rfl⟩ () rfl (Ent.sat (by first | exact Ent.refl _ | exact Ent.last | (repeat (first | refine Ent.cons ?_ | refine Ent.objX ?_ | refine Ent.rowX ?_ | exact Ent.any | exact Ent.last)))))
theorem outside_spec (h : HdT) (x : PtT) : Spec Tryz.prog 103 [.agg (hdV h).toArray, .agg (ptV x).toArray] W F (fun _ : Unit => .agg (flV (outF h x)).toArray) (fun _ => F) := by
  refine Spec.of Tryz.func103 rfl Tryz.ntmps103 rfl ?_
  obtain ⟨xp, xs, xd, xf, xk, xc, xe, xi, xo, xb⟩ := x
  cases xe with
  | true =>
    repeat (first | refine go ?_ | (refine goX ?_; intro))
    exact EK_ret (ER_c1 (rv := .cell 4 126) rfl ⟨_, rfl, LoadsV.agg rfl⟩ () rfl (Ent.sat (by first | exact Ent.refl _ | exact Ent.last | (repeat (first | refine Ent.cons ?_ | refine Ent.objX ?_ | refine Ent.rowX ?_ | exact Ent.any | exact Ent.last)))))
  | false =>
    repeat (first | refine go ?_ | (refine goX ?_; intro))
    exact EK_ret (ER_c1 (rv := .cell 4 126) rfl ⟨_, rfl, LoadsV.agg rfl⟩ () rfl (Ent.sat (by first | exact Ent.refl _ | exact Ent.last | (repeat (first | refine Ent.cons ?_ | refine Ent.objX ?_ | refine Ent.rowX ?_ | exact Ent.any | exact Ent.last)))))
theorem whoE_err {o : Nat} {out : Bool} {l : List UInt8} {e : Nat} (h : whoE o out l = e) (h0 : e ≠ 0) : resW (whoT o out l) (whoE o out l) = resW fl0 e := by
  unfold whoT
  rw [h, if_neg h0]
theorem whoE_ok {o : Nat} {out : Bool} {l : List UInt8} (h : whoE o out l = 0) : resW (whoT o out l) (whoE o out l) = resW (whoF out l) 0 := by
  unfold whoT
  rw [h, if_pos rfl]
theorem Whose_spec (hl : l.length ≤ 140737488355328) [s : Src W F p l.length (bytesR l)] [r : Room W F p l.length c] (cf : Cfg) (ho : 0 ≤ cf.o) (out : Bool) : Spec Tryz.prog 78 [.agg cf.cells.toArray, .bool out, .slice p l.length c] W F (fun _ : Unit => resW (whoT cf.o.toNat out l) (whoE cf.o.toNat out l)) (fun _ => F) := by
  refine Spec.of Tryz.func78 rfl Tryz.ntmps78 rfl ?_
  have e0 : whoE cf.o.toNat out l = _ := rfl
  conv at e0 => rhs; unfold whoE
  repeat (first | refine go ?_ | (refine goX ?_; intro))
  refine EL_call rfl (read_spec hl) ?_
  intro _
  by_cases g1 : ¬ (readE l = 0)
  · rw [if_pos g1] at e0
    rw [whoE_err e0 g1, show rdH l = hd0 from if_neg g1, show rdP l = pt0 from if_neg g1]
    repeat (first | refine go ?_ | (refine goX ?_; intro))
    exact EK_ret (ER_cn (rs := [.cell 6 126, .tmp 7]) (v := .agg (flV fl0).toArray) (u := .int .i64 (readE l : Int)) (vs := []) rfl ⟨⟨_, rfl, LoadsV.agg rfl⟩, rfl, trivial⟩ () rfl (Ent.sat (by first | exact Ent.refl _ | exact Ent.last | (repeat (first | refine Ent.cons ?_ | refine Ent.objX ?_ | refine Ent.rowX ?_ | exact Ent.any | exact Ent.last)))))
  have g1 := Decidable.not_not.1 g1
  rw [if_neg (by omega)] at e0
  rw [show rdH l = headH l from if_pos g1, show rdP l = frP l from if_pos g1, g1]
  cases out with
  | true =>
    rw [if_neg (fun g => by cases g.1)] at e0
    rw [whoE_ok e0]
    repeat (first | refine go ?_ | (refine goX ?_; intro))
    refine EL_call rfl (inside_spec (headH l) (frP l)) ?_
    intro _
    repeat (first | refine go ?_ | (refine goX ?_; intro))
    exact EK_ret (ER_cn (rs := [.cell 6 126, .tmp 7]) (v := .agg (flV (whoF true l)).toArray) (u := .int .i64 ((0 : Nat) : Int)) (vs := []) rfl ⟨⟨_, rfl, LoadsV.agg rfl⟩, rfl, trivial⟩ () rfl (Ent.sat (by first | exact Ent.refl _ | exact Ent.last | (repeat (first | refine Ent.cons ?_ | refine Ent.objX ?_ | refine Ent.rowX ?_ | exact Ent.any | exact Ent.last)))))
  | false =>
    have eW : outF (headH l) (frP l) = whoF false l := rfl
    repeat (first | refine go ?_ | (refine goX ?_; intro))
    refine EL_call rfl (outside_spec (headH l) (frP l)) ?_
    intro _
    rw [eW]
    by_cases g2 : (headH l).dst = cf.o.toNat
    · by_cases g3 : (whoF false l).addr = cf.o.toNat
      · rw [if_neg (fun g => g.2.elim (fun g => g g2) (fun g => g g3))] at e0
        rw [whoE_ok e0]
        repeat (first | refine go ?_ | (refine goX ?_; intro))
        exact EK_ret (ER_cn (rs := [.cell 6 126, .tmp 7]) (v := .agg (flV (whoF false l)).toArray) (u := .int .i64 ((0 : Nat) : Int)) (vs := []) rfl ⟨⟨_, rfl, LoadsV.agg rfl⟩, rfl, trivial⟩ () rfl (Ent.sat (by first | exact Ent.refl _ | exact Ent.last | (repeat (first | refine Ent.cons ?_ | refine Ent.objX ?_ | refine Ent.rowX ?_ | exact Ent.any | exact Ent.last)))))
      · rw [if_pos ⟨rfl, Or.inr g3⟩] at e0
        rw [whoE_err e0 (by decide)]
        repeat (first | refine go ?_ | (refine goX ?_; intro))
        exact EK_ret (ER_cn (rs := [.cell 6 126, .tmp 7]) (v := .agg (flV fl0).toArray) (u := .int .i64 ((7 : Nat) : Int)) (vs := []) rfl ⟨⟨_, rfl, LoadsV.agg rfl⟩, rfl, trivial⟩ () rfl (Ent.sat (by first | exact Ent.refl _ | exact Ent.last | (repeat (first | refine Ent.cons ?_ | refine Ent.objX ?_ | refine Ent.rowX ?_ | exact Ent.any | exact Ent.last)))))
    · rw [if_pos ⟨rfl, Or.inl g2⟩] at e0
      rw [whoE_err e0 (by decide)]
      repeat (first | refine go ?_ | (refine goX ?_; intro))
      exact EK_ret (ER_cn (rs := [.cell 6 126, .tmp 7]) (v := .agg (flV fl0).toArray) (u := .int .i64 ((7 : Nat) : Int)) (vs := []) rfl ⟨⟨_, rfl, LoadsV.agg rfl⟩, rfl, trivial⟩ () rfl (Ent.sat (by first | exact Ent.refl _ | exact Ent.last | (repeat (first | refine Ent.cons ?_ | refine Ent.objX ?_ | refine Ent.rowX ?_ | exact Ent.any | exact Ent.last)))))
theorem begF_split (out : Bool) (l : List UInt8) : begF out l = (out && (decide (readE l = 0) && (!(frP l).err && beginsT (frP l).proto (frP l).kind (frP l).flags))) := by
  unfold begF
  rw [Bool.and_assoc, Bool.and_assoc]
theorem Begins_model (hl : l.length ≤ 140737488355328) [s : Src W F p l.length (bytesR l)] [r : Room W F p l.length c] (out : Bool) : Spec Tryz.prog 107 [.bool out, .slice p l.length c] W F (fun _ : Unit => .bool (begF out l)) (fun _ => F) := by
  refine Spec.of Tryz.func107 rfl Tryz.ntmps107 rfl ?_
  have rg := PtRng.of (headH l) l
  rw [begF_split]
  repeat (first | refine go ?_ | (refine goX ?_; intro))
  refine EL_call rfl (read_spec hl) ?_
  intro _
  cases out with
  | false =>
    repeat (first | refine go ?_ | (refine goX ?_; intro))
    exact EK_ret (ER_1 rfl rfl () rfl (Ent.sat (by first | exact Ent.refl _ | exact Ent.last | (repeat (first | refine Ent.cons ?_ | refine Ent.objX ?_ | refine Ent.rowX ?_ | exact Ent.any | exact Ent.last)))))
  | true =>
    by_cases g1 : ¬ (readE l = 0)
    · rw [decide_eq_false g1]
      repeat (first | refine go ?_ | (refine goX ?_; intro))
      exact EK_ret (ER_1 rfl rfl () rfl (Ent.sat (by first | exact Ent.refl _ | exact Ent.last | (repeat (first | refine Ent.cons ?_ | refine Ent.objX ?_ | refine Ent.rowX ?_ | exact Ent.any | exact Ent.last)))))
    have g1 := Decidable.not_not.1 g1
    rw [decide_eq_true g1, show rdH l = headH l from if_pos g1, show rdP l = frP l from if_pos g1, g1]
    change PtRng (frP l) at rg
    obtain ⟨x, f1⟩ : ∃ x, frP l = x := ⟨_, rfl⟩
    rw [f1] at rg ⊢
    have rf := rg.flags
    obtain ⟨xp, xs, xd, xf, xk, xc, xe, xi, xo, xb⟩ := x
    cases xe with
    | true =>
      repeat (first | refine go ?_ | (refine goX ?_; intro))
      exact EK_ret (ER_1 rfl rfl () rfl (Ent.sat (by first | exact Ent.refl _ | exact Ent.last | (repeat (first | refine Ent.cons ?_ | refine Ent.objX ?_ | refine Ent.rowX ?_ | exact Ent.any | exact Ent.last)))))
    | false =>
      repeat (first | refine go ?_ | (refine goX ?_; intro))
      refine EL_call rfl (Begins_spec xp xk xf rf) ?_
      intro _
      repeat (first | refine go ?_ | (refine goX ?_; intro))
      exact EK_ret (ER_1 rfl rfl () rfl (Ent.sat (by first | exact Ent.refl _ | exact Ent.last | (repeat (first | refine Ent.cons ?_ | refine Ent.objX ?_ | refine Ent.rowX ?_ | exact Ent.any | exact Ent.last)))))
end
end Go.Proofs.YtianbkbehjppoaaGreatDoor

namespace Go.Proofs.YtianbkbehjppoaaGreatDoor
open Go.RowKit
theorem fm_get {α : Type} (k : Nat) (f : α → List Value) (hf : ∀ a, (f a).length = k) (d : α) : ∀ (l : List α) (i j : Nat) (_ : i < l.length), j < k → (l.flatMap f)[i * k + j]? = (f (l.getD i d))[j]?
  | [], _, _, hi, _ => by simp at hi
  | a :: l, 0, j, _, hj => by
    rw [List.flatMap_cons, Nat.zero_mul, Nat.zero_add, List.getElem?_append_left (by rw [hf]; exact hj)]; rfl
  | a :: l, i + 1, j, hi, hj => by
    have h1 : (i + 1) * k + j = k + (i * k + j) := by rw [Nat.succ_mul]; omega
    rw [List.flatMap_cons, h1, List.getElem?_append_right (by rw [hf]; omega), hf, Nat.add_sub_cancel_left, fm_get k f hf d l i j (by simpa using hi) hj]
    rfl
theorem fm_len {α : Type} (k : Nat) (f : α → List Value) (hf : ∀ a, (f a).length = k) : ∀ l : List α, (l.flatMap f).length = l.length * k
  | [] => by simp
  | a :: l => by rw [List.flatMap_cons, List.length_append, hf, fm_len k f hf l, List.length_cons, Nat.succ_mul]; omega
theorem fm_take {α : Type} (k : Nat) (f : α → List Value) (hf : ∀ a, (f a).length = k) : ∀ (l : List α) (m : Nat), (l.flatMap f).take (m * k) = (l.take m).flatMap f
  | [], m => by simp
  | a :: l, 0 => by simp
  | a :: l, m + 1 => by
    rw [List.take_succ_cons, List.flatMap_cons, List.flatMap_cons, Nat.succ_mul, Nat.add_comm, ← hf a, List.take_length_add_append, hf a, fm_take k f hf l m]
theorem fm_drop {α : Type} (k : Nat) (f : α → List Value) (hf : ∀ a, (f a).length = k) : ∀ (l : List α) (m : Nat), (l.flatMap f).drop (m * k) = (l.drop m).flatMap f
  | [], m => by simp
  | a :: l, 0 => by simp
  | a :: l, m + 1 => by
    rw [List.drop_succ_cons, List.flatMap_cons, Nat.succ_mul, Nat.add_comm, ← hf a, List.drop_length_add_append, hf a, fm_drop k f hf l m]
theorem fm_set {α : Type} (k : Nat) (f : α → List Value) (hf : ∀ a, (f a).length = k) (l : List α) (i : Nat) (a : α) (hi : i < l.length) : (l.set i a).flatMap f = (l.flatMap f).take (i * k) ++ f a ++ (l.flatMap f).drop (i * k + k) := by
  rw [fm_take k f hf, show i * k + k = (i + 1) * k by rw [Nat.succ_mul], fm_drop k f hf, List.set_eq_take_append_cons_drop, if_pos hi, List.flatMap_append, List.flatMap_cons, List.append_assoc]
abbrev bd0 : BindT := ⟨fl0, 0, 0, 0⟩
def bdR (l : List BindT) : List Value := l.flatMap bdV
theorem bdR_get {l : List BindT} {i j : Nat} (hi : i < l.length) (hj : j < 6) : (bdR l)[i * 6 + j]? = (bdV (l.getD i bd0))[j]? := fm_get 6 bdV (fun _ => rfl) bd0 l i j hi hj
theorem bdR_snoc (l : List BindT) (b : BindT) : bdR (l ++ [b]) = bdR l ++ bdV b := by simp [bdR]
theorem bdR_len (l : List BindT) : (bdR l).length = l.length * 6 := fm_len 6 bdV (fun _ => rfl) l
instance RowGet.bdF0 (l : List BindT) (i : Nat) : RowGet (bdR l) i 6 0 (.int .i64 ((l.getD i bd0).flow.proto : Int)) (i < l.length) := ⟨fun h => by rw [bdR_get h (by decide)]; rfl⟩
instance RowGet.bdF1 (l : List BindT) (i : Nat) : RowGet (bdR l) i 6 1 (.int .u32 ((l.getD i bd0).flow.addr : Int)) (i < l.length) := ⟨fun h => by rw [bdR_get h (by decide)]; rfl⟩
instance RowGet.bdF2 (l : List BindT) (i : Nat) : RowGet (bdR l) i 6 2 (.int .u16 ((l.getD i bd0).flow.port : Int)) (i < l.length) := ⟨fun h => by rw [bdR_get h (by decide)]; rfl⟩
instance RowGet.bdF3 (l : List BindT) (i : Nat) : RowGet (bdR l) i 6 3 (.int .i64 ((l.getD i bd0).port : Int)) (i < l.length) := ⟨fun h => by rw [bdR_get h (by decide)]; rfl⟩
instance RowGet.bdF4 (l : List BindT) (i : Nat) : RowGet (bdR l) i 6 4 (.int .i64 ((l.getD i bd0).track : Int)) (i < l.length) := ⟨fun h => by rw [bdR_get h (by decide)]; rfl⟩
instance RowGet.bdF5 (l : List BindT) (i : Nat) : RowGet (bdR l) i 6 5 (.int .i64 ((l.getD i bd0).seen : Int)) (i < l.length) := ⟨fun h => by rw [bdR_get h (by decide)]; rfl⟩
instance RowGet.bdG0 (l : List BindT) (i : Nat) : RowGet (bdR l) i 6 (0 + 0) (.int .i64 ((l.getD i bd0).flow.proto : Int)) (i < l.length) := ⟨fun h => by rw [Nat.zero_add, bdR_get h (by decide)]; rfl⟩
instance RowGet.bdG1 (l : List BindT) (i : Nat) : RowGet (bdR l) i 6 (0 + 1) (.int .u32 ((l.getD i bd0).flow.addr : Int)) (i < l.length) := ⟨fun h => by rw [Nat.zero_add, bdR_get h (by decide)]; rfl⟩
instance RowGet.bdG2 (l : List BindT) (i : Nat) : RowGet (bdR l) i 6 (0 + 2) (.int .u16 ((l.getD i bd0).flow.port : Int)) (i < l.length) := ⟨fun h => by rw [Nat.zero_add, bdR_get h (by decide)]; rfl⟩
instance RowAll.bd (l : List BindT) (i : Nat) : RowAll (bdR l) i 6 (bdV (l.getD i bd0)) (i < l.length) := ⟨fun h => ⟨rfl, fun j v hv => by
  have hj : j < 6 := (List.getElem?_eq_some_iff.1 hv).1
  rw [bdR_get h hj]; exact hv⟩⟩
instance RowSet.bd (l : List BindT) (i : Nat) (b : BindT) : RowSet (bdR l) i 6 0 (bdV b) (bdR (l.set i b)) (i < l.length) := ⟨fun h => by
  refine ⟨?_, fm_set 6 bdV (fun _ => rfl) l i b h⟩
  rw [bdR_len]
  show i * 6 + 0 + 6 ≤ _
  omega⟩
instance Ones.bd (l : List BindT) : Ones (bdR l) := ⟨by
  unfold Go.Proofs.YtianbkbehjppoaaGreatDoor.ones bdR
  simp only [List.all_flatMap]
  rw [List.all_eq_true]
  intro c _
  rfl⟩
instance RLen.bd (l : List BindT) : RLen (bdR l) (l.length * 6) := ⟨bdR_len l⟩
end Go.Proofs.YtianbkbehjppoaaGreatDoor

namespace Go.Proofs.YtianbkbehjppoaaGreatDoor
open Go.RowKit
structure EvT where
  b : Int
  e : Int
  ends : Bool
  call : CallT
  frame : List UInt8
  err : Int
  proto : Int
  port : Int
def ev0 : EvT := ⟨0, 0, false, ⟨false, [], 0, 0⟩, [], 0, 0, 0⟩
structure EvT.Ok (x : EvT) : Prop where
  b : I64 x.b
  e : I64 x.e
  tick : I64 x.call.tick
  port' : I64 x.call.port
  frame' : x.call.frame.length ≤ 140737488355328
  frame : x.frame.length ≤ 140737488355328
  err : I64 x.err
  proto : I64 x.proto
  port : I64 x.port
def rightE (x : EvT) : Bool := !(decide (x.b < 1) || (decide (x.e ≤ x.b) && (!decide (x.e = -1) || x.ends)))
def rightT (l : List EvT) : Bool := l.all rightE
def aheadT (a b : EvT) : Bool := !decide (a.e = -1) && decide (a.e < b.b)
def doesT (c : Cfg) (L : List BindT) (x : EvT) : List BindT × Bool :=
  if x.ends then expT L x.proto x.port x.call.tick else ((stepT c L x.call).L, decide (x.e = -1) || (decide (((stepT c L x.call).err : Int) = x.err) && decide ((stepT c L x.call).frame = x.frame)))
abbrev evE (x : EvT) (f g : Slab) : List Value := [.int .i64 x.b, .int .i64 x.e, .bool x.ends, .bool x.call.out, .slice f.1 x.call.frame.length f.2, .int .i64 x.call.tick, .int .i64 x.call.port, .slice g.1 x.frame.length g.2, .int .i64 x.err, .int .i64 x.proto, .int .i64 x.port]
def evR (l : List EvT) (s : Nat → Slab × Slab) : List Value := (List.range l.length).flatMap fun i => evE (l.getD i ev0) (s i).1 (s i).2
theorem evR_len (l : List EvT) (s : Nat → Slab × Slab) : (evR l s).length = l.length * 11 := by
  unfold evR
  rw [fm_len 11 _ (fun _ => rfl), List.length_range]
theorem evR_get {l : List EvT} {s : Nat → Slab × Slab} {i j : Nat} (hi : i < l.length) (hj : j < 11) : (evR l s)[i * 11 + j]? = (evE (l.getD i ev0) (s i).1 (s i).2)[j]? := by
  unfold evR
  have h : (List.range l.length).getD i 0 = i := by simp [List.getD_eq_getElem?_getD, hi]
  rw [fm_get 11 (fun i => evE (l.getD i ev0) (s i).1 (s i).2) (fun _ => rfl) 0 (List.range l.length) i j (by simpa using hi) hj, h]
theorem evR_congr {l : List EvT} {s t : Nat → Slab × Slab} (h : ∀ i, i < l.length → s i = t i) : evR l s = evR l t := by
  unfold evR
  have : ∀ (m : List Nat), (∀ i ∈ m, i < l.length) → m.flatMap (fun i => evE (l.getD i ev0) (s i).1 (s i).2) = m.flatMap (fun i => evE (l.getD i ev0) (t i).1 (t i).2) := by
    intro m
    induction m with
    | nil => intro _; rfl
    | cons a m ih =>
      intro hm
      rw [List.flatMap_cons, List.flatMap_cons, ih fun i hi => hm i (List.mem_cons_of_mem _ hi), h a (hm a List.mem_cons_self)]
  exact this _ fun i hi => List.mem_range.1 hi
theorem evR_snoc (l : List EvT) (s : Nat → Slab × Slab) (x : EvT) (f g : Slab) (h : s l.length = (f, g)) : evR (l ++ [x]) s = evR l s ++ evE x f g := by
  unfold evR
  rw [List.length_append, List.length_singleton, List.range_succ, List.flatMap_append]
  congr 1
  · have : ∀ (m : List Nat), (∀ i ∈ m, i < l.length) → m.flatMap (fun i => evE ((l ++ [x]).getD i ev0) (s i).1 (s i).2) = m.flatMap (fun i => evE (l.getD i ev0) (s i).1 (s i).2) := by
      intro m
      induction m with
      | nil => intro _; rfl
      | cons a m ih =>
        intro hm
        have ha := hm a List.mem_cons_self
        rw [List.flatMap_cons, List.flatMap_cons, ih fun i hi => hm i (List.mem_cons_of_mem _ hi)]
        simp [List.getD_eq_getElem?_getD, List.getElem?_append_left ha]
    exact this _ fun i hi => List.mem_range.1 hi
  · simp [List.getD_eq_getElem?_getD, h]
theorem evR_take (l : List EvT) (s : Nat → Slab × Slab) (m : Nat) : (evR l s).take (m * 11) = evR (l.take m) s := by
  unfold evR
  rw [fm_take 11 _ (fun _ => rfl), List.length_take]
  have h1 : (List.range l.length).take m = List.range (min m l.length) := by
    rw [List.take_range]
  rw [h1]
  have : ∀ (k : List Nat), (∀ i ∈ k, i < m) → k.flatMap (fun i => evE (l.getD i ev0) (s i).1 (s i).2) = k.flatMap (fun i => evE ((l.take m).getD i ev0) (s i).1 (s i).2) := by
    intro k
    induction k with
    | nil => intro _; rfl
    | cons a k ih =>
      intro hm
      have ha := hm a List.mem_cons_self
      rw [List.flatMap_cons, List.flatMap_cons, ih fun i hi => hm i (List.mem_cons_of_mem _ hi)]
      simp [List.getD_eq_getElem?_getD, List.getElem?_take, ha]
  exact this _ fun i hi => by have := List.mem_range.1 hi; omega
instance RowGet.evC0 (l : List EvT) (s : Nat → Slab × Slab) (i : Nat) : RowGet (evR l s) i 11 0 (.int .i64 (l.getD i ev0).b) (i < l.length) := ⟨fun h => by first | (rw [evR_get h (by decide)]; rfl) | (show (evR l s)[i * 11 + 0]? = _; rw [evR_get h (by decide)]; rfl)⟩
instance RowGet.evC1 (l : List EvT) (s : Nat → Slab × Slab) (i : Nat) : RowGet (evR l s) i 11 1 (.int .i64 (l.getD i ev0).e) (i < l.length) := ⟨fun h => by first | (rw [evR_get h (by decide)]; rfl) | (show (evR l s)[i * 11 + 1]? = _; rw [evR_get h (by decide)]; rfl)⟩
instance RowGet.evC2 (l : List EvT) (s : Nat → Slab × Slab) (i : Nat) : RowGet (evR l s) i 11 2 (.bool (l.getD i ev0).ends) (i < l.length) := ⟨fun h => by first | (rw [evR_get h (by decide)]; rfl) | (show (evR l s)[i * 11 + 2]? = _; rw [evR_get h (by decide)]; rfl)⟩
instance RowGet.evC3 (l : List EvT) (s : Nat → Slab × Slab) (i : Nat) : RowGet (evR l s) i 11 3 (.bool (l.getD i ev0).call.out) (i < l.length) := ⟨fun h => by first | (rw [evR_get h (by decide)]; rfl) | (show (evR l s)[i * 11 + 3]? = _; rw [evR_get h (by decide)]; rfl)⟩
instance RowGet.evC4 (l : List EvT) (s : Nat → Slab × Slab) (i : Nat) : RowGet (evR l s) i 11 4 (.slice (s i).1.1 (l.getD i ev0).call.frame.length (s i).1.2) (i < l.length) := ⟨fun h => by first | (rw [evR_get h (by decide)]; rfl) | (show (evR l s)[i * 11 + 4]? = _; rw [evR_get h (by decide)]; rfl)⟩
instance RowGet.evC5 (l : List EvT) (s : Nat → Slab × Slab) (i : Nat) : RowGet (evR l s) i 11 5 (.int .i64 (l.getD i ev0).call.tick) (i < l.length) := ⟨fun h => by first | (rw [evR_get h (by decide)]; rfl) | (show (evR l s)[i * 11 + 5]? = _; rw [evR_get h (by decide)]; rfl)⟩
instance RowGet.evC6 (l : List EvT) (s : Nat → Slab × Slab) (i : Nat) : RowGet (evR l s) i 11 6 (.int .i64 (l.getD i ev0).call.port) (i < l.length) := ⟨fun h => by first | (rw [evR_get h (by decide)]; rfl) | (show (evR l s)[i * 11 + 6]? = _; rw [evR_get h (by decide)]; rfl)⟩
instance RowGet.evC7 (l : List EvT) (s : Nat → Slab × Slab) (i : Nat) : RowGet (evR l s) i 11 7 (.slice (s i).2.1 (l.getD i ev0).frame.length (s i).2.2) (i < l.length) := ⟨fun h => by first | (rw [evR_get h (by decide)]; rfl) | (show (evR l s)[i * 11 + 7]? = _; rw [evR_get h (by decide)]; rfl)⟩
instance RowGet.evC8 (l : List EvT) (s : Nat → Slab × Slab) (i : Nat) : RowGet (evR l s) i 11 8 (.int .i64 (l.getD i ev0).err) (i < l.length) := ⟨fun h => by first | (rw [evR_get h (by decide)]; rfl) | (show (evR l s)[i * 11 + 8]? = _; rw [evR_get h (by decide)]; rfl)⟩
instance RowGet.evC9 (l : List EvT) (s : Nat → Slab × Slab) (i : Nat) : RowGet (evR l s) i 11 9 (.int .i64 (l.getD i ev0).proto) (i < l.length) := ⟨fun h => by first | (rw [evR_get h (by decide)]; rfl) | (show (evR l s)[i * 11 + 9]? = _; rw [evR_get h (by decide)]; rfl)⟩
instance RowGet.evC10 (l : List EvT) (s : Nat → Slab × Slab) (i : Nat) : RowGet (evR l s) i 11 10 (.int .i64 (l.getD i ev0).port) (i < l.length) := ⟨fun h => by first | (rw [evR_get h (by decide)]; rfl) | (show (evR l s)[i * 11 + 10]? = _; rw [evR_get h (by decide)]; rfl)⟩
instance RowGet.evN30 (l : List EvT) (s : Nat → Slab × Slab) (i : Nat) : RowGet (evR l s) i 11 (3 + 0) (.bool (l.getD i ev0).call.out) (i < l.length) := ⟨fun h => by first | (rw [evR_get h (by decide)]; rfl) | (show (evR l s)[i * 11 + 3]? = _; rw [evR_get h (by decide)]; rfl)⟩
instance RowGet.evN31 (l : List EvT) (s : Nat → Slab × Slab) (i : Nat) : RowGet (evR l s) i 11 (3 + 1) (.slice (s i).1.1 (l.getD i ev0).call.frame.length (s i).1.2) (i < l.length) := ⟨fun h => by first | (rw [evR_get h (by decide)]; rfl) | (show (evR l s)[i * 11 + 4]? = _; rw [evR_get h (by decide)]; rfl)⟩
instance RowGet.evN32 (l : List EvT) (s : Nat → Slab × Slab) (i : Nat) : RowGet (evR l s) i 11 (3 + 2) (.int .i64 (l.getD i ev0).call.tick) (i < l.length) := ⟨fun h => by first | (rw [evR_get h (by decide)]; rfl) | (show (evR l s)[i * 11 + 5]? = _; rw [evR_get h (by decide)]; rfl)⟩
instance RowGet.evN33 (l : List EvT) (s : Nat → Slab × Slab) (i : Nat) : RowGet (evR l s) i 11 (3 + 3) (.int .i64 (l.getD i ev0).call.port) (i < l.length) := ⟨fun h => by first | (rw [evR_get h (by decide)]; rfl) | (show (evR l s)[i * 11 + 6]? = _; rw [evR_get h (by decide)]; rfl)⟩
instance RowGet.evN70 (l : List EvT) (s : Nat → Slab × Slab) (i : Nat) : RowGet (evR l s) i 11 (7 + 0) (.slice (s i).2.1 (l.getD i ev0).frame.length (s i).2.2) (i < l.length) := ⟨fun h => by first | (rw [evR_get h (by decide)]; rfl) | (show (evR l s)[i * 11 + 7]? = _; rw [evR_get h (by decide)]; rfl)⟩
instance RowGet.evN71 (l : List EvT) (s : Nat → Slab × Slab) (i : Nat) : RowGet (evR l s) i 11 (7 + 1) (.int .i64 (l.getD i ev0).err) (i < l.length) := ⟨fun h => by first | (rw [evR_get h (by decide)]; rfl) | (show (evR l s)[i * 11 + 8]? = _; rw [evR_get h (by decide)]; rfl)⟩
instance RowAll.ev (l : List EvT) (s : Nat → Slab × Slab) (i : Nat) : RowAll (evR l s) i 11 (evE (l.getD i ev0) (s i).1 (s i).2) (i < l.length) := ⟨fun h => ⟨rfl, fun j v hv => by
  have hj : j < 11 := (List.getElem?_eq_some_iff.1 hv).1
  rw [evR_get h hj]; exact hv⟩⟩
instance Ones.ev (l : List EvT) (s : Nat → Slab × Slab) : Ones (evR l s) := ⟨by
  unfold Go.Proofs.YtianbkbehjppoaaGreatDoor.ones evR
  simp only [List.all_flatMap]
  rw [List.all_eq_true]
  intro c _
  rfl⟩
instance RLen.ev (l : List EvT) (s : Nat → Slab × Slab) : RLen (evR l s) (l.length * 11) := ⟨evR_len l s⟩
/-- It isn't nil. -/
class PN (p : Option Addr) : Prop where nn : p ≠ none
instance (priority := 700) NN.pn (H : SL) (q p : Option Addr) (i z j : Nat) [r : RLoc q p i z j] [h : PN p] : NN H q := ⟨fun _ _ _ e => by
  rw [r.eq] at e
  have := h.nn
  cases p <;> simp_all [off]⟩
structure EvMem (W : World) (F : SL) (p : Option Addr) (l : List EvT) (s : Nat → Slab × Slab) : Prop where
  row : Src W F p l.length (evR l s)
  nn : 0 < l.length → p ≠ none
  f1 : ∀ i, i < l.length → Src W F (s i).1.1 (l.getD i ev0).call.frame.length (bytesR (l.getD i ev0).call.frame)
  r1 : ∀ i, i < l.length → Room W F (s i).1.1 (l.getD i ev0).call.frame.length (s i).1.2
  f2 : ∀ i, i < l.length → Src W F (s i).2.1 (l.getD i ev0).frame.length (bytesR (l.getD i ev0).frame)
  r2 : ∀ i, i < l.length → Room W F (s i).2.1 (l.getD i ev0).frame.length (s i).2.2
theorem EvMem.on {W : World} {F Q : SL} {p : Option Addr} {l : List EvT} {s : Nat → Slab × Slab} (m : EvMem W F p l s) : EvMem W (Q * F) p l s :=
  ⟨@Src.there W Q F _ _ _ m.row, m.nn, fun i hi => @Src.there W Q F _ _ _ (m.f1 i hi), fun i hi => @Room.there W Q F _ _ _ (m.r1 i hi), fun i hi => @Src.there W Q F _ _ _ (m.f2 i hi), fun i hi => @Room.there W Q F _ _ _ (m.r2 i hi)⟩
end Go.Proofs.YtianbkbehjppoaaGreatDoor

namespace Go.Proofs.YtianbkbehjppoaaGreatDoor
open Go.ChangeShapes Go.WideShapes Go.ChangeAt Go.RowKit Go.Deep
def evLs : List Leaf := [.i64, .i64, .bool, .bool, .bytes, .i64, .i64, .bytes, .i64, .i64, .i64]
def cfLs : List Leaf := [.i64, .u32, .i64, .i64, .i64, .i64]
structure EvFit (W : World) (x : EvT) (g1 g2 : Slab) : Prop where
  ok : x.Ok
  r1 : Ro W g1.1 x.call.frame.length (bytesR x.call.frame)
  c1 : x.call.frame.length ≤ g1.2
  r2 : Ro W g2.1 x.frame.length (bytesR x.frame)
  c2 : x.frame.length ≤ g2.2
theorem LeavesAt.cut {W : World} {l : Leaf} {ls : List Leaf} {vs : List Value} (h : LeavesAt W (l :: ls) vs) : ∃ v vs', vs = v :: vs' ∧ l.At W v ∧ LeavesAt W ls vs' := by
  obtain ⟨hl, ha⟩ := h
  match vs, hl with
  | v :: vs', hl =>
    refine ⟨v, vs', rfl, ?_, by simpa using hl, fun i l' hi => ?_⟩
    · obtain ⟨u, h1, h2⟩ := ha 0 l rfl
      cases h1
      exact h2
    · obtain ⟨u, h1, h2⟩ := ha (i + 1) l' hi
      exact ⟨u, h1, h2⟩
theorem LeavesAt.done {W : World} {vs : List Value} (h : LeavesAt W [] vs) : vs = [] := List.length_eq_zero_iff.1 h.1
theorem ev_of {W : World} {v : List Value} (h : LeavesAt W evLs v) : ∃ (x : EvT) (g1 g2 : Slab), v = evE x g1 g2 ∧ EvFit W x g1 g2 := by
  obtain ⟨_, _, rfl, ⟨z0, rfl, a0, b0⟩, h_0⟩ := h.cut
  obtain ⟨_, _, rfl, ⟨z1, rfl, a1, b1⟩, h_1⟩ := h_0.cut
  obtain ⟨_, _, rfl, ⟨z2, rfl⟩, h_2⟩ := h_1.cut
  obtain ⟨_, _, rfl, ⟨z3, rfl⟩, h_3⟩ := h_2.cut
  obtain ⟨_, _, rfl, ⟨p4, l4, c4, rfl, r4, k4, m4⟩, h_4⟩ := h_3.cut
  obtain ⟨_, _, rfl, ⟨z5, rfl, a5, b5⟩, h_5⟩ := h_4.cut
  obtain ⟨_, _, rfl, ⟨z6, rfl, a6, b6⟩, h_6⟩ := h_5.cut
  obtain ⟨_, _, rfl, ⟨p7, l7, c7, rfl, r7, k7, m7⟩, h_7⟩ := h_6.cut
  obtain ⟨_, _, rfl, ⟨z8, rfl, a8, b8⟩, h_8⟩ := h_7.cut
  obtain ⟨_, _, rfl, ⟨z9, rfl, a9, b9⟩, h_9⟩ := h_8.cut
  obtain ⟨_, _, rfl, ⟨z10, rfl, a10, b10⟩, h_10⟩ := h_9.cut
  cases h_10.done
  exact ⟨⟨z0, z1, z2, ⟨z3, l4, z5, z6⟩, l7, z8, z9, z10⟩, (p4, c4), (p7, c7), rfl,
    ⟨⟨⟨a0, b0⟩, ⟨a1, b1⟩, ⟨a5, b5⟩, ⟨a6, b6⟩, Nat.le_trans k4 m4, Nat.le_trans k7 m7, ⟨a8, b8⟩, ⟨a9, b9⟩, ⟨a10, b10⟩⟩, r4, k4, r7, k7⟩⟩
theorem evs_of {W : World} {p : Option Addr} {n : Nat} {f : Nat → List Value} (h : ∀ i, i < n → LeavesAt W evLs (f i)) (ro : Ro W p n ((List.range n).flatMap f)) :
    ∃ (l : List EvT) (s : Nat → Slab × Slab), l.length = n ∧ (∀ x ∈ l, x.Ok) ∧ ∀ F, EvMem W F p l s := by
  have each : ∀ i, i < n → ∃ y : EvT × Slab × Slab, f i = evE y.1 y.2.1 y.2.2 ∧ EvFit W y.1 y.2.1 y.2.2 := fun i hi => by
    obtain ⟨x, g1, g2, h1, h2⟩ := ev_of (h i hi)
    exact ⟨(x, g1, g2), h1, h2⟩
  haveI : Inhabited (EvT × Slab × Slab) := ⟨(ev0, (none, 0), (none, 0))⟩
  obtain ⟨y, hy⟩ := Deep.choose_lt each
  have hlen : ((List.range n).map fun i => (y i).1).length = n := by simp
  have hget : ∀ i, i < n → ((List.range n).map fun i => (y i).1).getD i ev0 = (y i).1 := fun i hi => by
    rw [List.getD_eq_getElem?_getD, List.getElem?_map, List.getElem?_range hi]
    rfl
  have hrow : evR ((List.range n).map fun i => (y i).1) (fun i => (y i).2) = (List.range n).flatMap f := by
    unfold evR
    rw [hlen]
    have : ∀ (m : List Nat), (∀ i ∈ m, i < n) → m.flatMap (fun i => evE (((List.range n).map fun i => (y i).1).getD i ev0) (y i).2.1 (y i).2.2) = m.flatMap f := by
      intro m
      induction m with
      | nil => intro _; rfl
      | cons a m ih =>
        intro hm
        have ha := hm a List.mem_cons_self
        rw [List.flatMap_cons, List.flatMap_cons, ih fun i hi => hm i (List.mem_cons_of_mem _ hi), hget a ha, (hy a ha).1]
    exact this _ fun i hi => List.mem_range.1 hi
  refine ⟨(List.range n).map fun i => (y i).1, fun i => (y i).2, hlen, fun x hx => ?_, fun F => ?_⟩
  · obtain ⟨i, hi, rfl⟩ := List.mem_map.1 hx
    exact (hy i (List.mem_range.1 hi)).2.ok
  · haveI : Ro W p ((List.range n).map fun i => (y i).1).length (evR ((List.range n).map fun i => (y i).1) (fun i => (y i).2)) := by rw [hlen, hrow]; exact ro
    refine ⟨inferInstance, fun h0 => ro.nn (by rwa [hlen] at h0), fun i hi => ?_, fun i hi => ?_, fun i hi => ?_, fun i hi => ?_⟩
    all_goals
      rw [hlen] at hi
      rw [hget i hi]
      have g := (hy i hi).2
    · haveI := g.r1
      infer_instance
    · exact ⟨fun _ _ => g.c1⟩
    · haveI := g.r2
      infer_instance
    · exact ⟨fun _ _ => g.c2⟩
section
variable {H : Type} {enc : TypeId × Value → H} {P : Program} {W : World} {base : Nat} {held : Bool}
theorem hist_ro {t e : TypeId} {fuel : Nat} {fs : Array Field} {f0 f1 : Field} {cs : List Value} {x : DataW H × List MemPlace} (ht : P.underlying t = some (.struct fs)) (h0 : fs[0]? = some f0) (h1 : fs[1]? = some f1) (o0 : f0.offset = 0) (o1 : f1.offset = 6)
    (k0 : leavesOf P 5 f0.type = some cfLs) (c0 : P.cellsOf f0.type = 6) (c1 : P.cellsOf f1.type = 1) (u1 : P.underlying f1.type = some (.slice e)) (ke : leavesOf P 5 e = some evLs) (ce : P.cellsOf e = 11) (hC : P.cellsOf t = 7) (be : Nat.blt 0 (P.bytesOf e) = true) (hw : Few P t x.1)
    (h : DataW.trod enc P W base (fun _ => true) held fuel t cs = some x) : ∃ (cf : Cfg) (p : Option Addr) (c : Nat) (l : List EvT) (s : Nat → Slab × Slab), cs = [.int .i64 cf.w, .int .u32 cf.o, .int .i64 cf.lo, .int .i64 cf.hi, .int .i64 cf.b, .int .i64 cf.r, .slice p l.length c] ∧ cf.Fit ∧ l.length ≤ c ∧ c ≤ 140737488355328 ∧ (∀ x ∈ l, x.Ok) ∧ ∀ F, EvMem W F p l s := by
  obtain ⟨ys, n', _, hxe, hl, hy, hf⟩ := DataW.trod_struct ht h
  rw [hxe] at hw
  have s1 : 1 < fs.size := (Array.getElem?_eq_some_iff.1 h1).1
  have t0 := hf 0 f0 h0
  have t1 := hf 1 f1 h1
  rw [List.getElem?_eq_getElem (by omega)] at t0 t1
  rw [o0, c0] at t0
  rw [o1, c1] at t1
  have w0 := hw.field ht h0 (by rw [List.getElem?_map, List.getElem?_eq_getElem (by omega)]; rfl)
  have w1 := hw.field ht h1 (by rw [List.getElem?_map, List.getElem?_eq_getElem (by omega)]; rfl)
  have l0 := leaves_ok _ _ _ _ _ _ k0 t0 w0
  obtain ⟨p, n, c, f, e1, hle, hm, hL, hro⟩ := rows_ro u1 ke ce rfl (by decide) (Nat.le_of_ble_eq_true be) w1 t1
  rw [hC] at hl
  match cs, hl with
  | [x0, x1, x2, x3, x4, x5, x6], _ =>
    obtain ⟨_, _, q0, ⟨z0, rfl, a0, b0⟩, l0_0⟩ := l0.cut
    obtain ⟨_, _, rfl, ⟨z1, rfl, b1⟩, l0_1⟩ := l0_0.cut
    obtain ⟨_, _, rfl, ⟨z2, rfl, a2, b2⟩, l0_2⟩ := l0_1.cut
    obtain ⟨_, _, rfl, ⟨z3, rfl, a3, b3⟩, l0_3⟩ := l0_2.cut
    obtain ⟨_, _, rfl, ⟨z4, rfl, a4, b4⟩, l0_4⟩ := l0_3.cut
    obtain ⟨_, _, rfl, ⟨z5, rfl, a5, b5⟩, l0_5⟩ := l0_4.cut
    cases l0_5.done
    simp only [List.drop_zero, List.take_succ_cons, List.take_zero, List.cons.injEq, and_true] at q0
    obtain ⟨rfl, rfl, rfl, rfl, rfl, rfl⟩ := q0
    simp only [List.drop_succ_cons, List.drop_zero, List.take_succ_cons, List.take_zero, List.cons.injEq, and_true] at e1
    subst e1
    obtain ⟨l, s, hn, hok, hmem⟩ := evs_of hL hro
    subst hn
    refine ⟨⟨z0, (z1 : Int), z2, z3, z4, z5⟩, p, c, l, s, rfl, ?_, hle, hm, hok, hmem⟩
    constructor <;> first | exact ⟨a0, b0⟩ | exact ⟨a2, b2⟩ | exact ⟨a3, b3⟩ | exact ⟨a4, b4⟩ | exact ⟨a5, b5⟩ | (dsimp only; omega)
theorem ints_roC {t e : TypeId} {fuel : Nat} {v : Value} {x : DataW H × List MemPlace} (ht : P.underlying t = some (.slice e)) (he : P.underlying e = some (.int .i64)) (hc : P.cellsOf e = 1)
    (h : DataW.trod enc P W base (fun _ => true) held fuel t [v] = some x) : ∃ (p : Option Addr) (cap : Nat) (xs : List Int), v = .slice p xs.length cap ∧ xs.length ≤ cap ∧ Ro W p xs.length (intsR .i64 xs) ∧ ∀ z ∈ xs, -9223372036854775808 ≤ z ∧ z ≤ 9223372036854775807 := by
  rcases open_ints ht he hc h with ⟨h0, _⟩ | ⟨a, len, cap, zs, h0, _, hl, hm, hz, _, hcell, hwf⟩
  · simp only [List.cons.injEq, and_true] at h0
    exact ⟨none, 0, [], h0, by simp, ⟨fun i v hv => by simp [intsR] at hv, fun h => by simp at h⟩, fun z hz => by simp at hz⟩
  · simp only [List.cons.injEq, and_true] at h0
    simp only [if_true] at hz
    have hlen : (zs.take len).length = len := by rw [List.length_take]; omega
    refine ⟨some a, cap, zs.take len, by rw [hlen]; exact h0, by rw [hlen]; exact hl, ⟨fun i v hv => ?_, fun _ => by simp⟩, fun z hz => wfK (hwf z (List.mem_of_mem_take hz))⟩
    unfold intsR at hv
    rw [List.getElem?_map, List.getElem?_take] at hv
    split at hv
    · rename_i hi
      have hlt : i < zs.length := by omega
      rw [List.getElem?_eq_getElem hlt] at hv
      simp only [Option.map_some, Option.some.injEq] at hv
      subst hv
      have := hcell i hlt
      rw [List.getD_eq_getElem?_getD, List.getElem?_eq_getElem hlt] at this
      exact ⟨a.add i, rfl, World.block_lt_of_cell? _ _ this, this⟩
    · simp at hv
end
end Go.Proofs.YtianbkbehjppoaaGreatDoor

namespace Go.Proofs.YtianbkbehjppoaaGreatDoor
open Go.ChangeShapes Go.WideShapes Go.ChangeAt Go.RowKit Go.Deep
section
variable {P : Program} {W : World} {base : Nat} {r : Reach}
theorem agg_cellsS {t : TypeId} {v : Value} {ts : List TypeId} (hu : (∃ fs, P.underlying t = some (.struct fs)) ∨ ∃ n e, P.underlying t = some (.array n e)) (hct : P.cellTypes P.depth t = some ts) (hsz : P.cellsOf t = ts.length) (h : Value.okWide P W r base t v) :
    ∃ cs : List Value, v = .agg cs.toArray ∧ cs.length = ts.length ∧ ∀ (i : Nat) (u : TypeId), ts[i]? = some u → ∃ x, cs[i]? = some x ∧ Cell.okWide P W r base u x := by
  have h' : ∃ cs, v = .agg cs ∧ cs.size = P.cellsOf t ∧ Row.okWide P W r base t cs := by
    unfold Value.okWide at h
    rcases hu with ⟨fs, hu⟩ | ⟨n, e, hu⟩ <;> rw [hu] at h <;> exact h
  obtain ⟨cs, rfl, hs, ts', h1, _, h2⟩ := h'
  rw [hct] at h1
  cases h1
  refine ⟨cs.toList, by simp, by simp [hs, hsz], fun i u hi => ?_⟩
  have hlt := (List.getElem?_eq_some_iff.1 hi).1
  have hlt' : i < cs.size := by rw [hs, hsz]; exact hlt
  obtain ⟨u', h3, h4⟩ := h2 i cs[i] (Array.getElem?_eq_getElem hlt')
  rw [Nat.mod_eq_of_lt hlt, hi] at h3
  cases h3
  exact ⟨cs[i], by simp [hlt'], h4⟩
end
end Go.Proofs.YtianbkbehjppoaaGreatDoor

namespace Go.Proofs.YtianbkbehjppoaaGreatDoor
open Go.RowKit
set_option maxRecDepth 10000
attribute [local irreducible] EK EX ER EN EL ES EG OpVal OpDoes OpSkip
variable {W : World} {F : SL} {X : Cx} {k : List KI} {σ : Env}
theorem be4_len (n : Nat) : (be4 n).length = 4 := rfl
theorem be2_len (n : Nat) : (be2 n).length = 2 := rfl
attribute [local simp] bytesR_len be4_len be2_len
section
variable {p : Option Addr} {c i j : Nat} {l : List UInt8}
theorem rNum_pre (s : Src W F p l.length (bytesR l)) (h : 2 ≤ l.length) (m : Nat) : Spec Tryz.prog 59 [.slice p 2 m] W F (fun _ : Unit => .int .i64 (w2 l 0 : Int)) (fun _ => F) := by
  haveI := Src.pre s h
  have hl : (l.take 2).length = 2 := by rw [List.length_take, Nat.min_eq_left h]
  have := rNum_spec (W := W) (F := F) p m (l.take 2) (by omega)
  rw [hl, numN_2] at this
  have e : w2 (l.take 2) 0 = w2 l 0 := by
    have := w2_cut l (i := 0) (j := 2) (k := 0) (by decide)
    simpa [cutB] using this
  rwa [e] at this
theorem u8_val (n : Nat) : IntKind.u8.wrap (n : Int) = (((u8 n).toNat : Nat) : Int) := by
  rw [u8_toNat, IntKind.wrap_u8]
  omega
theorem wide_spec (n : Nat) : Spec Tryz.prog 94 [.int .u32 (n : Int)] W F (fun q : Option Addr => .slice q 4 4) (fun q => RowC 5 1 q 4 4 (bytesR (be4 n)) * F) := by
  refine Spec.of Tryz.func94 rfl Tryz.ntmps94 rfl ?_
  repeat (first | refine go ?_ | (refine goX ?_; intro))
  rename_i q
  refine EK_ret (ER_1 rfl rfl q rfl (Ent.sat ?_))
  rw [show (n : Int) / 2 ^ Int.toNat 24 = ((n / 16777216 : Nat) : Int) from shr_n n 24, show (n : Int) / 2 ^ Int.toNat 16 = ((n / 65536 : Nat) : Int) from shr_n n 16, show (n : Int) / 2 ^ Int.toNat 8 = ((n / 256 : Nat) : Int) from shr_n n 8, u8_val, u8_val, u8_val, u8_val]
  exact Ent.refl _
theorem word_spec (n : Nat) : Spec Tryz.prog 95 [.int .i64 (n : Int)] W F (fun q : Option Addr => .slice q 2 2) (fun q => RowC 5 1 q 2 2 (bytesR (be2 n)) * F) := by
  refine Spec.of Tryz.func95 rfl Tryz.ntmps95 rfl ?_
  repeat (first | refine go ?_ | (refine goX ?_; intro))
  rename_i q
  refine EK_ret (ER_1 rfl rfl q rfl (Ent.sat ?_))
  rw [show (n : Int) / 2 ^ Int.toNat 8 = ((n / 256 : Nat) : Int) from shr_n n 8, u8_val, u8_val]
  exact Ent.refl _
theorem rPseudo_spec [s : Src W F p l.length (bytesR l)] (src dst proto : Nat) (h3 : proto < 256) (hl : l.length ≤ 65535) : Spec Tryz.prog 61 [.int .u32 (src : Int), .int .u32 (dst : Int), .int .i64 (proto : Int), .slice p l.length c] W F (fun _ : Unit => .int .u16 (pseT src dst proto l : Int)) (fun _ => F) := by
  refine Spec.of Tryz.func61 rfl Tryz.ntmps61 rfl ?_
  repeat (first | refine go ?_ | (refine goX ?_; intro))
  refine EL_call rfl (wide_spec src) ?_
  intro q1
  repeat (first | refine go ?_ | (refine goX ?_; intro))
  refine EL_call rfl (wide_spec dst) ?_
  intro q2
  repeat (first | refine go ?_ | (refine goX ?_; intro))
  refine EL_call rfl (word_spec l.length) ?_
  intro q3
  repeat (first | refine go ?_ | (refine goX ?_; intro))
  rename_i z
  have e3 : 4 + 4 + 2 + 2 + l.length = (be4 src ++ be4 dst ++ [0, u8 proto] ++ be2 l.length ++ l).length := by simp; omega
  have e4 : bytesR (be4 src) ++ bytesR (be4 dst) ++ [Value.int IntKind.u8 0, Value.int IntKind.u8 (proto : Int)] ++ bytesR (be2 l.length) ++ bytesR l = bytesR (be4 src ++ be4 dst ++ [0, u8 proto] ++ be2 l.length ++ l) := by
    have : (u8 proto).toNat = proto := by rw [u8_toNat]; omega
    simp [bytesR, this]
  rw [e3, e4]
  refine EL_call rfl (rOf_spec z.1 z.2 _ (by simp; omega)) ?_
  intro _
  repeat (first | refine go ?_ | (refine goX ?_; intro))
  exact EK_ret (ER_1 rfl rfl () rfl (Ent.sat (by first | exact Ent.refl _ | exact Ent.last | (repeat (first | refine Ent.cons ?_ | refine Ent.objX ?_ | exact Ent.any | exact Ent.last)))))
theorem r2Get_at (i : Nat) (part : Bool) (hl : l.length ≤ 140737488355328) (s : Src W F p l.length (bytesR l)) (r : Room W F p l.length c) (hi : i ≤ l.length) : Spec Tryz.prog 34 [.slice (dropP p i c 1) (l.length - i) (c - i), .bool part] W F (fun _ : Unit => resH (headT part (l.drop i)) (headE part (l.drop i))) (fun _ => F) := by
  haveI := Src.low s r hi
  haveI := Room.low (i := i) r
  have h := r2Get_spec (W := W) (F := F) (p := dropP p i c 1) (c := c - i) (l := l.drop i) part (by rw [List.length_drop]; omega)
  rwa [List.length_drop] at h
set_option maxHeartbeats 1000000 in
theorem ricmp_spec [s : Src W F p l.length (bytesR l)] [r : Room W F p l.length c] (pr : Int) (hpr1 : pr = 1) (hd : HdT) (hs : hd.size ≤ 60) (hl : l.length ≤ 65535) : Spec Tryz.prog 96 [.agg #[.int .i64 pr, .int .u16 0, .int .u16 0, .int .i64 0, .int .i64 0, .int .i64 0, .bool false, .int .i64 0, .int .i64 0, .int .i64 0, .int .i64 0, .int .u32 0, .int .u32 0, .int .i64 0, .bool false], .agg (hdV hd).toArray, .slice p l.length c] W F (fun _ : Unit => resP (if icmpE l = 0 then icmpP hd.size l else pt0) (icmpE l)) (fun _ => F) := by
  refine Spec.of Tryz.func96 rfl Tryz.ntmps96 rfl ?_
  subst hpr1
  have e0 : icmpE l = _ := rfl
  conv at e0 => rhs; unfold icmpE
  by_cases g1 : l.length < 8
  · rw [if_pos g1] at e0
    rw [e0]
    repeat (first | refine go ?_ | (refine goX ?_; intro))
    exact EK_ret (ER_cn (rs := [.cell 6 106, .tmp 7]) (v := .agg (ptV pt0).toArray) (u := .int .i64 ((2 : Nat) : Int)) (vs := []) rfl ⟨⟨_, rfl, LoadsV.agg rfl⟩, rfl, trivial⟩ () rfl (Ent.sat (by first | exact Ent.refl _ | exact Ent.last | (repeat (first | refine Ent.cons ?_ | refine Ent.objX ?_ | exact Ent.any | exact Ent.last)))))
  rw [if_neg g1] at e0
  have hc := csum_lt l
  repeat (first | refine go ?_ | (refine goX ?_; intro))
  refine EL_call rfl (rOf_spec p c l (by omega)) ?_
  intro _
  by_cases g2 : csum l ≠ 0
  · rw [if_pos g2] at e0
    rw [e0]
    repeat (first | refine go ?_ | (refine goX ?_; intro))
    exact EK_ret (ER_cn (rs := [.cell 6 106, .tmp 7]) (v := .agg (ptV pt0).toArray) (u := .int .i64 ((4 : Nat) : Int)) (vs := []) rfl ⟨⟨_, rfl, LoadsV.agg rfl⟩, rfl, trivial⟩ () rfl (Ent.sat (by first | exact Ent.refl _ | exact Ent.last | (repeat (first | refine Ent.cons ?_ | refine Ent.objX ?_ | exact Ent.any | exact Ent.last)))))
  rw [if_neg g2] at e0
  have hb0 := b1_lt l 0
  have hb1 := b1_lt l 1
  have hw4 := w2_lt l 4
  repeat (first | refine go ?_ | (refine goX ?_; intro))
  rename_i x3 x4 x6 _
  refine EK_sink 11 (ObjX x3 106 * F) rfl rfl rfl ?_
  repeat (first | refine goQ ?_ | refine EG_done (by decide +kernel) ?_)
  repeat (first | refine goG ?_ | (refine goGX ?_; intro) | refine goGL ?_ | refine goGS ?_ | refine goGV ?_ | refine EG_done (by decide +kernel) ?_)
  repeat (first | refine go ?_ | (refine goX ?_; intro))
  refine EL_call rfl (rNum2 (j := 6) inferInstance inferInstance rfl (by omega) _ _ rfl) ?_
  intro _
  by_cases g3 : b1 l 0 = 0 ∨ b1 l 0 = 8
  · rw [if_pos g3] at e0
    by_cases g4 : b1 l 1 ≠ 0
    · rw [if_pos g4] at e0
      rw [e0]
      rcases g3 with g3 | g3
      all_goals
        repeat (first | refine go ?_ | (refine goX ?_; intro))
        exact EK_ret (ER_cn (rs := [.cell 6 106, .tmp 7]) (v := .agg (ptV pt0).toArray) (u := .int .i64 ((3 : Nat) : Int)) (vs := []) rfl ⟨⟨_, rfl, LoadsV.agg rfl⟩, rfl, trivial⟩ () rfl (Ent.sat (by first | exact Ent.refl _ | exact Ent.last | (repeat (first | refine Ent.cons ?_ | refine Ent.objX ?_ | exact Ent.any | exact Ent.last)))))
    rw [if_neg g4] at e0
    have g4' : b1 l 1 = 0 := by omega
    rw [e0, if_pos rfl, show icmpP hd.size l = { pt0 with proto := 1, kind := b1 l 0, code := 0, sp := w2 l 4, dp := w2 l 4 } from if_pos g3, g4']
    rcases g3 with g3 | g3
    all_goals
      repeat (first | refine go ?_ | (refine goX ?_; intro))
      exact EK_ret (ER_cn (rs := [.cell 6 106, .tmp 7]) (v := .agg (ptV { pt0 with proto := 1, kind := b1 l 0, code := 0, sp := w2 l 4, dp := w2 l 4 }).toArray) (u := .int .i64 ((0 : Nat) : Int)) (vs := []) rfl ⟨⟨_, rfl, LoadsV.agg rfl⟩, rfl, trivial⟩ () rfl (Ent.sat (by first | exact Ent.refl _ | exact Ent.last | (repeat (first | refine Ent.cons ?_ | refine Ent.objX ?_ | exact Ent.any | exact Ent.last)))))
  rw [if_neg g3] at e0
  have g30 : b1 l 0 ≠ 0 := fun g => g3 (.inl g)
  have g38 : b1 l 0 ≠ 8 := fun g => g3 (.inr g)
  by_cases g5 : errK (b1 l 0)
  · rw [if_pos g5] at e0
    have eI : icmpP hd.size l = faultP (b1 l 0) (b1 l 1) hd.size (l.drop 8) := if_neg g3
    conv at e0 => rhs; unfold faultE
    rcases g5 with g5 | g5 | g5
    all_goals
      repeat (first | refine go ?_ | (refine goX ?_; intro))
      refine EL_call rfl (r2Get_at 8 true (by omega) inferInstance inferInstance (by omega)) ?_
      intro _
      by_cases k0 : headE true (l.drop 8) ≠ 0
      · rw [if_pos k0] at e0
        rw [e0, if_neg k0, headT_of (rfl : headE true (l.drop 8) = _), if_neg k0]
        repeat (first | refine go ?_ | (refine goX ?_; intro))
        exact EK_ret (ER_cn (rs := [.cell 6 106, .tmp 7]) (v := .agg (ptV pt0).toArray) (u := .int .i64 ((headE true (l.drop 8) : Nat) : Int)) (vs := []) rfl ⟨⟨_, rfl, LoadsV.agg rfl⟩, rfl, trivial⟩ () rfl (Ent.sat (by first | exact Ent.refl _ | exact Ent.last | (repeat (first | refine Ent.cons ?_ | refine Ent.objX ?_ | exact Ent.any | exact Ent.last)))))
      rw [if_neg k0] at e0
      have k0' : headE true (l.drop 8) = 0 := by omega
      obtain ⟨k1, k2, k3, k4, k5, k6⟩ := headE_ok k0'
      rw [k6, k0']
      have eF : faultP (b1 l 0) (b1 l 1) hd.size (l.drop 8) = { pt0 with proto := 1, kind := b1 l 0, code := b1 l 1, err := true, inner := headH (l.drop 8), pos := hd.size + 8, sp := if (headH (l.drop 8)).proto = 1 then w2 (l.drop 8) ((headH (l.drop 8)).size + 4) else w2 (l.drop 8) (headH (l.drop 8)).size, dp := if (headH (l.drop 8)).proto = 1 then w2 (l.drop 8) ((headH (l.drop 8)).size + 4) else w2 (l.drop 8) ((headH (l.drop 8)).size + 2) } := rfl
      have hpr : (headH (l.drop 8)).proto < 256 := b1_lt (l.drop 8) 9
      have hlen : (headH (l.drop 8)).len < 65536 := w2_lt (l.drop 8) 2
      obtain ⟨hi, f0⟩ : ∃ x, headH (l.drop 8) = x := ⟨_, rfl⟩
      rw [f0] at e0 eF k1 k2 k3 k4 hpr hlen ⊢
      have ld : (l.drop 8).length = l.length - 8 := by rw [List.length_drop]
      rw [ld] at k3 e0
      have kk : 8 + hi.size ≤ l.length := by omega
      have ey : l.length - (8 + hi.size) = (l.drop (8 + hi.size)).length := by rw [List.length_drop]
      have y0 : b1 (l.drop 8) hi.size = b1 (l.drop (8 + hi.size)) 0 := by rw [b1_drop, b1_drop, Nat.add_zero]
      have y1 : w2 (l.drop 8) hi.size = w2 (l.drop (8 + hi.size)) 0 := by rw [w2_drop, w2_drop, Nat.add_zero]
      have y2 : w2 (l.drop 8) (hi.size + 2) = w2 (l.drop (8 + hi.size)) 2 := by rw [w2_drop, w2_drop, Nat.add_assoc]
      have y4 : w2 (l.drop 8) (hi.size + 4) = w2 (l.drop (8 + hi.size)) 4 := by rw [w2_drop, w2_drop, Nat.add_assoc]
      haveI sy := Src.low s r kk
      haveI ry := Room.low (i := 8 + hi.size) r
      obtain ⟨y, hy⟩ : ∃ y, l.drop (8 + hi.size) = y := ⟨_, rfl⟩
      rw [hy] at ey y0 y1 y2 y4 sy ry
      rw [y1, y2, y4] at eF
      rw [y0] at e0
      repeat (first | refine go ?_ | (refine goX ?_; intro))
      rename_i x9
      rw [ey]
      obtain ⟨q, hq⟩ : ∃ q, dropP p (8 + hi.size) c 1 = q := ⟨_, rfl⟩
      obtain ⟨cc, hcc⟩ : ∃ cc, c - (8 + hi.size) = cc := ⟨_, rfl⟩
      rw [hq, hcc] at ry
      rw [hq] at sy
      rw [hq, hcc]
      haveI := sy
      haveI := ry
      by_cases g2 : y.length < 8
      · rw [if_pos (Or.inl (by omega))] at e0
        rw [e0, decide_eq_true (show ((y.length : Nat) : Int) < 8 by omega)]
        repeat (first | refine go ?_ | (refine goX ?_; intro))
        exact EK_ret (ER_cn (rs := [.cell 6 106, .tmp 7]) (v := .agg (ptV pt0).toArray) (u := .int .i64 ((3 : Nat) : Int)) (vs := []) rfl ⟨⟨_, rfl, LoadsV.agg rfl⟩, rfl, trivial⟩ () rfl (Ent.sat (by first | exact Ent.refl _ | exact Ent.last | (repeat (first | refine Ent.cons ?_ | refine Ent.objX ?_ | exact Ent.any | exact Ent.last)))))
      rw [decide_eq_false (show ¬ ((y.length : Nat) : Int) < 8 by omega)]
      by_cases g3 : hi.len < hi.size + 8
      · rw [if_pos (Or.inr g3)] at e0
        rw [e0]
        repeat (first | refine go ?_ | (refine goX ?_; intro))
        exact EK_ret (ER_cn (rs := [.cell 6 106, .tmp 7]) (v := .agg (ptV pt0).toArray) (u := .int .i64 ((3 : Nat) : Int)) (vs := []) rfl ⟨⟨_, rfl, LoadsV.agg rfl⟩, rfl, trivial⟩ () rfl (Ent.sat (by first | exact Ent.refl _ | exact Ent.last | (repeat (first | refine Ent.cons ?_ | refine Ent.objX ?_ | exact Ent.any | exact Ent.last)))))
      rw [if_neg (fun g => g.elim (fun g => g2 (by omega)) g3)] at e0
      have hb0 := b1_lt y 0
      have hw0 := w2_lt y 0
      have hw2 := w2_lt y 2
      have hw4 := w2_lt y 4
      repeat (first | refine go ?_ | (refine goX ?_; intro))
      refine EK_sink 9 (Obj x9 96 (hdV hi) * (Obj x4 96 (hdV hd) * (ObjX x3 106 * F))) rfl rfl rfl ?_
      repeat (first | refine goQ ?_ | refine EG_done (by decide +kernel) ?_)
      repeat (first | refine goG ?_ | (refine goGX ?_; intro) | refine goGL ?_ | refine goGS ?_ | refine goGV ?_ | refine EG_done (by decide +kernel) ?_)
      by_cases g4 : hi.proto = 17 ∨ hi.proto = 6
      · rw [if_pos g4] at e0
        rw [e0, if_pos rfl, eI, eF, if_neg (by omega), if_neg (by omega)]
        rcases g4 with g4 | g4
        all_goals
          repeat (first | refine go ?_ | (refine goX ?_; intro))
          refine EK_sink 11 (ObjX x3 106 * F) rfl rfl rfl ?_
          repeat (first | refine goQ ?_ | refine EG_done (by decide +kernel) ?_)
          refine EG_callQ rfl rfl rfl rfl rfl (rNum_pre (l := y) inferInstance (by omega) _) (fun _ => by first | exact Ent.refl _ | exact Ent.last | (repeat (first | refine Ent.cons ?_ | refine Ent.objX ?_ | exact Ent.any | exact Ent.last))) ?_
          intro _
          repeat (first | refine goQ ?_ | refine EG_done (by decide +kernel) ?_)
          refine EG_callQ rfl rfl rfl rfl rfl (rNum2 (l := y) (j := 4) inferInstance inferInstance rfl (by omega) _ _ rfl) (fun _ => by first | exact Ent.refl _ | exact Ent.last | (repeat (first | refine Ent.cons ?_ | refine Ent.objX ?_ | exact Ent.any | exact Ent.last))) ?_
          intro _
          repeat (first | refine goQ ?_ | refine EG_done (by decide +kernel) ?_)
          repeat (first | refine goG ?_ | (refine goGX ?_; intro) | refine goGL ?_ | refine goGS ?_ | refine goGV ?_ | refine EG_done (by decide +kernel) ?_)
          repeat (first | refine go ?_ | (refine goX ?_; intro))
          exact EK_ret (ER_cn (rs := [.cell 6 106, .tmp 7]) (v := .agg (ptV { pt0 with proto := 1, kind := b1 l 0, code := b1 l 1, err := true, inner := hi, pos := hd.size + 8, sp := w2 y 0, dp := w2 y 2 }).toArray) (u := .int .i64 ((0 : Nat) : Int)) (vs := []) rfl ⟨⟨_, rfl, LoadsV.agg rfl⟩, rfl, trivial⟩ () rfl (Ent.sat (by first | exact Ent.refl _ | exact Ent.last | (repeat (first | refine Ent.cons ?_ | refine Ent.objX ?_ | exact Ent.any | exact Ent.last)))))
      rw [if_neg g4] at e0
      by_cases g5' : hi.proto ≠ 1
      · rw [if_neg (fun g => g5' g.1)] at e0
        rw [e0]
        repeat (first | refine go ?_ | (refine goX ?_; intro))
        exact EK_ret (ER_cn (rs := [.cell 6 106, .tmp 7]) (v := .agg (ptV pt0).toArray) (u := .int .i64 ((6 : Nat) : Int)) (vs := []) rfl ⟨⟨_, rfl, LoadsV.agg rfl⟩, rfl, trivial⟩ () rfl (Ent.sat (by first | exact Ent.refl _ | exact Ent.last | (repeat (first | refine Ent.cons ?_ | refine Ent.objX ?_ | exact Ent.any | exact Ent.last)))))
      have g51 : hi.proto = 1 := by omega
      by_cases g6 : b1 y 0 = 0 ∨ b1 y 0 = 8
      · rw [if_pos ⟨g51, g6⟩] at e0
        rw [e0, if_pos rfl, eI, eF, if_pos g51, if_pos g51]
        rcases g6 with g6 | g6
        all_goals
          repeat (first | refine go ?_ | (refine goX ?_; intro))
          refine EK_sink 11 (ObjX x3 106 * F) rfl rfl rfl ?_
          repeat (first | refine goQ ?_ | refine EG_done (by decide +kernel) ?_)
          refine EG_callQ rfl rfl rfl rfl rfl (rNum2 (l := y) (j := 6) inferInstance inferInstance rfl (by omega) _ _ rfl) (fun _ => by first | exact Ent.refl _ | exact Ent.last | (repeat (first | refine Ent.cons ?_ | refine Ent.objX ?_ | exact Ent.any | exact Ent.last))) ?_
          intro _
          repeat (first | refine goQ ?_ | refine EG_done (by decide +kernel) ?_)
          refine EG_callQ rfl rfl rfl rfl rfl (rNum2 (l := y) (j := 6) inferInstance inferInstance rfl (by omega) _ _ rfl) (fun _ => by first | exact Ent.refl _ | exact Ent.last | (repeat (first | refine Ent.cons ?_ | refine Ent.objX ?_ | exact Ent.any | exact Ent.last))) ?_
          intro _
          repeat (first | refine goQ ?_ | refine EG_done (by decide +kernel) ?_)
          repeat (first | refine goG ?_ | (refine goGX ?_; intro) | refine goGL ?_ | refine goGS ?_ | refine goGV ?_ | refine EG_done (by decide +kernel) ?_)
          repeat (first | refine go ?_ | (refine goX ?_; intro))
          exact EK_ret (ER_cn (rs := [.cell 6 106, .tmp 7]) (v := .agg (ptV { pt0 with proto := 1, kind := b1 l 0, code := b1 l 1, err := true, inner := hi, pos := hd.size + 8, sp := w2 y 4, dp := w2 y 4 }).toArray) (u := .int .i64 ((0 : Nat) : Int)) (vs := []) rfl ⟨⟨_, rfl, LoadsV.agg rfl⟩, rfl, trivial⟩ () rfl (Ent.sat (by first | exact Ent.refl _ | exact Ent.last | (repeat (first | refine Ent.cons ?_ | refine Ent.objX ?_ | exact Ent.any | exact Ent.last)))))
      rw [if_neg (fun g => g6 g.2)] at e0
      rw [e0]
      have g61 : b1 y 0 ≠ 0 := fun g => g6 (.inl g)
      have g62 : b1 y 0 ≠ 8 := fun g => g6 (.inr g)
      repeat (first | refine go ?_ | (refine goX ?_; intro))
      exact EK_ret (ER_cn (rs := [.cell 6 106, .tmp 7]) (v := .agg (ptV pt0).toArray) (u := .int .i64 ((6 : Nat) : Int)) (vs := []) rfl ⟨⟨_, rfl, LoadsV.agg rfl⟩, rfl, trivial⟩ () rfl (Ent.sat (by first | exact Ent.refl _ | exact Ent.last | (repeat (first | refine Ent.cons ?_ | refine Ent.objX ?_ | exact Ent.any | exact Ent.last)))))
  obtain ⟨g6, g7, g8⟩ := errK_of g5
  rw [if_neg g5] at e0
  rw [e0]
  repeat (first | refine go ?_ | (refine goX ?_; intro))
  exact EK_ret (ER_cn (rs := [.cell 6 106, .tmp 7]) (v := .agg (ptV pt0).toArray) (u := .int .i64 ((6 : Nat) : Int)) (vs := []) rfl ⟨⟨_, rfl, LoadsV.agg rfl⟩, rfl, trivial⟩ () rfl (Ent.sat (by first | exact Ent.refl _ | exact Ent.last | (repeat (first | refine Ent.cons ?_ | refine Ent.objX ?_ | exact Ent.any | exact Ent.last)))))
end
end Go.Proofs.YtianbkbehjppoaaGreatDoor

namespace Go.Proofs.YtianbkbehjppoaaGreatDoor
open Go.RowKit
set_option maxRecDepth 10000
attribute [local irreducible] EK EX ER EN EL ES EG OpVal OpDoes OpSkip
variable {W : World} {F : SL} {X : Cx} {k : List KI} {σ : Env}
attribute [local simp] bytesR_len
instance RowSet.bytes (l : List UInt8) (i : Nat) (b : UInt8) : RowSet (bytesR l) i 1 0 [.int .u8 ((b.toNat : Nat) : Int)] (bytesR (l.set i b)) (i < l.length) := ⟨fun h => by
  refine ⟨by simp; omega, ?_⟩
  simp only [Nat.mul_one, Nat.add_zero, List.length_cons, List.length_nil, Nat.zero_add]
  rw [← set_split (by simpa using h)]
  simp [bytesR, List.map_set]⟩
/-- A writer, and its bytes. -/
abbrev WrO (w : Option Addr) (q : Slab) (out : Bool) (l : List UInt8) (F : SL) : SL := Obj w 196 [.slice q.1 l.length q.2, .bool out] * (RowC 5 1 q.1 l.length q.2 (bytesR l) * F)
section
variable {w : Option Addr} {q : Slab} {out : Bool} {l : List UInt8}
theorem wget_spec (i : Nat) (h : i + 1 < l.length) (hi : i ≤ 9000000) : Spec Tryz.prog 148 [.pointer w, .int .i64 (i : Int)] W (WrO w q out l F) (fun _ : Unit => .int .u16 (w2 l i : Int)) (fun _ => WrO w q out l F) := by
  refine Spec.of Tryz.func148 rfl Tryz.ntmps148 rfl ?_
  have h0 := b1_lt l i
  have h1 := b1_lt l (i + 1)
  simp only [WrO]
  repeat (first | refine go ?_ | (refine goX ?_; intro))
  refine EK_sink 99 (Obj w 196 [.slice q.1 l.length q.2, .bool out] * (RowC 5 1 q.1 l.length q.2 (bytesR l) * F)) rfl rfl rfl ?_
  repeat (first | refine goQ ?_ | refine EG_done (by decide +kernel) ?_)
  repeat (first | refine go ?_ | (refine goX ?_; intro))
  exact EK_ret (ER_1 rfl rfl () (by rw [or8 h0 h1]; rfl) (Ent.sat (by first | exact Ent.refl _ | exact Ent.last | (repeat (first | refine Ent.cons ?_ | refine Ent.objX ?_ | refine Ent.rowX ?_ | exact Ent.any | exact Ent.last)))))
theorem wset_spec (i n : Nat) (h : i + 1 < l.length) (hi : i ≤ 9000000) : Spec Tryz.prog 147 [.pointer w, .int .i64 (i : Int), .int .u16 (n : Int)] W (WrO w q out l F) (fun _ : Unit => .tuple #[]) (fun _ => WrO w q out (st2 l i n) F) := by
  refine Spec.of Tryz.func147 rfl Tryz.ntmps147 rfl ?_
  simp only [WrO, st2_len]
  unfold st2
  have hs : (l.set i (u8 (n / 256))).length = l.length := List.length_set
  repeat (first | refine go ?_ | (refine goX ?_; intro))
  refine EK_sink 19 (Obj w 196 [.slice q.1 l.length q.2, .bool out] * (RowX 5 1 q.1 l.length q.2 * F)) rfl rfl rfl ?_
  repeat (first | refine goQ ?_ | refine EG_done (by decide +kernel) ?_)
  rw [show (n : Int) / 2 ^ Int.toNat 8 = ((n / 256 : Nat) : Int) from shr_n n 8, u8_val, u8_val]
  repeat (first | refine goG ?_ | (refine goGX ?_; intro) | refine goGL ?_ | refine goGS ?_ | refine goGV ?_ | refine EG_done (by decide +kernel) ?_)
  exact EK_end (EN_0 rfl () rfl (Ent.sat (by first | exact Ent.refl _ | exact Ent.last | (repeat (first | refine Ent.cons ?_ | refine Ent.objX ?_ | refine Ent.rowX ?_ | exact Ent.any | exact Ent.last)))))
theorem or16 {a b : Nat} (ha : a < 65536) (hb : b < 65536) : bits .or .u32 (IntKind.u32.wrap ((a : Int) * 2 ^ Int.toNat 16)) (b : Int) = ((a * 65536 + b : Nat) : Int) := by
  rw [show (a : Int) * 2 ^ Int.toNat 16 = ((a * 2 ^ 16 : Nat) : Int) by rw [show Int.toNat 16 = 16 from rfl]; omega, InK.wrap (k := .u32) (z := ((a * 2 ^ 16 : Nat) : Int)) (by simp only [InK]; omega), u32_or_nat _ _ (by omega) (by omega)]
  rw [Nat.mul_comm, ← Nat.two_pow_add_eq_or_of_lt (show b < 2 ^ 16 by omega) a]
theorem wwide_spec (i : Nat) (h : i + 3 < l.length) (hi : i ≤ 1000000) : Spec Tryz.prog 144 [.pointer w, .int .i64 (i : Int)] W (WrO w q out l F) (fun _ : Unit => .int .u32 (w4 l i : Int)) (fun _ => WrO w q out l F) := by
  refine Spec.of Tryz.func144 rfl Tryz.ntmps144 rfl ?_
  have h0 := w2_lt l i
  have h2 := w2_lt l (i + 2)
  repeat (first | refine go ?_ | (refine goX ?_; intro))
  refine EL_call rfl (wget_spec i (by omega) (by omega)) ?_
  intro _
  repeat (first | refine go ?_ | (refine goX ?_; intro))
  refine EL_call rfl (wget_spec (i + 2) (by omega) (by omega)) ?_
  intro _
  repeat (first | refine go ?_ | (refine goX ?_; intro))
  exact EK_ret (ER_1 rfl rfl () (by rw [or16 h0 h2]; rfl) (Ent.sat (by first | exact Ent.refl _ | exact Ent.last | (repeat (first | refine Ent.cons ?_ | refine Ent.objX ?_ | refine Ent.rowX ?_ | exact Ent.any | exact Ent.last)))))
theorem wsetWide_spec (i n : Nat) (h : i + 3 < l.length) (hi : i ≤ 1000000) (hn : n < 4294967296) : Spec Tryz.prog 145 [.pointer w, .int .i64 (i : Int), .int .u32 (n : Int)] W (WrO w q out l F) (fun _ : Unit => .tuple #[]) (fun _ => WrO w q out (st2 (st2 l i (n / 65536)) (i + 2) (n % 65536)) F) := by
  refine Spec.of Tryz.func145 rfl Tryz.ntmps145 rfl ?_
  repeat (first | refine go ?_ | (refine goX ?_; intro))
  rw [show (n : Int) / 2 ^ Int.toNat 16 = ((n / 65536 : Nat) : Int) from shr_n n 16, w16 (a := n / 65536) (by omega)]
  refine EL_call rfl (wset_spec i (n / 65536) (by omega) (by omega)) ?_
  intro _
  repeat (first | refine go ?_ | (refine goX ?_; intro))
  rw [w16m]
  refine EL_call rfl (wset_spec (i + 2) (n % 65536) (by rw [st2_len]; omega) (by omega)) ?_
  intro _
  repeat (first | refine go ?_ | (refine goX ?_; intro))
  exact EK_end (EN_0 rfl () rfl (Ent.sat (by first | exact Ent.refl _ | exact Ent.last | (repeat (first | refine Ent.cons ?_ | refine Ent.objX ?_ | refine Ent.rowX ?_ | exact Ent.any | exact Ent.last)))))
theorem wfix_spec (i old now : Nat) (h : i + 1 < l.length) (hi : i ≤ 1000000) (h1 : old < 4294967296) (h2 : now < 4294967296) : Spec Tryz.prog 146 [.pointer w, .int .i64 (i : Int), .int .u32 (old : Int), .int .u32 (now : Int)] W (WrO w q out l F) (fun _ : Unit => .tuple #[]) (fun _ => WrO w q out (st2 l i (fixW (w2 l i) old now)) F) := by
  refine Spec.of Tryz.func146 rfl Tryz.ntmps146 rfl ?_
  repeat (first | refine go ?_ | (refine goX ?_; intro))
  refine EL_call rfl (wget_spec i h (by omega)) ?_
  intro _
  repeat (first | refine go ?_ | (refine goX ?_; intro))
  refine EL_call rfl (FixWide_spec (w2_lt l i) h1 h2) ?_
  intro _
  repeat (first | refine go ?_ | (refine goX ?_; intro))
  refine EL_call rfl (wset_spec i (fixW (w2 l i) old now) h (by omega)) ?_
  intro _
  repeat (first | refine go ?_ | (refine goX ?_; intro))
  exact EK_end (EN_0 rfl () rfl (Ent.sat (by first | exact Ent.refl _ | exact Ent.last | (repeat (first | refine Ent.cons ?_ | refine Ent.objX ?_ | refine Ent.rowX ?_ | exact Ent.any | exact Ent.last)))))
theorem waddr_spec (head addr : Nat) (src : Bool) (h : head + 19 < l.length) (hi : head ≤ 100000) (ha : addr < 4294967296) : Spec Tryz.prog 126 [.pointer w, .int .i64 (head : Int), .bool src, .int .u32 (addr : Int)] W (WrO w q out l F) (fun _ : Unit => .int .u32 (w4 l (head + adPl src) : Int)) (fun _ => WrO w q out (adT l head (head + adPl src) addr) F) := by
  refine Spec.of Tryz.func126 rfl Tryz.ntmps126 rfl ?_
  cases src with
  | false =>
    rw [show adPl false = 16 from rfl]
    have hw := w4_lt l (head + 16)
    repeat (first | refine go ?_ | (refine goX ?_; intro))
    refine EL_call rfl (wwide_spec (head + 16) (by omega) (by omega)) ?_
    intro _
    repeat (first | refine go ?_ | (refine goX ?_; intro))
    refine EL_call rfl (wsetWide_spec (head + 16) addr (by omega) (by omega) ha) ?_
    intro _
    repeat (first | refine go ?_ | (refine goX ?_; intro))
    refine EL_call rfl (wfix_spec (head + 10) _ addr (by rw [st2_len, st2_len]; omega) (by omega) hw ha) ?_
    intro _
    repeat (first | refine go ?_ | (refine goX ?_; intro))
    exact EK_ret (ER_1 rfl rfl () rfl (Ent.sat (by first | exact Ent.refl _ | exact Ent.last | (repeat (first | refine Ent.cons ?_ | refine Ent.objX ?_ | refine Ent.rowX ?_ | exact Ent.any | exact Ent.last)))))
  | true =>
    rw [show adPl true = 12 from rfl]
    have hw := w4_lt l (head + 12)
    repeat (first | refine go ?_ | (refine goX ?_; intro))
    refine EL_call rfl (wwide_spec (head + 12) (by omega) (by omega)) ?_
    intro _
    repeat (first | refine go ?_ | (refine goX ?_; intro))
    refine EL_call rfl (wsetWide_spec (head + 12) addr (by omega) (by omega) ha) ?_
    intro _
    repeat (first | refine go ?_ | (refine goX ?_; intro))
    refine EL_call rfl (wfix_spec (head + 10) _ addr (by rw [st2_len, st2_len]; omega) (by omega) hw ha) ?_
    intro _
    repeat (first | refine go ?_ | (refine goX ?_; intro))
    exact EK_ret (ER_1 rfl rfl () rfl (Ent.sat (by first | exact Ent.refl _ | exact Ent.last | (repeat (first | refine Ent.cons ?_ | refine Ent.objX ?_ | refine Ent.rowX ?_ | exact Ent.any | exact Ent.last)))))
theorem wecho_spec (i id : Nat) (h : i + 5 < l.length) (hi : i ≤ 100000) (hd : id < 65536) : Spec Tryz.prog 128 [.pointer w, .int .i64 (i : Int), .int .u16 (id : Int)] W (WrO w q out l F) (fun _ : Unit => .tuple #[]) (fun _ => WrO w q out (echoT l i id) F) := by
  refine Spec.of Tryz.func128 rfl Tryz.ntmps128 rfl ?_
  have e2 : w2 (st2 l (i + 4) id) (i + 2) = w2 l (i + 2) := w2_other l (by omega) (by omega)
  have hf := fixN_lt (w2 l (i + 2)) (w2 l (i + 4)) id
  repeat (first | refine go ?_ | (refine goX ?_; intro))
  refine EL_call rfl (wget_spec (i + 4) (by omega) (by omega)) ?_
  intro _
  repeat (first | refine go ?_ | (refine goX ?_; intro))
  refine EL_call rfl (wset_spec (i + 4) id (by omega) (by omega)) ?_
  intro _
  repeat (first | refine go ?_ | (refine goX ?_; intro))
  refine EL_call rfl (wget_spec (i + 2) (by rw [st2_len]; omega) (by omega)) ?_
  intro _
  rw [e2]
  repeat (first | refine go ?_ | (refine goX ?_; intro))
  refine EL_call rfl (Fix_spec (w2_lt l (i + 2)) (w2_lt l (i + 4)) hd) ?_
  intro _
  unfold echoT neverZ
  by_cases hz : fixN (w2 l (i + 2)) (w2 l (i + 4)) id = 0
  · rw [if_pos hz]
    repeat (first | refine go ?_ | (refine goX ?_; intro))
    refine EL_call rfl (wset_spec (i + 2) 65535 (by rw [st2_len]; omega) (by omega)) ?_
    intro _
    repeat (first | refine go ?_ | (refine goX ?_; intro))
    exact EK_end (EN_0 rfl () rfl (Ent.sat (by first | exact Ent.refl _ | exact Ent.last | (repeat (first | refine Ent.cons ?_ | refine Ent.objX ?_ | refine Ent.rowX ?_ | exact Ent.any | exact Ent.last)))))
  · rw [if_neg hz]
    repeat (first | refine go ?_ | (refine goX ?_; intro))
    refine EL_call rfl (wset_spec (i + 2) _ (by rw [st2_len]; omega) (by omega)) ?_
    intro _
    repeat (first | refine go ?_ | (refine goX ?_; intro))
    exact EK_end (EN_0 rfl () rfl (Ent.sat (by first | exact Ent.refl _ | exact Ent.last | (repeat (first | refine Ent.cons ?_ | refine Ent.objX ?_ | refine Ent.rowX ?_ | exact Ent.any | exact Ent.last)))))
theorem wthere_spec (i : Nat) (hi : i ≤ 1000000) : Spec Tryz.prog 150 [.pointer w, .int .i64 (i : Int)] W (WrO w q out l F) (fun _ : Unit => .bool (decide (i + 2 ≤ l.length))) (fun _ => WrO w q out l F) := by
  refine Spec.of Tryz.func150 rfl Tryz.ntmps150 rfl ?_
  simp only [WrO]
  by_cases h : i + 2 ≤ l.length
  · rw [decide_eq_true h]
    repeat (first | refine go ?_ | (refine goX ?_; intro))
    exact EK_ret (ER_1 rfl rfl () rfl (Ent.sat (by first | exact Ent.refl _ | exact Ent.last | (repeat (first | refine Ent.cons ?_ | refine Ent.objX ?_ | refine Ent.rowX ?_ | exact Ent.any | exact Ent.last)))))
  · rw [decide_eq_false h]
    repeat (first | refine go ?_ | (refine goX ?_; intro))
    exact EK_ret (ER_1 rfl rfl () rfl (Ent.sat (by first | exact Ent.refl _ | exact Ent.last | (repeat (first | refine Ent.cons ?_ | refine Ent.objX ?_ | refine Ent.rowX ?_ | exact Ent.any | exact Ent.last)))))
end
end Go.Proofs.YtianbkbehjppoaaGreatDoor

namespace Go.Proofs.YtianbkbehjppoaaGreatDoor
open Go.RowKit
set_option maxRecDepth 10000
attribute [local irreducible] EK EX ER EN EL ES EG OpVal OpDoes OpSkip
variable {W : World} {F : SL} {X : Cx} {k : List KI} {σ : Env}
attribute [local simp] bytesR_len be4_len be2_len
section
variable {p : Option Addr} {c : Nat} {l : List UInt8}
theorem few_spec [s : Src W F p l.length (bytesR l)] [r : Room W F p l.length c] (h : l.length ≤ 1400) : Spec Tryz.prog 115 [.slice p l.length c] W F (fun _ : Unit => .slice p l.length c) (fun _ => F) := by
  refine Spec.of Tryz.func115 rfl Tryz.ntmps115 rfl ?_
  repeat (first | refine go ?_ | (refine goX ?_; intro))
  rw [show min (l.length : Int) 1400 = (l.length : Int) by omega]
  repeat (first | refine go ?_ | (refine goX ?_; intro))
  exact EK_ret (ER_1 rfl rfl () rfl (Ent.sat (by first | exact Ent.refl _ | exact Ent.last | (repeat (first | refine Ent.cons ?_ | refine Ent.objX ?_ | refine Ent.rowX ?_ | exact Ent.any | exact Ent.last)))))
/-- What UDP carries. -/
def udp0 (f t : Nat) (l : List UInt8) : List UInt8 := be2 f ++ be2 t ++ be2 (8 + l.length) ++ [0, 0] ++ l
def udpS (src dst f t : Nat) (l : List UInt8) : Nat := if pseT src dst 17 (udp0 f t l) = 0 then 65535 else pseT src dst 17 (udp0 f t l)
def udpB (src dst f t : Nat) (l : List UInt8) : List UInt8 := st2 (udp0 f t l) 6 (udpS src dst f t l)
theorem udp0_len (f t : Nat) (l : List UInt8) : (udp0 f t l).length = 8 + l.length := by simp [udp0]; omega
theorem udpB_len (src dst f t : Nat) (l : List UInt8) : (udpB src dst f t l).length = 8 + l.length := by unfold udpB; rw [st2_len, udp0_len]
set_option maxHeartbeats 1000000 in
theorem Udp_spec [s : Src W F p l.length (bytesR l)] [r : Room W F p l.length c] (h : l.length ≤ 1400) (src dst f t : Nat) (hf : f < 65536) (ht : t < 65536) : Spec Tryz.prog 89 [.int .u32 (src : Int), .int .u32 (dst : Int), .int .u16 (f : Int), .int .u16 (t : Int), .slice p l.length c] W F
    (fun q : Slab => .slice q.1 (udpB src dst f t l).length q.2) (fun q => RowC 5 1 q.1 (udpB src dst f t l).length q.2 (bytesR (udpB src dst f t l)) * F) := by
  refine Spec.of Tryz.func89 rfl Tryz.ntmps89 rfl ?_
  repeat (first | refine go ?_ | (refine goX ?_; intro))
  refine EL_call rfl (few_spec h) ?_
  intro _
  repeat (first | refine go ?_ | (refine goX ?_; intro))
  refine EL_call rfl (word_spec f) ?_
  intro q1
  repeat (first | refine go ?_ | (refine goX ?_; intro))
  refine EL_call rfl (word_spec t) ?_
  intro q2
  repeat (first | refine go ?_ | (refine goX ?_; intro))
  refine EL_call rfl (word_spec (8 + l.length)) ?_
  intro q3
  repeat (first | refine go ?_ | (refine goX ?_; intro))
  rename_i z
  have e3 : 2 + 2 + 2 + 2 + l.length = (udp0 f t l).length := by rw [udp0_len]
  have e4 : bytesR (be2 f) ++ bytesR (be2 t) ++ bytesR (be2 (8 + l.length)) ++ [Value.int IntKind.u8 0, Value.int IntKind.u8 0] ++ bytesR l = bytesR (udp0 f t l) := by simp [bytesR, udp0]
  rw [e4, e3]
  have hlen := udp0_len f t l
  refine EL_call rfl (rPseudo_spec src dst 17 (by decide) (by omega)) ?_
  intro _
  have e5 : udpB src dst f t l = _ := rfl
  conv at e5 => rhs; unfold udpB udpS
  generalize udp0 f t l = u at *
  have hs := pseT_lt src dst 17 u
  by_cases h0 : pseT src dst 17 u = 0
  · rw [if_pos h0] at e5
    rw [h0, e5, st2_len]
    unfold st2
    have hset : (u.set 6 (u8 (65535 / 256))).length = u.length := List.length_set
    repeat (first | refine go ?_ | (refine goX ?_; intro))
    rw [show (65535 : Int) = ((65535 : Nat) : Int) from rfl, show ((65535 : Nat) : Int) / 2 ^ Int.toNat 8 = ((65535 / 256 : Nat) : Int) from shr_n 65535 8, u8_val, u8_val]
    repeat (first | refine go ?_ | (refine goX ?_; intro))
    exact EK_ret (ER_1 rfl rfl z rfl (Ent.sat (by first | exact Ent.refl _ | exact Ent.last | (repeat (first | refine Ent.cons ?_ | refine Ent.objX ?_ | refine Ent.rowX ?_ | exact Ent.any | exact Ent.last)))))
  · rw [if_neg h0] at e5
    rw [e5, st2_len]
    unfold st2
    have hset : (u.set 6 (u8 (pseT src dst 17 u / 256))).length = u.length := List.length_set
    repeat (first | refine go ?_ | (refine goX ?_; intro))
    rw [show (pseT src dst 17 u : Int) / 2 ^ Int.toNat 8 = ((pseT src dst 17 u / 256 : Nat) : Int) from shr_n _ 8, u8_val, u8_val]
    repeat (first | refine go ?_ | (refine goX ?_; intro))
    exact EK_ret (ER_1 rfl rfl z rfl (Ent.sat (by first | exact Ent.refl _ | exact Ent.last | (repeat (first | refine Ent.cons ?_ | refine Ent.objX ?_ | refine Ent.rowX ?_ | exact Ent.any | exact Ent.last)))))
/-- A head, its sum not laid yet. -/
def hd0B (ttl proto src dst n : Nat) : List UInt8 := [69, 0] ++ be2 n ++ [0, 0, 64, 0, u8 ttl, u8 proto, 0, 0] ++ be4 src ++ be4 dst
def hdB (ttl proto src dst n : Nat) : List UInt8 := st2 (hd0B ttl proto src dst n) 10 (csum (hd0B ttl proto src dst n))
def putB (ttl proto src dst : Nat) (l : List UInt8) : List UInt8 := hdB ttl proto src dst (20 + l.length) ++ l
theorem hd0B_len (ttl proto src dst n : Nat) : (hd0B ttl proto src dst n).length = 20 := rfl
theorem hdB_len (ttl proto src dst n : Nat) : (hdB ttl proto src dst n).length = 20 := by unfold hdB; rw [st2_len, hd0B_len]
theorem putB_len (ttl proto src dst : Nat) (l : List UInt8) : (putB ttl proto src dst l).length = 20 + l.length := by unfold putB; rw [List.length_append, hdB_len]
theorem rOf_at {n : Nat} (p : Option Addr) (c : Nat) (l : List UInt8) (hn : n = l.length) (hl : l.length ≤ 1000000) [Src W F p n (bytesR l)] : Spec Tryz.prog 60 [.slice p n c] W F (fun _ : Unit => .int .u16 (csum l : Int)) (fun _ => F) := by
  subst hn
  exact rOf_spec p c l hl
set_option maxHeartbeats 1000000 in
theorem Put_spec [s : Src W F p l.length (bytesR l)] [r : Room W F p l.length c] (h : l.length ≤ 1480) (ttl proto src dst : Nat) (h1 : ttl < 256) (h2 : proto < 256) : Spec Tryz.prog 58 [.agg #[.int .i64 0, .int .i64 0, .int .i64 (ttl : Int), .int .i64 (proto : Int), .int .u32 (src : Int), .int .u32 (dst : Int)], .slice p l.length c] W F
    (fun q : Slab => .tuple #[.slice q.1 (putB ttl proto src dst l).length q.2, .bool true]) (fun q => RowC 5 1 q.1 (putB ttl proto src dst l).length q.2 (bytesR (putB ttl proto src dst l)) * F) := by
  refine Spec.of Tryz.func58 rfl Tryz.ntmps58 rfl ?_
  repeat (first | refine go ?_ | (refine goX ?_; intro))
  rename_i q
  have g8 : ∀ n : Nat, (n : Int) / 2 ^ Int.toNat 8 = ((n / 256 : Nat) : Int) := fun n => shr_n n 8
  have g16 : ∀ n : Nat, (n : Int) / 2 ^ Int.toNat 16 = ((n / 65536 : Nat) : Int) := fun n => shr_n n 16
  have g24 : ∀ n : Nat, (n : Int) / 2 ^ Int.toNat 24 = ((n / 16777216 : Nat) : Int) := fun n => shr_n n 24
  have gl : 20 + (l.length : Int) = ((20 + l.length : Nat) : Int) := by omega
  have gt : (ttl : Int) = (((u8 ttl).toNat : Nat) : Int) := by rw [u8_toNat]; omega
  have gp : (proto : Int) = (((u8 proto).toNat : Nat) : Int) := by rw [u8_toNat]; omega
  have e : [Value.int .u8 69, Value.int .u8 0, Value.int .u8 (IntKind.u8.wrap ((20 + (l.length : Int)) / 2 ^ Int.toNat 8)), Value.int .u8 (IntKind.u8.wrap (20 + (l.length : Int))), Value.int .u8 0, Value.int .u8 0, Value.int .u8 64, Value.int .u8 0, Value.int .u8 (ttl : Int), Value.int .u8 (proto : Int), Value.int .u8 0, Value.int .u8 0,
      Value.int .u8 (IntKind.u8.wrap ((src : Int) / 2 ^ Int.toNat 24)), Value.int .u8 (IntKind.u8.wrap ((src : Int) / 2 ^ Int.toNat 16)), Value.int .u8 (IntKind.u8.wrap ((src : Int) / 2 ^ Int.toNat 8)), Value.int .u8 (IntKind.u8.wrap (src : Int)),
      Value.int .u8 (IntKind.u8.wrap ((dst : Int) / 2 ^ Int.toNat 24)), Value.int .u8 (IntKind.u8.wrap ((dst : Int) / 2 ^ Int.toNat 16)), Value.int .u8 (IntKind.u8.wrap ((dst : Int) / 2 ^ Int.toNat 8)), Value.int .u8 (IntKind.u8.wrap (dst : Int))] = bytesR (hd0B ttl proto src dst (20 + l.length)) := by
    rw [gl, g8, g8, g8, g16, g16, g24, g24, u8_val, u8_val, u8_val, u8_val, u8_val, u8_val, u8_val, u8_val, u8_val, u8_val, gt, gp]
    rfl
  rw [e]
  have e1 : putB ttl proto src dst l = st2 (hd0B ttl proto src dst (20 + l.length)) 10 (csum (hd0B ttl proto src dst (20 + l.length))) ++ l := rfl
  have e2 : 20 = (hd0B ttl proto src dst (20 + l.length)).length := (hd0B_len _ _ _ _ _).symm
  have e3 : (putB ttl proto src dst l).length = 20 + l.length := putB_len _ _ _ _ _
  rw [e3, e1]
  generalize hd0B ttl proto src dst (20 + l.length) = u at *
  have hs := csum_lt u
  have h2 : (st2 u 10 (csum u)).length = 20 := by rw [st2_len, ← e2]
  have h3 : (u.set 10 (u8 (csum u / 256))).length = 20 := by rw [List.length_set, ← e2]
  refine EL_call rfl (rOf_at q 20 u e2 (by omega)) ?_
  intro _
  repeat (first | refine go ?_ | (refine goX ?_; intro))
  rw [show (csum u : Int) / 2 ^ Int.toNat 8 = ((csum u / 256 : Nat) : Int) from shr_n _ 8, u8_val, u8_val]
  repeat (first | refine go ?_ | (refine goX ?_; intro))
  rename_i z
  rw [show bytesR ((u.set 10 (u8 (csum u / 256))).set 11 (u8 (csum u))) ++ bytesR l = bytesR (st2 u 10 (csum u) ++ l) by simp [bytesR, st2]]
  exact EK_ret (ER_2 rfl rfl rfl z rfl (Ent.sat (by first | exact Ent.refl _ | exact Ent.last | (repeat (first | refine Ent.cons ?_ | refine Ent.objX ?_ | refine Ent.rowX ?_ | exact Ent.any | exact Ent.last)))))
end
def frU (src dst f t : Nat) (l : List UInt8) : List UInt8 := putB 64 17 src dst (udpB src dst f t l)
section
variable {p : Option Addr} {c : Nat} {l : List UInt8}
theorem Carried0_spec [s : Src W F p l.length (bytesR l)] [r : Room W F p l.length c] (h : l.length ≤ 40) (src dst f t : Nat) (hf : f < 65536) (ht : t < 65536) (fl : Int) : Spec Tryz.prog 57 [.agg #[.int .i64 0, .int .u32 (src : Int), .int .u32 (dst : Int), .int .u16 (f : Int), .int .u16 (t : Int), .int .i64 fl, .slice p l.length c]] W F
    (fun q : Slab => .tuple #[.slice q.1 (udpB src dst f t l).length q.2, .int .i64 17]) (fun q => RowC 5 1 q.1 (udpB src dst f t l).length q.2 (bytesR (udpB src dst f t l)) * F) := by
  refine Spec.of Tryz.func57 rfl Tryz.ntmps57 rfl ?_
  have hm : min l.length 40 = l.length := Nat.min_eq_left h
  repeat (first | refine go ?_ | (refine goX ?_; intro))
  rw [hm]
  repeat (first | refine go ?_ | (refine goX ?_; intro))
  refine EL_call rfl (Udp_spec (by omega) src dst f t hf ht) ?_
  intro z
  repeat (first | refine go ?_ | (refine goX ?_; intro))
  exact EK_ret (ER_2 rfl rfl rfl z rfl (Ent.sat (by first | exact Ent.refl _ | exact Ent.last | (repeat (first | refine Ent.cons ?_ | refine Ent.objX ?_ | refine Ent.rowX ?_ | exact Ent.any | exact Ent.last)))))
theorem Frame0_spec [s : Src W F p l.length (bytesR l)] [r : Room W F p l.length c] (h : l.length ≤ 40) (src dst f t : Nat) (hf : f < 65536) (ht : t < 65536) (fl : Int) : Spec Tryz.prog 33 [.agg #[.int .i64 0, .int .u32 (src : Int), .int .u32 (dst : Int), .int .u16 (f : Int), .int .u16 (t : Int), .int .i64 fl, .slice p l.length c]] W F
    (fun q : Slab => .slice q.1 (frU src dst f t l).length q.2) (fun q => RowC 5 1 q.1 (frU src dst f t l).length q.2 (bytesR (frU src dst f t l)) * F) := by
  refine Spec.of Tryz.func33 rfl Tryz.ntmps33 rfl ?_
  have hl := udpB_len src dst f t l
  repeat (first | refine go ?_ | (refine goX ?_; intro))
  refine EL_call rfl (Carried0_spec h src dst f t hf ht fl) ?_
  intro z
  repeat (first | refine go ?_ | (refine goX ?_; intro))
  refine EL_call rfl (Put_spec (l := udpB src dst f t l) (by omega) 64 17 src dst (by decide) (by decide)) ?_
  intro y
  repeat (first | refine go ?_ | (refine goX ?_; intro))
  rw [show putB 64 17 src dst (udpB src dst f t l) = frU src dst f t l from rfl]
  exact EK_ret (ER_1 rfl rfl y rfl (Ent.sat (by first | exact Ent.refl _ | exact Ent.last | (repeat (first | refine Ent.cons ?_ | refine Ent.objX ?_ | refine Ent.rowX ?_ | exact Ent.any | exact Ent.last)))))
/-- The frame that the laws' trials send. -/
def fr0 : List UInt8 := frU 167772161 134744065 5 53 []
theorem Sent0_spec : Spec Tryz.prog 19 [.agg #[.bool true, .int .i64 0, .int .i64 0, .int .i64 0, .int .i64 0, .slice none 0 0, .int .i64 0, .int .u8 0, .int .i64 0]] W F
    (fun q : Slab => .slice q.1 fr0.length q.2) (fun q => RowC 5 1 q.1 fr0.length q.2 (bytesR fr0) * F) := by
  refine Spec.of Tryz.func19 rfl Tryz.ntmps19 rfl ?_
  repeat (first | refine go ?_ | (refine goX ?_; intro))
  refine EK_drawn rfl (by kernel_rfl) ?_
  repeat (refine goS ?_)
  repeat (first | refine go ?_ | (refine goX ?_; intro))
  rw [show (167772161 + 0 % 3 : Int) = ((167772161 : Nat) : Int) from rfl, show (134744065 + 0 / 3 % 3 : Int) = ((134744065 : Nat) : Int) from rfl]
  rename_i x
  haveI : ∀ H : SL, Room W H none 0 0 := fun H => ⟨fun _ _ => Nat.le_refl _⟩
  haveI : ∀ H : SL, Room W H none ([] : List UInt8).length 0 := fun H => ⟨fun _ _ => Nat.le_refl _⟩
  haveI : ∀ H : SL, Src W H none ([] : List UInt8).length (bytesR []) := fun H => ⟨fun _ _ i v hv => by simp [bytesR] at hv, fun _ _ h => by simp at h⟩
  refine EK_sink 21 (Obj x 67 [.bool true, .int .i64 0, .int .i64 0, .int .i64 0, .int .i64 0, .slice none 0 0, .int .i64 0, .int .u8 0, .int .i64 0] * F) rfl rfl rfl ?_
  repeat (first | refine goQ ?_ | refine EG_done (by decide +kernel) ?_)
  repeat (first | refine goG ?_ | (refine goGX ?_; intro) | refine goGL ?_ | refine goGS ?_ | refine goGV ?_ | refine EG_done (by decide +kernel) ?_)
  repeat (first | refine go ?_ | (refine goX ?_; intro))
  rw [show (5 + 0 % 5 : Int) = ((5 : Nat) : Int) from rfl, show min 0 20 = ([] : List UInt8).length from rfl]
  refine EL_call rfl (Frame0_spec (p := none) (c := 0) (l := []) (by decide) 167772161 134744065 5 53 (by decide) (by decide) 0) ?_
  intro z
  rw [show frU 167772161 134744065 5 53 [] = fr0 from rfl]
  repeat (first | refine go ?_ | (refine goX ?_; intro))
  exact EK_ret (ER_1 rfl rfl z rfl (Ent.sat (by first | exact Ent.refl _ | exact Ent.last | (repeat (first | refine Ent.cons ?_ | refine Ent.objX ?_ | refine Ent.rowX ?_ | exact Ent.any | exact Ent.last)))))
theorem Cfg9_spec : Spec Tryz.prog 18 [.int .i64 1, .int .i64 9, .int .i64 2] W F (fun _ : Unit => .agg #[.int .i64 2, .int .u32 3221225985, .int .i64 1000, .int .i64 1009, .int .i64 16, .int .i64 4]) (fun _ => F) := by
  refine Spec.of Tryz.func18 rfl Tryz.ntmps18 rfl ?_
  repeat (first | refine go ?_ | (refine goX ?_; intro))
  refine EK_ret (ER_c1 (rv := .cell 6 24) rfl ⟨_, rfl, LoadsV.agg rfl⟩ () rfl (Ent.sat ?_))
  first | exact Ent.refl _ | exact Ent.last | (repeat (first | refine Ent.cons ?_ | refine Ent.objX ?_ | refine Ent.rowX ?_ | exact Ent.any | exact Ent.last))
end
end Go.Proofs.YtianbkbehjppoaaGreatDoor

namespace Go.Proofs.YtianbkbehjppoaaGreatDoor
open Go.RowKit
theorem strCells_bs (l : List UInt8) : Lib.strCells (bs l) = bytesR l := by
  unfold Lib.strCells bytesR bs
  simp
theorem ones_bytes (l : List UInt8) : ones (bytesR l) = true := by simp [Go.Proofs.YtianbkbehjppoaaGreatDoor.ones, bytesR, Value.oneCell']
theorem append_strC {P : Program} {W w : World} {F : SL} {t u ty e by' n cap : Nat} {z xs : List Value} {p : Option Addr} {l : List UInt8} (s : TSlice P t e 1 by' z) (hu : P.underlying u = some .string) (h : Sat W w (RowC e 1 p n cap xs * F))
    (hm : 0 < l.length) (h63 : n + l.length ≤ maxLen) (hby : (n + l.length) * by' ≤ 140737488355328) :
    ∃ p' c' w', (Builtin.append_ #[t, u] ty #[.slice p n cap, .string (bs l)]).run P w = .ok (.slice p' (n + l.length) c') w' ∧ Sat W w' (RowC e 1 p' (n + l.length) c' (xs ++ bytesR l) * F) := by
  obtain ⟨i, v, hi, hz, hsz, hbs, hzc⟩ := s.parts
  have hzl : v.cells.size = 1 := by rw [hzc]; simpa using s.len
  subst hbs
  have hsmall : n + l.length ≤ 9223372036854775807 := by simp only [maxLen] at h63; omega
  have hbl : (bs l).size = l.length := bs_size l
  have hbr : (bytesR l).length = l.length := by simp [bytesR]
  obtain ⟨⟨hxl, hnc, hcm⟩, ⟨_, hcz, hs⟩ | ⟨g, o, cur, rfl, h2, h3, hs⟩⟩ := RowC.open h
  · have hn0 : n = 0 := by omega
    subst hn0
    have hx0 : xs = [] := List.eq_nil_of_length_eq_zero (by simpa using hxl)
    subst hx0
    subst hcz
    cases p with
    | some a0 =>
      have hr := Lib.run_append_grow_string (P := P) w t u ty e i v s.under hu hi hz a0 0 0 [] (by simp) (by simp) (bs l) (by omega) (by omega) (growslice_fits (by omega) (by rw [hbl]; exact hby))
      rw [hbl] at hr
      have hge := grownCap_ge w (0 + l.length) 0 e
      have hcm' := grownCap_le_maxLen w (0 + l.length) 0 e h63
      refine ⟨_, _, _, hr, ?_⟩
      rw [strCells_bs]
      have hn := hs.drew.alloc (.cells ((([] : List Value).toArray) ++ (bytesR l).toArray ++ Builtin.zeroCells v.cells (grownCap w (0 + l.length) 0 e - (0 + l.length))) e)
      have hc : (([] : List Value).toArray) ++ (bytesR l).toArray ++ Builtin.zeroCells v.cells (grownCap w (0 + l.length) 0 e - (0 + l.length)) = (([] ++ bytesR l) ++ (Builtin.zeroCells v.cells (grownCap w (0 + l.length) 0 e - (0 + l.length))).toList).toArray := by simp
      rw [hc] at hn ⊢
      have hsz2 : (Builtin.zeroCells v.cells (grownCap w (0 + l.length) 0 e - (0 + l.length))).toList.length = (grownCap w (0 + l.length) 0 e - (0 + l.length)) := by simp [size_zeroCells, hzl]
      have hxn : (([] : List Value) ++ bytesR l).length = (0 + l.length) * 1 := by simp [hbr]
      exact RowC.shut (o := 0) hge hcm' (by rw [List.length_append, hsz2, hxn]; omega) (by rw [List.drop_zero, ← hxn, List.take_left]) hn
    | none =>
      have hr := run_append_nil_string (P := P) w t u ty e i v s.under hu hi hz (bs l) (by omega) (by omega) (by rw [hbl]; have := hby; simp only [Nat.zero_add] at this; omega)
      rw [hbl] at hr
      have hge := grownCap_ge w l.length 0 e
      have hcm := grownCap_le_maxLen w l.length 0 e (by omega)
      refine ⟨_, _, _, by rw [Nat.zero_add]; exact hr, ?_⟩
      have hd : (bs l).data.map (fun b => Value.int .u8 b.toNat) = (bytesR l).toArray := by
        unfold bs bytesR
        simp
      rw [hd]
      have hn := hs.drew.alloc (.cells ((bytesR l).toArray ++ Builtin.zeroCells v.cells (grownCap w l.length 0 e - l.length)) e)
      have hc : (bytesR l).toArray ++ Builtin.zeroCells v.cells (grownCap w l.length 0 e - l.length) = (bytesR l ++ (Builtin.zeroCells v.cells (grownCap w l.length 0 e - l.length)).toList).toArray := by simp
      rw [hc] at hn ⊢
      have hsz2 : (Builtin.zeroCells v.cells (grownCap w l.length 0 e - l.length)).toList.length = (grownCap w l.length 0 e - l.length) := by simp [size_zeroCells, hzl]
      have := RowC.shut (e := e) (sz := 1) (o := 0) (n := l.length) (cap := grownCap w l.length 0 e) (xs := bytesR l) hge hcm (by rw [List.length_append, hsz2, hbr]; omega) (by rw [List.drop_zero, Nat.mul_one, ← hbr, List.take_left]) hn
      simpa using this
  · by_cases hroom : n + l.length ≤ cap
    · obtain ⟨w', h4, h5⟩ := blk_stores (P := P) (o := o + n) (vs := bytesR l) hs (by rw [hbr]; omega) (ones_bytes l)
      have hf := Lib.run_firstCells_string (P := P) w 1 (bs l)
      rw [hbl, strCells_bs] at hf
      refine ⟨some ⟨g, o, none⟩, cap, w', ?_, RowC.shut hroom hcm ?_ ?_ h5⟩
      · have hsz1 : i.size = 1 := hsz
        simp [Builtin.append_, run_underlying s.under, run_underlying hu, sizeOf, typeInfo, hi, hsz1, Builtin.lenOf, hbl, hroom, hf, add_at, h4]
      · simp; omega
      · rw [← h3, List.drop_append_of_le_length (by simp; omega), List.drop_append_of_le_length (by simp; omega), List.drop_take, show o + n - o = n by omega]
        have e1 : ((List.take (n * 1) (List.drop o cur)) ++ bytesR l).length = n + l.length := by simp [hbr]; omega
        simp only [Nat.mul_one] at e1 ⊢
        rw [← e1, List.take_left]
    · have holds : ∀ j u, xs[j]? = some u → w.cell? ((⟨g, o, none⟩ : Addr).add j) = some u := fun j u hu => by
        obtain ⟨b, h4, h5⟩ := RowC.cell h hu
        simp only [off, Option.map_some, Option.some.injEq] at h4
        rw [h4]; exact h5
      have hr := Lib.run_append_grow_string (P := P) w t u ty e i v s.under hu hi hz ⟨g, o, none⟩ n cap xs (by rw [hsz]; exact hxl) holds (bs l) (by omega) (by omega) (growslice_fits (by omega) (by rw [hbl]; exact hby))
      rw [hbl] at hr
      have hge := grownCap_ge w (n + l.length) cap e
      have hcm' := grownCap_le_maxLen w (n + l.length) cap e h63
      refine ⟨_, _, _, hr, ?_⟩
      rw [strCells_bs]
      have hn := hs.drop.drew.alloc (.cells (xs.toArray ++ (bytesR l).toArray ++ Builtin.zeroCells v.cells (grownCap w (n + l.length) cap e - (n + l.length))) e)
      have hc : xs.toArray ++ (bytesR l).toArray ++ Builtin.zeroCells v.cells (grownCap w (n + l.length) cap e - (n + l.length)) = ((xs ++ bytesR l) ++ (Builtin.zeroCells v.cells (grownCap w (n + l.length) cap e - (n + l.length))).toList).toArray := by simp
      rw [hc] at hn ⊢
      have hsz2 : (Builtin.zeroCells v.cells (grownCap w (n + l.length) cap e - (n + l.length))).toList.length = (grownCap w (n + l.length) cap e - (n + l.length)) := by simp [size_zeroCells, hzl]
      have hxn : (xs ++ bytesR l).length = (n + l.length) * 1 := by rw [List.length_append, hxl, hbr]; omega
      exact RowC.shut (o := 0) hge hcm' (by rw [List.length_append, hsz2, hxn]; omega) (by rw [List.drop_zero, ← hxn, List.take_left]) hn
section
variable {X : Cx} {σ : Env} {H : SL} {o : Oper}
theorem OpDoes_appendStr {x y : Operand} {t u e by' n cap : Nat} {z xs : List Value} {p : Option Addr} {F : SL} {l : List UInt8} (ho : o.op = .call { callee := .builtin .append, args := #[x, y], argTypes := #[t, u] }) (hx : ev σ x = some (.slice p n cap)) (hy : ev σ y = some (.string (bs l)))
    [s : TSlice X.P t e 1 by' z] [su : TStr X.P u] [r : AtP H p (RowC e 1 p n cap xs) F] (hm : 0 < l.length) (hb : n + l.length ≤ 4294967296) (hby : by' ≤ 32768) :
    OpDoes X σ H o (fun q : Option Addr × Nat => .slice q.1 (n + l.length) q.2) (fun q => RowC e 1 q.1 (n + l.length) q.2 (xs ++ bytesR l) * F) := by
  intro a w ha hs
  have hmul : (n + l.length) * by' ≤ 4294967296 * 32768 := Nat.mul_le_mul hb hby
  obtain ⟨p', c', w', h2, h3⟩ := append_strC (ty := o.type) s su.h (r.eq ▸ hs) hm (by unfold maxLen; omega) (by omega)
  refine ⟨(p', c'), w', ?_, h3⟩
  simp only [execOp, ho, resolve, invoke, builtin, Sem.run_bind, Sem.run_pure, Result.andThen_ok, List.map_toArray, List.map_cons, List.map_nil, ha.eval hx, ha.eval hy, h2]
/-- Of bytes, as many as there may be. -/
theorem OpDoes_appendB {x y : Operand} {t e by' n cap m c : Nat} {z xs news : List Value} {p q : Option Addr} {F : SL} (ho : o.op = .call { callee := .builtin .append, args := #[x, y], argTypes := #[t, t] }) (hx : ev σ x = some (.slice p n cap)) (hy : ev σ y = some (.slice q m c))
    [s : TSlice X.P t e 1 by' z] [r : AtP H p (RowC e 1 p n cap xs) F] [r2 : Src X.W H q m news] [h1 : Ones news] (hl : news.length = m) (hb : n + m ≤ 140737488355328) (hby : by' = 1) :
    OpDoes X σ H o (fun q : Option Addr × Nat => .slice q.1 (n + m) q.2) (fun q => RowC e 1 q.1 (n + m) q.2 (xs ++ news) * F) := by
  intro a w ha hs
  subst hby
  obtain ⟨p', c', w', h2, h3⟩ := append_rowC (ty := o.type) (c := c) (m := m) s (r.eq ▸ hs) (fun h => r2.nn w hs h) (r2.cells w hs) (by omega) h1.ones (by unfold maxLen; omega) (by omega)
  refine ⟨(p', c'), w', ?_, h3⟩
  simp only [execOp, ho, resolve, invoke, builtin, Sem.run_bind, Sem.run_pure, Result.andThen_ok, List.map_toArray, List.map_cons, List.map_nil, ha.eval hx, ha.eval hy, h2]
end
end Go.Proofs.YtianbkbehjppoaaGreatDoor

namespace Go.Proofs.YtianbkbehjppoaaGreatDoor
open Go.RowKit
variable {W : World} {F : SL}
theorem small_spec (u : Nat) (h : u < 100) : Spec Tryz.prog 133 [.int .i64 (u : Int)] W F (fun _ : Unit => .string (bs (Lib.decDigits u))) (fun _ => F) := by
  intro w hs
  refine (Tryz.internal_strconv_small u h w).mono ?_
  rintro e w' ⟨rfl, rfl⟩
  exact ⟨(), rfl, hs⟩
theorem numDigits_spec [hW : PlanT W] (u : Nat) (h1 : 1 ≤ u) (h2 : u < 18446744073709551616) : Spec Tryz.prog 134 [.int .u64 (u : Int)] W F (fun _ : Unit => .int .i64 (Lib.nDigits u : Int)) (fun _ => F) := by
  intro w hs
  refine (Tryz.internal_strconv_numDigits u h1 h2 w (tab_under hW.tab hs.below)).mono ?_
  rintro e w' ⟨rfl, rfl⟩
  exact ⟨(), rfl, hs⟩
theorem digits_of {u v : Nat} {d : Array UInt8} (h : Lib.FmtInv (Lib.nDigits u) u 0 v d) : d.toList = Lib.decDigits u := by
  rw [Lib.decDigits_eq]
  apply List.ext_getElem
  · rw [Array.length_toList, h.size]; simp
  · intro i h1 h2
    have hi : i < d.size := by simpa using h1
    have := h.done i (Nat.zero_le _) (by rw [← h.size]; exact hi)
    rw [getElem!_pos d i hi] at this
    simp [this]
theorem format_spec (p : Option Addr) (u : Nat) (hu : u < 18446744073709551616) (ds : List UInt8) (hl : Lib.nDigits u ≤ ds.length) (hd : ds.length ≤ 1000) (cap : Nat) {t : TypeId} : Spec Tryz.prog 135 [.slice p (Lib.nDigits u) cap, .int .u64 (u : Int)] W (Obj p t (bytesR ds) * F) (fun _ : Unit => .tuple #[]) (fun _ => Obj p t (bytesR (Lib.decDigits u ++ ds.drop (Lib.nDigits u))) * F) := by
  intro w hs
  obtain ⟨b, rfl, h⟩ := Obj.open hs
  have hsz : (ds.take (Lib.nDigits u)).toArray.size = Lib.nDigits u := by simp; omega
  have hH : Go.Sort.Holds (fun (x : UInt8) => Value.int .u8 (x.toNat : Int)) w b 0 (ds.take (Lib.nDigits u)).toArray := fun j hj => by
    rw [Nat.zero_add]
    refine ⟨?_, h.free j⟩
    rw [h.cell j]
    have hj' : j < Lib.nDigits u := by omega
    rw [getElem!_pos _ j hj]
    simp [bytesR, show j < ds.length by omega]
  have := Tryz.internal_strconv_formatBase10 b 0 cap u (ds.take (Lib.nDigits u)).toArray w hH (by rw [hsz]; exact Lib.lt_pow_nDigits u) hu (by rw [hsz]; omega)
  rw [hsz] at this
  refine this.mono ?_
  rintro e w' ⟨rfl, m, v', dk, rfl, hf⟩
  refine ⟨(), rfl, Obj.shut rfl ?_⟩
  have hdk := digits_of hf
  have hfs := hf.size
  refine Sat.drewN ?_ m
  refine h.write (by simp [Go.Sort.putRow, Go.Sort.mapBlock]) rfl rfl rfl (fun k hk hkb => ?_) ?_
  · simp [Go.Sort.putRow, Go.Sort.mapBlock, Array.getElem?_modify, hkb.symm]
  · have hg := h.get
    simp only [Go.Sort.putRow, Go.Sort.mapBlock]
    rw [Array.getElem?_modify, if_pos rfl, hg]
    have e : Go.Sort.putCells (fun b : UInt8 => Value.int .u8 (b.toNat : Int)) 0 dk (bytesR ds).toArray = (bytesR (Lib.decDigits u ++ ds.drop (Lib.nDigits u))).toArray := by
      apply Array.ext'
      apply List.ext_getElem?
      intro i
      rw [← hdk]
      simp only [Go.Sort.putCells, Array.getElem?_toList, Array.getElem?_mapIdx, List.getElem?_toArray, bytesR, List.getElem?_map]
      by_cases hi : i < dk.size
      · have h1 : i < ds.length := by omega
        rw [List.getElem?_eq_getElem h1, List.getElem?_append_left (by simpa using hi)]
        simp [hi]
      · rw [List.getElem?_append_right (by simp; omega), List.getElem?_drop]
        have h2 : Lib.nDigits u + (i - dk.toList.length) = i := by simp; omega
        rw [h2]
        cases ds[i]? with
        | none => rfl
        | some x => simp [hi]
    simp only [Option.map_some, Go.Sort.onCells, e]
theorem Src.arr {W : World} {H G : SL} {q : Option Addr} {t : TypeId} {cs : List Value} [r : AtP H q (Obj q t cs) G] (j : Nat) (hj : j ≤ cs.length) : Src W H q j (cs.take j) where
  cells := fun w hs i v hv => by
    obtain ⟨g, rfl, h⟩ := Obj.open (r.eq ▸ hs)
    rw [List.getElem?_take] at hv
    split at hv
    · refine ⟨⟨g, i, none⟩, by simp [off, Addr.add]; omega, ?_⟩
      rw [h.cell i]
      simpa using hv
    · cases hv
  nn := fun w hs _ => by
    obtain ⟨g, rfl, _⟩ := Obj.open (r.eq ▸ hs)
    simp
section
variable {X : Cx} {σ : Env} {H : SL} {o : Oper}
theorem OpVal_sliceArr {x y : Operand} {t t0 : TypeId} {n : Nat} {q : Option Addr} {cs : List Value} {kk : IntKind} {z : Int} {j : Nat} {G : SL} (ho : o.op = .slice t x none (some y) none) (hx : ev σ x = some (.pointer q)) (hy : ev σ y = some (.int kk z)) [a : TArr X.P t n 1] [r : AtP H q (Obj q t0 cs) G] [m : NatOf z j] (hj : j ≤ n) (h0 : 0 < n) : OpVal X σ H o (.slice q j n) := by
  intro b w hb hs
  obtain ⟨g, rfl, _⟩ := Obj.open (r.eq ▸ hs)
  have hm := m.eq
  subst hm
  obtain ⟨e, h1, h2⟩ := a.h
  obtain ⟨i, hi, hsz⟩ := map_info h2
  have e1 : X.P.arrayLen t = n := by simp [Program.arrayLen, h1]
  have e2 : X.P.elem t = e := by simp [Program.elem, h1]
  have h3 := run_sliceAt_array_h (P := X.P) w t ⟨g, 0, none⟩ (by rw [e1, e2]; exact h1) kk (j : Int) (by omega) (by rw [e1]; omega)
  have h4 : (sizeOf e).run X.P w = .ok 1 w := by simp [sizeOf, typeInfo, hi, hsz, go_sem]
  simp only [execOp, ho, hb.eval hx, Option.map_none, Option.map_some, hb.eval hy, Sem.run_bind, h3, e1, e2, h4, Result.andThen_ok, slicedAt]
  have e3 : (if n = 0 then (⟨g, 0, none⟩ : Addr) else (⟨g, 0, none⟩ : Addr).add (0 * 1)) = ⟨g, 0, none⟩ := by
    rw [if_neg (by omega)]
    simp [Addr.add]
  simp [e3]
end
end Go.Proofs.YtianbkbehjppoaaGreatDoor

namespace Go.Proofs.YtianbkbehjppoaaGreatDoor
open Go.RowKit
set_option maxRecDepth 10000
attribute [local irreducible] EK EX ER EN EL ES EG OpVal OpDoes OpSkip
variable {W : World} {F : SL} {X : Cx} {k : List KI} {σ : Env}
variable {q : Slab} {xs : List Value} {n : Nat}
theorem AppendUint_spec [hW : PlanT W] (u : Nat) (hu : u < 18446744073709551616) (hn : n ≤ 1000000) : Spec Tryz.prog 114 [.slice q.1 n q.2, .int .u64 (u : Int), .int .i64 10] W (RowC 5 1 q.1 n q.2 xs * F) (fun z : Slab => .slice z.1 (n + (Lib.decDigits u).length) z.2) (fun z => RowC 5 1 z.1 (n + (Lib.decDigits u).length) z.2 (xs ++ bytesR (Lib.decDigits u)) * F) := by
  refine Spec.of Tryz.func114 rfl Tryz.ntmps114 rfl ?_
  have hl := Lib.decDigits_length u
  have h20 := Lib.nDigits_le20 u hu
  have h1 := Lib.nDigits_pos u
  by_cases h100 : u < 100
  · repeat (first | refine go ?_ | (refine goX ?_; intro))
    refine EL_call rfl (small_spec u h100) ?_
    intro _
    repeat (first | refine go ?_ | (refine goX ?_; intro))
    refine EL_does (OpDoes_appendStr (l := Lib.decDigits u) rfl rfl rfl (by omega) (by omega) (by decide)) rfl ?_
    intro z
    repeat (first | refine go ?_ | (refine goX ?_; intro))
    exact EK_ret (ER_1 rfl rfl z rfl (Ent.sat (by first | exact Ent.refl _ | exact Ent.last | (repeat (first | refine Ent.cons ?_ | refine Ent.objX ?_ | refine Ent.rowX ?_ | exact Ent.any | exact Ent.last)))))
  · repeat (first | refine go ?_ | (refine goX ?_; intro))
    rename_i y
    refine EL_call rfl (numDigits_spec u (by omega) hu) ?_
    intro _
    repeat (first | refine go ?_ | (refine goX ?_; intro))
    refine EL_val (OpVal_sliceArr (n := 24) rfl rfl rfl (by omega) (by decide)) rfl ?_
    repeat (first | refine go ?_ | (refine goX ?_; intro))
    refine EL_call rfl (Spec.pre (format_spec y u hu (List.replicate 24 0) (by simp; omega) (by simp) 24) (Ent.of_eq rfl)) ?_
    intro _
    repeat (first | refine go ?_ | (refine goX ?_; intro))
    refine EL_val (OpVal_sliceArr (n := 24) rfl rfl rfl (by omega) (by decide)) rfl ?_
    repeat (first | refine go ?_ | (refine goX ?_; intro))
    have e1 : (bytesR (Lib.decDigits u ++ (List.replicate 24 (0 : UInt8)).drop (Lib.nDigits u))).take (Lib.nDigits u) = bytesR (Lib.decDigits u) := by
      unfold bytesR
      rw [← List.map_take, ← hl, List.take_left]
    have e2 : (bytesR (Lib.decDigits u)).length = Lib.nDigits u := by simp [bytesR, hl]
    refine EL_does (OpDoes_append rfl rfl rfl (r2 := Src.arr (Lib.nDigits u) (by simp [bytesR, hl])) (h1 := by rw [e1]; infer_instance) (by rw [e1, e2]; omega) (by omega) (by decide)) rfl ?_
    intro z
    rw [e1, hl]
    repeat (first | refine go ?_ | (refine goX ?_; intro))
    exact EK_ret (ER_1 rfl rfl z rfl (Ent.sat (by first | exact Ent.refl _ | exact Ent.last | (repeat (first | refine Ent.cons ?_ | refine Ent.objX ?_ | refine Ent.rowX ?_ | exact Ent.any | exact Ent.last)))))
theorem AppendInt_spec [hW : PlanT W] (u : Nat) (hu : u < 9223372036854775808) (hn : n ≤ 1000000) : Spec Tryz.prog 54 [.slice q.1 n q.2, .int .i64 (u : Int), .int .i64 10] W (RowC 5 1 q.1 n q.2 xs * F) (fun z : Slab => .slice z.1 (n + (Lib.decDigits u).length) z.2) (fun z => RowC 5 1 z.1 (n + (Lib.decDigits u).length) z.2 (xs ++ bytesR (Lib.decDigits u)) * F) := by
  have h2 : Spec Tryz.prog 87 [.slice q.1 n q.2, .int .i64 (u : Int), .int .i64 10] W (RowC 5 1 q.1 n q.2 xs * F) (fun z : Slab => .slice z.1 (n + (Lib.decDigits u).length) z.2) (fun z => RowC 5 1 z.1 (n + (Lib.decDigits u).length) z.2 (xs ++ bytesR (Lib.decDigits u)) * F) := by
    refine Spec.of Tryz.func87 rfl Tryz.ntmps87 rfl ?_
    repeat (first | refine go ?_ | (refine goX ?_; intro))
    refine EL_call rfl (AppendUint_spec u (by omega) hn) ?_
    intro z
    repeat (first | refine go ?_ | (refine goX ?_; intro))
    exact EK_ret (ER_1 rfl rfl z rfl (Ent.sat (by first | exact Ent.refl _ | exact Ent.last | (repeat (first | refine Ent.cons ?_ | refine Ent.objX ?_ | refine Ent.rowX ?_ | exact Ent.any | exact Ent.last)))))
  refine Spec.of Tryz.func54 rfl Tryz.ntmps54 rfl ?_
  repeat (first | refine go ?_ | (refine goX ?_; intro))
  refine EL_call rfl h2 ?_
  intro z
  repeat (first | refine go ?_ | (refine goX ?_; intro))
  exact EK_ret (ER_1 rfl rfl z rfl (Ent.sat (by first | exact Ent.refl _ | exact Ent.last | (repeat (first | refine Ent.cons ?_ | refine Ent.objX ?_ | refine Ent.rowX ?_ | exact Ent.any | exact Ent.last)))))
def boolB (b : Bool) : List UInt8 := if b then [116, 114, 117, 101] else [102, 97, 108, 115, 101]
theorem AppendBool_spec (b : Bool) (hn : n ≤ 1000000) : Spec Tryz.prog 52 [.slice q.1 n q.2, .bool b] W (RowC 5 1 q.1 n q.2 xs * F) (fun z : Slab => .slice z.1 (n + (boolB b).length) z.2) (fun z => RowC 5 1 z.1 (n + (boolB b).length) z.2 (xs ++ bytesR (boolB b)) * F) := by
  have h2 : Spec Tryz.prog 84 [.slice q.1 n q.2, .bool b] W (RowC 5 1 q.1 n q.2 xs * F) (fun z : Slab => .slice z.1 (n + (boolB b).length) z.2) (fun z => RowC 5 1 z.1 (n + (boolB b).length) z.2 (xs ++ bytesR (boolB b)) * F) := by
    refine Spec.of Tryz.func84 rfl Tryz.ntmps84 rfl ?_
    cases b with
    | true =>
      repeat (first | refine go ?_ | (refine goX ?_; intro))
      refine EL_does (OpDoes_appendStr (l := boolB true) rfl rfl rfl (by decide) (by have : (boolB true).length = 4 := rfl; omega) (by decide)) rfl ?_
      intro z
      repeat (first | refine go ?_ | (refine goX ?_; intro))
      exact EK_ret (ER_1 rfl rfl z rfl (Ent.sat (by first | exact Ent.refl _ | exact Ent.last | (repeat (first | refine Ent.cons ?_ | refine Ent.objX ?_ | refine Ent.rowX ?_ | exact Ent.any | exact Ent.last)))))
    | false =>
      repeat (first | refine go ?_ | (refine goX ?_; intro))
      refine EL_does (OpDoes_appendStr (l := boolB false) rfl rfl rfl (by decide) (by have : (boolB false).length = 5 := rfl; omega) (by decide)) rfl ?_
      intro z
      repeat (first | refine go ?_ | (refine goX ?_; intro))
      exact EK_ret (ER_1 rfl rfl z rfl (Ent.sat (by first | exact Ent.refl _ | exact Ent.last | (repeat (first | refine Ent.cons ?_ | refine Ent.objX ?_ | refine Ent.rowX ?_ | exact Ent.any | exact Ent.last)))))
  refine Spec.of Tryz.func52 rfl Tryz.ntmps52 rfl ?_
  repeat (first | refine go ?_ | (refine goX ?_; intro))
  refine EL_call rfl h2 ?_
  intro z
  repeat (first | refine go ?_ | (refine goX ?_; intro))
  exact EK_ret (ER_1 rfl rfl z rfl (Ent.sat (by first | exact Ent.refl _ | exact Ent.last | (repeat (first | refine Ent.cons ?_ | refine Ent.objX ?_ | refine Ent.rowX ?_ | exact Ent.any | exact Ent.last)))))
end Go.Proofs.YtianbkbehjppoaaGreatDoor

namespace Go.Proofs.YtianbkbehjppoaaGreatDoor
open Go.RowKit
def blR (l : List Bool) : List Value := l.map fun b => .bool b
theorem blR_len (l : List Bool) : (blR l).length = l.length := by simp [blR]
instance RowGet.bl (l : List Bool) (i : Nat) : RowGet (blR l) i 1 0 (.bool (l.getD i false)) (i < l.length) := ⟨fun h => by
  simp [blR, List.getD_eq_getElem?_getD, h]⟩
instance RowSet.bl (l : List Bool) (i : Nat) (b : Bool) : RowSet (blR l) i 1 0 [.bool b] (blR (l.set i b)) (i < l.length) := ⟨fun h => by
  refine ⟨by simp [blR]; omega, ?_⟩
  simp only [Nat.mul_one, Nat.add_zero, List.length_cons, List.length_nil, Nat.zero_add]
  rw [← set_split (by simpa [blR] using h)]
  simp [blR, List.map_set]⟩
instance Ones.bl (l : List Bool) : Ones (blR l) := ⟨by simp [Go.Proofs.YtianbkbehjppoaaGreatDoor.ones, blR, Value.oneCell']⟩
instance RLen.bl (l : List Bool) : RLen (blR l) l.length := ⟨blR_len l⟩
def overT (l : List EvT) (d : List Bool) : Bool := (List.range l.length).all fun i => d.getD i false || decide ((l.getD i ev0).e = -1)
def mayT (l : List EvT) (d : List Bool) (i : Nat) : Bool := (List.range l.length).all fun k => d.getD k false || !aheadT (l.getD k ev0) (l.getD i ev0)
theorem range_all {n : Nat} {f : Nat → Bool} (h : ∀ j, j < n → f j = true) : (List.range n).all f = true := by
  rw [List.all_eq_true]
  intro x hx
  exact h x (List.mem_range.1 hx)
theorem range_not {n : Nat} {f : Nat → Bool} {i : Nat} (hi : i < n) (h : f i = false) : (List.range n).all f = false := by
  rw [List.all_eq_false]
  exact ⟨i, List.mem_range.2 hi, by rw [h]; decide⟩
theorem range_at {n : Nat} {f : Nat → Bool} (h : (List.range n).all f = true) {i : Nat} (hi : i < n) : f i = true := (List.all_eq_true.1 h) i (List.mem_range.2 hi)
/-- Is there an order that goes on from here? -/
def orderF (c : Cfg) (l : List EvT) : Nat → List BindT → List Bool → Bool
  | 0, _, d => overT l d
  | k + 1, L, d => overT l d || (List.range l.length).any fun i => !d.getD i false && (mayT l d i && ((doesT c L (l.getD i ev0)).2 && orderF c l k (doesT c L (l.getD i ev0)).1 (d.set i true)))
/-- Such an order. -/
def OrdF (c : Cfg) (l : List EvT) : List BindT → List Bool → List Nat → Prop
  | _, d, [] => overT l d = true
  | L, d, i :: o => i < l.length ∧ d.getD i false = false ∧ mayT l d i = true ∧ (doesT c L (l.getD i ev0)).2 = true ∧ OrdF c l (doesT c L (l.getD i ev0)).1 (d.set i true) o
/-- What is left to be done. -/
def left (d : List Bool) : Nat := d.count false
theorem left_set {d : List Bool} {i : Nat} (hi : i < d.length) (h : d.getD i false = false) : left (d.set i true) + 1 = left d := by
  unfold left
  induction d generalizing i with
  | nil => simp at hi
  | cons a d ih =>
    cases i with
    | zero =>
      have : a = false := by simpa using h
      subst this
      simp
    | succ i =>
      have := ih (i := i) (by simpa using hi) (by simpa using h)
      simp only [List.set_cons_succ, List.count_cons]
      omega
/-- There is an order. -/
def Ord (c : Cfg) (l : List EvT) (L : List BindT) (d : List Bool) : Prop := ∃ o, OrdF c l L d o
theorem Ord.step {c : Cfg} {l : List EvT} {L : List BindT} {d : List Bool} {i : Nat} (hi : i < l.length) (h1 : d.getD i false = false) (h2 : mayT l d i = true) (h3 : (doesT c L (l.getD i ev0)).2 = true) (h : Ord c l (doesT c L (l.getD i ev0)).1 (d.set i true)) : Ord c l L d := by
  obtain ⟨o, ho⟩ := h
  exact ⟨i :: o, hi, h1, h2, h3, ho⟩
theorem Ord.inv {c : Cfg} {l : List EvT} {L : List BindT} {d : List Bool} (h : Ord c l L d) : overT l d = true ∨ ∃ i, i < l.length ∧ d.getD i false = false ∧ mayT l d i = true ∧ (doesT c L (l.getD i ev0)).2 = true ∧ Ord c l (doesT c L (l.getD i ev0)).1 (d.set i true) := by
  obtain ⟨o, ho⟩ := h
  cases o with
  | nil => exact .inl ho
  | cons i o =>
    obtain ⟨h1, h2, h3, h4, h5⟩ := ho
    exact .inr ⟨i, h1, h2, h3, h4, o, h5⟩
end Go.Proofs.YtianbkbehjppoaaGreatDoor
