/-
  Lines of a Config: what both readings accept is the same, and it is the text. Plain.
-/
import Derived.Test.YtafbipoagehdeaaDoorPq1
namespace Go.Proofs.YtafbipoagehdeaaDoor
open Go.RowKit

/-! ### Cutting at a byte -/
theorem index_app {c : UInt8} : ∀ {a b : List UInt8}, c ∉ a → Lib.index (a ++ c :: b) [c] = (a.length : Int)
  | [], b, _ => by rw [List.nil_append, index_cons, if_pos rfl]; rfl
  | x :: a, b, h => by
    have hx : x ≠ c := fun e => h (e ▸ List.mem_cons_self)
    have ih := index_app (a := a) (b := b) fun g => h (List.mem_cons_of_mem _ g)
    rw [List.cons_append, index_cons, if_neg hx, ih, if_neg (by omega)]
    simp
theorem index_at {c : UInt8} : ∀ {s : List UInt8} {i : Nat}, Lib.index s [c] = (i : Int) → s = s.take i ++ c :: s.drop (i + 1)
  | [], i, h => by
    have : Lib.index [] [c] = -1 := rfl
    rw [this] at h; omega
  | x :: l, i, h => by
    rw [index_cons] at h
    split at h
    · rename_i hx
      obtain rfl : i = 0 := by omega
      rw [hx]; rfl
    · split at h
      · omega
      · rename_i hx hn
        obtain ⟨j, rfl⟩ : ∃ j, i = j + 1 := ⟨i - 1, by have := Lib.index_ge l [c]; omega⟩
        have := index_at (c := c) (s := l) (i := j) (by omega)
        simp only [List.take_succ_cons, List.drop_succ_cons, List.cons_append]
        rw [← this]
theorem cut_app {c : UInt8} {a b : List UInt8} (h : c ∉ a) : Lib.cut (a ++ c :: b) [c] = (a, b, true) := by
  unfold Lib.cut
  rw [index_app h, if_pos (by omega)]
  simp [← List.drop_drop]
theorem cut_some {c : UInt8} {s : List UInt8} (h : (Lib.cut s [c]).2.2 = true) : s = (Lib.cut s [c]).1 ++ c :: (Lib.cut s [c]).2.1 := by
  unfold Lib.cut at *
  split at h
  · rename_i hi
    obtain ⟨i, e⟩ : ∃ i : Nat, Lib.index s [c] = i := ⟨(Lib.index s [c]).toNat, by omega⟩
    rw [if_pos hi, e]
    exact index_at e
  · cases h
theorem pref_out {s p : List UInt8} (h : Lib.hasPrefix s p = true) : s = p ++ Lib.trimPrefix s p := by
  unfold Lib.trimPrefix
  rw [if_pos h]
  unfold Lib.hasPrefix at h
  obtain ⟨t, rfl⟩ := List.isPrefixOf_iff_prefix.1 h
  rw [List.drop_left]
theorem pref_in (p v : List UInt8) : Lib.hasPrefix (p ++ v) p = true ∧ Lib.trimPrefix (p ++ v) p = v := by
  have h : Lib.hasPrefix (p ++ v) p = true := List.isPrefixOf_iff_prefix.2 (List.prefix_append _ _)
  refine ⟨h, ?_⟩
  unfold Lib.trimPrefix
  rw [if_pos h, List.drop_left]

/-! ### Lines -/
def outerW : List UInt8 := [32, 111, 117, 116, 101, 114, 61]
def portsW : List UInt8 := [32, 112, 111, 114, 116, 115, 61]
def bucketsW : List UInt8 := [32, 98, 117, 99, 107, 101, 116, 115, 61]
def ringW : List UInt8 := [32, 114, 105, 110, 103, 61]
structure LineIs (s : List UInt8) (c : Cfg) : Prop where
  parts : ∃ (W O L H B R : List UInt8) (w o l h b r : Nat), s = nameL 0 ++ (W ++ (outerW ++ (O ++ (portsW ++ (L ++ (45 :: (H ++ (bucketsW ++ (B ++ (ringW ++ R)))))))))) ∧
    numT 5 W = some w ∧ AddrIs O o ∧ numT 5 L = some l ∧ numT 5 H = some h ∧ numT 5 B = some b ∧ numT 5 R = some r ∧ c = ⟨w, o, l, h, b, r⟩
theorem sp_no {m n : Nat} {D : List UInt8} (h : numT m D = some n) : (32 : UInt8) ∉ D := num_no h 32 (by decide)
theorem mi_no {m n : Nat} {D : List UInt8} (h : numT m D = some n) : (45 : UInt8) ∉ D := num_no h 45 (by decide)
theorem sp_addr {s : List UInt8} {a : Nat} (h : AddrIs s a) : (32 : UInt8) ∉ s := by
  obtain ⟨d3, d2, d1, d0, n3, n2, n1, n0, rfl, h3, h2, h1, h0, _⟩ := h
  simp only [List.mem_append, List.mem_cons, not_or]
  exact ⟨sp_no h3, by decide, sp_no h2, by decide, sp_no h1, by decide, sp_no h0⟩
theorem list5 {α : Type} {l : List α} (h : l.length = 5) : ∃ a b c d e, l = [a, b, c, d, e] := by
  match l, h with
  | [a, b, c, d, e], _ => exact ⟨a, b, c, d, e, rfl⟩
theorem no_app {c : UInt8} {a b : List UInt8} (h : c ∉ a) (k : c ∉ b) : c ∉ a ++ b := by
  simp only [List.mem_append, not_or]; exact ⟨h, k⟩
theorem nameL_no (i : Nat) : (32 : UInt8) ∉ nameL i := by
  unfold nameL
  split <;> decide
theorem parts_iff {ps : List (List UInt8)} {c : Cfg} : partsC ps = some c ↔ goodN ps 5 = true ∧ (Lib.cut (vOf ps 2) [45]).2.2 = true ∧ ∃ (w o l h b r : Nat), numT 5 (vOf ps 0) = some w ∧ addrT (vOf ps 1) = some o ∧ numT 5 (Lib.cut (vOf ps 2) [45]).1 = some l ∧
    numT 5 (Lib.cut (vOf ps 2) [45]).2.1 = some h ∧ numT 5 (vOf ps 3) = some b ∧ numT 5 (vOf ps 4) = some r ∧ c = ⟨w, o, l, h, b, r⟩ := by
  rw [partsC_eq (ps := ps) rfl rfl rfl rfl rfl rfl rfl]
  constructor
  · intro h
    split at h
    · rename_i hg
      refine ⟨hg.1, hg.2, ?_⟩
      split at h
      · rename_i w o l hh b r e1 e2 e3 e4 e5 e6
        simp only [Option.some.injEq] at h
        exact ⟨w, o, l, hh, b, r, e1, e2, e3, e4, e5, e6, h.symm⟩
      · cases h
    · cases h
  · rintro ⟨h1, h2, w, o, l, h, b, r, e1, e2, e3, e4, e5, e6, rfl⟩
    rw [if_pos ⟨h1, h2⟩, e1, e2, e3, e4, e5, e6]
theorem goodN5 {a b c d e : List UInt8} : goodN [a, b, c, d, e] 5 = true ↔ Lib.hasPrefix a (nameL 0) = true ∧ Lib.hasPrefix b (nameL 1) = true ∧ Lib.hasPrefix c (nameL 2) = true ∧ Lib.hasPrefix d (nameL 3) = true ∧ Lib.hasPrefix e (nameL 4) = true := by
  simp only [goodN, hOf, List.getD_cons_zero, List.getD_cons_succ, Bool.true_and, Bool.and_eq_true]
  constructor
  · rintro ⟨⟨⟨⟨h0, h1⟩, h2⟩, h3⟩, h4⟩; exact ⟨h0, h1, h2, h3, h4⟩
  · rintro ⟨h0, h1, h2, h3, h4⟩; exact ⟨⟨⟨⟨h0, h1⟩, h2⟩, h3⟩, h4⟩
theorem raw_iff {s : List UInt8} {c : Cfg} : rawT s = some c ↔ LineIs s c := by
  constructor
  · intro h
    unfold rawT at h
    split at h
    · rename_i h5
      obtain ⟨p0, p1, p2, p3, p4, e⟩ := list5 h5
      rw [e] at h
      obtain ⟨hg, hc, w, o, l, hh, b, r, e1, e2, e3, e4, e5, e6, rfl⟩ := parts_iff.1 h
      obtain ⟨g0, g1, g2, g3, g4⟩ := goodN5.1 hg
      simp only [vOf, List.getD_cons_zero, List.getD_cons_succ] at hc e1 e2 e3 e4 e5 e6
      have f2 := cut_some hc
      obtain ⟨r0, q0, z0⟩ := splitL_cons e
      obtain ⟨r1, q1, z1⟩ := splitL_cons z0
      obtain ⟨r2, q2, z2⟩ := splitL_cons z1
      obtain ⟨r3, q3, z3⟩ := splitL_cons z2
      have q4 := splitL_single z3
      subst q4 q3 q2 q1 q0
      refine ⟨_, _, _, _, _, _, w, o, l, hh, b, r, ?_, e1, addr_iff.1 e2, e3, e4, e5, e6, rfl⟩
      conv => lhs; rw [pref_out g0, pref_out g1, pref_out g2, pref_out g3, pref_out g4, f2]
      simp [nameL, outerW, portsW, bucketsW, ringW]
    · cases h
  · rintro ⟨W, O, L, H, B, R, w, o, l, h, b, r, rfl, e1, e2, e3, e4, e5, e6, rfl⟩
    have hs : nameL 0 ++ (W ++ (outerW ++ (O ++ (portsW ++ (L ++ (45 :: (H ++ (bucketsW ++ (B ++ (ringW ++ R)))))))))) =
        (nameL 0 ++ W) ++ 32 :: ((nameL 1 ++ O) ++ 32 :: ((nameL 2 ++ (L ++ 45 :: H)) ++ 32 :: ((nameL 3 ++ B) ++ 32 :: (nameL 4 ++ R)))) := by
      simp [nameL, outerW, portsW, bucketsW, ringW]
    have h45 : (32 : UInt8) ∉ L ++ 45 :: H := by
      simp only [List.mem_append, List.mem_cons, not_or]
      exact ⟨sp_no e3, by decide, sp_no e4⟩
    have hsp : splitL 32 ((nameL 0 ++ W) ++ 32 :: ((nameL 1 ++ O) ++ 32 :: ((nameL 2 ++ (L ++ 45 :: H)) ++ 32 :: ((nameL 3 ++ B) ++ 32 :: (nameL 4 ++ R))))) = [nameL 0 ++ W, nameL 1 ++ O, nameL 2 ++ (L ++ 45 :: H), nameL 3 ++ B, nameL 4 ++ R] := by
      rw [splitL_app (no_app (nameL_no 0) (sp_no e1)), splitL_app (no_app (nameL_no 1) (sp_addr e2)), splitL_app (no_app (nameL_no 2) h45), splitL_app (no_app (nameL_no 3) (sp_no e5)), splitL_none (no_app (nameL_no 4) (sp_no e6))]
    rw [hs, rawT, hsp, if_pos (show [nameL 0 ++ W, nameL 1 ++ O, nameL 2 ++ (L ++ 45 :: H), nameL 3 ++ B, nameL 4 ++ R].length = 5 from rfl)]
    refine parts_iff.2 ?_
    have v := fun i v => pref_in (nameL i) v
    simp only [vOf, List.getD_cons_zero, List.getD_cons_succ, (v _ _).2]
    rw [cut_app (mi_no e3)]
    exact ⟨goodN5.2 ⟨(v _ _).1, (v _ _).1, (v _ _).1, (v _ _).1, (v _ _).1⟩, rfl, w, o, l, h, b, r, e1, addr_iff.2 e2, e3, e4, e5, e6, rfl⟩

/-! ### The document's reading -/
def kSp (s : List UInt8) : Nat := (s.takeWhile fun c => c != 32).length
theorem kSp_app {a t : List UInt8} (h : (32 : UInt8) ∉ a) : kSp (a ++ 32 :: t) = a.length := by
  unfold kSp
  rw [List.takeWhile_append_of_pos (by intro x hx; simp only [bne_iff_ne, ne_eq]; rintro rfl; exact h hx)]
  simp
structure Raw where
  a : Nat × List UInt8 × Bool
  b : Nat × Bool
  d : Nat × List UInt8 × Bool
  h : Nat × List UInt8 × Bool
  e : Nat × List UInt8 × Bool
  f : Nat × List UInt8 × Bool
def rAddrP (s : List UInt8) : Nat × Bool := match rgoA 4 0 [] s with
  | none => (0, false)
  | some (a, t) => (a, decide (t = []))
theorem rAddrP_eq (s : List UInt8) : rAddrT s = if (rAddrP s).2 = true then some (rAddrP s).1 else none := by
  unfold rAddrT rAddrP
  cases rgoA 4 0 [] s with
  | none => rfl
  | some q => simp
def rawD (s : List UInt8) : Nat × List UInt8 × Bool := takeT s (nameL 0) 5
def rawS2 (s : List UInt8) : List UInt8 := (rawD s).2.1.drop 7
def rawB (s : List UInt8) : Nat × Bool := rAddrP ((rawS2 s).take (kSp (rawS2 s)))
def rawL (s : List UInt8) : Nat × List UInt8 × Bool := takeT ((rawS2 s).drop (kSp (rawS2 s))) portsW 5
def rawH (s : List UInt8) : Nat × List UInt8 × Bool := takeT (rawL s).2.1 [45] 5
def rawE (s : List UInt8) : Nat × List UInt8 × Bool := takeT (rawH s).2.1 bucketsW 5
def rawF (s : List UInt8) : Nat × List UInt8 × Bool := takeT (rawE s).2.1 ringW 5
def rrawT (s : List UInt8) : Option Cfg :=
  if (rawD s).2.2 = false ∨ (rawD s).2.1.length < 7 ∨ ¬ (rawD s).2.1.take 7 = outerW then none
  else if (rawB s).2 = false ∨ (rawL s).2.2 = false then none
  else if (rawH s).2.2 = false ∨ (rawE s).2.2 = false ∨ (rawF s).2.2 = false ∨ ¬ (rawF s).2.1 = [] then none
  else some ⟨(rawD s).1, (rawB s).1, (rawL s).1, (rawH s).1, (rawE s).1, (rawF s).1⟩
theorem trip {x : Nat × List UInt8 × Bool} (h : ¬ x.2.2 = false) : x = (x.1, x.2.1, true) := by
  have : x.2.2 = true := by cases hx : x.2.2 <;> simp_all
  rw [← this]
theorem stops_w {w t : List UInt8} (hw : ∃ c v, w = c :: v ∧ ¬ isD c) : stops (w ++ t) := by
  obtain ⟨c, v, rfl, h⟩ := hw
  exact stops_cons h
theorem take_out {x : Nat × List UInt8 × Bool} {s w : List UInt8} {m : Nat} (hx : takeT s w m = x) (h : ¬ x.2.2 = false) : ∃ D, s = w ++ (D ++ x.2.1) ∧ numT m D = some x.1 ∧ stops x.2.1 :=
  take_iff.1 (hx.trans (trip h))
theorem rraw_iff {s : List UInt8} {c : Cfg} : rrawT s = some c ↔ LineIs s c := by
  constructor
  · intro h
    unfold rrawT at h
    split at h; · cases h
    rename_i h1
    split at h; · cases h
    rename_i h2
    split at h; · cases h
    rename_i h3
    simp only [Option.some.injEq] at h
    subst h
    simp only [not_or] at h1 h2 h3
    obtain ⟨W, q1, q2, q3⟩ := take_out (x := rawD s) rfl h1.1
    have q4 : (rawD s).2.1 = outerW ++ rawS2 s := by
      conv => lhs; rw [← List.take_append_drop 7 (rawD s).2.1, Classical.not_not.1 h1.2.2]
      rfl
    obtain ⟨L, q5, q6, q7⟩ := take_out (x := rawL s) rfl h2.2
    have q8 : rawS2 s = (rawS2 s).take (kSp (rawS2 s)) ++ (portsW ++ (L ++ (rawL s).2.1)) := by
      rw [← q5]; exact (List.take_append_drop _ _).symm
    obtain ⟨H, q9, q10, q11⟩ := take_out (x := rawH s) rfl h3.1
    obtain ⟨B, q12, q13, q14⟩ := take_out (x := rawE s) rfl h3.2.1
    obtain ⟨R, q15, q16, q17⟩ := take_out (x := rawF s) rfl h3.2.2.1
    have q18 : (rawF s).2.1 = [] := Classical.not_not.1 h3.2.2.2
    have hb : (rawB s).2 = true := eq_true_of_ne_false h2.1
    have q19 : rAddrT ((rawS2 s).take (kSp (rawS2 s))) = some (rawB s).1 := by
      rw [rAddrP_eq]
      exact if_pos hb
    refine ⟨W, _, L, H, B, R, _, _, _, _, _, _, ?_, q2, raddr_iff.1 q19, q6, q10, q13, q16, rfl⟩
    generalize (rawS2 s).take (kSp (rawS2 s)) = O at q8
    rw [q18] at q15
    rw [q15] at q12
    rw [q12] at q9
    rw [q9] at q8
    rw [q8] at q4
    rw [q4] at q1
    rw [q1]
    simp
  · rintro ⟨W, O, L, H, B, R, w, o, l, h, b, r, rfl, e1, e2, e3, e4, e5, e6, rfl⟩
    generalize hs : nameL 0 ++ (W ++ (outerW ++ (O ++ (portsW ++ (L ++ (45 :: (H ++ (bucketsW ++ (B ++ (ringW ++ R)))))))))) = s
    have k1 : rawD s = (w, outerW ++ (O ++ (portsW ++ (L ++ (45 :: (H ++ (bucketsW ++ (B ++ (ringW ++ R)))))))), true) := take_iff.2 ⟨W, hs.symm, e1, stops_w ⟨32, _, rfl, by decide⟩⟩
    have k2 : rawS2 s = O ++ 32 :: ([112, 111, 114, 116, 115, 61] ++ (L ++ (45 :: (H ++ (bucketsW ++ (B ++ (ringW ++ R))))))) := by
      unfold rawS2
      rw [k1]
      simp [outerW, portsW]
    have k3 : kSp (rawS2 s) = O.length := by rw [k2]; exact kSp_app (sp_addr e2)
    have k4 : rawB s = (o, true) := by
      have h1 := raddr_iff.2 e2
      rw [rAddrP_eq] at h1
      have h2 : rawB s = rAddrP O := by
        unfold rawB
        rw [k3, k2, List.take_left]
      rw [h2]
      split at h1
      · rename_i g
        simp only [Option.some.injEq] at h1
        rw [← h1, ← g]
      · cases h1
    have k5 : rawL s = (l, 45 :: (H ++ (bucketsW ++ (B ++ (ringW ++ R)))), true) := by
      unfold rawL
      rw [k3, k2, List.drop_left]
      exact take_iff.2 ⟨L, by simp [portsW], e3, stops_cons (by decide)⟩
    have k6 : rawH s = (h, bucketsW ++ (B ++ (ringW ++ R)), true) := by
      unfold rawH
      rw [k5]
      exact take_iff.2 ⟨H, by simp, e4, stops_w ⟨32, _, rfl, by decide⟩⟩
    have k7 : rawE s = (b, ringW ++ R, true) := by
      unfold rawE
      rw [k6]
      exact take_iff.2 ⟨B, rfl, e5, stops_w ⟨32, _, rfl, by decide⟩⟩
    have k8 : rawF s = (r, [], true) := by
      unfold rawF
      rw [k7]
      exact take_iff.2 ⟨R, by simp, e6, stops_nil⟩
    unfold rrawT
    rw [k1, k4, k5, k6, k7, k8]
    rw [if_neg, if_neg (by simp), if_neg (by simp)]
    simp only [Bool.true_eq_false, false_or, not_or, Nat.not_lt, Classical.not_not]
    exact ⟨by simp [outerW], by simp [outerW]⟩
theorem rraw_eq (s : List UInt8) : rrawT s = rawT s := opt_ext fun c => rraw_iff.trans raw_iff.symm

/-! ### The text -/
def lineL (c : Cfg) : List UInt8 := nameL 0 ++ (Lib.decDigits c.w.toNat ++ (outerW ++ (addrL c.o.toNat ++ (portsW ++ (Lib.decDigits c.lo.toNat ++ (45 :: (Lib.decDigits c.hi.toNat ++ (bucketsW ++ (Lib.decDigits c.b.toNat ++ (ringW ++ Lib.decDigits c.r.toNat))))))))))
def textT (c : Cfg) : List UInt8 := if wrongT c = [] then lineL c else []
theorem LineIs.text {s : List UInt8} {c : Cfg} (h : LineIs s c) : lineL c = s := by
  obtain ⟨W, O, L, H, B, R, w, o, l, h, b, r, rfl, e1, e2, e3, e4, e5, e6, rfl⟩ := h
  unfold lineL
  simp only [Int.toNat_natCast]
  rw [← (numIs e1).eq, ← (numIs e3).eq, ← (numIs e4).eq, ← (numIs e5).eq, ← (numIs e6).eq, e2.text.1]
theorem Good.line {c : Cfg} (h : c.Good) (ho : 0 ≤ c.o ∧ c.o ≤ 4294967295) : LineIs (lineL c) c := by
  obtain ⟨h1, h2, h3, h4, h5⟩ := h
  have hb : 0 ≤ c.b ∧ c.b < 100000 := by unfold pow2 at h4; omega
  refine ⟨_, _, _, _, _, _, c.w.toNat, c.o.toNat, c.lo.toNat, c.hi.toNat, c.b.toNat, c.r.toNat, rfl, num_dec (by decide) (by omega), addr_iff.1 (addr_back (by omega)), num_dec (by decide) (by omega), num_dec (by decide) (by omega), num_dec (by decide) (by omega), num_dec (by decide) (by omega), ?_⟩
  rw [Int.toNat_of_nonneg (by omega), Int.toNat_of_nonneg (by omega), Int.toNat_of_nonneg (by omega), Int.toNat_of_nonneg (by omega), Int.toNat_of_nonneg (by omega), Int.toNat_of_nonneg (by omega)]
theorem raw_nil : rawT [] = none := by
  rw [rawT, if_neg (by decide)]
theorem parse_text {c : Cfg} (ho : 0 ≤ c.o ∧ c.o ≤ 4294967295) : parseT (textT c) = if wrongT c = [] then (c, 0) else (zeroC, 3) := by
  unfold textT
  split
  · rename_i h
    rw [parse_some (raw_iff.2 (Good.line (wrongT_nil.1 h) ho)), if_pos h]
  · rw [parseT, raw_nil]
theorem text_parse {s : List UInt8} (h : (parseT s).2 = 0) : textT (parseT s).1 = s := by
  unfold parseT at *
  cases e : rawT s with
  | none => rw [e] at h; simp at h
  | some c =>
    rw [e] at h
    simp only at h ⊢
    split at h
    · rename_i hw
      rw [if_pos hw, textT, if_pos hw]
      exact (raw_iff.1 e).text
    · simp at h
def rparseT (l : List UInt8) : Cfg × Int := match rrawT l with
  | none => (zeroC, 3)
  | some c => if wrongT c = [] then (c, 0) else (zeroC, 1)
theorem rparse_eq (l : List UInt8) : rparseT l = parseT l := by rw [rparseT, rraw_eq, parseT]; cases rawT l <;> rfl
end Go.Proofs.YtafbipoagehdeaaDoor
