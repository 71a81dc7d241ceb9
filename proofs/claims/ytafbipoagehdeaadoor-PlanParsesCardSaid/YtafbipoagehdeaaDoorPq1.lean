/-
  Texts of numbers, addresses and lines: what both readings accept is the same. Plain.
-/
import Derived.Test.YtafbipoagehdeaaDoorPq0
namespace Go.Proofs.YtafbipoagehdeaaDoor
open Go.RowKit

/-! ### Digits and numbers -/
theorem ofNat_dig {d : Nat} (h : d < 10) : (UInt8.ofNat (48 + d)).toNat = 48 + d := by
  rw [UInt8.toNat_ofNat']
  exact Nat.mod_eq_of_lt (by omega)
theorem dec_isD : ∀ (n : Nat), ∀ c ∈ Lib.decDigits n, isD c := by
  intro n
  induction n using Nat.strongRecOn with
  | _ n ih =>
    intro c hc
    rw [Lib.decDigits] at hc
    split at hc
    · rename_i h
      simp only [List.mem_singleton] at hc
      subst hc
      unfold isD
      rw [ofNat_dig h]; omega
    · rename_i h
      rcases List.mem_append.1 hc with hc | hc
      · exact ih _ (by omega) c hc
      · simp only [List.mem_singleton] at hc
        subst hc
        unfold isD
        rw [ofNat_dig (Nat.mod_lt _ (by decide))]; omega
theorem dec_digs : ∀ (n : Nat), digsN (Lib.decDigits n) = n := by
  intro n
  induction n using Nat.strongRecOn with
  | _ n ih =>
    rw [Lib.decDigits]
    split
    · rename_i h
      simp [digsN, ofNat_dig h]
      try omega
    · rename_i h
      rw [digsN_snoc, ih _ (by omega), ofNat_dig (Nat.mod_lt _ (by decide))]
      omega
theorem dec_ne (n : Nat) : Lib.decDigits n ≠ [] := by
  rw [Lib.decDigits]
  split <;> simp
theorem dec_first : ∀ (n : Nat), 0 < n → (Lib.decDigits n).getD 0 0 ≠ 48 := by
  intro n
  induction n using Nat.strongRecOn with
  | _ n ih =>
    intro hn
    rw [Lib.decDigits]
    split
    · rename_i h
      intro e
      have e : UInt8.ofNat (48 + n) = 48 := by simpa using e
      have := congrArg UInt8.toNat e
      rw [ofNat_dig h] at this
      have h48 : (48 : UInt8).toNat = 48 := rfl
      omega
    · rename_i h
      have hi := ih (n / 10) (by omega) (by omega)
      have hne := dec_ne (n / 10)
      cases hd : Lib.decDigits (n / 10) with
      | nil => exact absurd hd hne
      | cons a t => rw [hd] at hi; simpa using hi
theorem dec_len : ∀ (m n : Nat), 0 < m → n < 10 ^ m → (Lib.decDigits n).length ≤ m
  | 0, _, h, _ => absurd h (by omega)
  | m + 1, n, _, h => by
    rw [Lib.decDigits]
    split
    · simp
    · rename_i hn
      rw [List.length_append]
      have hm : 0 < m := by
        rcases Nat.eq_zero_or_pos m with rfl | g
        · rw [Nat.zero_add, Nat.pow_one] at h; omega
        · exact g
      have := dec_len m (n / 10) hm (by rw [Nat.pow_succ] at h; omega)
      simp only [List.length_cons, List.length_nil]
      omega
theorem dec_one_of_first {n : Nat} (h : (Lib.decDigits n).getD 0 0 = 48) : (Lib.decDigits n).length ≤ 1 := by
  rcases Nat.eq_zero_or_pos n with rfl | hn
  · rw [Lib.decDigits, dif_pos (by decide)]; simp
  · exact absurd h (dec_first n hn)
theorem num_dec {m n : Nat} (hm : 0 < m) (h : n < 10 ^ m) : numT m (Lib.decDigits n) = some n := by
  rw [numT, if_neg, dec_digs]
  unfold numBad
  rintro (g | g | g | g)
  · exact dec_ne n g
  · have := dec_len m n hm h; omega
  · have := dec_one_of_first g.2; omega
  · exact g (dec_isD n)
theorem digsN_cons0 (l : List UInt8) (c : UInt8) (hc : isD c) (h : c ≠ 48) : 0 < digsN (c :: l) := by
  have key : ∀ (l : List UInt8) (a : Nat), 0 < a → 0 < l.foldl (fun n c => 10 * n + (c.toNat - 48)) a := by
    intro l
    induction l with
    | nil => intro a h; exact h
    | cons x l ih =>
      intro a h
      refine ih _ ?_
      show 0 < 10 * a + (x.toNat - 48)
      omega
  unfold digsN
  rw [List.foldl_cons]
  refine key l _ ?_
  unfold isD at hc
  have : c.toNat ≠ 48 := fun e => h (UInt8.toNat_inj.1 (e.trans rfl))
  omega
/-- A row of digits that does not begin with 0 is the numeral of its number. -/
theorem dec_of_digs : ∀ (k : Nat) (l : List UInt8), l.length = k → l ≠ [] → (∀ c ∈ l, isD c) → (1 < l.length → l.getD 0 0 ≠ 48) → Lib.decDigits (digsN l) = l
  | 0, l, hk, hne, _, _ => absurd (List.length_eq_zero_iff.1 hk) hne
  | k + 1, l, hk, hne, hd, h0 => by
    obtain ⟨t, c, rfl⟩ : ∃ t c, l = t ++ [c] := ⟨l.dropLast, l.getLast hne, (List.dropLast_concat_getLast hne).symm⟩
    have hc : isD c := hd c (by simp)
    have hcc := hc
    unfold isD at hcc
    have hof : UInt8.ofNat (48 + (c.toNat - 48)) = c := by
      rw [show 48 + (c.toNat - 48) = c.toNat by omega, UInt8.ofNat_toNat]
    rw [digsN_snoc]
    cases t with
    | nil =>
      simp only [digsN, List.foldl_nil, Nat.mul_zero, Nat.zero_add, List.nil_append]
      rw [Lib.decDigits, dif_pos (by omega), hof]
    | cons x t =>
      have hx : isD x := hd x (by simp)
      have hx0 : x ≠ 48 := by
        have := h0 (by simp)
        simpa using this
      have hpos := digsN_cons0 t x hx hx0
      have ih := dec_of_digs k (x :: t) (by simpa using hk) (by simp) (fun c hc => hd c (List.mem_append_left _ hc)) (fun _ => by simpa using hx0)
      rw [Lib.decDigits, dif_neg (by omega)]
      rw [show (10 * digsN (x :: t) + (c.toNat - 48)) / 10 = digsN (x :: t) by omega, show (10 * digsN (x :: t) + (c.toNat - 48)) % 10 = c.toNat - 48 by omega, ih, hof]
structure NumIs (m : Nat) (D : List UInt8) (n : Nat) : Prop where
  all : ∀ c ∈ D, isD c
  eq : D = Lib.decDigits n
  lt : n < 10 ^ m
theorem numIs {m n : Nat} {D : List UInt8} (h : numT m D = some n) : NumIs m D n := by
  have hlt := numT_lt h
  unfold numT at h
  split at h
  · cases h
  · rename_i hb
    simp only [Option.some.injEq] at h
    subst h
    unfold numBad at hb
    have hall : ∀ c ∈ D, isD c := Classical.not_not.1 fun g => hb (.inr (.inr (.inr g)))
    exact ⟨hall, (dec_of_digs _ D rfl (fun g => hb (.inl g)) hall (fun g e => hb (.inr (.inr (.inl ⟨g, e⟩))))).symm, hlt⟩
theorem num_no {m n : Nat} {D : List UInt8} (h : numT m D = some n) (c : UInt8) (hc : ¬ isD c) : c ∉ D := fun g => hc ((numIs h).all c g)

/-! ### Cutting at a byte -/
theorem splitL_none {c : UInt8} : ∀ {l : List UInt8}, c ∉ l → splitL c l = [l]
  | [], _ => rfl
  | x :: l, h => by
    have hx : x ≠ c := fun e => h (e ▸ List.mem_cons_self)
    rw [splitL, if_neg hx, splitL_none (l := l) fun g => h (List.mem_cons_of_mem _ g)]
theorem splitL_app {c : UInt8} : ∀ {d l : List UInt8}, c ∉ d → splitL c (d ++ c :: l) = d :: splitL c l
  | [], l, _ => by rw [List.nil_append, splitL, if_pos rfl]
  | x :: d, l, h => by
    have hx : x ≠ c := fun e => h (e ▸ List.mem_cons_self)
    rw [List.cons_append, splitL, if_neg hx, splitL_app (d := d) fun g => h (List.mem_cons_of_mem _ g)]
theorem splitL_head {c : UInt8} : ∀ {l a : List UInt8} {t : List (List UInt8)}, splitL c l = a :: t → c ∉ a
  | [], a, t, h => by
    simp only [splitL, List.cons.injEq] at h
    rw [← h.1]; simp
  | x :: l, a, t, h => by
    unfold splitL at h
    split at h
    · simp only [List.cons.injEq] at h
      rw [← h.1]; simp
    · rename_i hx
      split at h
      · simp only [List.cons.injEq] at h
        rw [← h.1]
        simp only [List.mem_singleton]
        exact fun e => hx e.symm
      · rename_i b u e
        simp only [List.cons.injEq] at h
        rw [← h.1]
        intro g
        rcases List.mem_cons.1 g with g | g
        · exact hx g.symm
        · exact splitL_head e g
theorem splitL_cons {c : UInt8} : ∀ {l a b : List UInt8} {t : List (List UInt8)}, splitL c l = a :: b :: t → ∃ r, l = a ++ c :: r ∧ splitL c r = b :: t
  | [], a, b, t, h => by simp [splitL] at h
  | x :: l, a, b, t, h => by
    unfold splitL at h
    split at h
    · rename_i hx
      simp only [List.cons.injEq] at h
      exact ⟨l, by rw [← h.1, hx]; rfl, h.2⟩
    · split at h
      · simp at h
      · rename_i a' u e
        simp only [List.cons.injEq] at h
        obtain ⟨h1, rfl⟩ := h
        obtain ⟨r, e1, e2⟩ := splitL_cons e
        exact ⟨r, by rw [← h1, e1]; rfl, e2⟩
theorem splitL_single {c : UInt8} : ∀ {l a : List UInt8}, splitL c l = [a] → l = a
  | [], a, h => by simpa [splitL] using h
  | x :: l, a, h => by
    unfold splitL at h
    split at h
    · simp only [List.cons.injEq] at h
      exact absurd h.2 (splitL_ne c l)
    · split at h
      · rename_i e; exact absurd e (splitL_ne c l)
      · rename_i b u e
        simp only [List.cons.injEq] at h
        obtain ⟨h1, rfl⟩ := h
        rw [← h1, splitL_single e]

/-! ### Addresses -/
structure AddrIs (s : List UInt8) (a : Nat) : Prop where
  parts : ∃ d3 d2 d1 d0 n3 n2 n1 n0, s = d3 ++ 46 :: (d2 ++ 46 :: (d1 ++ 46 :: d0)) ∧ numT 3 d3 = some n3 ∧ numT 3 d2 = some n2 ∧ numT 3 d1 = some n1 ∧ numT 3 d0 = some n0 ∧
    n3 ≤ 255 ∧ n2 ≤ 255 ∧ n1 ≤ 255 ∧ n0 ≤ 255 ∧ a = ((n3 * 256 + n2) * 256 + n1) * 256 + n0
theorem dot_no {m n : Nat} {D : List UInt8} (h : numT m D = some n) : (46 : UInt8) ∉ D := num_no h 46 (by decide)
theorem goA_cons {p : List UInt8} {ps : List (List UInt8)} {a r : Nat} (h : goA (p :: ps) a = some r) : ∃ n, numT 3 p = some n ∧ n ≤ 255 ∧ goA ps (a * 256 + n) = some r := by
  unfold goA at h
  split at h
  · cases h
  · rename_i n hn
    split at h
    · cases h
    · exact ⟨n, hn, by omega, h⟩
theorem goA_mk {p : List UInt8} {ps : List (List UInt8)} {a n : Nat} (hn : numT 3 p = some n) (h : n ≤ 255) : goA (p :: ps) a = goA ps (a * 256 + n) := by
  rw [goA, hn]; dsimp only; rw [if_neg (by omega)]
theorem addr_iff {s : List UInt8} {a : Nat} : addrT s = some a ↔ AddrIs s a := by
  constructor
  · intro h
    unfold addrT at h
    split at h
    · rename_i h4
      obtain ⟨d3, d2, d1, d0, e⟩ : ∃ a b c d, splitL 46 s = [a, b, c, d] := by
        match splitL 46 s, h4 with
        | [a, b, c, d], _ => exact ⟨a, b, c, d, rfl⟩
      rw [e] at h
      obtain ⟨r3, q3, e3⟩ := splitL_cons e
      obtain ⟨r2, q2, e2⟩ := splitL_cons e3
      obtain ⟨r1, q1, e1⟩ := splitL_cons e2
      have q0 := splitL_single e1
      subst q0 q1 q2 q3
      obtain ⟨n3, h3, g3, h⟩ := goA_cons h
      obtain ⟨n2, h2, g2, h⟩ := goA_cons h
      obtain ⟨n1, h1, g1, h⟩ := goA_cons h
      obtain ⟨n0, h0, g0, h⟩ := goA_cons h
      simp only [goA, Option.some.injEq] at h
      exact ⟨_, _, _, _, n3, n2, n1, n0, rfl, h3, h2, h1, h0, g3, g2, g1, g0, by omega⟩
    · cases h
  · rintro ⟨d3, d2, d1, d0, n3, n2, n1, n0, rfl, h3, h2, h1, h0, g3, g2, g1, g0, rfl⟩
    have e : splitL 46 (d3 ++ 46 :: (d2 ++ 46 :: (d1 ++ 46 :: d0))) = [d3, d2, d1, d0] := by
      rw [splitL_app (dot_no h3), splitL_app (dot_no h2), splitL_app (dot_no h1), splitL_none (dot_no h0)]
    rw [addrT, e, if_pos (show [d3, d2, d1, d0].length = 4 from rfl), goA_mk h3 g3, goA_mk h2 g2, goA_mk h1 g1, goA_mk h0 g0]
    simp [goA]
theorem AddrIs.text {s : List UInt8} {a : Nat} (h : AddrIs s a) : addrL a = s ∧ a < 4294967296 := by
  obtain ⟨d3, d2, d1, d0, n3, n2, n1, n0, rfl, h3, h2, h1, h0, g3, g2, g1, g0, rfl⟩ := h
  refine ⟨?_, by omega⟩
  rw [addrL_eq, (numIs h3).eq, (numIs h2).eq, (numIs h1).eq, (numIs h0).eq]
  have e3 : byteN (((n3 * 256 + n2) * 256 + n1) * 256 + n0) 3 = n3 := by unfold byteN; omega
  have e2 : byteN (((n3 * 256 + n2) * 256 + n1) * 256 + n0) 2 = n2 := by unfold byteN; omega
  have e1 : byteN (((n3 * 256 + n2) * 256 + n1) * 256 + n0) 1 = n1 := by unfold byteN; omega
  have e0 : byteN (((n3 * 256 + n2) * 256 + n1) * 256 + n0) 0 = n0 := by unfold byteN; omega
  rw [e3, e2, e1, e0]
theorem addr_back {a : Nat} (h : a < 4294967296) : addrT (addrL a) = some a := by
  have hd := fun i => num_dec (m := 3) (n := byteN a i) (by decide) (by have := byteN_lt a i; omega)
  have hb := fun i => byteN_lt a i
  exact addr_iff.2 ⟨_, _, _, _, _, _, _, _, addrL_eq a, hd 3, hd 2, hd 1, hd 0, by have := hb 3; omega, by have := hb 2; omega, by have := hb 1; omega, by have := hb 0; omega, (bytes_sum a h).symm⟩
/-- The document's reading of an address, a number ahead of it. -/
def rgoA : Nat → Nat → List UInt8 → List UInt8 → Option (Nat × List UInt8)
  | 0, a, _, s => some (a, s)
  | k + 1, a, w, s => if (takeT s w 3).2.2 = true ∧ (takeT s w 3).1 ≤ 255 then rgoA k (a * 256 + (takeT s w 3).1) [46] (takeT s w 3).2.1 else none
def rAddrT (s : List UInt8) : Option Nat := match rgoA 4 0 [] s with
  | none => none
  | some (a, t) => if t = [] then some a else none
theorem rgoA_mk {k a n : Nat} {w s t : List UInt8} (h : takeT s w 3 = (n, t, true)) (hn : n ≤ 255) : rgoA (k + 1) a w s = rgoA k (a * 256 + n) [46] t := by
  rw [rgoA, h, if_pos ⟨rfl, hn⟩]
theorem rgoA_out {k a : Nat} {w s : List UInt8} {r : Nat × List UInt8} (h : rgoA (k + 1) a w s = some r) : ∃ n t, takeT s w 3 = (n, t, true) ∧ n ≤ 255 ∧ rgoA k (a * 256 + n) [46] t = some r := by
  rw [rgoA] at h
  split at h
  · rename_i g
    exact ⟨_, _, by rw [← g.1], g.2, h⟩
  · cases h
theorem stops_dot (t : List UInt8) : stops ((46 : UInt8) :: t) := stops_cons (by decide)
theorem raddr_iff {s : List UInt8} {a : Nat} : rAddrT s = some a ↔ AddrIs s a := by
  constructor
  · intro h
    unfold rAddrT at h
    split at h
    · cases h
    · rename_i a' t e
      split at h
      · rename_i ht
        subst ht
        simp only [Option.some.injEq] at h
        subst h
        obtain ⟨n3, t3, k3, g3, e⟩ := rgoA_out e
        obtain ⟨n2, t2, k2, g2, e⟩ := rgoA_out e
        obtain ⟨n1, t1, k1, g1, e⟩ := rgoA_out e
        obtain ⟨n0, t0, k0, g0, e⟩ := rgoA_out e
        simp only [rgoA, Option.some.injEq, Prod.mk.injEq] at e
        obtain ⟨e1, rfl⟩ := e
        obtain ⟨d3, rfl, h3, _⟩ := take_iff.1 k3
        obtain ⟨d2, rfl, h2, _⟩ := take_iff.1 k2
        obtain ⟨d1, rfl, h1, _⟩ := take_iff.1 k1
        obtain ⟨d0, rfl, h0, _⟩ := take_iff.1 k0
        exact ⟨d3, d2, d1, d0, n3, n2, n1, n0, by simp, h3, h2, h1, h0, g3, g2, g1, g0, by omega⟩
      · cases h
  · rintro ⟨d3, d2, d1, d0, n3, n2, n1, n0, rfl, h3, h2, h1, h0, g3, g2, g1, g0, rfl⟩
    have k3 : takeT (d3 ++ 46 :: (d2 ++ 46 :: (d1 ++ 46 :: d0))) [] 3 = (n3, _, true) := take_iff.2 ⟨d3, rfl, h3, stops_dot _⟩
    have k2 : takeT (46 :: (d2 ++ 46 :: (d1 ++ 46 :: d0))) [46] 3 = (n2, _, true) := take_iff.2 ⟨d2, rfl, h2, stops_dot _⟩
    have k1 : takeT (46 :: (d1 ++ 46 :: d0)) [46] 3 = (n1, _, true) := take_iff.2 ⟨d1, rfl, h1, stops_dot _⟩
    have k0 : takeT (46 :: d0) [46] 3 = (n0, [], true) := take_iff.2 ⟨d0, by simp, h0, stops_nil⟩
    have : rgoA 4 0 [] (d3 ++ 46 :: (d2 ++ 46 :: (d1 ++ 46 :: d0))) = some (((n3 * 256 + n2) * 256 + n1) * 256 + n0, []) := by
      rw [rgoA_mk k3 g3, rgoA_mk k2 g2, rgoA_mk k1 g1, rgoA_mk k0 g0]
      simp [rgoA]
    rw [rAddrT, this]
    simp
theorem opt_ext {α : Type} {a b : Option α} (h : ∀ x, a = some x ↔ b = some x) : a = b := by
  cases a with
  | none => cases b with
    | none => rfl
    | some y => exact absurd ((h y).2 rfl) (by simp)
  | some x => exact ((h x).1 rfl).symm
theorem raddr_eq (s : List UInt8) : rAddrT s = addrT s := opt_ext fun a => raddr_iff.trans addr_iff.symm
end Go.Proofs.YtafbipoagehdeaaDoor
