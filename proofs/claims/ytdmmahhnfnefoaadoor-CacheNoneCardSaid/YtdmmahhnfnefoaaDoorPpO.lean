/-
  Whose the numbers of a pool are: what a step does to those that are free. No walk.
-/
import Derived.Test.YtdmmahhnfnefoaaDoorPp6
namespace Go.Proofs.YtdmmahhnfnefoaaDoor
open Go.RowKit
variable {m n k : Nat} {ws : List Nat} {s : PStep}

theorem isFree_set {i u x : Nat} (hi : i < ws.length) : isFree (ws.set i u) x = if x / 32 = i then !u.testBit (x % 32) else isFree ws x := by
  unfold isFree
  rw [List.getD_eq_getElem?_getD, List.getElem?_set]
  by_cases h : x / 32 = i
  · subst h
    simp [hi]
  · rw [if_neg (fun e => h e.symm), if_neg h, ← List.getD_eq_getElem?_getD]
theorem changedN_bit {u low j : Nat} (hl : low < 4294967296) (hj : j < 32) : (changedN u low).testBit j = low.testBit j := by
  have h1 := Nat.testBit_mod_two_pow (changedN u low) 32 j
  rw [show (2 : Nat) ^ 32 = 4294967296 from rfl, changedN_mod hl] at h1
  rw [h1]; simp [hj]
theorem low_bit {u j : Nat} (hj : j < 32) : (u % 4294967296).testBit j = u.testBit j := by
  have h1 := Nat.testBit_mod_two_pow u 32 j
  rw [show (2 : Nat) ^ 32 = 4294967296 from rfl] at h1
  rw [h1]; simp [hj]
theorem notmask_bit {mask j : Nat} (hm : mask < 4294967296) (hj : j < 32) : (18446744073709551615 - mask).testBit j = !mask.testBit j := by
  have h2 := Nat.testBit_two_pow_sub_succ (n := 64) (x := mask) (by omega) j
  rw [show (2 : Nat) ^ 64 - (mask + 1) = 18446744073709551615 - mask by omega] at h2
  rw [h2]
  have : j < 64 := by omega
  simp [this]
theorem mem_partN {x : Nat × Nat} {c y : Nat} : y ∈ partN x c ↔ ∃ i, i < c ∧ x.2.testBit i = true ∧ y = x.1 * 32 + i := by
  unfold partN
  simp only [List.mem_map, List.mem_filter, List.mem_range]
  constructor
  · rintro ⟨i, ⟨h1, h2⟩, rfl⟩; exact ⟨i, h1, h2, rfl⟩
  · rintro ⟨i, h1, h2, rfl⟩; exact ⟨i, ⟨h1, h2⟩, rfl⟩
theorem mem_partN' {x : Nat × Nat} {y : Nat} : y ∈ partN x 32 ↔ y / 32 = x.1 ∧ x.2.testBit (y % 32) = true := by
  rw [mem_partN]
  constructor
  · rintro ⟨i, h1, h2, rfl⟩
    rw [show (x.1 * 32 + i) % 32 = i by omega]
    exact ⟨by omega, h2⟩
  · rintro ⟨h1, h2⟩
    exact ⟨y % 32, Nat.mod_lt _ (by decide), h2, by omega⟩
theorem mem_leftN {l : List (Nat × Nat)} {y : Nat} : y ∈ leftN l ↔ ∃ x ∈ l, y / 32 = x.1 ∧ x.2.testBit (y % 32) = true := by
  unfold leftN
  rw [List.mem_flatMap]
  simp only [mem_partN']
/-- What a step of a Take does. -/
structure TakeEff (ws : List Nat) (s : PStep) (ws' : List Nat) (s' : PStep) : Prop where
  kind : s'.kind = 0
  parts : s'.parts = s.parts
  none : s'.done = false → s'.ports = []
  free : ∀ g ∈ s'.ports, isFree ws g = true
  nodup : s'.ports.Nodup
  small : ∀ g ∈ s'.ports, g < ws.length * 32
  after : ∀ x, isFree ws' x = true ↔ isFree ws x = true ∧ x ∉ s'.ports
  len : ws'.length = ws.length
theorem take_eff (hw : WordsOk m ws) (hs : s.Ok m) (hk : s.kind = 0) (hd : s.done = false) (hp : s.ports = []) : TakeEff ws s (doS ws s).1 (doS ws s).2 := by
  obtain ⟨t1, t2, t3, t4, t5, t6⟩ := hs.takes hk
  have hl := hw.len
  have e : doS ws s = takeS ws s := by unfold doS; rw [if_neg (by simp [hd]), if_pos hk]
  rw [e]
  have hsame : ∀ (s' : PStep), s'.kind = 0 → s'.parts = s.parts → s'.ports = [] → TakeEff ws s ws s' := fun s' h1 h2 h3 =>
    ⟨h1, h2, fun _ => h3, by simp [h3], by simp [h3], by simp [h3], by simp [h3], rfl⟩
  unfold takeS
  by_cases hr : s.read = true
  · rw [if_pos hr]
    by_cases he : ws.getD s.word 0 = s.seen
    · rw [if_pos he]
      have hrs : (picks s.seen s.most).Nodup := by
        have : Rises (picks s.seen s.most) := List.Pairwise.take (freesOf_rises _)
        exact this.imp (fun h => Nat.ne_of_lt h)
      have hpk : ∀ i ∈ picks s.seen s.most, i < 32 ∧ s.seen.testBit i = false := fun i hi => mem_freesOf.1 (List.mem_of_mem_take hi)
      have hfr : ∀ i, i < 32 → isFree ws (s.word * 32 + i) = !s.seen.testBit i := fun i hi => by
        unfold isFree
        rw [show (s.word * 32 + i) / 32 = s.word by omega, show (s.word * 32 + i) % 32 = i by omega, he]
      have hlow : s.seen % 4294967296 ||| ofBits (picks s.seen s.most) < 4294967296 := or_lt (Nat.mod_lt _ (by decide)) (picks_lt _ _)
      refine ⟨hk, rfl, fun h => by simp at h, ?_, ?_, ?_, ?_, by simp⟩
      · intro g hg
        obtain ⟨i, hi, rfl⟩ := List.mem_map.1 hg
        rw [hfr i (hpk i hi).1, (hpk i hi).2]; rfl
      · exact List.Pairwise.map _ (fun a b (h : a ≠ b) => by omega) hrs
      · intro g hg
        obtain ⟨i, hi, rfl⟩ := List.mem_map.1 hg
        have := (hpk i hi).1
        omega
      · intro x
        dsimp only
        rw [isFree_set (by omega)]
        by_cases hx : x / 32 = s.word
        · have hx2 : x % 32 < 32 := Nat.mod_lt _ (by decide)
          rw [if_pos hx, changedN_bit hlow hx2, Nat.testBit_or, low_bit hx2, testBit_ofBits]
          have hxe : x = s.word * 32 + x % 32 := by omega
          have h1 := hfr (x % 32) hx2
          rw [← hxe] at h1
          rw [h1]
          have h2 : x ∈ (picks s.seen s.most).map (s.word * 32 + ·) ↔ x % 32 ∈ picks s.seen s.most := by
            rw [List.mem_map]
            constructor
            · rintro ⟨i, hi, rfl⟩
              have := (hpk i hi).1
              rwa [show (s.word * 32 + i) % 32 = i by omega]
            · exact fun h => ⟨_, h, hxe.symm⟩
          rw [h2]
          simp
        · rw [if_neg hx]
          constructor
          · refine fun h => ⟨h, fun hm => hx ?_⟩
            obtain ⟨i, hi, rfl⟩ := List.mem_map.1 hm
            have := (hpk i hi).1
            omega
          · exact fun h => h.1
    · rw [if_neg he]
      exact hsame _ hk rfl hp
  · rw [if_neg hr]
    split
    · exact hsame _ hk rfl hp
    · exact hsame _ hk rfl hp
/-- What a Back has yet: the words are unlike; each has a number. -/
structure PartsOk (l : List (Nat × Nat)) : Prop where
  nd : (l.map (·.1)).Nodup
  ne : ∀ x ∈ l, x.2 ≠ 0
structure BackEff (ws : List Nat) (s : PStep) (ws' : List Nat) (s' : PStep) : Prop where
  kind : s'.kind = 2
  ports : s'.ports = s.ports
  parts : PartsOk s'.parts
  left : ∀ y ∈ leftN s'.parts, y ∈ leftN s.parts
  after : ∀ x, isFree ws' x = true ↔ isFree ws x = true ∨ (x ∈ leftN s.parts ∧ x ∉ leftN s'.parts)
  len : ws'.length = ws.length
  done : s'.done = true → s'.parts = []
theorem lo_bit_ne {u : Nat} (hu : u < 4294967296) (h : u ≠ 0) : ∃ i, i < 32 ∧ u.testBit i = true := by
  obtain ⟨i, hi⟩ := Nat.exists_testBit_of_ne_zero h
  refine ⟨i, ?_, hi⟩
  rcases Nat.lt_or_ge i 32 with h' | h'
  · exact h'
  · have := Nat.testBit_lt_two_pow (x := u) (i := i) (Nat.lt_of_lt_of_le hu (Nat.pow_le_pow_right (n := 2) (by decide) h'))
    rw [this] at hi; simp at hi
theorem back_eff (hw : WordsOk m ws) (hs : s.Ok m) (hk : s.kind = 2) (hd : s.done = false) (hp : PartsOk s.parts) (hn : ∀ y ∈ leftN s.parts, isFree ws y = false) : BackEff ws s (doS ws s).1 (doS ws s).2 := by
  have hl := hw.len
  have e : doS ws s = backS ws s := by unfold doS; rw [if_neg (by simp [hd]), if_neg (by omega), if_neg (by omega)]
  rw [e]
  have hsame : ∀ (s' : PStep), s'.kind = 2 → s'.parts = s.parts → s'.ports = s.ports → (s'.done = true → s'.parts = []) → BackEff ws s ws s' := fun s' h1 h2 h3 h4 =>
    ⟨h1, h3, h2 ▸ hp, fun y h => h2 ▸ h, fun x => by rw [h2]; exact ⟨.inl, fun h => h.elim id fun h => absurd h.1 h.2⟩, rfl, h4⟩
  rcases hps : s.parts with _ | ⟨⟨j, mask⟩, rest⟩
  · rw [backS_nil hps]
    exact hsame _ hk rfl rfl fun _ => hps
  · rw [backS_cons hps]
    obtain ⟨hj, hmk⟩ := hs.parts (j, mask) (by rw [hps]; simp)
    dsimp only at hj hmk
    have hm0 : mask ≠ 0 := hp.ne (j, mask) (by rw [hps]; simp)
    have hpr : PartsOk rest := by
      have h1 := hp.nd
      rw [hps] at h1
      exact ⟨(List.nodup_cons.1 h1).2, fun x hx => hp.ne x (by rw [hps]; exact List.mem_cons_of_mem _ hx)⟩
    have hjr : ∀ x ∈ rest, x.1 ≠ j := by
      have h1 := hp.nd
      rw [hps] at h1
      intro x hx e'
      exact (List.nodup_cons.1 h1).1 (List.mem_map.2 ⟨x, hx, e'⟩)
    have hin : ∀ y, y ∈ leftN s.parts ↔ (y / 32 = j ∧ mask.testBit (y % 32) = true) ∨ y ∈ leftN rest := fun y => by
      rw [mem_leftN, mem_leftN, hps]
      simp only [List.mem_cons, exists_eq_or_imp]
    have hrest : ∀ y ∈ leftN rest, y / 32 ≠ j := fun y hy => by
      obtain ⟨x, hx, h1, _⟩ := mem_leftN.1 hy
      rw [h1]; exact hjr x hx
    by_cases hr : s.read = true
    · rw [if_pos hr]
      by_cases he : ws.getD j 0 = s.seen
      · rw [if_pos he]
        have hlow : s.seen % 4294967296 &&& (18446744073709551615 - mask) < 4294967296 := Nat.lt_of_le_of_lt Nat.and_le_left (Nat.mod_lt _ (by decide))
        refine ⟨hk, rfl, hpr, fun y hy => (hin y).2 (.inr hy), ?_, by simp, fun h => of_decide_eq_true h⟩
        intro x
        dsimp only
        rw [isFree_set (by omega)]
        by_cases hx : x / 32 = j
        · have hx2 : x % 32 < 32 := Nat.mod_lt _ (by decide)
          rw [if_pos hx, changedN_bit hlow hx2, Nat.testBit_and, low_bit hx2, notmask_bit hmk hx2]
          have h1 : isFree ws x = !s.seen.testBit (x % 32) := by unfold isFree; rw [hx, he]
          have h2 : x ∉ leftN rest := fun h => hrest x h hx
          rw [h1, hin]
          have h3 : (x / 32 = j ∧ mask.testBit (x % 32) = true) ↔ mask.testBit (x % 32) = true := ⟨fun h => h.2, fun h => ⟨hx, h⟩⟩
          rw [h3]
          cases s.seen.testBit (x % 32) <;> cases mask.testBit (x % 32) <;> simp [h2]
        · rw [if_neg hx, hin]
          have h3 : ¬ (x / 32 = j ∧ mask.testBit (x % 32) = true) := fun h => hx h.1
          constructor
          · exact .inl
          · rintro (h | ⟨h | h, h'⟩)
            · exact h
            · exact absurd h h3
            · exact absurd h h'
      · rw [if_neg he]
        exact hsame _ hk (by rw [hps]) rfl (fun h => by rw [show _ = s.done from rfl, hd] at h; simp at h)
    · rw [if_neg hr]
      by_cases hz : ws.getD j 0 &&& mask = 0
      · exfalso
        obtain ⟨i, hi, hb⟩ := lo_bit_ne hmk hm0
        have h1 := hn (j * 32 + i) ((hin _).2 (.inl ⟨by omega, by rw [show (j * 32 + i) % 32 = i by omega]; exact hb⟩))
        unfold isFree at h1
        rw [show (j * 32 + i) / 32 = j by omega, show (j * 32 + i) % 32 = i by omega] at h1
        have h2 : (ws.getD j 0 &&& mask).testBit i = true := by
          rw [Nat.testBit_and, hb]
          simpa using h1
        rw [hz] at h2
        simp at h2
      · rw [if_neg hz]
        exact hsame _ hk (by rw [hps]) rfl (fun h => by rw [show _ = s.done from rfl, hd] at h; simp at h)
theorem partAt_fst {ps : List (Nat × Nat)} {c i : Nat} (h : partAt ps c = some i) : (ps.getD i (0, 0)).1 = c := by
  unfold partAt at h
  obtain ⟨h', h2, _⟩ := List.findIdx?_eq_some_iff_getElem.1 h
  rw [List.getD_eq_getElem?_getD, List.getElem?_eq_getElem h']
  simpa using h2
theorem partAt_no {ps : List (Nat × Nat)} {c : Nat} (h : partAt ps c = none) : ∀ x ∈ ps, x.1 ≠ c := by
  unfold partAt at h
  rw [List.findIdx?_eq_none_iff] at h
  intro x hx
  simpa using h x hx
theorem or_ne {a b : Nat} (h : b ≠ 0) : a ||| b ≠ 0 := fun e => h (Nat.or_eq_zero_iff.1 e).2
theorem addPart_parts {ps : List (Nat × Nat)} (h : PartsOk ps) (z : Nat) : PartsOk (addPart ps z) ∧ ∀ y ∈ leftN (addPart ps z), y ∈ leftN ps ∨ y = z := by
  have hp0 : (2 : Nat) ^ (z % 32) ≠ 0 := Nat.ne_of_gt (Nat.two_pow_pos _)
  have hbit : ∀ y, y / 32 = z / 32 → ((2 : Nat) ^ (z % 32)).testBit (y % 32) = true → y = z := fun y h1 h2 => by
    rw [Nat.testBit_two_pow] at h2
    have := of_decide_eq_true h2
    omega
  unfold addPart
  split
  · rename_i i hi
    have hlt := partAt_lt hi
    have hfst := partAt_fst hi
    have hmem : ps.getD i (0, 0) ∈ ps := by
      rw [List.getD_eq_getElem?_getD, List.getElem?_eq_getElem hlt]; exact List.getElem_mem hlt
    refine ⟨⟨?_, fun x hx => ?_⟩, fun y hy => ?_⟩
    · rw [List.map_set]
      have : (ps.map (·.1)).set i (ps.getD i (0, 0)).1 = ps.map (·.1) := by
        apply List.ext_getElem?
        intro j
        rw [List.getElem?_set]
        split
        · rename_i e; subst e
          simp [List.getElem?_eq_getElem hlt, hlt]
        · rfl
      rw [this]; exact h.nd
    · rcases List.mem_or_eq_of_mem_set hx with hx | rfl
      · exact h.ne x hx
      · exact or_ne hp0
    · obtain ⟨x, hx, h1, h2⟩ := mem_leftN.1 hy
      rcases List.mem_or_eq_of_mem_set hx with hx | rfl
      · exact .inl (mem_leftN.2 ⟨x, hx, h1, h2⟩)
      · dsimp only at h1 h2
        rw [Nat.testBit_or, Bool.or_eq_true] at h2
        rcases h2 with h2 | h2
        · exact .inl (mem_leftN.2 ⟨_, hmem, h1, h2⟩)
        · exact .inr (hbit y (by rw [h1, hfst]) h2)
  · rename_i hi
    have hno := partAt_no hi
    refine ⟨⟨?_, fun x hx => ?_⟩, fun y hy => ?_⟩
    · rw [List.map_append, List.nodup_append]
      refine ⟨h.nd, by simp, fun a ha b hb => ?_⟩
      simp at hb
      subst hb
      obtain ⟨x, hx, rfl⟩ := List.mem_map.1 ha
      exact hno x hx
    · rcases List.mem_append.1 hx with hx | hx
      · exact h.ne x hx
      · simp at hx; subst hx; exact hp0
    · obtain ⟨x, hx, h1, h2⟩ := mem_leftN.1 hy
      rcases List.mem_append.1 hx with hx | hx
      · exact .inl (mem_leftN.2 ⟨x, hx, h1, h2⟩)
      · simp at hx; subst hx; exact .inr (hbit y h1 h2)
theorem foldl_parts (n : Nat) : ∀ (l : List Int) (ps : List (Nat × Nat)), PartsOk ps → PartsOk (l.foldl (backStep n) ps) ∧ ∀ y ∈ leftN (l.foldl (backStep n) ps), y ∈ leftN ps ∨ ((y : Int) ∈ l ∧ y < n)
  | [], ps, h => ⟨h, fun y hy => .inl hy⟩
  | z :: l, ps, h => by
    have h1 : PartsOk (backStep n ps z) ∧ ∀ y ∈ leftN (backStep n ps z), y ∈ leftN ps ∨ ((y : Int) = z ∧ y < n) := by
      unfold backStep
      split
      · rename_i hz
        obtain ⟨a, b⟩ := addPart_parts h z.toNat
        refine ⟨a, fun y hy => (b y hy).imp id fun e => ?_⟩
        omega
      · exact ⟨h, fun y hy => .inl hy⟩
    obtain ⟨a, b⟩ := foldl_parts n l _ h1.1
    refine ⟨a, fun y hy => ?_⟩
    rcases b y hy with h2 | ⟨h2, h3⟩
    · rcases h1.2 y h2 with h4 | ⟨h4, h5⟩
      · exact .inl h4
      · exact .inr ⟨by rw [h4]; exact List.mem_cons_self, h5⟩
    · exact .inr ⟨List.mem_cons_of_mem _ h2, h3⟩
theorem backParts_parts (n : Nat) (l : List Int) : PartsOk (backParts n l) ∧ ∀ y ∈ leftN (backParts n l), (y : Int) ∈ l ∧ y < n := by
  obtain ⟨a, b⟩ := foldl_parts n l [] ⟨by simp, by simp⟩
  exact ⟨a, fun y hy => (b y hy).resolve_left (by simp [leftN])⟩
/-! ### The list that Left tells, the list that Free tells -/
def leftS (l : List (Nat × Nat)) : List Nat := (leftI l).map Int.toNat
theorem mem_leftI {l : List (Nat × Nat)} {z : Int} : z ∈ leftI l ↔ ∃ y ∈ leftN l, z = (y : Int) := by
  unfold leftI srtI
  rw [List.mem_mergeSort, List.mem_map]
  exact ⟨fun ⟨a, b, c⟩ => ⟨a, b, c.symm⟩, fun ⟨a, b, c⟩ => ⟨a, b, c.symm⟩⟩
theorem mem_leftS {l : List (Nat × Nat)} {y : Nat} : y ∈ leftS l ↔ y ∈ leftN l := by
  unfold leftS
  rw [List.mem_map]
  constructor
  · rintro ⟨z, hz, rfl⟩
    obtain ⟨x, hx, rfl⟩ := mem_leftI.1 hz
    simpa using hx
  · exact fun h => ⟨(y : Int), mem_leftI.2 ⟨y, h, rfl⟩, by simp⟩
theorem leftS_len (l : List (Nat × Nat)) : (leftS l).length = (leftI l).length := by simp [leftS]
theorem leftS_R (l : List (Nat × Nat)) (k : IntKind) : natsR k (leftS l) = intsR k (leftI l) := by
  unfold natsR intsR leftS
  rw [List.map_map]
  apply List.map_congr_left
  intro z hz
  obtain ⟨y, _, rfl⟩ := mem_leftI.1 hz
  simp
theorem freeN_at (ws : List Nat) {x c : Nat} (hx : x < c) (hf : isFree ws x = true) : (freeN ws x).length < (freeN ws c).length ∧ (freeN ws c).getD (freeN ws x).length 0 = x := by
  obtain ⟨d, rfl⟩ : ∃ d, c = x + 1 + d := ⟨c - x - 1, by omega⟩
  have h1 : ∀ d, ∃ r, freeN ws (x + 1 + d) = freeN ws x ++ x :: r := by
    intro d
    induction d with
    | zero => exact ⟨[], by rw [Nat.add_zero, freeN_succ, hf]; simp⟩
    | succ d ih =>
      obtain ⟨r, hr⟩ := ih
      rw [← Nat.add_assoc, freeN_succ, hr]
      exact ⟨_, by rw [List.append_assoc]; rfl⟩
  obtain ⟨r, hr⟩ := h1 d
  rw [hr]
  constructor
  · simp
  · simp
theorem freeN_tail (ws : List Nat) {x c : Nat} (hx : x ≤ c) (h : ∀ y, x ≤ y → y < c → isFree ws y = false) : freeN ws c = freeN ws x := by
  induction c with
  | zero => rw [show x = 0 by omega]
  | succ c ih =>
    rcases Nat.lt_or_ge c x with h' | h'
    · rw [show x = c + 1 by omega]
    · rw [freeN_succ, h c h' (by omega), ih h' fun y h1 h2 => h y h1 (by omega)]; simp
end Go.Proofs.YtdmmahhnfnefoaaDoor
