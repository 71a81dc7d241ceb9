/-
  WheelEach, the plain law: every item is told once, by the first Due that reaches it.
-/
import Derived.Test.YtdmmahhnfnefoaaWh9
namespace Go.Proofs.Ytdmmahhnfnefoaa
open Go.RowKit

def atN (l : List Int) (k : Nat) : Nat := (IntKind.i64.wrap ((IntKind.u64.wrap (l.getD k 0)).tmod 4294967296)).toNat
theorem atN_eq (l : List Int) (k : Nat) : IntKind.i64.wrap ((IntKind.u64.wrap (l.getD k 0)).tmod 4294967296) = (atN l k : Int) ∧ atN l k < 4294967296 := by
  obtain ⟨a, ha, e⟩ := modI (l.getD k 0) 4294967296 (by decide) (by decide)
  have e : IntKind.i64.wrap ((IntKind.u64.wrap (l.getD k 0)).tmod 4294967296) = (a : Int) := e
  unfold atN
  rw [e]
  exact ⟨by omega, by omega⟩
theorem sI_add {s : WSt} {id : Int} {a : Nat} (h : WGood s) (ha : a < 4294967296) : (sI (addS s id a)).Perm ((id, (a : Int)) :: sI s) := by
  have h1 := (add_good (id := id) h ha).2.2.2
  have h2 : (sI (addS s id a)).Perm (itemsE (⟨id, a, s.turn + 1⟩ :: s.all)) := ((srt_perm _).trans h1).map _
  refine h2.trans (List.Perm.cons _ ?_)
  exact ((srt_perm _).map _).symm
/-- What is in the wheel: what is not told. -/
structure Each (at_ : Nat → Nat) (T : List Int) (a : WSt) (i : Nat) : Prop where
  good : WGood a
  mem : ∀ x ∈ sI a, ∃ k : Nat, k < i ∧ x = ((k : Int), (at_ k : Int)) ∧ T.getD k 0 = 0
  nod : ((sI a).map Prod.fst).Nodup
  has : ∀ k : Nat, k < i → T.getD k 0 = 0 → ((k : Int), (at_ k : Int)) ∈ sI a
theorem Each.zero (at_ : Nat → Nat) (T : List Int) : Each at_ T newS 0 := by
  have e : sI newS = [] := by rw [sI, new_all, srt_nil]; rfl
  exact ⟨new_good, (by rw [e]; exact fun x hx => absurd hx (by simp)), (by rw [e]; simp), fun k hk => absurd hk (Nat.not_lt_zero _)⟩
theorem Each.add {at_ : Nat → Nat} {T : List Int} {a : WSt} {i : Nat} (h : Each at_ T a i) (ha : at_ i < 4294967296) (hT : T.getD i 0 = 0) : Each at_ T (addS a i (at_ i)) (i + 1) := by
  have hp := sI_add (id := i) h.good ha
  refine ⟨(add_good h.good ha).1, fun x hx => ?_, ?_, fun k hk hk2 => ?_⟩
  · rcases List.mem_cons.1 (hp.mem_iff.1 hx) with rfl | hx
    · exact ⟨i, by omega, rfl, hT⟩
    · obtain ⟨k, hk, e1, e2⟩ := h.mem x hx
      exact ⟨k, by omega, e1, e2⟩
  · refine List.Nodup.perm (l := (((i : Int), (at_ i : Int)) :: sI a).map Prod.fst) ?_ (hp.map _).symm
    rw [List.map_cons, List.nodup_cons]
    refine ⟨fun hm => ?_, h.nod⟩
    obtain ⟨x, hx, e⟩ := List.mem_map.1 hm
    obtain ⟨k, hk, e1, _⟩ := h.mem x hx
    subst e1
    dsimp only at e
    omega
  · refine hp.mem_iff.2 (List.mem_cons.2 ?_)
    by_cases e : k = i
    · subst e; exact .inl rfl
    · exact .inr (h.has k (by omega) hk2)
/-- The first k of K told. -/
structure Mark (T : List Int) (K : List (Int × Int)) (T' : List Int) : Prop where
  len : T'.length = T.length
  val : ∀ j : Nat, j < T.length → T'.getD j 0 = if (j : Int) ∈ K.map Prod.fst then 1 else T.getD j 0
theorem Mark.zero (T : List Int) : Mark T [] T := ⟨rfl, fun j _ => by simp⟩
theorem Mark.succ {T T' : List Int} {K : List (Int × Int)} {k j : Nat} (h : Mark T (K.take k) T') (hk : k < K.length) (hj : (K.getD k (0, 0)).1 = (j : Int)) (hjn : j < T.length) : Mark T (K.take (k + 1)) (T'.set j 1) := by
  refine ⟨by rw [List.length_set, h.len], fun i hi => ?_⟩
  have e : K.take (k + 1) = K.take k ++ [K.getD k (0, 0)] := by
    rw [List.take_add_one, List.getElem?_eq_getElem hk, List.getD_eq_getElem?_getD, List.getElem?_eq_getElem hk]; rfl
  rw [e, List.map_append, List.map_cons, List.map_nil, hj]
  have hv := h.val i hi
  have hl := h.len
  by_cases hij : j = i
  · subst hij
    rw [List.getD_eq_getElem?_getD, List.getElem?_set_self (by omega)]
    simp
  · rw [List.getD_eq_getElem?_getD, List.getElem?_set_ne hij, ← List.getD_eq_getElem?_getD, hv]
    have : ¬ (i : Int) = (j : Int) := by omega
    simp [this]
theorem Each.told {at_ : Nat → Nat} {T : List Int} {a : WSt} {n : Nat} {d : Int} (h : Each at_ T a n) {k : Nat} (hk : k < (toldI (dueN a d) (sI a)).length) {T' : List Int} (hn : T.length = n) (hM : Mark T ((toldI (dueN a d) (sI a)).take k) T') :
    ∃ j : Nat, j < n ∧ (toldI (dueN a d) (sI a)).getD k (0, 0) = ((j : Int), (at_ j : Int)) ∧ T'.getD j 0 = 0 ∧ at_ j ≤ dueN a d ∧ ((j : Int), (at_ j : Int)) ∈ sI a := by
  have hsplit := told_left (dueN a d) (sI a)
  generalize hK : toldI (dueN a d) (sI a) = K at *
  have hg : K.getD k (0, 0) = K[k] := by rw [List.getD_eq_getElem?_getD, List.getElem?_eq_getElem hk]; rfl
  have hx : K[k] ∈ K := List.getElem_mem hk
  have hx2 : K[k] ∈ sI a := by rw [← hsplit]; exact List.mem_append_left _ hx
  obtain ⟨j, hj, e1, e2⟩ := h.mem _ hx2
  have hle : K[k].2 ≤ (dueN a d : Int) := told_mem (by rw [hK]; exact hx)
  refine ⟨j, hj, by rw [hg, e1], ?_, by rw [e1] at hle; dsimp only at hle; omega, by rw [← e1]; exact hx2⟩
  rw [hM.val j (by omega), if_neg, e2]
  intro hm
  have hnd : (K.map Prod.fst).Nodup := by
    have := h.nod
    rw [← hsplit, List.map_append] at this
    exact (List.nodup_append.1 this).1
  have h3 : K.take (k + 1) = K.take k ++ [K[k]] := by
    rw [List.take_add_one, List.getElem?_eq_getElem hk]; rfl
  have h4 : ((K.take (k + 1)).map Prod.fst).Nodup := List.Nodup.sublist ((List.take_sublist _ _).map _) hnd
  rw [h3, List.map_append, List.nodup_append] at h4
  refine h4.2.2 (j : Int) hm (j : Int) ?_ rfl
  rw [e1]; simp
theorem Each.due {at_ : Nat → Nat} {T T' : List Int} {a : WSt} {n : Nat} {d : Int} (h : Each at_ T a n) (hn : T.length = n) (hM : Mark T (toldI (dueN a d) (sI a)) T') :
    Each at_ T' (dueS a d).2 n ∧ (∀ x ∈ sI (dueS a d).2, (dueN a d : Int) < x.2) := by
  obtain ⟨d1, d2, d3, d4, d5, d6⟩ := due_told (n := d) h.good
  have hd := dueS_ok (n := d) h.good.pos
  have hsplit := told_left (dueN a d) (sI a)
  have hnd := h.nod
  rw [← hsplit, List.map_append, List.nodup_append] at hnd
  refine ⟨⟨d6, fun x hx => ?_, by rw [d2]; exact hnd.2.1, fun k hk hk2 => ?_⟩, fun x hx => ?_⟩
  · rw [d2] at hx
    have hx2 : x ∈ sI a := by rw [← hsplit]; exact List.mem_append_right _ hx
    obtain ⟨k, hk, e1, e2⟩ := h.mem x hx2
    refine ⟨k, hk, e1, ?_⟩
    rw [hM.val k (by omega), if_neg, e2]
    intro hm
    refine hnd.2.2 (k : Int) hm (k : Int) (List.mem_map.2 ⟨x, hx, by rw [e1]⟩) rfl
  · rw [hM.val k (by omega)] at hk2
    split at hk2
    · exact absurd hk2 (by decide)
    · rename_i hno
      have h1 := h.has k hk hk2
      rw [← hsplit] at h1
      rw [d2]
      rcases List.mem_append.1 h1 with g | g
      · exact absurd (List.mem_map.2 ⟨_, g, rfl⟩) hno
      · exact g
  · obtain ⟨y, hy, rfl⟩ := List.mem_map.1 hx
    have h1 := hd.left y ((srt_perm _).mem_iff.1 hy)
    show (dueN a d : Int) < ((y.at_ : Nat) : Int)
    unfold dueN
    omega
end Go.Proofs.Ytdmmahhnfnefoaa
