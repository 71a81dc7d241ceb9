/-
  Entries in order, plain: the sort's result is one, what is put in stands behind those that are due no later, what is due stands first.
-/
import Derived.Test.YtdmmahhnfnefoaaWh0
namespace Go.Proofs.Ytdmmahhnfnefoaa
open Go.RowKit

def eLt (a b : Wen) : Bool := decide (a.at_ < b.at_ ∨ (a.at_ = b.at_ ∧ a.turn < b.turn))
abbrev eLe (a b : Wen) : Bool := !eLt b a
theorem eLe_iff {a b : Wen} : eLe a b = true ↔ a.at_ < b.at_ ∨ (a.at_ = b.at_ ∧ a.turn ≤ b.turn) := by
  simp only [eLe, eLt, Bool.not_eq_true', decide_eq_false_iff_not]
  omega
def srt (l : List Wen) : List Wen := l.mergeSort eLe
theorem srt_perm (l : List Wen) : (srt l).Perm l := List.mergeSort_perm l _
theorem srt_pair (l : List Wen) : (srt l).Pairwise (fun a b => eLe a b = true) :=
  List.pairwise_mergeSort (fun a b c h1 h2 => by rw [eLe_iff] at *; omega) (fun a b => by
    by_cases h : eLe a b = true
    · simp [h]
    · have : eLe b a = true := by
        rw [eLe_iff] at *; omega
      simp [this]) l
theorem srt_len (l : List Wen) : (srt l).length = l.length := (srt_perm l).length_eq
theorem srt_nil : srt [] = [] := by simp [srt]
def Turns (l : List Wen) : Prop := (l.map Wen.turn).Nodup
theorem Turns.perm {l m : List Wen} (h : Turns l) (p : m.Perm l) : Turns m := List.Nodup.perm h (p.symm.map _)
theorem Turns.inj : ∀ {l : List Wen} {a b : Wen}, Turns l → a ∈ l → b ∈ l → a.turn = b.turn → a = b
  | [], a, _, _, h, _, _ => by simp at h
  | x :: l, a, b, ht, ha, hb, e => by
    unfold Turns at ht
    rw [List.map_cons, List.nodup_cons] at ht
    rcases List.mem_cons.1 ha with ea | ha2
    · rcases List.mem_cons.1 hb with eb | hb2
      · rw [ea, eb]
      · rw [ea] at e
        exact absurd (List.mem_map.2 ⟨b, hb2, e.symm⟩) ht.1
    · rcases List.mem_cons.1 hb with eb | hb2
      · rw [eb] at e
        exact absurd (List.mem_map.2 ⟨a, ha2, e⟩) ht.1
      · exact Turns.inj (l := l) ht.2 ha2 hb2 e
/-- What is in order is the order. -/
theorem srt_one {l m : List Wen} (ht : Turns l) (hp : m.Perm l) (hs : m.Pairwise (fun a b => eLe a b = true)) : m = srt l := by
  refine List.Perm.eq_of_pairwise (le := fun a b => eLe a b = true) ?_ hs (srt_pair l) (hp.trans (srt_perm l).symm)
  intro a b ha hb h1 h2
  rw [eLe_iff] at h1 h2
  exact ht.inj (hp.mem_iff.1 ha) ((srt_perm l).mem_iff.1 hb) (by omega)
theorem srt_congr {l m : List Wen} (ht : Turns l) (hp : m.Perm l) : srt m = srt l := srt_one ht ((srt_perm m).trans hp) (srt_pair m)

/-! ### Items -/
def Wen.item (x : Wen) : Int × Int := (x.id, (x.at_ : Int))
def itemsE (l : List Wen) : List (Int × Int) := l.map Wen.item
def insI (x : Int × Int) : List (Int × Int) → List (Int × Int)
  | [] => [x]
  | y :: l => if x.2 < y.2 then x :: y :: l else y :: insI x l
def insE (x : Wen) : List Wen → List Wen
  | [] => [x]
  | y :: l => if x.at_ < y.at_ then x :: y :: l else y :: insE x l
theorem insE_items (x : Wen) : ∀ l, itemsE (insE x l) = insI x.item (itemsE l)
  | [] => rfl
  | y :: l => by
    unfold insE
    split
    · rename_i h
      have : x.item.2 < y.item.2 := by unfold Wen.item; dsimp only; omega
      simp only [itemsE, List.map_cons, insI, if_pos this]
    · rename_i h
      have : ¬ x.item.2 < y.item.2 := by unfold Wen.item; dsimp only; omega
      have ih := insE_items x l
      simp only [itemsE, List.map_cons, insI, if_neg this] at ih ⊢
      rw [ih]
theorem insE_perm (x : Wen) : ∀ l, (insE x l).Perm (x :: l)
  | [] => .refl _
  | y :: l => by
    unfold insE
    split
    · exact .refl _
    · exact ((insE_perm x l).cons y).trans (.swap _ _ _)
theorem insE_pair {x : Wen} : ∀ {l : List Wen}, l.Pairwise (fun a b => eLe a b = true) → (∀ y ∈ l, y.turn < x.turn) → (insE x l).Pairwise (fun a b => eLe a b = true)
  | [], _, _ => by unfold insE; exact List.pairwise_singleton _ _
  | y :: l, h, hx => by
    unfold insE
    have hc := List.pairwise_cons.1 h
    split
    · rename_i g
      refine List.pairwise_cons.2 ⟨fun z hz => ?_, h⟩
      rcases List.mem_cons.1 hz with rfl | hz
      · rw [eLe_iff]; omega
      · have := hc.1 z hz
        rw [eLe_iff] at this ⊢; omega
    · rename_i g
      refine List.pairwise_cons.2 ⟨fun z hz => ?_, insE_pair hc.2 fun y hy => hx y (by simp [hy])⟩
      rcases List.mem_cons.1 ((insE_perm x l).mem_iff.1 hz) with rfl | hz
      · have := hx y (by simp)
        rw [eLe_iff]; omega
      · exact hc.1 z hz
theorem Turns.cons {l : List Wen} {x : Wen} (ht : Turns l) (hx : ∀ y ∈ l, y.turn < x.turn) : Turns (x :: l) := by
  unfold Turns at *
  rw [List.map_cons, List.nodup_cons]
  refine ⟨fun h => ?_, ht⟩
  obtain ⟨y, hy, e⟩ := List.mem_map.1 h
  have := hx y hy
  omega
/-- One more, the latest: it stands behind those that are due no later. -/
theorem srt_ins {l m : List Wen} {x : Wen} (ht : Turns l) (hx : ∀ y ∈ l, y.turn < x.turn) (hp : m.Perm (x :: l)) : itemsE (srt m) = insI x.item (itemsE (srt l)) := by
  rw [← insE_items]
  congr 1
  have ht2 := Turns.cons ht hx
  rw [srt_congr ht2 hp]
  exact (srt_one ht2 ((insE_perm x _).trans ((srt_perm l).cons x)) (insE_pair (srt_pair l) fun y hy => hx y ((srt_perm l).mem_iff.1 hy))).symm
/-- What is due stands first. -/
theorem srt_app {R A l : List Wen} {t : Nat} (ht : Turns l) (hp : (R ++ A).Perm l) (hR : ∀ x ∈ R, x.at_ ≤ t) (hA : ∀ x ∈ A, t < x.at_) : srt l = srt R ++ srt A := by
  refine (srt_one ht (((srt_perm R).append (srt_perm A)).trans hp) ?_).symm
  refine List.pairwise_append.2 ⟨srt_pair R, srt_pair A, fun a ha b hb => ?_⟩
  have h1 := hR a ((srt_perm R).mem_iff.1 ha)
  have h2 := hA b ((srt_perm A).mem_iff.1 hb)
  rw [eLe_iff]; omega
def cntI (t : Int) (l : List (Int × Int)) : Nat := (l.takeWhile fun x => decide (x.2 ≤ t)).length
theorem due_items {R A l : List Wen} {t : Nat} (ht : Turns l) (hp : (R ++ A).Perm l) (hR : ∀ x ∈ R, x.at_ ≤ t) (hA : ∀ x ∈ A, t < x.at_) :
    itemsE (srt R) = (itemsE (srt l)).take (cntI t (itemsE (srt l))) ∧ itemsE (srt A) = (itemsE (srt l)).drop (cntI t (itemsE (srt l))) := by
  rw [srt_app ht hp hR hA]
  have e : itemsE (srt R ++ srt A) = itemsE (srt R) ++ itemsE (srt A) := List.map_append
  have h1 : ∀ x ∈ itemsE (srt R), decide (x.2 ≤ (t : Int)) = true := fun x hx => by
    obtain ⟨y, hy, rfl⟩ := List.mem_map.1 hx
    have := hR y ((srt_perm R).mem_iff.1 hy)
    exact decide_eq_true (show ((y.at_ : Nat) : Int) ≤ (t : Int) by omega)
  have h2 : (itemsE (srt A)).takeWhile (fun x => decide (x.2 ≤ (t : Int))) = [] := by
    cases hc : itemsE (srt A) with
    | nil => rfl
    | cons x r =>
      have hx : x ∈ itemsE (srt A) := by rw [hc]; simp
      obtain ⟨y, hy, rfl⟩ := List.mem_map.1 hx
      have := hA y ((srt_perm A).mem_iff.1 hy)
      rw [List.takeWhile_cons_of_neg (fun g => by have g : ((y.at_ : Nat) : Int) ≤ (t : Int) := of_decide_eq_true g; omega)]
  have h3 : cntI t (itemsE (srt R ++ srt A)) = (itemsE (srt R)).length := by
    unfold cntI
    rw [e, List.takeWhile_append_of_pos h1, h2, List.append_nil]
  rw [h3, e, List.take_left, List.drop_left]
  exact ⟨rfl, rfl⟩

/-! ### A wheel's whole state -/
structure WGood (s : WSt) : Prop where
  pos : WPos s
  turns : Turns s.all
  less : ∀ x ∈ s.all, x.turn ≤ s.turn
def newS : WSt := ⟨0, 0, [], fun _ => []⟩
theorem flat_none : flatS (fun _ => []) = [] := by unfold flatS; simp
theorem new_good : WGood newS := ⟨⟨by decide, fun x hx => by simp [newS] at hx, fun k _ x hx => by simp [newS] at hx⟩, by simp [Turns, WSt.all, newS, flat_none], fun x hx => by simp [WSt.all, newS, flat_none] at hx⟩
theorem new_all : newS.all = [] := by simp [WSt.all, newS, flat_none]
def addS (s : WSt) (id : Int) (a : Nat) : WSt := putS { s with turn := s.turn + 1 } ⟨id, a, s.turn + 1⟩
theorem add_good {s : WSt} {id : Int} {a : Nat} (h : WGood s) (ha : a < 4294967296) : WGood (addS s id a) ∧ (addS s id a).now = s.now ∧ (addS s id a).turn = s.turn + 1 ∧ (addS s id a).all.Perm (⟨id, a, s.turn + 1⟩ :: s.all) := by
  have hp : WPos { s with turn := s.turn + 1 } := ⟨h.pos.now, h.pos.ready, h.pos.sl⟩
  have h1 := put_pos (x := ⟨id, a, s.turn + 1⟩) hp ha
  have h2 := put_all (s := { s with turn := s.turn + 1 }) (x := ⟨id, a, s.turn + 1⟩) ha
  obtain ⟨h3, h4⟩ := put_now { s with turn := s.turn + 1 } ⟨id, a, s.turn + 1⟩
  have ht : Turns (⟨id, a, s.turn + 1⟩ :: s.all) := Turns.cons h.turns fun y hy => by have := h.less y hy; dsimp only; omega
  refine ⟨⟨h1, ht.perm h2, fun x hx => ?_⟩, h3, h4, h2⟩
  unfold addS
  rw [h4]
  dsimp only
  rcases List.mem_cons.1 (h2.mem_iff.1 hx) with rfl | hx
  · exact Nat.le_refl _
  · have := h.less x hx; omega
theorem due_good {s : WSt} {n : Int} (h : WGood s) : WGood (dueS s n).2 := by
  have hd := dueS_ok (n := n) h.pos
  have ht := h.turns.perm hd.perm
  refine ⟨hd.pos, ?_, fun x hx => ?_⟩
  · unfold Turns at *
    rw [List.map_append] at ht
    exact (List.nodup_append.1 ht).2.1
  · rw [hd.turn]
    exact h.less x (hd.perm.mem_iff.1 (List.mem_append_right _ hx))
theorem add_items {s : WSt} {id : Int} {a : Nat} (h : WGood s) (ha : a < 4294967296) : itemsE (srt (addS s id a).all) = insI (id, (a : Int)) (itemsE (srt s.all)) :=
  srt_ins h.turns (fun y hy => by have := h.less y hy; show y.turn < s.turn + 1; omega) (add_good h ha).2.2.2
end Go.Proofs.Ytdmmahhnfnefoaa
