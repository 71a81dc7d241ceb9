/-
  Hd, Mp, Pl1, Pl2, Pl3, Pl4, Mf, Mg, Pp0, PpT, Mh, Fx, Fy, Fd, Fz, Mi, Mj, Mk: joined by a program (wip/bundle.py).
-/
import Derived.MapKept
import Derived.Laws.BitsAllLaws
import Derived.WalkKit
import Derived.Shelf.Spec.TrailingZeros
import Derived.Test.YtianbkbehjppoaaGreatDoorG0
import Derived.Test.YtianbkbehjppoaaGreatDoorG1
import Derived.Test.YtianbkbehjppoaaGreatDoorG2
import Derived.Test.YtianbkbehjppoaaGreatDoorG3
import Derived.Test.YtianbkbehjppoaaGreatDoorG4
import Derived.Test.YtianbkbehjppoaaGreatDoorG5
import Derived.Test.YtianbkbehjppoaaGreatDoorG6
import Derived.Test.YtianbkbehjppoaaGreatDoorG7
namespace Go.Proofs.YtianbkbehjppoaaGreatDoor
open Go.RowKit
set_option maxRecDepth 10000
attribute [local irreducible] EK EX ER EN EL ES EG OpVal OpDoes OpSkip
variable {W : World} {F : SL} {X : Cx} {k : List KI} {σ : Env}
variable {p : Option Addr} {c : Nat} {l : List EvT} {s : Nat → Slab × Slab}
theorem rightT_no {l : List EvT} {i : Nat} (hi : i < l.length) (h : rightE (l.getD i ev0) = false) : rightT l = false := by
  unfold rightT
  rw [List.all_eq_false]
  refine ⟨l.getD i ev0, ?_, by rw [h]; decide⟩
  rw [List.getD_eq_getElem?_getD, List.getElem?_eq_getElem hi]
  exact List.getElem_mem hi
theorem rightT_yes {l : List EvT} (h : ∀ j, j < l.length → rightE (l.getD j ev0) = true) : rightT l = true := by
  unfold rightT
  rw [List.all_eq_true]
  intro x hx
  obtain ⟨j, hj⟩ := List.getElem?_of_mem hx
  have := h j (List.getElem?_eq_some_iff.1 hj).1
  simpa [List.getD_eq_getElem?_getD, hj] using this
theorem snocQ {P : Nat → Prop} {i : Nat} (h : ∀ j, j < i → P j) (hi : P i) : ∀ j, j < i + 1 → P j := fun j hj => by
  rcases Nat.lt_or_ge j i with g | g
  · exact h j g
  · obtain rfl : j = i := by omega
    exact hi
theorem Right_spec (hl : l.length ≤ 1000) [m : Src W F p l.length (evR l s)] [r : Room W F p l.length c] : Spec Tryz.prog 16 [.slice p l.length c] W F (fun _ : Unit => .bool (rightT l)) (fun _ => F) := by
  refine Spec.of Tryz.func16 rfl Tryz.ntmps16 rfl ?_
  repeat (first | refine go ?_ | (refine goX ?_; intro))
  refine EK_loop (γ := Nat) (fun i => i ≤ l.length ∧ ∀ j, j < i → rightE (l.getD j ev0) = true) (fun i => [(6, .slice p l.length c), (7, .int .i64 (l.length : Int)), (8, .int .i64 (i : Int))])
    (fun _ => F) (fun i => l.length - i) 0 ⟨Nat.zero_le _, fun j hj => by omega⟩ ⟨rfl, rfl, rfl, trivial⟩ (Ent.sat (Ent.refl _)) ?_
  intro i ⟨h1, h2⟩; dsimp only at h1 h2 ⊢
  by_cases hi : i < l.length
  · haveI : Pos l.length := ⟨by omega⟩
    by_cases ga : (l.getD i ev0).e = -1 <;> by_cases gb : (l.getD i ev0).b < 1 <;> by_cases gc : (l.getD i ev0).e ≤ (l.getD i ev0).b <;> cases gd : (l.getD i ev0).ends
    all_goals
      first
      | exfalso; omega
      | have hr : rightE (l.getD i ev0) = !(decide ((l.getD i ev0).b < 1) || (decide ((l.getD i ev0).e ≤ (l.getD i ev0).b) && (!decide ((l.getD i ev0).e = -1) || (l.getD i ev0).ends))) := rfl
        rw [gd] at hr
        first | rw [decide_eq_true ga] at hr | rw [decide_eq_false ga] at hr
        first | rw [decide_eq_true gb] at hr | rw [decide_eq_false gb] at hr
        first | rw [decide_eq_true gc] at hr | rw [decide_eq_false gc] at hr
        simp only [Bool.not_true, Bool.not_false, Bool.true_or, Bool.or_true, Bool.false_or, Bool.or_false, Bool.and_true, Bool.true_and, Bool.and_false, Bool.false_and] at hr
        repeat (first | refine go ?_ | (refine goX ?_; intro))
        try rw [gd]
        repeat (first | refine go ?_ | (refine goX ?_; intro))
        try rw [gd]
        repeat (first | refine go ?_ | (refine goX ?_; intro))
        first
          | exact EK_ret (ER_1 rfl rfl () (by rw [rightT_no hi hr]) (Ent.sat (by first | exact Ent.refl _ | exact Ent.last | (repeat (first | refine Ent.cons ?_ | refine Ent.objX ?_ | refine Ent.rowX ?_ | exact Ent.any | exact Ent.last)))))
          | exact EK_round (i + 1) ⟨by omega, snocQ h2 hr⟩ (by omega) ⟨rfl, rfl, rfl, trivial⟩ (Ent.sat (by first | exact Ent.refl _ | exact Ent.last | (repeat (first | refine Ent.cons ?_ | refine Ent.objX ?_ | refine Ent.rowX ?_ | exact Ent.any | exact Ent.last))))
  · have e : i = l.length := by omega
    subst e
    rw [rightT_yes h2]
    repeat (first | refine go ?_ | (refine goX ?_; intro))
    exact EK_ret (ER_1 rfl rfl () rfl (Ent.sat (by first | exact Ent.refl _ | exact Ent.last | (repeat (first | refine Ent.cons ?_ | refine Ent.objX ?_ | refine Ent.rowX ?_ | exact Ent.any | exact Ent.last)))))
theorem Ahead_spec (x y : EvT) (f g f' g' : Slab) : Spec Tryz.prog 26 [.agg (evE x f g).toArray, .agg (evE y f' g').toArray] W F (fun _ : Unit => .bool (aheadT x y)) (fun _ => F) := by
  refine Spec.of Tryz.func26 rfl Tryz.ntmps26 rfl ?_
  unfold aheadT
  by_cases g1 : x.e = -1
  · rw [decide_eq_true g1]
    repeat (first | refine go ?_ | (refine goX ?_; intro))
    exact EK_ret (ER_1 rfl rfl () rfl (Ent.sat (by first | exact Ent.refl _ | exact Ent.last | (repeat (first | refine Ent.cons ?_ | refine Ent.objX ?_ | refine Ent.rowX ?_ | exact Ent.any | exact Ent.last)))))
  · rw [decide_eq_false g1]
    repeat (first | refine go ?_ | (refine goX ?_; intro))
    exact EK_ret (ER_1 rfl rfl () rfl (Ent.sat (by first | exact Ent.refl _ | exact Ent.last | (repeat (first | refine Ent.cons ?_ | refine Ent.objX ?_ | refine Ent.rowX ?_ | exact Ent.any | exact Ent.last)))))
theorem rRight_spec (hl : l.length ≤ 1000) (hn : 0 < l.length → p ≠ none) [m : Src W F p l.length (evR l s)] [r : Room W F p l.length c] : Spec Tryz.prog 22 [.slice p l.length c] W F (fun _ : Unit => .bool (rightT l)) (fun _ => F) := by
  refine Spec.of Tryz.func22 rfl Tryz.ntmps22 rfl ?_
  repeat (first | refine go ?_ | (refine goX ?_; intro))
  refine EK_loop (γ := Nat) (fun i => i ≤ l.length ∧ ∀ j, j < i → rightE (l.getD j ev0) = true) (fun i => [(0, .slice p l.length c), (3, .int .i64 (i : Int))])
    (fun _ => F) (fun i => l.length - i) 0 ⟨Nat.zero_le _, fun j hj => by omega⟩ ⟨rfl, rfl, trivial⟩ (Ent.sat (Ent.refl _)) ?_
  intro i ⟨h1, h2⟩; dsimp only at h1 h2 ⊢
  by_cases hi : i < l.length
  · haveI : PN p := ⟨hn (by omega)⟩
    by_cases ga : (l.getD i ev0).e = -1 <;> by_cases gb : (l.getD i ev0).b < 1 <;> by_cases gc : (l.getD i ev0).e ≤ (l.getD i ev0).b <;> cases gd : (l.getD i ev0).ends
    all_goals
      first
      | exfalso; omega
      | have hr : rightE (l.getD i ev0) = !(decide ((l.getD i ev0).b < 1) || (decide ((l.getD i ev0).e ≤ (l.getD i ev0).b) && (!decide ((l.getD i ev0).e = -1) || (l.getD i ev0).ends))) := rfl
        rw [gd] at hr
        first | rw [decide_eq_true ga] at hr | rw [decide_eq_false ga] at hr
        first | rw [decide_eq_true gb] at hr | rw [decide_eq_false gb] at hr
        first | rw [decide_eq_true gc] at hr | rw [decide_eq_false gc] at hr
        simp only [Bool.not_true, Bool.not_false, Bool.true_or, Bool.or_true, Bool.false_or, Bool.or_false, Bool.and_true, Bool.true_and, Bool.and_false, Bool.false_and] at hr
        repeat (first | refine go ?_ | (refine goX ?_; intro))
        refine EK_sink 99 F rfl rfl rfl ?_
        repeat (first | refine goQ ?_ | refine EG_done (by decide +kernel) ?_)
        try rw [gd]
        repeat (first | refine goQ ?_ | refine EG_done (by decide +kernel) ?_)
        repeat (first | refine go ?_ | (refine goX ?_; intro))
        first
          | exact EK_ret (ER_1 rfl rfl () (by rw [rightT_no hi hr]) (Ent.sat (by first | exact Ent.refl _ | exact Ent.last | (repeat (first | refine Ent.cons ?_ | refine Ent.objX ?_ | refine Ent.rowX ?_ | exact Ent.any | exact Ent.last)))))
          | exact EK_round (i + 1) ⟨by omega, snocQ h2 hr⟩ (by omega) ⟨rfl, rfl, trivial⟩ (Ent.sat (by first | exact Ent.refl _ | exact Ent.last | (repeat (first | refine Ent.cons ?_ | refine Ent.objX ?_ | refine Ent.rowX ?_ | exact Ent.any | exact Ent.last))))
  · have e : i = l.length := by omega
    subst e
    rw [rightT_yes h2]
    repeat (first | refine go ?_ | (refine goX ?_; intro))
    exact EK_ret (ER_1 rfl rfl () rfl (Ent.sat (by first | exact Ent.refl _ | exact Ent.last | (repeat (first | refine Ent.cons ?_ | refine Ent.objX ?_ | refine Ent.rowX ?_ | exact Ent.any | exact Ent.last)))))
end Go.Proofs.YtianbkbehjppoaaGreatDoor

namespace Go.Proofs.YtianbkbehjppoaaGreatDoor
open Go.RowKit

/-! ### Keys -/
/-- What a look-up for a key finds. -/
def Finds (P : Program) (kt : TypeId) (k : Value) (es : List MapEntry) (w : World) : Prop :=
  ((Instr.findKey kt k es).run P w = .ok none w ∧ ∀ e ∈ es, e.key ≠ k) ∨ ∃ j e, (Instr.findKey kt k es).run P w = .ok (some (j, e.val)) w ∧ es[j]? = some e ∧ e.key = k
/-- Keys of a type, by what they stand for. -/
class KeyE (P : Program) (kt : TypeId) {κ : Type} (ek : κ → Value) : Prop where
  inj : ∀ a b, ek a = ek b → a = b
  check : ∀ e k w, (Instr.checkKey e 10000 kt (ek k)).run P w = .ok () w
  find : ∀ (k : κ) (es : List MapEntry) w, (∀ e ∈ es, ∃ a, e.key = ek a) → Finds P kt (ek k) es w
  stays : ∀ k, Instr.sameBits 10000 (ek k) (ek k) = true

theorem finds_now {P : Program} {kt : TypeId} {d : TypeDesc} (hu : P.underlying kt = some d) {k : Value} (hk : MapKept.IsKey d k) {es : List MapEntry} (h : ∀ e ∈ es, MapKept.IsKey d e.key) (w : World) : Finds P kt k es w := by
  rcases MapKept.findNow_spec hk es 0 h with ⟨h1, h2⟩ | ⟨j, e, h1, h2, h3⟩
  · exact .inl ⟨MapKept.run_findKey hu h1, h2⟩
  · rw [Nat.zero_add] at h1
    exact .inr ⟨j, e, MapKept.run_findKey hu h1, h2, h3⟩
theorem finds_asking {P : Program} {kt : TypeId} {k : Value} {w : World} : ∀ (es : List MapEntry) (i : Nat), (∀ e ∈ es, ∃ b : Bool, (Op.equal kt k e.key).run P w = .ok b w ∧ (b = true ↔ k = e.key)) →
    ((Instr.findAsking kt k es i).run P w = .ok none w ∧ ∀ e ∈ es, e.key ≠ k) ∨ ∃ j e, (Instr.findAsking kt k es i).run P w = .ok (some (i + j, e.val)) w ∧ es[j]? = some e ∧ e.key = k
  | [], i, _ => .inl ⟨rfl, by simp⟩
  | e :: es, i, ho => by
    obtain ⟨b, h1, h2⟩ := ho e List.mem_cons_self
    cases b with
    | true => exact .inr ⟨0, e, by unfold Instr.findAsking; simp [Sem.run_bind, h1, Result.andThen_ok, go_sem], rfl, (h2.1 rfl).symm⟩
    | false =>
      have hne : e.key ≠ k := fun q => by have := h2.2 q.symm; cases this
      rcases finds_asking es (i + 1) fun x hx => ho x (List.mem_cons_of_mem _ hx) with ⟨h3, h4⟩ | ⟨j, x, h3, h4, h5⟩
      · refine .inl ⟨by unfold Instr.findAsking; simp [Sem.run_bind, h1, Result.andThen_ok, h3], fun x hx => ?_⟩
        rcases List.mem_cons.1 hx with rfl | hx
        · exact hne
        · exact h4 x hx
      · refine .inr ⟨j + 1, x, ?_, by simpa using h4, h5⟩
        unfold Instr.findAsking
        simp [Sem.run_bind, h1, Result.andThen_ok, h3]
        omega

def kInt (z : Int) : Value := .int .i64 z
def kStr (l : List UInt8) : Value := .string (bs l)
instance KeyE.int (P : Program) (kt : TypeId) [h : TInt P kt .i64] : KeyE P kt kInt where
  inj := fun a b e => by simpa [kInt] using e
  check := fun e k w => MapKept.run_checkKey h.h (by simp [MapKept.IsKey, kInt]) e 9999
  find := fun k es w ho => finds_now h.h (by simp [MapKept.IsKey, kInt]) (fun e he => by
    obtain ⟨a, e'⟩ := ho e he
    rw [e']
    simp [MapKept.IsKey, kInt]) w
  stays := fun k => by
    unfold kInt Instr.sameBits
    simp
instance KeyE.str (P : Program) (kt : TypeId) [h : TStr P kt] : KeyE P kt kStr where
  inj := fun a b e => by
    simp only [kStr, Value.string.injEq] at e
    exact bs_inj.1 e
  check := fun e k w => MapKept.run_checkKey h.h (by simp [MapKept.IsKey, kStr]) e 9999
  find := fun k es w ho => finds_now h.h (by simp [MapKept.IsKey, kStr]) (fun e he => by
    obtain ⟨a, e'⟩ := ho e he
    rw [e']
    simp [MapKept.IsKey, kStr]) w
  stays := fun k => by
    unfold kStr Instr.sameBits
    exact (MapKept.bytes_beq _ _).2 rfl

/-! ### Maps -/
variable {κ ν : Type} [DecidableEq κ]
structure MapFit (ek : κ → Value) (ev : ν → Value) (es : Array MapEntry) (clock : Nat) (l : List (κ × ν)) : Prop where
  eq : es.toList.map (fun e => (e.key, e.val)) = l.map fun p => (ek p.1, ev p.2)
  keys : (l.map (·.1)).Nodup
  born : (es.toList.map (·.born)).Nodup
  clock : ∀ e ∈ es.toList, e.born < clock
/-- The map m has these entries, in the order in which they came. -/
def MapC (ek : κ → Value) (ev : ν → Value) (m : Nat) (l : List (κ × ν)) : SL := SL.ex fun q : Array MapEntry × Nat => SL.pure (MapFit ek ev q.1 q.2 l) * SL.blk m (.map q.1 q.2)
class AtM (H : SL) (m : Nat) (C : outParam SL) (F : outParam SL) : Prop where eq : H = C * F
instance (priority := 2000) AtM.here (ek : κ → Value) (ev : ν → Value) (m : Nat) (l : List (κ × ν)) (F : SL) : AtM (MapC ek ev m l * F) m (MapC ek ev m l) F := ⟨rfl⟩
instance (priority := 900) AtM.there (Q R C F : SL) (m : Nat) [h : AtM R m C F] : AtM (Q * R) m C (Q * F) := ⟨by rw [h.eq]; ac_rfl⟩

section maps
variable {ek : κ → Value} {ev : ν → Value} {m : Nat} {l : List (κ × ν)} {W w : World} {F H : SL} {X : Cx} {σ : Env} {o : Oper}
omit [DecidableEq κ] in
theorem MapC.open (h : Sat W w (MapC ek ev m l * F)) : ∃ es clock, MapFit ek ev es clock l ∧ w.heap[m]? = some (.map es clock) ∧ Sat W w (SL.blk m (.map es clock) * F) := by
  obtain ⟨q, h⟩ := h.ex_out
  obtain ⟨hf, h⟩ := (h.ac (SL.sep_assoc _ _ _)).out
  exact ⟨q.1, q.2, hf, h.get, h⟩
omit [DecidableEq κ] in
theorem MapC.shut {es : Array MapEntry} {clock : Nat} (hf : MapFit ek ev es clock l) (h : Sat W w (SL.blk m (.map es clock) * F)) : Sat W w (MapC ek ev m l * F) :=
  Sat.ex_in (P := fun q : Array MapEntry × Nat => SL.pure (MapFit ek ev q.1 q.2 l) * SL.blk m (.map q.1 q.2)) (es, clock) ((h.put hf).ac (SL.sep_assoc _ _ _).symm)
omit [DecidableEq κ] in
theorem MapFit.nil : MapFit ek ev #[] 0 ([] : List (κ × ν)) := ⟨rfl, List.nodup_nil, List.nodup_nil, by simp⟩
omit [DecidableEq κ] in
theorem MapC.new (h : Sat W w F) : Sat W (w.alloc (.map #[] 0)) (MapC ek ev w.heap.size ([] : List (κ × ν)) * F) := MapC.shut MapFit.nil (h.alloc _)
omit [DecidableEq κ] in
theorem MapFit.at_ {es : Array MapEntry} {clock : Nat} (hf : MapFit ek ev es clock l) (i : Nat) : (es.toList[i]?).map (fun e => (e.key, e.val)) = (l[i]?).map fun p => (ek p.1, ev p.2) := by
  have := congrArg (fun q => q[i]?) hf.eq
  simpa using this
omit [DecidableEq κ] in
theorem MapFit.keyed {es : Array MapEntry} {clock : Nat} (hf : MapFit ek ev es clock l) : ∀ e ∈ es.toList, ∃ a, e.key = ek a := fun e he => by
  obtain ⟨i, hi⟩ := List.getElem?_of_mem he
  have := hf.at_ i
  rw [hi] at this
  cases hl : l[i]? with
  | none => rw [hl] at this; simp at this
  | some p =>
    rw [hl] at this
    simp only [Option.map_some, Option.some.injEq, Prod.mk.injEq] at this
    exact ⟨p.1, this.1⟩
theorem lookup_at : ∀ {l : List (κ × ν)} {i : Nat} {p : κ × ν}, (l.map (·.1)).Nodup → l[i]? = some p → l.lookup p.1 = some p.2
  | [], i, p, _, h => by simp at h
  | q :: l, 0, p, _, h => by
    simp only [List.getElem?_cons_zero, Option.some.injEq] at h
    subst h
    simp [List.lookup]
  | q :: l, i + 1, p, hn, h => by
    simp only [List.getElem?_cons_succ] at h
    simp only [List.map_cons, List.nodup_cons] at hn
    have hne : p.1 ≠ q.1 := fun e => hn.1 (by rw [← e]; exact List.mem_map.2 ⟨p, List.mem_of_getElem? h, rfl⟩)
    have : (p.1 == q.1) = false := by simpa using hne
    simp only [List.lookup, this]
    exact lookup_at hn.2 h
theorem lookup_none : ∀ {l : List (κ × ν)} {k : κ}, (∀ p ∈ l, p.1 ≠ k) → l.lookup k = none
  | [], _, _ => rfl
  | q :: l, k, h => by
    have : (k == q.1) = false := by simpa using fun e => h q List.mem_cons_self e.symm
    simp only [List.lookup, this]
    exact lookup_none fun p hp => h p (List.mem_cons_of_mem _ hp)
/-- What is found. -/
theorem MapFit.find {P : Program} {kt : TypeId} [K : KeyE P kt ek] {es : Array MapEntry} {clock : Nat} (hf : MapFit ek ev es clock l) (k : κ) (w : World) :
    ((Instr.findKey kt (ek k) es.toList).run P w = .ok none w ∧ l.lookup k = none ∧ ∀ p ∈ l, p.1 ≠ k) ∨
    ∃ i e b, (Instr.findKey kt (ek k) es.toList).run P w = .ok (some (i, ev b)) w ∧ es[i]? = some e ∧ e.key = ek k ∧ l[i]? = some (k, b) ∧ l.lookup k = some b := by
  rcases K.find k es.toList w hf.keyed with ⟨h1, h2⟩ | ⟨i, e, h1, h3, h4⟩
  · have h3 : ∀ p ∈ l, p.1 ≠ k := fun p hp e => by
      obtain ⟨i, hi⟩ := List.getElem?_of_mem hp
      have := hf.at_ i
      rw [hi] at this
      cases he : es.toList[i]? with
      | none => rw [he] at this; simp at this
      | some x =>
        rw [he] at this
        simp only [Option.map_some, Option.some.injEq, Prod.mk.injEq] at this
        exact h2 x (List.mem_of_getElem? he) (by rw [this.1, e])
    exact .inl ⟨h1, lookup_none h3, h3⟩
  · have := hf.at_ i
    rw [h3] at this
    cases hl : l[i]? with
    | none => rw [hl] at this; simp at this
    | some p =>
      rw [hl] at this
      simp only [Option.map_some, Option.some.injEq, Prod.mk.injEq] at this
      have hk : p.1 = k := K.inj _ _ (by rw [← this.1, h4])
      subst hk
      exact .inr ⟨i, e, p.2, by rw [← this.2]; exact h1, by simpa using h3, h4, hl, lookup_at hf.keys hl⟩

class TMap (P : Program) (t : TypeId) (kt : outParam TypeId) (et : outParam TypeId) : Prop where h : P.underlying t = some (.map kt et)
class TZeroV (P : Program) (t : TypeId) (z : outParam Value) : Prop where h : (P.info? t).map (·.zero) = some (some z)
theorem run_zeroV {P : Program} {t : TypeId} {z : Value} [h : TZeroV P t z] (w : World) : (zeroValue t).run P w = .ok z w := by
  obtain ⟨j, hj, hz⟩ := map_info h.h
  simp [zeroValue, typeInfo, hj, hz, go_sem]

theorem OpVal_lookup {x y : Operand} {t kt et : TypeId} {z : Value} {k : κ} (c : Bool) (ho : o.op = .lookup t x y c) (hx : Go.Proofs.YtianbkbehjppoaaGreatDoor.ev σ x = some (.map (some m))) (hy : Go.Proofs.YtianbkbehjppoaaGreatDoor.ev σ y = some (ek k)) [T : TMap X.P t kt et] [Z : TZeroV X.P et z] [A : AtM H m (MapC ek ev m l) F] [K : KeyE X.P kt ek] :
    OpVal X σ H o (match l.lookup k with
      | some b => if c then .tuple #[ev b, .bool true] else ev b
      | none => if c then .tuple #[z, .bool false] else z) := by
  intro a w ha hs
  obtain ⟨es, clock, hf, hb, _⟩ := MapC.open (A.eq ▸ hs)
  simp only [execOp, ho, ha.eval hx, ha.eval hy]
  unfold Instr.lookup
  rcases hf.find (P := X.P) (kt := kt) k w with ⟨h1, h2, _⟩ | ⟨i, e, b, h1, _, _, _, h2⟩
  · simp only [Sem.run_bind, run_underlying T.h, Result.andThen_ok, MapKept.run_getObj_map hb, Sem.run_pure, K.check, h1, run_zeroV, h2]
  · simp only [Sem.run_bind, run_underlying T.h, Result.andThen_ok, MapKept.run_getObj_map hb, Sem.run_pure, K.check, h1, h2]
theorem OpVal_found {x y : Operand} {t kt et : TypeId} {z : Value} {k : κ} {b : ν} (h : l.lookup k = some b) (ho : o.op = .lookup t x y false) (hx : Go.Proofs.YtianbkbehjppoaaGreatDoor.ev σ x = some (.map (some m))) (hy : Go.Proofs.YtianbkbehjppoaaGreatDoor.ev σ y = some (ek k)) [T : TMap X.P t kt et] [Z : TZeroV X.P et z] [A : AtM H m (MapC ek ev m l) F] [K : KeyE X.P kt ek] : OpVal X σ H o (ev b) := by
  have := OpVal_lookup (X := X) (σ := σ) (o := o) (t := t) (ev := ev) (m := m) (l := l) (F := F) false ho hx hy (H := H)
  rwa [h] at this
theorem OpVal_foundOk {x y : Operand} {t kt et : TypeId} {z : Value} {k : κ} {b : ν} (h : l.lookup k = some b) (ho : o.op = .lookup t x y true) (hx : Go.Proofs.YtianbkbehjppoaaGreatDoor.ev σ x = some (.map (some m))) (hy : Go.Proofs.YtianbkbehjppoaaGreatDoor.ev σ y = some (ek k)) [T : TMap X.P t kt et] [Z : TZeroV X.P et z] [A : AtM H m (MapC ek ev m l) F] [K : KeyE X.P kt ek] : OpVal X σ H o (.tuple #[ev b, .bool true]) := by
  have := OpVal_lookup (X := X) (σ := σ) (o := o) (t := t) (ev := ev) (m := m) (l := l) (F := F) true ho hx hy (H := H)
  rwa [h] at this
theorem OpVal_missOk {x y : Operand} {t kt et : TypeId} {z : Value} {k : κ} (h : l.lookup k = none) (ho : o.op = .lookup t x y true) (hx : Go.Proofs.YtianbkbehjppoaaGreatDoor.ev σ x = some (.map (some m))) (hy : Go.Proofs.YtianbkbehjppoaaGreatDoor.ev σ y = some (ek k)) [T : TMap X.P t kt et] [Z : TZeroV X.P et z] [A : AtM H m (MapC ek ev m l) F] [K : KeyE X.P kt ek] : OpVal X σ H o (.tuple #[z, .bool false]) := by
  have := OpVal_lookup (X := X) (σ := σ) (o := o) (t := t) (ev := ev) (m := m) (l := l) (F := F) true ho hx hy (H := H)
  rwa [h] at this
/-- An entry is put: in its place, or behind all. -/
def putL : List (κ × ν) → κ → ν → List (κ × ν)
  | [], k, v => [(k, v)]
  | p :: l, k, v => if p.1 = k then (k, v) :: l else p :: putL l k v
theorem putL_keys : ∀ (l : List (κ × ν)) (k : κ) (v : ν) (x : κ), x ∈ (putL l k v).map (·.1) ↔ x = k ∨ x ∈ l.map (·.1)
  | [], k, v, x => by simp [putL]
  | p :: l, k, v, x => by
    unfold putL
    split
    · rename_i h
      subst h
      simp
    · simp only [List.map_cons, List.mem_cons, putL_keys l k v x]
      constructor
      · rintro (h | h | h)
        · exact .inr (.inl h)
        · exact .inl h
        · exact .inr (.inr h)
      · rintro (h | h | h)
        · exact .inr (.inl h)
        · exact .inl h
        · exact .inr (.inr h)
theorem putL_nodup : ∀ (l : List (κ × ν)) (k : κ) (v : ν), (l.map (·.1)).Nodup → ((putL l k v).map (·.1)).Nodup
  | [], k, v, _ => by simp [putL]
  | p :: l, k, v, h => by
    simp only [List.map_cons, List.nodup_cons] at h
    unfold putL
    split
    · rename_i e
      subst e
      simp only [List.map_cons, List.nodup_cons]
      exact h
    · rename_i e
      simp only [List.map_cons, List.nodup_cons]
      refine ⟨fun g => ?_, putL_nodup l k v h.2⟩
      rcases (putL_keys l k v _).1 g with g | g
      · exact e g
      · exact h.1 g
theorem putL_new : ∀ {l : List (κ × ν)} {k : κ} (v : ν), (∀ p ∈ l, p.1 ≠ k) → putL l k v = l ++ [(k, v)]
  | [], k, v, _ => rfl
  | p :: l, k, v, h => by
    unfold putL
    rw [if_neg (h p List.mem_cons_self), putL_new v fun q hq => h q (List.mem_cons_of_mem _ hq)]
    rfl
theorem putL_old : ∀ {l : List (κ × ν)} {k : κ} {b : ν} {i : Nat} (v : ν), (l.map (·.1)).Nodup → l[i]? = some (k, b) → putL l k v = l.set i (k, v)
  | [], k, b, i, v, _, h => by simp at h
  | p :: l, k, b, 0, v, _, h => by
    simp only [List.getElem?_cons_zero, Option.some.injEq] at h
    subst h
    simp [putL]
  | p :: l, k, b, i + 1, v, hn, h => by
    simp only [List.getElem?_cons_succ] at h
    simp only [List.map_cons, List.nodup_cons] at hn
    have hne : p.1 ≠ k := fun e => hn.1 (by rw [e]; exact List.mem_map.2 ⟨(k, b), List.mem_of_getElem? h, rfl⟩)
    simp only [putL, if_neg hne, List.set_cons_succ, putL_old v hn.2 h]
def delL (l : List (κ × ν)) (k : κ) : List (κ × ν) := l.filter fun p => p.1 ≠ k
theorem delL_new {l : List (κ × ν)} {k : κ} (h : ∀ p ∈ l, p.1 ≠ k) : delL l k = l := List.filter_eq_self.2 fun p hp => by simpa using h p hp
theorem delL_old : ∀ {l : List (κ × ν)} {k : κ} {b : ν} {i : Nat}, (l.map (·.1)).Nodup → l[i]? = some (k, b) → delL l k = l.eraseIdx i
  | [], k, b, i, _, h => by simp at h
  | p :: l, k, b, 0, hn, h => by
    simp only [List.getElem?_cons_zero, Option.some.injEq] at h
    subst h
    simp only [List.map_cons, List.nodup_cons] at hn
    simp only [delL, List.eraseIdx_cons_zero]
    rw [List.filter_cons_of_neg (by simp)]
    exact delL_new fun q hq e => hn.1 (List.mem_map.2 ⟨q, hq, e⟩)
  | p :: l, k, b, i + 1, hn, h => by
    simp only [List.getElem?_cons_succ] at h
    simp only [List.map_cons, List.nodup_cons] at hn
    have hne : p.1 ≠ k := fun e => hn.1 (by rw [e]; exact List.mem_map.2 ⟨(k, b), List.mem_of_getElem? h, rfl⟩)
    simp only [delL, List.eraseIdx_cons_succ]
    rw [List.filter_cons_of_pos (by simpa using hne)]
    exact congrArg _ (delL_old hn.2 h)

theorem MapFit.set {es : Array MapEntry} {clock : Nat} (hf : MapFit ek ev es clock l) {i : Nat} {k : κ} {b : ν} (h : l[i]? = some (k, b)) (v : ν) : MapFit ek ev (es.modify i fun e => { e with key := ek k, val := ev v }) clock (putL l k v) := by
  rw [putL_old v hf.keys h]
  refine ⟨?_, ?_, ?_, ?_⟩
  · rw [List.map_set, ← hf.eq]
    apply List.ext_getElem?
    intro j
    simp only [Array.toList_modify, List.getElem?_map, List.getElem?_modify, List.getElem?_set, List.length_map, Array.length_toList]
    by_cases hj : i = j
    · subst hj
      have hl : i < es.size := by
        have := hf.at_ i
        rw [h] at this
        cases he : es.toList[i]? with
        | none => rw [he] at this; simp at this
        | some x => simpa using (List.getElem?_eq_some_iff.1 he).1
      simp [hl]
    · simp [hj]
  · have := hf.keys
    rw [List.map_set]
    rwa [show (l.map (·.1)).set i k = l.map (·.1) from List.ext_getElem? fun j => by
      rw [List.getElem?_set]
      split
      · rename_i e
        subst e
        have hl := (List.getElem?_eq_some_iff.1 h).1
        simp only [List.length_map, if_pos hl, List.getElem?_map, h, Option.map_some]
      · rfl]
  · have := hf.born
    rwa [show (es.modify i fun e => { e with key := ek k, val := ev v }).toList.map (·.born) = es.toList.map (·.born) from List.ext_getElem? fun j => by
      simp only [Array.toList_modify, List.getElem?_map, List.getElem?_modify]
      split
      · cases es.toList[j]? <;> simp
      · simp]
  · intro e he
    obtain ⟨j, hj⟩ := List.getElem?_of_mem he
    simp only [Array.toList_modify, List.getElem?_modify] at hj
    cases hx : es.toList[j]? with
    | none => rw [hx] at hj; simp at hj
    | some x =>
      rw [hx] at hj
      have hc := hf.clock x (List.mem_of_getElem? hx)
      split at hj <;> simp only [Option.map_eq_map, Option.map_some, Option.some.injEq] at hj <;> subst hj <;> exact hc
theorem MapFit.push {es : Array MapEntry} {clock : Nat} (hf : MapFit ek ev es clock l) {k : κ} (h : ∀ p ∈ l, p.1 ≠ k) (v : ν) : MapFit ek ev (es.push ⟨ek k, ev v, clock⟩) (clock + 1) (putL l k v) := by
  refine ⟨?_, putL_nodup l k v hf.keys, ?_, ?_⟩
  · rw [putL_new v h]
    simp [hf.eq]
  · simp only [Array.toList_push, List.map_append, List.map_cons, List.map_nil]
    refine List.nodup_append.2 ⟨hf.born, by simp, ?_⟩
    intro a ha b hb e
    obtain ⟨x, hx, rfl⟩ := List.mem_map.1 ha
    have := hf.clock x hx
    simp only [List.mem_singleton] at hb
    omega
  · intro e he
    simp only [Array.toList_push, List.mem_append, List.mem_singleton] at he
    rcases he with he | rfl
    · have := hf.clock e he
      omega
    · exact Nat.lt_succ_self _
theorem map_erase {α β : Type} (f : α → β) : ∀ (l : List α) (i : Nat), (l.eraseIdx i).map f = (l.map f).eraseIdx i
  | [], _ => rfl
  | _ :: _, 0 => rfl
  | a :: l, i + 1 => by simp only [List.eraseIdx_cons_succ, List.map_cons, map_erase f l i]
theorem MapFit.erase {es : Array MapEntry} {clock : Nat} (hf : MapFit ek ev es clock l) {i : Nat} {k : κ} {b : ν} (h : l[i]? = some (k, b)) : MapFit ek ev (es.eraseIdxIfInBounds i) clock (delL l k) := by
  rw [delL_old hf.keys h]
  have he : (es.eraseIdxIfInBounds i).toList = es.toList.eraseIdx i := by
    rw [Array.toList_eraseIdxIfInBounds]
  refine ⟨?_, ?_, ?_, ?_⟩
  · rw [he, map_erase, map_erase, hf.eq]
  · rw [map_erase]; exact hf.keys.sublist (List.eraseIdx_sublist _ _)
  · rw [he, map_erase]; exact hf.born.sublist (List.eraseIdx_sublist _ _)
  · intro e hx
    rw [he] at hx
    exact hf.clock e (List.mem_of_mem_eraseIdx hx)

omit [DecidableEq κ] in
theorem map_sets {P : Program} {es es' : Array MapEntry} {clock clock' : Nat} {l' : List (κ × ν)} (hs : Sat W w (SL.blk m (.map es clock) * F)) (hf : MapFit ek ev es' clock' l') : ∃ w', (setObj m (.map es' clock')).run P w = .ok () w' ∧ Sat W w' (MapC ek ev m l' * F) := by
  have hb := hs.get
  refine ⟨_, MapKept.run_setObj_map _ hb, MapC.shut hf (hs.write (by simp) rfl rfl rfl (fun k _ hk => by simp [Array.getElem?_setIfInBounds, hk.symm]) ?_)⟩
  have := lt_of_block hb
  simp [this]
theorem OpSkip_mapUpdate {x y z : Operand} {t kt et : TypeId} {k : κ} {v : ν} (ho : o.op = .mapUpdate t x y z) (hx : Go.Proofs.YtianbkbehjppoaaGreatDoor.ev σ x = some (.map (some m))) (hy : Go.Proofs.YtianbkbehjppoaaGreatDoor.ev σ y = some (ek k)) (hz : Go.Proofs.YtianbkbehjppoaaGreatDoor.ev σ z = some (ev v)) [T : TMap X.P t kt et] [A : AtM H m (MapC ek ev m l) F] [K : KeyE X.P kt ek] :
    OpSkip X σ H o (MapC ek ev m (putL l k v) * F) := by
  intro a w ha hs
  obtain ⟨es, clock, hf, hb, hs'⟩ := MapC.open (A.eq ▸ hs)
  simp only [execOp, ho, ha.eval hx, ha.eval hy, ha.eval hz]
  unfold Instr.mapUpdate
  rcases hf.find (P := X.P) (kt := kt) k w with ⟨h1, _, h2⟩ | ⟨i, e, b, h1, c1, c2, c4, _⟩
  · obtain ⟨w', g1, g2⟩ := map_sets (P := X.P) hs' (hf.push h2 v)
    refine ⟨w', ?_, g2⟩
    simp only [Sem.run_bind, run_underlying T.h, Result.andThen_ok, MapKept.run_getObj_map hb, K.check, h1, g1, Sem.run_pure]
  · obtain ⟨w', g1, g2⟩ := map_sets (P := X.P) hs' (hf.set c4 v)
    refine ⟨w', ?_, g2⟩
    simp only [Sem.run_bind, run_underlying T.h, Result.andThen_ok, MapKept.run_getObj_map hb, K.check, h1, c1, Option.map_some, Option.getD_some, c2, Instr.keyThatStays, K.stays, if_true, g1, Sem.run_pure]
theorem OpDoes_mapDelete {x y : Operand} {t u kt et : TypeId} {k : κ} (ho : o.op = .call { callee := .builtin .delete, args := #[x, y], argTypes := #[t, u] }) (hx : Go.Proofs.YtianbkbehjppoaaGreatDoor.ev σ x = some (.map (some m))) (hy : Go.Proofs.YtianbkbehjppoaaGreatDoor.ev σ y = some (ek k)) [T : TMap X.P t kt et] [A : AtM H m (MapC ek ev m l) F] [K : KeyE X.P kt ek] :
    OpDoes X σ H o (fun _ : Unit => .tuple #[]) (fun _ => MapC ek ev m (delL l k) * F) := by
  intro a w ha hs
  obtain ⟨es, clock, hf, hb, hs'⟩ := MapC.open (A.eq ▸ hs)
  simp only [execOp, ho, resolve, invoke, builtin, Sem.run_bind, Sem.run_pure, Result.andThen_ok, List.map_toArray, List.map_cons, List.map_nil, ha.eval hx, ha.eval hy]
  unfold Builtin.delete_
  rcases hf.find (P := X.P) (kt := kt) k w with ⟨h1, _, h2⟩ | ⟨i, e, b, h1, c1, c2, c4, _⟩
  · obtain ⟨w', g1, g2⟩ := map_sets (P := X.P) hs' (es' := es) (clock' := clock) (l' := delL l k) (by rw [delL_new h2]; exact hf)
    refine ⟨(), w', ?_, g2⟩
    simp [Sem.run_bind, run_underlying T.h, Result.andThen_ok, MapKept.run_getObj_map hb, K.check, h1, g1, Sem.run_pure]
  · obtain ⟨w', g1, g2⟩ := map_sets (P := X.P) hs' (hf.erase c4)
    refine ⟨(), w', ?_, g2⟩
    simp [Sem.run_bind, run_underlying T.h, Result.andThen_ok, MapKept.run_getObj_map hb, K.check, h1, g1, Sem.run_pure]
omit [DecidableEq κ] in
theorem OpDoes_mapN {t : TypeId} (ho : o.op = .makeMap t none) : OpDoes X σ H o (fun m : Nat => .map (some m)) (fun m => MapC ek ev m ([] : List (κ × ν)) * H) := by
  intro a w ha hs
  refine ⟨w.heap.size, w.alloc (.map #[] 0), ?_, MapC.new hs⟩
  simp only [execOp, ho]
  simp [Instr.makeMap, go_sem]
end maps
/-! ### What is done for its own sake -/
section
variable {H : SL} {X : Cx} {σ : Env} {k : List KI} {ops l : List Oper} {S : SL} {L fuel : Nat} {listed : Array Bool}
theorem EL_does0 {α : Type} {r : α → Value} {H' : α → SL} {op : Op} {ty : TypeId} {pos : String} {aft : Array Edge} (hv : OpDoes X σ H ⟨none, op, ty, pos, aft, none⟩ r H') (h : ∀ x, EL X k ops l σ (H' x)) :
    EL X k ops (⟨none, op, ty, pos, aft, none⟩ :: l) σ H := by
  intro a w ha hs
  refine wpList_plain rfl fun K hK => ?_
  unfold Oper.wp
  obtain ⟨x, w', hr, hs'⟩ := hv a w ha hs
  rw [hr]
  exact hK _ _ (h x _ _ ha hs')
theorem EG_does0 {α : Type} {r : α → Value} {H' : α → SL} {op : Op} {ty : TypeId} {pos : String} {aft : Array Edge} (hi : ops.toArray[L]? = some ⟨none, op, ty, pos, aft, none⟩)
    (hv : OpDoes X σ H ⟨none, op, ty, pos, aft, none⟩ r H') (hr : Region.ready .any ops.toArray listed = [L]) (hr2 : Region.ready .any ops.toArray (listed.setIfInBounds L true) = []) (h : ∀ x, EK X k σ (H' x)) : EG X k ops S L (fuel + 1) listed σ H := by
  intro a w ha hw
  refine EG_all hr ?_
  obtain ⟨x, w', h1, h2⟩ := hv a w ha hw
  unfold wpOp
  rw [hi]
  simp only [Region.wanted, Oper.wp, h1, Oper.upon, if_true]
  refine .inl ⟨fun e => absurd rfl e.1, ?_⟩
  have h3 : onlyQ (run X.P X.R k .normal) .normal (a.put none (r x)) w' := h x _ _ ha h2
  cases fuel with
  | zero => exact ⟨hr2, h3⟩
  | succ f => exact ⟨fun _ => h3, by rw [hr2]; simp⟩
end
end Go.Proofs.YtianbkbehjppoaaGreatDoor

namespace Go.Proofs.YtianbkbehjppoaaGreatDoor
open Go.RowKit
set_option maxRecDepth 10000
attribute [local irreducible] EK EX ER EN EL ES EG OpVal OpDoes OpSkip
variable {W : World} {F : SL} {X : Cx} {k : List KI} {σ : Env}

abbrev Cfg.val (c : Cfg) : Value := .agg #[.int .i64 c.w, .int .u32 c.o, .int .i64 c.lo, .int .i64 c.hi, .int .i64 c.b, .int .i64 c.r]


theorem between_spec (n a b : Int) :
    Spec Tryz.prog 51 [.int .i64 n, .int .i64 a, .int .i64 b] W F (fun _ : Unit => .bool (decide (a ≤ n ∧ n ≤ b))) (fun _ => F) := by
  refine Spec.of Tryz.func51 rfl Tryz.ntmps51 rfl ?_
  repeat (first | refine go ?_ | (refine goX ?_; intro))
  refine EL_guard_split rfl rfl (fun h => ?_) (fun h => ?_)
  · repeat (first | refine go ?_ | (refine goX ?_; intro))
    exact EK_ret (ER_1 rfl rfl () (by simp_all) fun _ h => h)
  · repeat (first | refine go ?_ | (refine goX ?_; intro))
    exact EK_ret (ER_1 rfl rfl () (by simp_all; omega) fun _ h => h)

theorem wr {c : Cfg} {l : List UInt8} (h : wrongT c = l) : Value.string ⟨l.toArray⟩ = str (wrongT c) := by rw [h]; rfl
theorem nn_pow2 {b : Int} (h : pow2 b) : ¬ ¬ pow2 b := fun g => g h
theorem bits_pow2 {b : Int} (h : 2 ≤ b ∧ b ≤ 1024) : bits BinOp.and IntKind.i64 b (b - 1) = 0 ↔ pow2 b := by
  have : ∀ m : Fin 1025, (bits BinOp.and IntKind.i64 (m.val : Int) ((m.val : Int) - 1) = 0) ↔ (pow2 (m.val : Int) ∨ m.val < 2) := by decide +kernel
  obtain ⟨n, rfl⟩ : ∃ n : Nat, b = n := ⟨b.toNat, by omega⟩
  have := this ⟨n, by omega⟩
  simp only [show ¬ n < 2 by omega, or_false] at this
  exact this
def pp (i : Nat) : Int := 2 ^ (i + 1)
theorem pp_succ (i : Nat) : 2 * pp i = pp (i + 1) := by unfold pp; rw [Int.pow_succ 2 (i + 1), Int.mul_comm]
theorem pp_pos (i : Nat) : 1 ≤ pp i := by
  have : (0 : Int) < 2 ^ (i + 1) := Int.pow_pos (by decide)
  unfold pp; omega
def pw (b : Int) (i : Nat) : Bool := (List.range i).any fun j => decide (pp j = b)
theorem pw_succ (b : Int) (i : Nat) : pw b (i + 1) = (pw b i || decide (pp i = b)) := by unfold pw; rw [List.range_succ]; simp
theorem pw_ten (b : Int) : pw b 10 = decide (pow2 b) := by
  rw [Bool.eq_iff_iff]
  constructor
  · intro h
    obtain ⟨j, hj, hd⟩ := List.any_eq_true.1 h
    have e := of_decide_eq_true hd
    have hj := List.mem_range.1 hj
    refine decide_eq_true ?_
    have : j = 0 ∨ j = 1 ∨ j = 2 ∨ j = 3 ∨ j = 4 ∨ j = 5 ∨ j = 6 ∨ j = 7 ∨ j = 8 ∨ j = 9 := by omega
    rcases this with rfl | rfl | rfl | rfl | rfl | rfl | rfl | rfl | rfl | rfl <;> subst e <;> decide
  · intro h
    have h := of_decide_eq_true h
    rcases h with rfl | rfl | rfl | rfl | rfl | rfl | rfl | rfl | rfl | rfl <;> decide

theorem Wrong_spec (c : Cfg) (hc : c.Fit) :
    Spec Tryz.prog 28 [c.val] W F (fun _ : Unit => str (wrongT c)) (fun _ => F) := by
  obtain ⟨⟨w1, w2⟩, ⟨o1, o2⟩, ⟨l1, l2⟩, ⟨h1, h2⟩, ⟨b1, b2⟩, ⟨r1, r2⟩⟩ := hc
  refine Spec.of Tryz.func28 rfl Tryz.ntmps28 rfl ?_
  repeat (first | refine go ?_ | (refine goX ?_; intro))
  refine EL_call rfl (between_spec _ _ _) ?_
  intro
  repeat (first | refine go ?_ | (refine goX ?_; intro))
  refine EK_cond_ndec rfl (fun hw => ?_) (fun hw => ?_)
  · repeat (first | refine go ?_ | (refine goX ?_; intro))
    exact EK_ret (ER_1 rfl rfl () (wr (by unfold wrongT; repeat (first | rfl | rw [if_pos (by first | omega | assumption)] | rw [if_neg (by first | omega | exact nn_pow2 (by assumption))]))) (Ent.sat Ent.last))
  repeat (first | refine go ?_ | (refine goX ?_; intro))
  refine EL_guard_dec rfl rfl (fun ho => ?_) (fun ho => ?_)
  · repeat (first | refine go ?_ | (refine goX ?_; intro))
    exact EK_ret (ER_1 rfl rfl () (wr (by unfold wrongT; repeat (first | rfl | rw [if_pos (by first | omega | assumption)] | rw [if_neg (by first | omega | exact nn_pow2 (by assumption))]))) (Ent.sat Ent.last))
  repeat (first | refine go ?_ | (refine goX ?_; intro))
  refine EK_cond_dec rfl (fun ho' => ?_) (fun ho' => ?_)
  · repeat (first | refine go ?_ | (refine goX ?_; intro))
    exact EK_ret (ER_1 rfl rfl () (wr (by unfold wrongT; repeat (first | rfl | rw [if_pos (by first | omega | assumption)] | rw [if_neg (by first | omega | exact nn_pow2 (by assumption))]))) (Ent.sat Ent.last))
  repeat (first | refine go ?_ | (refine goX ?_; intro))
  refine EL_guard_dec rfl rfl (fun hp => ?_) (fun hp => ?_)
  · repeat (first | refine go ?_ | (refine goX ?_; intro))
    exact EK_ret (ER_1 rfl rfl () (wr (by unfold wrongT; repeat (first | rfl | rw [if_pos (by first | omega | assumption)] | rw [if_neg (by first | omega | exact nn_pow2 (by assumption))]))) (Ent.sat Ent.last))
  repeat (first | refine go ?_ | (refine goX ?_; intro))
  refine EL_guard_dec rfl rfl (fun hp2 => ?_) (fun hp2 => ?_)
  · repeat (first | refine go ?_ | (refine goX ?_; intro))
    exact EK_ret (ER_1 rfl rfl () (wr (by unfold wrongT; repeat (first | rfl | rw [if_pos (by first | omega | assumption)] | rw [if_neg (by first | omega | exact nn_pow2 (by assumption))]))) (Ent.sat Ent.last))
  repeat (first | refine go ?_ | (refine goX ?_; intro))
  refine EL_guard_dec rfl rfl (fun hp3 => ?_) (fun hp3 => ?_)
  · repeat (first | refine go ?_ | (refine goX ?_; intro))
    exact EK_ret (ER_1 rfl rfl () (wr (by unfold wrongT; repeat (first | rfl | rw [if_pos (by first | omega | assumption)] | rw [if_neg (by first | omega | exact nn_pow2 (by assumption))]))) (Ent.sat Ent.last))
  repeat (first | refine go ?_ | (refine goX ?_; intro))
  refine EK_cond_dec rfl (fun hp4 => ?_) (fun hp4 => ?_)
  · repeat (first | refine go ?_ | (refine goX ?_; intro))
    exact EK_ret (ER_1 rfl rfl () (wr (by unfold wrongT; repeat (first | rfl | rw [if_pos (by first | omega | assumption)] | rw [if_neg (by first | omega | exact nn_pow2 (by assumption))]))) (Ent.sat Ent.last))
  repeat (first | refine go ?_ | (refine goX ?_; intro))
  refine EL_call rfl (between_spec _ _ _) ?_
  intro
  repeat (first | refine go ?_ | (refine goX ?_; intro))
  refine EL_guard_ndec rfl rfl (fun hb => ?_) (fun hb => ?_)
  · have hb' : ¬ pow2 c.b := by unfold pow2; omega
    repeat (first | refine go ?_ | (refine goX ?_; intro))
    exact EK_ret (ER_1 rfl rfl () (wr (by unfold wrongT; repeat (first | rfl | rw [if_pos (by first | omega | assumption)] | rw [if_neg (by first | omega | exact nn_pow2 (by assumption))]))) (Ent.sat Ent.last))
  repeat (first | refine go ?_ | (refine goX ?_; intro))
  refine EK_cond_ndec rfl (fun hq => ?_) (fun hq => ?_)
  · have hb' : ¬ pow2 c.b := fun h => hq ((bits_pow2 hb).2 h)
    repeat (first | refine go ?_ | (refine goX ?_; intro))
    exact EK_ret (ER_1 rfl rfl () (wr (by unfold wrongT; repeat (first | rfl | rw [if_pos (by first | omega | assumption)] | rw [if_neg (by first | omega | exact nn_pow2 (by assumption))]))) (Ent.sat Ent.last))
  have hb' : pow2 c.b := (bits_pow2 hb).1 hq
  repeat (first | refine go ?_ | (refine goX ?_; intro))
  refine EL_call rfl (between_spec _ _ _) ?_
  intro
  repeat (first | refine go ?_ | (refine goX ?_; intro))
  refine EK_cond_ndec rfl (fun hr => ?_) (fun hr => ?_)
  · repeat (first | refine go ?_ | (refine goX ?_; intro))
    exact EK_ret (ER_1 rfl rfl () (wr (by unfold wrongT; repeat (first | rfl | rw [if_pos (by first | omega | assumption)] | rw [if_neg (by first | omega | exact nn_pow2 (by assumption))]))) (Ent.sat Ent.last))
  repeat (first | refine go ?_ | (refine goX ?_; intro))
  exact EK_ret (ER_1 rfl rfl () (wr (by unfold wrongT; repeat (first | rfl | rw [if_pos (by first | omega | assumption)] | rw [if_neg (by first | omega | exact nn_pow2 (by assumption))]))) (Ent.sat Ent.last))

end Go.Proofs.YtianbkbehjppoaaGreatDoor

namespace Go.Proofs.YtianbkbehjppoaaGreatDoor
open Go.RowKit
set_option maxRecDepth 10000
attribute [local irreducible] EK EX ER EN EL ES EG OpVal OpDoes OpSkip
variable {W : World} {F : SL} {X : Cx} {k : List KI} {σ : Env}

theorem rWrong_spec (c : Cfg) (hc : c.Fit) :
    Spec Tryz.prog 21 [c.val] W F (fun _ : Unit => str (wrongT c)) (fun _ => F) := by
  obtain ⟨⟨w1, w2⟩, ⟨o1, o2⟩, ⟨l1, l2⟩, ⟨h1, h2⟩, ⟨b1, b2⟩, ⟨r1, r2⟩⟩ := hc
  refine Spec.of Tryz.func21 rfl Tryz.ntmps21 rfl ?_
  repeat (first | refine go ?_ | (refine goX ?_; intro))
  refine EL_guard_dec rfl rfl (fun hw => ?_) (fun hw => ?_)
  · repeat (first | refine go ?_ | (refine goX ?_; intro))
    exact EK_ret (ER_1 rfl rfl () (wr (by unfold wrongT; repeat (first | rfl | rw [if_pos (by first | omega | assumption)] | rw [if_neg (by first | omega | exact nn_pow2 (by assumption))]))) (Ent.sat Ent.last))
  repeat (first | refine go ?_ | (refine goX ?_; intro))
  refine EK_cond_dec rfl (fun hw' => ?_) (fun hw' => ?_)
  · repeat (first | refine go ?_ | (refine goX ?_; intro))
    exact EK_ret (ER_1 rfl rfl () (wr (by unfold wrongT; repeat (first | rfl | rw [if_pos (by first | omega | assumption)] | rw [if_neg (by first | omega | exact nn_pow2 (by assumption))]))) (Ent.sat Ent.last))
  repeat (first | refine go ?_ | (refine goX ?_; intro))
  refine EL_guard_dec rfl rfl (fun ho => ?_) (fun ho => ?_)
  · repeat (first | refine go ?_ | (refine goX ?_; intro))
    exact EK_ret (ER_1 rfl rfl () (wr (by unfold wrongT; repeat (first | rfl | rw [if_pos (by first | omega | assumption)] | rw [if_neg (by first | omega | exact nn_pow2 (by assumption))]))) (Ent.sat Ent.last))
  repeat (first | refine go ?_ | (refine goX ?_; intro))
  refine EK_cond_dec rfl (fun ho' => ?_) (fun ho' => ?_)
  · repeat (first | refine go ?_ | (refine goX ?_; intro))
    exact EK_ret (ER_1 rfl rfl () (wr (by unfold wrongT; repeat (first | rfl | rw [if_pos (by first | omega | assumption)] | rw [if_neg (by first | omega | exact nn_pow2 (by assumption))]))) (Ent.sat Ent.last))
  repeat (first | refine go ?_ | (refine goX ?_; intro))
  refine EL_guard_dec rfl rfl (fun hp => ?_) (fun hp => ?_)
  · repeat (first | refine go ?_ | (refine goX ?_; intro))
    exact EK_ret (ER_1 rfl rfl () (wr (by unfold wrongT; repeat (first | rfl | rw [if_pos (by first | omega | assumption)] | rw [if_neg (by first | omega | exact nn_pow2 (by assumption))]))) (Ent.sat Ent.last))
  repeat (first | refine go ?_ | (refine goX ?_; intro))
  refine EL_guard_dec rfl rfl (fun hp2 => ?_) (fun hp2 => ?_)
  · repeat (first | refine go ?_ | (refine goX ?_; intro))
    exact EK_ret (ER_1 rfl rfl () (wr (by unfold wrongT; repeat (first | rfl | rw [if_pos (by first | omega | assumption)] | rw [if_neg (by first | omega | exact nn_pow2 (by assumption))]))) (Ent.sat Ent.last))
  repeat (first | refine go ?_ | (refine goX ?_; intro))
  refine EL_guard_dec rfl rfl (fun hp3 => ?_) (fun hp3 => ?_)
  · repeat (first | refine go ?_ | (refine goX ?_; intro))
    exact EK_ret (ER_1 rfl rfl () (wr (by unfold wrongT; repeat (first | rfl | rw [if_pos (by first | omega | assumption)] | rw [if_neg (by first | omega | exact nn_pow2 (by assumption))]))) (Ent.sat Ent.last))
  repeat (first | refine go ?_ | (refine goX ?_; intro))
  refine EK_cond_dec rfl (fun hp4 => ?_) (fun hp4 => ?_)
  · repeat (first | refine go ?_ | (refine goX ?_; intro))
    exact EK_ret (ER_1 rfl rfl () (wr (by unfold wrongT; repeat (first | rfl | rw [if_pos (by first | omega | assumption)] | rw [if_neg (by first | omega | exact nn_pow2 (by assumption))]))) (Ent.sat Ent.last))
  repeat (first | refine go ?_ | (refine goX ?_; intro))
  rename_i p
  refine EK_loop (γ := Nat) (fun i => i ≤ 10) (fun i => [(1, .pointer p), (4, .int .i64 (pp i)), (3, .bool (pw c.b i))]) (fun _ => Obj p 24 [.int .i64 c.w, .int .u32 c.o, .int .i64 c.lo, .int .i64 c.hi, .int .i64 c.b, .int .i64 c.r] * F)
    (fun i => 10 - i) 0 (Nat.zero_le _) ⟨rfl, rfl, rfl, trivial⟩ (Ent.sat (Ent.refl _)) ?_
  intro i hi; dsimp only at hi ⊢
  have hpp := pp_pos i
  have hs := pp_succ i
  repeat (first | refine go ?_ | (refine goX ?_; intro))
  refine EK_cond_dec rfl (fun hlt => ?_) (fun hge => ?_)
  · have hi' : i < 10 := by
      rcases Nat.lt_or_ge i 10 with h | h
      · exact h
      · have : i = 10 := by omega
        subst this
        simp [pp] at hlt
    repeat (first | refine go ?_ | (refine goX ?_; intro))
    refine EL_guard_split rfl rfl (fun hg => ?_) (fun hg => ?_)
    all_goals
      repeat (first | refine go ?_ | (refine goX ?_; intro))
      refine EK_round (i + 1) (by omega) (by omega) ⟨rfl, by rw [← hs]; rfl, by rw [pw_succ, hg]; rfl, trivial⟩ (Ent.sat (Ent.refl _))
  · have hi' : i = 10 := by
      have : i = 10 ∨ i = 0 ∨ i = 1 ∨ i = 2 ∨ i = 3 ∨ i = 4 ∨ i = 5 ∨ i = 6 ∨ i = 7 ∨ i = 8 ∨ i = 9 := by omega
      rcases this with rfl | rfl | rfl | rfl | rfl | rfl | rfl | rfl | rfl | rfl | rfl
      · rfl
      all_goals simp [pp] at hge
    subst hi'
    rw [pw_ten]
    repeat (first | refine go ?_ | (refine goX ?_; intro))
    refine EK_cond_ndec rfl (fun hb' => ?_) (fun hb' => ?_)
    · repeat (first | refine go ?_ | (refine goX ?_; intro))
      exact EK_ret (ER_1 rfl rfl () (wr (by unfold wrongT; repeat (first | rfl | rw [if_pos (by first | omega | assumption)] | rw [if_neg (by first | omega | exact nn_pow2 (by assumption))]))) (Ent.sat Ent.last))
    repeat (first | refine go ?_ | (refine goX ?_; intro))
    refine EL_guard_dec rfl rfl (fun hr => ?_) (fun hr => ?_)
    · repeat (first | refine go ?_ | (refine goX ?_; intro))
      exact EK_ret (ER_1 rfl rfl () (wr (by unfold wrongT; repeat (first | rfl | rw [if_pos (by first | omega | assumption)] | rw [if_neg (by first | omega | exact nn_pow2 (by assumption))]))) (Ent.sat Ent.last))
    repeat (first | refine go ?_ | (refine goX ?_; intro))
    refine EK_cond_dec rfl (fun hr' => ?_) (fun hr' => ?_)
    · repeat (first | refine go ?_ | (refine goX ?_; intro))
      exact EK_ret (ER_1 rfl rfl () (wr (by unfold wrongT; repeat (first | rfl | rw [if_pos (by first | omega | assumption)] | rw [if_neg (by first | omega | exact nn_pow2 (by assumption))]))) (Ent.sat Ent.last))
    repeat (first | refine go ?_ | (refine goX ?_; intro))
    exact EK_ret (ER_1 rfl rfl () (wr (by unfold wrongT; repeat (first | rfl | rw [if_pos (by first | omega | assumption)] | rw [if_neg (by first | omega | exact nn_pow2 (by assumption))]))) (Ent.sat Ent.last))
end Go.Proofs.YtianbkbehjppoaaGreatDoor

namespace Go.Proofs.YtianbkbehjppoaaGreatDoor
open Go.RowKit
set_option maxRecDepth 10000
attribute [local irreducible] EK EX ER EN EL ES EG OpVal OpDoes OpSkip
variable {W : World} {F : SL} {X : Cx} {k : List KI} {σ : Env}

theorem Ports_spec (c : Cfg) (hc : c.Fit) :
    Spec Tryz.prog 100 [c.val] W F (fun _ : Unit => .int .i64 (portsN c)) (fun _ => F) := by
  have h0 := hc
  obtain ⟨⟨w1, w2⟩, ⟨o1, o2⟩, ⟨l1, l2⟩, ⟨h1, h2⟩, ⟨b1, b2⟩, ⟨r1, r2⟩⟩ := hc
  refine Spec.of Tryz.func100 rfl Tryz.ntmps100 rfl ?_
  repeat (first | refine go ?_ | (refine goX ?_; intro))
  refine EL_call rfl (Wrong_spec c h0) ?_
  intro
  repeat (first | refine go ?_ | (refine goX ?_; intro))
  refine EK_cond_ndec rfl (fun hw => ?_) (fun hw => ?_)
  · repeat (first | refine go ?_ | (refine goX ?_; intro))
    exact EK_ret (ER_1 rfl rfl () (by rw [portsN, if_neg hw]) (Ent.sat Ent.last))
  have hg := (wrongT_nil.1 hw).p
  repeat (first | refine go ?_ | (refine goX ?_; intro))
  exact EK_ret (ER_1 rfl rfl () (by rw [portsN, if_pos hw]) (Ent.sat Ent.last))
theorem rPorts_spec (c : Cfg) (hc : c.Fit) :
    Spec Tryz.prog 69 [c.val] W F (fun _ : Unit => .int .i64 (portsN c)) (fun _ => F) := by
  have h0 := hc
  obtain ⟨⟨w1, w2⟩, ⟨o1, o2⟩, ⟨l1, l2⟩, ⟨h1, h2⟩, ⟨b1, b2⟩, ⟨r1, r2⟩⟩ := hc
  refine Spec.of Tryz.func69 rfl Tryz.ntmps69 rfl ?_
  repeat (first | refine go ?_ | (refine goX ?_; intro))
  refine EL_call rfl (rWrong_spec c h0) ?_
  intro
  repeat (first | refine go ?_ | (refine goX ?_; intro))
  refine EK_cond_ndec rfl (fun hw => ?_) (fun hw => ?_)
  · repeat (first | refine go ?_ | (refine goX ?_; intro))
    exact EK_ret (ER_1 rfl rfl () (by rw [portsN, if_neg hw]) (Ent.sat Ent.last))
  have hg := (wrongT_nil.1 hw).p
  repeat (first | refine go ?_ | (refine goX ?_; intro))
  exact EK_ret (ER_1 rfl rfl () (by rw [portsN, if_pos hw]) (Ent.sat Ent.last))
theorem Kind_spec (p : Int) :
    Spec Tryz.prog 101 [.int .i64 p] W F (fun _ : Unit => .int .i64 (kindN p)) (fun _ => F) := by
  refine Spec.of Tryz.func101 rfl Tryz.ntmps101 rfl ?_
  repeat (first | refine go ?_ | (refine goX ?_; intro))
  refine EK_cond_dec rfl (fun h1 => ?_) (fun h1 => ?_)
  · repeat (first | refine go ?_ | (refine goX ?_; intro))
    exact EK_ret (ER_1 rfl rfl () (by rw [kindN, if_pos h1]) (Ent.sat Ent.last))
  repeat (first | refine go ?_ | (refine goX ?_; intro))
  refine EK_cond_dec rfl (fun h2 => ?_) (fun h2 => ?_)
  · repeat (first | refine go ?_ | (refine goX ?_; intro))
    exact EK_ret (ER_1 rfl rfl () (by rw [kindN, if_neg h1, if_pos h2]) (Ent.sat Ent.last))
  repeat (first | refine go ?_ | (refine goX ?_; intro))
  refine EK_cond_dec rfl (fun h3 => ?_) (fun h3 => ?_)
  · repeat (first | refine go ?_ | (refine goX ?_; intro))
    exact EK_ret (ER_1 rfl rfl () (by rw [kindN, if_neg h1, if_neg h2, if_pos h3]) (Ent.sat Ent.last))
  repeat (first | refine go ?_ | (refine goX ?_; intro))
  exact EK_ret (ER_1 rfl rfl () (by rw [kindN, if_neg h1, if_neg h2, if_neg h3]) (Ent.sat Ent.last))
theorem rKind_spec (p : Int) :
    Spec Tryz.prog 70 [.int .i64 p] W F (fun _ : Unit => .int .i64 (kindN p)) (fun _ => F) := by
  refine Spec.of Tryz.func70 rfl Tryz.ntmps70 rfl ?_
  repeat (first | refine go ?_ | (refine goX ?_; intro))
  refine EK_cond_dec rfl (fun h1 => ?_) (fun h1 => ?_)
  · repeat (first | refine go ?_ | (refine goX ?_; intro))
    exact EK_ret (ER_1 rfl rfl () (by rw [kindN, if_pos h1]) (Ent.sat Ent.last))
  repeat (first | refine go ?_ | (refine goX ?_; intro))
  refine EK_cond_dec rfl (fun h2 => ?_) (fun h2 => ?_)
  · repeat (first | refine go ?_ | (refine goX ?_; intro))
    exact EK_ret (ER_1 rfl rfl () (by rw [kindN, if_neg h1, if_pos h2]) (Ent.sat Ent.last))
  repeat (first | refine go ?_ | (refine goX ?_; intro))
  refine EK_cond_dec rfl (fun h3 => ?_) (fun h3 => ?_)
  · repeat (first | refine go ?_ | (refine goX ?_; intro))
    exact EK_ret (ER_1 rfl rfl () (by rw [kindN, if_neg h1, if_neg h2, if_pos h3]) (Ent.sat Ent.last))
  repeat (first | refine go ?_ | (refine goX ?_; intro))
  exact EK_ret (ER_1 rfl rfl () (by rw [kindN, if_neg h1, if_neg h2, if_neg h3]) (Ent.sat Ent.last))
end Go.Proofs.YtianbkbehjppoaaGreatDoor

namespace Go.Proofs.YtianbkbehjppoaaGreatDoor
open Go.RowKit
set_option maxRecDepth 10000
attribute [local irreducible] EK EX ER EN EL ES EG OpVal OpDoes OpSkip
variable {W : World} {F : SL} {X : Cx} {k : List KI} {σ : Env}

theorem kindN_le (p : Int) : -1 ≤ kindN p ∧ kindN p ≤ 2 := by unfold kindN; repeat' split <;> omega
theorem kind_mul (c : Cfg) (p : Int) : -1024 ≤ kindN p * portsN c ∧ kindN p * portsN c ≤ 2048 := by
  have h1 := kindN_le p
  have h2 := portsN_le c
  have : kindN p = -1 ∨ kindN p = 0 ∨ kindN p = 1 ∨ kindN p = 2 := by omega
  rcases this with h | h | h | h <;> rw [h] <;> omega

theorem Place_spec (c : Cfg) (hc : c.Fit) (p q : Int) (hq : I64 q) :
    Spec Tryz.prog 76 [c.val, .int .i64 p, .int .i64 q] W F (fun _ : Unit => .int .i64 (placeN c p q)) (fun _ => F) := by
  have h0 := hc
  obtain ⟨⟨w1, w2⟩, ⟨o1, o2⟩, ⟨l1, l2⟩, ⟨h1, h2⟩, ⟨b1, b2⟩, ⟨r1, r2⟩⟩ := hc
  obtain ⟨q1, q2⟩ := hq
  obtain ⟨n1, n2⟩ := portsN_le c
  obtain ⟨m1, m2⟩ := kind_mul c p
  refine Spec.of Tryz.func76 rfl Tryz.ntmps76 rfl ?_
  repeat (first | refine go ?_ | (refine goX ?_; intro))
  refine EL_call rfl (Ports_spec c h0) ?_
  intro
  repeat (first | refine go ?_ | (refine goX ?_; intro))
  refine EL_call rfl (Kind_spec p) ?_
  intro
  repeat (first | refine go ?_ | (refine goX ?_; intro))
  refine EL_guard_dec rfl rfl (fun hn => ?_) (fun hn => ?_)
  · repeat (first | refine go ?_ | (refine goX ?_; intro))
    exact EK_ret (ER_1 rfl rfl () (by rw [placeN, if_pos (.inl hn)]) (Ent.sat Ent.last))
  repeat (first | refine go ?_ | (refine goX ?_; intro))
  refine EL_guard_dec rfl rfl (fun hk => ?_) (fun hk => ?_)
  · repeat (first | refine go ?_ | (refine goX ?_; intro))
    exact EK_ret (ER_1 rfl rfl () (by rw [placeN, if_pos (.inr (.inl hk))]) (Ent.sat Ent.last))
  repeat (first | refine go ?_ | (refine goX ?_; intro))
  refine EL_call rfl (between_spec _ _ _) ?_
  intro
  repeat (first | refine go ?_ | (refine goX ?_; intro))
  refine EK_cond_ndec rfl (fun hb => ?_) (fun hb => ?_)
  · repeat (first | refine go ?_ | (refine goX ?_; intro))
    exact EK_ret (ER_1 rfl rfl () (by rw [placeN, if_pos (.inr (.inr hb))]) (Ent.sat Ent.last))
  have hp : portsN c = c.hi - c.lo + 1 := by
    unfold portsN at hn ⊢
    split
    · rfl
    · rename_i hw
      rw [if_neg hw] at hn
      omega
  have hw : 1 ≤ c.lo ∧ c.hi ≤ 65535 ∧ c.lo ≤ c.hi := by
    have : wrongT c = [] := by
      rcases Decidable.em (wrongT c = []) with h | h
      · exact h
      · exact absurd (by rw [portsN, if_neg h]) hn
    have := (wrongT_nil.1 this).p
    omega
  repeat (first | refine go ?_ | (refine goX ?_; intro))
  exact EK_ret (ER_1 rfl rfl () (by rw [placeN, if_neg (by omega)]) (Ent.sat Ent.last))
theorem rPlace_spec (c : Cfg) (hc : c.Fit) (p q : Int) (hq : I64 q) :
    Spec Tryz.prog 43 [c.val, .int .i64 p, .int .i64 q] W F (fun _ : Unit => .int .i64 (placeN c p q)) (fun _ => F) := by
  have h0 := hc
  obtain ⟨⟨w1, w2⟩, ⟨o1, o2⟩, ⟨l1, l2⟩, ⟨h1, h2⟩, ⟨b1, b2⟩, ⟨r1, r2⟩⟩ := hc
  obtain ⟨q1, q2⟩ := hq
  obtain ⟨n1, n2⟩ := portsN_le c
  obtain ⟨m1, m2⟩ := kind_mul c p
  refine Spec.of Tryz.func43 rfl Tryz.ntmps43 rfl ?_
  repeat (first | refine go ?_ | (refine goX ?_; intro))
  refine EL_call rfl (rPorts_spec c h0) ?_
  intro
  repeat (first | refine go ?_ | (refine goX ?_; intro))
  refine EL_guard_dec rfl rfl (fun hn => ?_) (fun hn => ?_)
  · repeat (first | refine go ?_ | (refine goX ?_; intro))
    exact EK_ret (ER_1 rfl rfl () (by rw [placeN, if_pos (.inl hn)]) (Ent.sat Ent.last))
  repeat (first | refine go ?_ | (refine goX ?_; intro))
  refine EL_call rfl (rKind_spec p) ?_
  intro
  repeat (first | refine go ?_ | (refine goX ?_; intro))
  refine EL_guard_dec rfl rfl (fun hk => ?_) (fun hk => ?_)
  · repeat (first | refine go ?_ | (refine goX ?_; intro))
    exact EK_ret (ER_1 rfl rfl () (by rw [placeN, if_pos (.inr (.inl hk))]) (Ent.sat Ent.last))
  repeat (first | refine go ?_ | (refine goX ?_; intro))
  refine EL_guard_dec rfl rfl (fun hb => ?_) (fun hb => ?_)
  · repeat (first | refine go ?_ | (refine goX ?_; intro))
    exact EK_ret (ER_1 rfl rfl () (by rw [placeN, if_pos (by omega)]) (Ent.sat Ent.last))
  repeat (first | refine go ?_ | (refine goX ?_; intro))
  refine EK_cond_dec rfl (fun hb2 => ?_) (fun hb2 => ?_)
  · repeat (first | refine go ?_ | (refine goX ?_; intro))
    exact EK_ret (ER_1 rfl rfl () (by rw [placeN, if_pos (by omega)]) (Ent.sat Ent.last))
  have hp : portsN c = c.hi - c.lo + 1 := by
    unfold portsN at hn ⊢
    split
    · rfl
    · rename_i hw
      rw [if_neg hw] at hn
      omega
  have hw : 1 ≤ c.lo ∧ c.hi ≤ 65535 ∧ c.lo ≤ c.hi := by
    have : wrongT c = [] := by
      rcases Decidable.em (wrongT c = []) with h | h
      · exact h
      · exact absurd (by rw [portsN, if_neg h]) hn
    have := (wrongT_nil.1 this).p
    omega
  repeat (first | refine go ?_ | (refine goX ?_; intro))
  refine EK_drawn rfl (by kernel_rfl) ?_
  repeat (refine goS ?_)
  refine ES_call rfl (rKind_spec p) ?_
  repeat (refine goS ?_)
  refine ES_call rfl (rPorts_spec c h0) ?_
  repeat (refine goS ?_)
  repeat (first | refine go ?_ | (refine goX ?_; intro))
  exact EK_ret (ER_1 rfl rfl () (by rw [placeN, if_neg (by omega)]) (Ent.sat Ent.last))
end Go.Proofs.YtianbkbehjppoaaGreatDoor

namespace Go.Proofs.YtianbkbehjppoaaGreatDoor
open Go.RowKit
set_option maxRecDepth 10000
attribute [local irreducible] EK EX ER EN EL ES EG OpVal OpDoes OpSkip
variable {W : World} {F : SL} {X : Cx} {k : List KI} {σ : Env}
instance : TMap Tryz.prog 82 3 128 := ⟨by kernel_rfl⟩
instance : TMap Tryz.prog 83 126 3 := ⟨by kernel_rfl⟩
instance : TZeroV Tryz.prog 3 (.int .i64 0) := ⟨by kernel_rfl⟩
instance : TZeroV Tryz.prog 128 (.agg #[.int .i64 0, .int .u32 0, .int .u16 0, .int .i64 0, .int .i64 0, .int .i64 0]) := ⟨by kernel_rfl⟩
def kFl (f : FlowT) : Value := .agg (flV f).toArray
def vBd (b : BindT) : Value := .agg (bdV b).toArray
theorem flV_inj {a b : FlowT} (h : flV a = flV b) : a = b := by
  obtain ⟨a1, a2, a3⟩ := a
  obtain ⟨b1, b2, b3⟩ := b
  simp only [List.cons.injEq, Value.int.injEq, true_and, and_true, Int.natCast_inj] at h
  obtain ⟨h1, h2, h3⟩ := h
  subst h1; subst h2; subst h3
  rfl
instance : KeyE Tryz.prog 126 kFl where
  inj := fun a b h => by
    simp only [kFl, Value.agg.injEq] at h
    exact flV_inj (by simpa using h)
  check := fun e k w => by
    have hi : ∀ (t : TypeId) (kk : IntKind) (z : Int) (w : World), Tryz.prog.underlying t = some (.int kk) → (Instr.checkKey e (9998 + 1) t (.int kk z)).run Tryz.prog w = .ok () w := fun t kk z w h => MapKept.run_checkKey h (by simp [MapKept.IsKey]) e 9998
    have h1 := fun z w => hi 3 .i64 z w (by kernel_rfl)
    have h2 := fun z w => hi 22 .u32 z w (by kernel_rfl)
    have h3 := fun z w => hi 92 .u16 z w (by kernel_rfl)
    show (Instr.checkKey e (9998 + 1 + 1) 126 (kFl k)).run Tryz.prog w = .ok () w
    unfold Instr.checkKey kFl
    rw [Sem.run_bind, run_underlying Tryz.underlying126, Result.andThen_ok]
    have h1' := h1 (k.proto : Int) w
    have h2' := h2 (k.addr : Int) w
    have h3' := h3 (k.port : Int) w
    simp [part, isAgg, run_underlying Tryz.underlying3, run_underlying Tryz.underlying22, run_underlying Tryz.underlying92, h1', h2', h3', go_sem]
  find := fun k es w ho => by
    cases es with
    | nil => exact .inl ⟨rfl, by simp⟩
    | cons e es =>
      have hq : ∀ x ∈ e :: es, ∃ b : Bool, (Op.equal 126 (kFl k) x.key).run Tryz.prog w = .ok b w ∧ (b = true ↔ kFl k = x.key) := fun x hx => by
        obtain ⟨a, ea⟩ := ho x hx
        obtain ⟨r, h1, h2⟩ := run_equal_flat (P := Tryz.prog) w (t := 126) (xs := flV k) (ys := flV a) rfl rfl
        refine ⟨r, ?_, ?_⟩
        · rw [ea]
          exact h1
        · rw [ea, h2]
          unfold kFl
          simp
      have hf : (Instr.findKey 126 (kFl k) (e :: es)).run Tryz.prog w = (Instr.findAsking 126 (kFl k) (e :: es) 0).run Tryz.prog w := by
        unfold Instr.findKey
        simp only [Sem.run_bind, Tryz.underlying126, Result.andThen_ok]
        unfold Instr.findNow
        obtain ⟨a, ea⟩ := ho e List.mem_cons_self
        rw [ea]
        rfl
      rcases finds_asking (e :: es) 0 hq with ⟨h1, h2⟩ | ⟨j, x, h1, h2, h3⟩
      · exact .inl ⟨by rw [hf]; exact h1, h2⟩
      · exact .inr ⟨j, x, by rw [hf, h1, Nat.zero_add], h2, h3⟩
  stays := fun k => by
    unfold kFl
    simp [Instr.sameBits]
end Go.Proofs.YtianbkbehjppoaaGreatDoor

namespace Go.Proofs.YtianbkbehjppoaaGreatDoor
open Go.RowKit
structure MapsOk (cf : Cfg) (L : List BindT) (P : List (Int × BindT)) (G : List (FlowT × Int)) : Prop where
  p : P.Perm (L.map fun b => (placeB cf b, b))
  g : G.Perm (L.map fun b => (b.flow, placeB cf b))
theorem MapsOk.nil (cf : Cfg) : MapsOk cf [] [] [] := ⟨List.Perm.refl _, List.Perm.refl _⟩
section
variable {κ ν : Type} [DecidableEq κ]
theorem lookup_mem {l : List (κ × ν)} {k : κ} {v : ν} (hn : (l.map (·.1)).Nodup) (h : (k, v) ∈ l) : l.lookup k = some v := by
  obtain ⟨i, hi⟩ := List.getElem?_of_mem h
  exact lookup_at hn hi
theorem lookup_out {l : List (κ × ν)} {k : κ} (h : k ∉ l.map (·.1)) : l.lookup k = none := lookup_none fun p hp e => h (List.mem_map.2 ⟨p, hp, e⟩)
theorem erase_perm {α : Type} : ∀ {l : List α} {i : Nat} {x : α}, l[i]? = some x → (x :: l.eraseIdx i).Perm l
  | [], i, x, h => by simp at h
  | a :: l, 0, x, h => by
    simp only [List.getElem?_cons_zero, Option.some.injEq] at h
    subst h
    exact List.Perm.refl _
  | a :: l, i + 1, x, h => by
    simp only [List.getElem?_cons_succ] at h
    rw [List.eraseIdx_cons_succ]
    exact (List.Perm.swap a x _).trans ((erase_perm h).cons a)
theorem set_perm' {α : Type} (y : α) : ∀ {l : List α} {i : Nat} {x : α}, l[i]? = some x → (l.set i y).Perm (y :: l.eraseIdx i)
  | [], i, x, h => by simp at h
  | a :: l, 0, x, h => by
    rw [List.set_cons_zero, List.eraseIdx_cons_zero]
  | a :: l, i + 1, x, h => by
    simp only [List.getElem?_cons_succ] at h
    rw [List.set_cons_succ, List.eraseIdx_cons_succ]
    exact ((set_perm' y h).cons a).trans (List.Perm.swap y a _)
omit [DecidableEq κ] in
theorem set_perm {l : List (κ × ν)} {i : Nat} {x y : κ × ν} (h : l[i]? = some x) : (x :: l.eraseIdx i).Perm l ∧ (l.set i y).Perm (y :: l.eraseIdx i) := by
  exact ⟨erase_perm h, set_perm' y h⟩
end
variable {cf : Cfg} {L : List BindT} {P : List (Int × BindT)} {G : List (FlowT × Int)}
theorem NatOk.keys (h : NatOk cf L) : (L.map (placeB cf)).Nodup := by
  have := h.sorted
  rw [← List.pairwise_map (f := placeB cf) (R := fun a b => a < b)] at this
  exact this.imp fun h e => by omega
theorem MapsOk.pk (m : MapsOk cf L P G) : (P.map (·.1)).Perm (L.map (placeB cf)) := by
  have := m.p.map (·.1)
  rwa [List.map_map] at this
theorem MapsOk.gk (m : MapsOk cf L P G) : (G.map (·.1)).Perm (L.map (·.flow)) := by
  have := m.g.map (·.1)
  rwa [List.map_map] at this
theorem MapsOk.pn (m : MapsOk cf L P G) (h : NatOk cf L) : (P.map (·.1)).Nodup := m.pk.nodup_iff.2 h.keys
theorem MapsOk.gn (m : MapsOk cf L P G) (h : NatOk cf L) : (G.map (·.1)).Nodup := m.gk.nodup_iff.2 h.flows
theorem MapsOk.pl (m : MapsOk cf L P G) (h : NatOk cf L) {b : BindT} (hb : b ∈ L) : P.lookup (placeB cf b) = some b :=
  lookup_mem (m.pn h) (m.p.mem_iff.2 (List.mem_map.2 ⟨b, hb, rfl⟩))
theorem MapsOk.gl (m : MapsOk cf L P G) (h : NatOk cf L) {b : BindT} (hb : b ∈ L) : G.lookup b.flow = some (placeB cf b) :=
  lookup_mem (m.gn h) (m.g.mem_iff.2 (List.mem_map.2 ⟨b, hb, rfl⟩))
theorem MapsOk.p0 (m : MapsOk cf L P G) {k : Int} (h : ∀ b ∈ L, placeB cf b ≠ k) : P.lookup k = none := lookup_out fun g => by
  rw [m.pk.mem_iff] at g
  obtain ⟨b, hb, e⟩ := List.mem_map.1 g
  exact h b hb e
theorem MapsOk.g0 (m : MapsOk cf L P G) {f : FlowT} (h : ∀ b ∈ L, b.flow ≠ f) : G.lookup f = none := lookup_out fun g => by
  rw [m.gk.mem_iff] at g
  obtain ⟨b, hb, e⟩ := List.mem_map.1 g
  exact h b hb e
theorem modify_set {α : Type} {l : List α} {i : Nat} {a : α} (g : α → α) (h : l[i]? = some a) : l.modify i g = l.set i (g a) := by
  apply List.ext_getElem?
  intro j
  rw [List.getElem?_modify, List.getElem?_set]
  by_cases e : i = j
  · subst e
    have := (List.getElem?_eq_some_iff.1 h).1
    rw [h, if_pos rfl, if_pos this]
    simp
  · simp [e]
theorem MapsOk.upd (m : MapsOk cf L P G) (h : NatOk cf L) {i : Nat} {b : BindT} (hb : L[i]? = some b) (g : BindT → BindT) (hf : ∀ b, (g b).flow = b.flow) (hp : ∀ b, placeB cf (g b) = placeB cf b) : MapsOk cf (L.modify i g) (putL P (placeB cf b) (g b)) G := by
  have hm : (placeB cf b, b) ∈ P := m.p.mem_iff.2 (List.mem_map.2 ⟨b, List.mem_of_getElem? hb, rfl⟩)
  obtain ⟨j, hj⟩ := List.getElem?_of_mem hm
  obtain ⟨s1, s2⟩ := set_perm (y := (placeB cf b, g b)) hj
  have l0 : (L.map fun b => (placeB cf b, b))[i]? = some (placeB cf b, b) := by simp [hb]
  obtain ⟨t1, _⟩ := set_perm (y := (placeB cf b, g b)) l0
  refine ⟨?_, ?_⟩
  · rw [putL_old _ (m.pn h) hj]
    have e : P.eraseIdx j |>.Perm ((L.map fun b => (placeB cf b, b)).eraseIdx i) := List.Perm.cons_inv (s1.trans (m.p.trans t1.symm))
    have l1 : ((L.modify i g).map fun b => (placeB cf b, b)) = (L.map fun b => (placeB cf b, b)).set i (placeB cf b, g b) := by
      rw [modify_set g hb, List.map_set, hp]
    rw [l1]
    obtain ⟨_, t2⟩ := set_perm (y := (placeB cf b, g b)) l0
    exact s2.trans ((e.cons _).trans t2.symm)
  · have : ((L.modify i g).map fun b => (b.flow, placeB cf b)) = L.map fun b => (b.flow, placeB cf b) := modify_map _ g (fun b => by rw [hf, hp]) L i
    rw [this]
    exact m.g
theorem MapsOk.ins (m : MapsOk cf L P G) {b : BindT} (hn : ∀ a ∈ L, placeB cf a ≠ placeB cf b) (hf : ∀ a ∈ L, a.flow ≠ b.flow) : MapsOk cf (insB cf b L) (putL P (placeB cf b) b) (putL G b.flow (placeB cf b)) := by
  refine ⟨?_, ?_⟩
  · rw [putL_new b fun p hp e => ?_]
    · exact (List.perm_append_singleton _ _).trans ((m.p.cons _).trans ((insB_perm cf b L).map fun b => (placeB cf b, b)).symm)
    · obtain ⟨a, ha, rfl⟩ := List.mem_map.1 (m.p.mem_iff.1 hp)
      exact hn a ha e
  · rw [putL_new (placeB cf b) fun p hp e => ?_]
    · exact (List.perm_append_singleton _ _).trans ((m.g.cons _).trans ((insB_perm cf b L).map fun b : BindT => (b.flow, placeB cf b)).symm)
    · obtain ⟨a, ha, rfl⟩ := List.mem_map.1 (m.g.mem_iff.1 hp)
      exact hf a ha e
theorem MapsOk.del (m : MapsOk cf L P G) (h : NatOk cf L) {i : Nat} {b : BindT} (hb : L[i]? = some b) : MapsOk cf (L.eraseIdx i) (delL P (placeB cf b)) (delL G b.flow) := by
  have hm := List.mem_of_getElem? hb
  obtain ⟨j, hj⟩ := List.getElem?_of_mem (m.p.mem_iff.2 (List.mem_map.2 ⟨b, hm, rfl⟩))
  obtain ⟨k, hk⟩ := List.getElem?_of_mem (m.g.mem_iff.2 (List.mem_map.2 ⟨b, hm, rfl⟩))
  refine ⟨?_, ?_⟩
  · rw [delL_old (m.pn h) hj, map_erase]
    obtain ⟨s1, _⟩ := set_perm (y := (placeB cf b, b)) hj
    obtain ⟨t1, _⟩ := set_perm (l := L.map fun b => (placeB cf b, b)) (i := i) (x := (placeB cf b, b)) (y := (placeB cf b, b)) (by simp [hb])
    exact List.Perm.cons_inv (s1.trans (m.p.trans t1.symm))
  · rw [delL_old (m.gn h) hk, map_erase]
    obtain ⟨s1, _⟩ := set_perm (y := (b.flow, placeB cf b)) hk
    obtain ⟨t1, _⟩ := set_perm (l := L.map fun b => (b.flow, placeB cf b)) (i := i) (x := (b.flow, placeB cf b)) (y := (b.flow, placeB cf b)) (by simp [hb])
    exact List.Perm.cons_inv (s1.trans (m.g.trans t1.symm))
end Go.Proofs.YtianbkbehjppoaaGreatDoor

namespace Go.Proofs.YtianbkbehjppoaaGreatDoor
open Go.RowKit
structure PStep where
  kind : Nat := 0
  word : Nat := 0
  left : Nat := 0
  most : Nat := 0
  read : Bool := false
  seen : Nat := 0
  words : List Nat := []
  parts : List (Nat × Nat) := []
  ports : List Nat := []
  done : Bool := false
  alike : Bool := false
variable {m n : Nat} {ws : List Nat} {s : PStep}
structure PStep.Ok (m : Nat) (s : PStep) : Prop where
  kind : s.kind = 0 ∨ s.kind = 1 ∨ s.kind = 2
  seen : s.seen < 18446744073709551616
  words : ∀ u ∈ s.words, u < 18446744073709551616
  takes : s.kind = 0 → s.words.length = m ∧ s.word < m ∧ s.left ≤ m ∧ 1 ≤ s.most ∧ s.most ≤ 32 ∧ (s.done = false → 1 ≤ s.left)
  sames : s.kind = 1 → s.words.length = m ∧ s.word ≤ m ∧ (s.done = false → s.word < m)
  parts : ∀ p ∈ s.parts, p.1 < m ∧ p.2 < 4294967296
  ports : s.ports.length ≤ 32
structure WordsOk (m : Nat) (ws : List Nat) : Prop where
  len : ws.length = m
  pos : 1 ≤ m
  most : m ≤ 32
  lt : ∀ u ∈ ws, u < 18446744073709551616
theorem WordsOk.get {m : Nat} {ws : List Nat} (h : WordsOk m ws) {i : Nat} (hi : i < m) : ws[i]? = some (ws.getD i 0) ∧ ws.getD i 0 < 18446744073709551616 := by
  have hi' : i < ws.length := by rw [h.len]; exact hi
  rw [List.getD_eq_getElem?_getD, List.getElem?_eq_getElem hi']
  exact ⟨rfl, h.lt _ (List.getElem_mem hi')⟩
theorem WordsOk.set (h : WordsOk m ws) (i : Nat) {u : Nat} (hu : u < 18446744073709551616) : WordsOk m (ws.set i u) where
  len := by rw [List.length_set]; exact h.len
  pos := h.pos
  most := h.most
  lt := fun x hx => by
    rcases List.mem_or_eq_of_mem_set hx with hx | rfl
    · exact h.lt x hx
    · exact hu
end Go.Proofs.YtianbkbehjppoaaGreatDoor

namespace Go.Proofs.YtianbkbehjppoaaGreatDoor
open Go.RowKit

variable {W w : World} {F : SL}
/-- The library's table, as its text lays it. -/
def Tab (W : World) : Prop := TabAt 2 Lib.deBruijn64tab W
theorem Tab.at (hT : Tab W) (h : Sat W w F) : Tab w := fun j hj => by
  have := hT j hj
  rw [h.below.cell (World.block_lt_of_cell? _ _ this)]
  exact this
end Go.Proofs.YtianbkbehjppoaaGreatDoor

namespace Go.Proofs.YtianbkbehjppoaaGreatDoor
open Go.RowKit
set_option maxRecDepth 10000
attribute [local irreducible] EK EX ER EN EL ES EG OpVal OpDoes OpSkip
variable {W : World} {F : SL} {X : Cx} {k : List KI} {σ : Env}
structure NatP where
  m1 : Nat
  m2 : Nat
  P : List (Int × BindT)
  G : List (FlowT × Int)
abbrev mnV (cf : Cfg) (m1 m2 : Nat) : List Value := [.int .i64 cf.w, .int .u32 cf.o, .int .i64 cf.lo, .int .i64 cf.hi, .int .i64 cf.b, .int .i64 cf.r, .map (some m1), .map (some m2)]
/-- A translator at n, open. -/
abbrev MnO (n : Option Addr) (cf : Cfg) (m1 m2 : Nat) (P : List (Int × BindT)) (G : List (FlowT × Int)) (F : SL) : SL := Obj n 85 (mnV cf m1 m2) * (MapC kInt vBd m1 P * (MapC kFl kInt m2 G * F))
def MnC (n : Option Addr) (cf : Cfg) (L : List BindT) : SL := SL.ex fun e : NatP => SL.pure (MapsOk cf L e.P e.G) * (Obj n 85 (mnV cf e.m1 e.m2) * (MapC kInt vBd e.m1 e.P * MapC kFl kInt e.m2 e.G))
instance (priority := 2000) (n : Option Addr) (cf : Cfg) (L : List BindT) (F : SL) : AtP (MnC n cf L * F) n (MnC n cf L) F := ⟨rfl⟩
theorem MnC.eq (n : Option Addr) (cf : Cfg) (e : NatP) (L : List BindT) (F : SL) : SL.pure (MapsOk cf L e.P e.G) * (Obj n 85 (mnV cf e.m1 e.m2) * (MapC kInt vBd e.m1 e.P * MapC kFl kInt e.m2 e.G)) * F = SL.pure (MapsOk cf L e.P e.G) * MnO n cf e.m1 e.m2 e.P e.G F := by
  simp only [SL.sep_assoc]
theorem MnC.open {n : Option Addr} {cf : Cfg} {L : List BindT} (h : ∀ m1 m2 P G, MapsOk cf L P G → EK X k σ (MnO n cf m1 m2 P G F)) : EK X k σ (MnC n cf L * F) := EK_ex fun e => by
  rw [MnC.eq]
  exact EK_pure fun hm => h _ _ _ _ hm
theorem MnC.shut {n : Option Addr} {cf : Cfg} {L : List BindT} {m1 m2 : Nat} {P : List (Int × BindT)} {G : List (FlowT × Int)} (hm : MapsOk cf L P G) {F : SL} : Ent (MnO n cf m1 m2 P G F) (MnC n cf L * F) :=
  Ent.ex ⟨m1, m2, P, G⟩ (by rw [MnC.eq]; exact Ent.pure hm (Ent.refl _))
instance (n : Option Addr) (cf : Cfg) (L : List BindT) : Root (MnC n cf L) n := ⟨fun W w F H => by
  obtain ⟨e, H⟩ := H.ex_out
  rw [MnC.eq] at H
  exact (Obj.root n _ _).nn W w _ H.out.2⟩
theorem mNew_spec (cf : Cfg) (hf : cf.Fit) (hg : cf.Good) : Spec Tryz.prog 15 [cf.val] W F (fun n : Option Addr => .tuple #[.pointer n, .int .i64 0]) (fun n => MnC n cf [] * F) := by
  refine Spec.of Tryz.func15 rfl Tryz.ntmps15 rfl ?_
  repeat (first | refine go ?_ | (refine goX ?_; intro))
  refine EL_call rfl (Wrong_spec cf hf) ?_
  intro _
  rw [wrongT_nil.2 hg]
  repeat (first | refine go ?_ | (refine goX ?_; intro))
  refine EL_does (OpDoes_mapN (ek := kInt) (ev := vBd) rfl) rfl ?_
  intro m1
  repeat (first | refine go ?_ | (refine goX ?_; intro))
  refine EL_does (OpDoes_mapN (ek := kFl) (ev := kInt) rfl) rfl ?_
  intro m2
  repeat (first | refine go ?_ | (refine goX ?_; intro))
  rename_i n
  exact EK_ret (ER_2 rfl rfl rfl n rfl (Ent.sat (Ent.trans (by first | exact Ent.refl _ | exact Ent.last | (repeat (first | refine Ent.cons ?_ | refine Ent.objX ?_ | refine Ent.rowX ?_ | exact Ent.any | exact Ent.last))) (MnC.shut (m1 := m1) (m2 := m2) (MapsOk.nil cf)))))
theorem mNew_none (cf : Cfg) (hf : cf.Fit) (hg : ¬ cf.Good) : Spec Tryz.prog 15 [cf.val] W F (fun _ : Unit => .tuple #[.pointer none, .int .i64 1]) (fun _ => F) := by
  refine Spec.of Tryz.func15 rfl Tryz.ntmps15 rfl ?_
  repeat (first | refine go ?_ | (refine goX ?_; intro))
  refine EL_call rfl (Wrong_spec cf hf) ?_
  intro _
  have hw : wrongT cf ≠ [] := fun g => hg (wrongT_nil.1 g)
  repeat (first | refine go ?_ | (refine goX ?_; intro))
  rw [decide_eq_false hw]
  repeat (first | refine go ?_ | (refine goX ?_; intro))
  exact EK_ret (ER_2 rfl rfl rfl () rfl (Ent.sat (by first | exact Ent.refl _ | exact Ent.last | (repeat (first | refine Ent.cons ?_ | refine Ent.objX ?_ | refine Ent.rowX ?_ | exact Ent.any | exact Ent.last)))))
theorem Spec.mn {f : FuncId} {vs : List Value} {H F1 F2 F3 : SL} (n : Option Addr) {cf : Cfg} {m1 m2 : Nat} {P : List (Int × BindT)} {G : List (FlowT × Int)} [r1 : AtP H n (Obj n 85 (mnV cf m1 m2)) F1] [r2 : AtM F1 m1 (MapC kInt vBd m1 P) F2] [r3 : AtM F2 m2 (MapC kFl kInt m2 G) F3] {α : Type} {rr : α → Value} {H' : α → SL} (h : Spec Tryz.prog f vs W (MnO n cf m1 m2 P G F3) rr H') : Spec Tryz.prog f vs W H rr H' := by
  rw [r1.eq, r2.eq, r3.eq]; exact h
theorem told_spec (q : Option Addr) (n c : Nat) (e : Int) : Spec Tryz.prog 82 [.slice q n c, .int .i64 e] W F (fun _ : Unit => .agg #[.slice q n c, .int .i64 e]) (fun _ => F) := by
  refine Spec.of Tryz.func82 rfl Tryz.ntmps82 rfl ?_
  repeat (first | refine go ?_ | (refine goX ?_; intro))
  exact EK_ret (ER_c1 (rv := .cell 4 47) rfl ⟨_, rfl, LoadsV.agg rfl⟩ () rfl (Ent.sat (by first | exact Ent.refl _ | exact Ent.last | (repeat (first | refine Ent.cons ?_ | refine Ent.objX ?_ | refine Ent.rowX ?_ | exact Ent.any | exact Ent.last)))))
end Go.Proofs.YtianbkbehjppoaaGreatDoor

namespace Go.Proofs.YtianbkbehjppoaaGreatDoor
open Go.RowKit
set_option maxRecDepth 10000
attribute [local irreducible] EK EX ER EN EL ES EG OpVal OpDoes OpSkip
variable {W : World} {F : SL} {X : Cx} {k : List KI} {σ : Env}
attribute [local simp] bytesR_len
theorem adT_len (l : List UInt8) (a b c : Nat) : (adT l a b c).length = l.length := by simp [adT, st2_len]
theorem echoT_len (l : List UInt8) (a b : Nat) : (echoT l a b).length = l.length := by simp [echoT, st2_len]
theorem carT_len (l : List UInt8) (a b : Nat) (s : Bool) (c d e : Nat) : (carT l a b s c d e).length = l.length := by
  unfold carT carS
  split
  · rw [st2_len]
  · rw [st2_len, st2_len]
theorem bodyT_len (l : List UInt8) (a b : Nat) (s : Bool) (c d e : Nat) : (bodyT l a b s c d e).length = l.length := by
  unfold bodyT
  split
  · exact echoT_len _ _ _
  · exact carT_len _ _ _ _ _ _ _
/-- What is known of a part that was got. -/
structure PtOk (h : HdT) (p : PtT) : Prop where
  room : h.size + 8 ≤ h.len
  plain : p.err = false → p.proto = h.proto ∧ (h.proto = 1 ∨ h.proto = 6 ∨ h.proto = 17)
  inner : p.err = true → p.pos = h.size + 8 ∧ 20 ≤ p.inner.size ∧ p.inner.size ≤ 60 ∧ p.pos + p.inner.size + 8 ≤ h.len ∧ p.inner.proto < 256
theorem PtOk.of {h : HdT} {l : List UInt8} (hh : HdOk h l.length) (he : partE h l = 0) : PtOk h (partP h l) := by
  obtain ⟨h1, h2, h3, h4, h5, h6, h7, h8⟩ := id hh
  have hb : (bodyOf h l).length = h.len - h.size := by rw [bodyOf_eq]; exact cutB_len l h4
  unfold partE at he
  unfold partP
  by_cases g1 : h.proto = 17
  · rw [if_pos g1] at he ⊢
    unfold udpE at he
    have : ¬ (bodyOf h l).length < 8 := fun g => by rw [if_pos g] at he; cases he
    exact ⟨by omega, fun _ => ⟨g1.symm, .inr (.inr g1)⟩, fun e => by cases e⟩
  rw [if_neg g1] at he ⊢
  by_cases g2 : h.proto = 6
  · rw [if_pos g2] at he ⊢
    unfold tcpE at he
    have : ¬ (bodyOf h l).length < 20 := fun g => by rw [if_pos g] at he; cases he
    exact ⟨by omega, fun _ => ⟨g2.symm, .inr (.inl g2)⟩, fun e => by cases e⟩
  rw [if_neg g2] at he ⊢
  by_cases g3 : ¬ (h.proto = 1)
  · rw [if_neg g3] at he; cases he
  have g3 := Decidable.not_not.1 g3
  rw [if_pos g3] at he
  generalize bodyOf h l = x at hb he ⊢
  unfold icmpE at he
  have a1 : ¬ x.length < 8 := fun g => by rw [if_pos g] at he; cases he
  rw [if_neg a1] at he
  have a2 : ¬ csum x ≠ 0 := fun g => by rw [if_pos g] at he; cases he
  rw [if_neg a2] at he
  unfold icmpP
  by_cases a3 : b1 x 0 = 0 ∨ b1 x 0 = 8
  · rw [if_pos a3]
    exact ⟨by omega, fun _ => ⟨g3.symm, .inl g3⟩, fun e => by cases e⟩
  rw [if_neg a3] at he ⊢
  have a4 : errK (b1 x 0) := Decidable.byContradiction fun g => by rw [if_neg g] at he; cases he
  rw [if_pos a4] at he
  unfold faultE at he
  have a5 : headE true (x.drop 8) = 0 := Decidable.byContradiction fun g => by rw [if_pos g] at he; exact g he
  rw [if_neg (by omega)] at he
  obtain ⟨k1, k2, k3, k4, _, _⟩ := headE_ok a5
  have a6 : ¬ ((x.drop 8).length - (headH (x.drop 8)).size < 8 ∨ (headH (x.drop 8)).len < (headH (x.drop 8)).size + 8) := fun g => by rw [if_pos g] at he; cases he
  have a7 : (x.drop 8).length = x.length - 8 := List.length_drop
  refine ⟨by omega, (fun e => by cases e), fun _ => ⟨rfl, k1, k2, ?_, b1_lt _ 9⟩⟩
  show h.size + 8 + (headH (x.drop 8)).size + 8 ≤ h.len
  omega
section
variable {p : Option Addr} {c i j : Nat} {l : List UInt8}
theorem bClone_spec [s : Src W F p l.length (bytesR l)] (h0 : 0 < l.length) (hl : l.length ≤ 1000000) : Spec Tryz.prog 125 [.slice p l.length c] W F (fun q : Slab => .slice q.1 l.length q.2) (fun q => RowC 5 1 q.1 l.length q.2 (bytesR l) * F) := by
  by_cases hp : p = none
  · exact fun w hs => absurd hp (s.nn w hs h0)
  refine Spec.of Tryz.func125 rfl Tryz.ntmps125 rfl ?_
  repeat (first | refine go ?_ | (refine goX ?_; intro))
  refine EL_val (OpVal_sliceNil rfl rfl) rfl ?_
  rw [decide_eq_false hp]
  repeat (first | refine go ?_ | (refine goX ?_; intro))
  rename_i q
  refine EK_ret (ER_1 rfl rfl q (by simp) (Ent.sat ?_))
  rw [Nat.zero_add, List.nil_append]
  first | exact Ent.refl _ | exact Ent.last | (repeat (first | refine Ent.cons ?_ | refine Ent.objX ?_ | refine Ent.rowX ?_ | exact Ent.any | exact Ent.last))
end
section
variable {w : Option Addr} {q : Slab} {out : Bool} {l : List UInt8}
theorem wcar_spec (pos proto port old addr : Nat) (src : Bool) (h : pos + 3 < l.length) (hi : pos ≤ 100000) (hp : port < 65536) (ho : old < 4294967296) (ha : addr < 4294967296) : Spec Tryz.prog 129 [.pointer w, .int .i64 (pos : Int), .int .i64 (proto : Int), .bool src, .int .u16 (port : Int), .int .u32 (old : Int), .int .u32 (addr : Int)] W (WrO w q out l F) (fun _ : Unit => .tuple #[]) (fun _ => WrO w q out (carT l pos proto src port old addr) F) := by
  refine Spec.of Tryz.func129 rfl Tryz.ntmps129 rfl ?_
  by_cases g1 : proto = 17
  · cases src with
    | false =>
      have eP : placeT pos false = (pos + 2) := rfl
      have eS : sumAtT pos proto = (pos + 6) := if_pos g1
      unfold carT carS
      rw [eP, eS]
      have wP := w2_lt l (pos + 2)
      obtain ⟨l1, h1⟩ : ∃ l1, st2 l (pos + 2) port = l1 := ⟨_, rfl⟩
      have n1 : l1.length = l.length := by rw [← h1, st2_len]
      repeat (first | refine go ?_ | (refine goX ?_; intro))
      refine EL_call rfl (wget_spec (pos + 2) (by omega) (by omega)) ?_
      intro _
      repeat (first | refine go ?_ | (refine goX ?_; intro))
      refine EL_call rfl (wset_spec (pos + 2) port (by omega) (by omega)) ?_
      intro _
      rw [h1]
      repeat (first | refine go ?_ | (refine goX ?_; intro))
      refine EL_call rfl (wthere_spec (pos + 6) (by omega)) ?_
      intro _
      by_cases g2 : l1.length < (pos + 6) + 2
      · rw [if_pos (Or.inl g2), decide_eq_false (by omega)]
        repeat (first | refine go ?_ | (refine goX ?_; intro))
        exact EK_ret (ER_0 rfl () rfl (Ent.sat (by first | exact Ent.refl _ | exact Ent.last | (repeat (first | refine Ent.cons ?_ | refine Ent.objX ?_ | refine Ent.rowX ?_ | exact Ent.any | exact Ent.last)))))
      rw [decide_eq_true (by omega)]
      have wS := w2_lt l1 (pos + 6)
      have e2 : w2 (st2 l1 (pos + 6) (fixW (w2 l1 (pos + 6)) old addr)) (pos + 6) = fixW (w2 l1 (pos + 6)) old addr := w2_st2 l1 (fixW_lt _ _ _) (by omega)
      have lW := fixW_lt (w2 l1 (pos + 6)) old addr
      have lF := fixN_lt (fixW (w2 l1 (pos + 6)) old addr) (w2 l (pos + 2)) port
      repeat (first | refine go ?_ | (refine goX ?_; intro))
      refine EL_call rfl (wget_spec (pos + 6) (by omega) (by omega)) ?_
      intro _
      by_cases g3 : w2 l1 (pos + 6) = 0
      · rw [if_pos (Or.inr ⟨g1, g3⟩)]
        repeat (first | refine go ?_ | (refine goX ?_; intro))
        exact EK_ret (ER_0 rfl () rfl (Ent.sat (by first | exact Ent.refl _ | exact Ent.last | (repeat (first | refine Ent.cons ?_ | refine Ent.objX ?_ | refine Ent.rowX ?_ | exact Ent.any | exact Ent.last)))))
      rw [if_neg (fun g => g.elim g2 fun g => g3 g.2), if_pos g1]
      repeat (first | refine go ?_ | (refine goX ?_; intro))
      refine EL_call rfl (wfix_spec (pos + 6) old addr (by omega) (by omega) ho ha) ?_
      intro _
      repeat (first | refine go ?_ | (refine goX ?_; intro))
      refine EL_call rfl (wget_spec (pos + 6) (by rw [st2_len]; omega) (by omega)) ?_
      intro _
      rw [e2]
      repeat (first | refine go ?_ | (refine goX ?_; intro))
      refine EL_call rfl (Fix_spec lW wP hp) ?_
      intro _
      unfold neverZ
      by_cases g4 : fixN (fixW (w2 l1 (pos + 6)) old addr) (w2 l (pos + 2)) port = 0
      · rw [if_pos g4]
        repeat (first | refine go ?_ | (refine goX ?_; intro))
        refine EL_call rfl (wset_spec (pos + 6) 65535 (by rw [st2_len]; omega) (by omega)) ?_
        intro _
        rw [st2_st2]
        repeat (first | refine go ?_ | (refine goX ?_; intro))
        exact EK_end (EN_0 rfl () rfl (Ent.sat (by first | exact Ent.refl _ | exact Ent.last | (repeat (first | refine Ent.cons ?_ | refine Ent.objX ?_ | refine Ent.rowX ?_ | exact Ent.any | exact Ent.last)))))
      · rw [if_neg g4]
        repeat (first | refine go ?_ | (refine goX ?_; intro))
        refine EL_call rfl (wset_spec (pos + 6) _ (by rw [st2_len]; omega) (by omega)) ?_
        intro _
        rw [st2_st2]
        repeat (first | refine go ?_ | (refine goX ?_; intro))
        exact EK_end (EN_0 rfl () rfl (Ent.sat (by first | exact Ent.refl _ | exact Ent.last | (repeat (first | refine Ent.cons ?_ | refine Ent.objX ?_ | refine Ent.rowX ?_ | exact Ent.any | exact Ent.last)))))
    | true =>
      have eP : placeT pos true = (pos + 0) := rfl
      have eS : sumAtT pos proto = (pos + 6) := if_pos g1
      unfold carT carS
      rw [eP, eS]
      have wP := w2_lt l (pos + 0)
      obtain ⟨l1, h1⟩ : ∃ l1, st2 l (pos + 0) port = l1 := ⟨_, rfl⟩
      have n1 : l1.length = l.length := by rw [← h1, st2_len]
      repeat (first | refine go ?_ | (refine goX ?_; intro))
      refine EL_call rfl (wget_spec (pos + 0) (by omega) (by omega)) ?_
      intro _
      repeat (first | refine go ?_ | (refine goX ?_; intro))
      refine EL_call rfl (wset_spec (pos + 0) port (by omega) (by omega)) ?_
      intro _
      rw [h1]
      repeat (first | refine go ?_ | (refine goX ?_; intro))
      refine EL_call rfl (wthere_spec (pos + 6) (by omega)) ?_
      intro _
      by_cases g2 : l1.length < (pos + 6) + 2
      · rw [if_pos (Or.inl g2), decide_eq_false (by omega)]
        repeat (first | refine go ?_ | (refine goX ?_; intro))
        exact EK_ret (ER_0 rfl () rfl (Ent.sat (by first | exact Ent.refl _ | exact Ent.last | (repeat (first | refine Ent.cons ?_ | refine Ent.objX ?_ | refine Ent.rowX ?_ | exact Ent.any | exact Ent.last)))))
      rw [decide_eq_true (by omega)]
      have wS := w2_lt l1 (pos + 6)
      have e2 : w2 (st2 l1 (pos + 6) (fixW (w2 l1 (pos + 6)) old addr)) (pos + 6) = fixW (w2 l1 (pos + 6)) old addr := w2_st2 l1 (fixW_lt _ _ _) (by omega)
      have lW := fixW_lt (w2 l1 (pos + 6)) old addr
      have lF := fixN_lt (fixW (w2 l1 (pos + 6)) old addr) (w2 l (pos + 0)) port
      repeat (first | refine go ?_ | (refine goX ?_; intro))
      refine EL_call rfl (wget_spec (pos + 6) (by omega) (by omega)) ?_
      intro _
      by_cases g3 : w2 l1 (pos + 6) = 0
      · rw [if_pos (Or.inr ⟨g1, g3⟩)]
        repeat (first | refine go ?_ | (refine goX ?_; intro))
        exact EK_ret (ER_0 rfl () rfl (Ent.sat (by first | exact Ent.refl _ | exact Ent.last | (repeat (first | refine Ent.cons ?_ | refine Ent.objX ?_ | refine Ent.rowX ?_ | exact Ent.any | exact Ent.last)))))
      rw [if_neg (fun g => g.elim g2 fun g => g3 g.2), if_pos g1]
      repeat (first | refine go ?_ | (refine goX ?_; intro))
      refine EL_call rfl (wfix_spec (pos + 6) old addr (by omega) (by omega) ho ha) ?_
      intro _
      repeat (first | refine go ?_ | (refine goX ?_; intro))
      refine EL_call rfl (wget_spec (pos + 6) (by rw [st2_len]; omega) (by omega)) ?_
      intro _
      rw [e2]
      repeat (first | refine go ?_ | (refine goX ?_; intro))
      refine EL_call rfl (Fix_spec lW wP hp) ?_
      intro _
      unfold neverZ
      by_cases g4 : fixN (fixW (w2 l1 (pos + 6)) old addr) (w2 l (pos + 0)) port = 0
      · rw [if_pos g4]
        repeat (first | refine go ?_ | (refine goX ?_; intro))
        refine EL_call rfl (wset_spec (pos + 6) 65535 (by rw [st2_len]; omega) (by omega)) ?_
        intro _
        rw [st2_st2]
        repeat (first | refine go ?_ | (refine goX ?_; intro))
        exact EK_end (EN_0 rfl () rfl (Ent.sat (by first | exact Ent.refl _ | exact Ent.last | (repeat (first | refine Ent.cons ?_ | refine Ent.objX ?_ | refine Ent.rowX ?_ | exact Ent.any | exact Ent.last)))))
      · rw [if_neg g4]
        repeat (first | refine go ?_ | (refine goX ?_; intro))
        refine EL_call rfl (wset_spec (pos + 6) _ (by rw [st2_len]; omega) (by omega)) ?_
        intro _
        rw [st2_st2]
        repeat (first | refine go ?_ | (refine goX ?_; intro))
        exact EK_end (EN_0 rfl () rfl (Ent.sat (by first | exact Ent.refl _ | exact Ent.last | (repeat (first | refine Ent.cons ?_ | refine Ent.objX ?_ | refine Ent.rowX ?_ | exact Ent.any | exact Ent.last)))))
  · cases src with
    | false =>
      have eP : placeT pos false = (pos + 2) := rfl
      have eS : sumAtT pos proto = (pos + 16) := if_neg g1
      unfold carT carS
      rw [eP, eS]
      have wP := w2_lt l (pos + 2)
      obtain ⟨l1, h1⟩ : ∃ l1, st2 l (pos + 2) port = l1 := ⟨_, rfl⟩
      have n1 : l1.length = l.length := by rw [← h1, st2_len]
      repeat (first | refine go ?_ | (refine goX ?_; intro))
      refine EL_call rfl (wget_spec (pos + 2) (by omega) (by omega)) ?_
      intro _
      repeat (first | refine go ?_ | (refine goX ?_; intro))
      refine EL_call rfl (wset_spec (pos + 2) port (by omega) (by omega)) ?_
      intro _
      rw [h1]
      repeat (first | refine go ?_ | (refine goX ?_; intro))
      refine EL_call rfl (wthere_spec (pos + 16) (by omega)) ?_
      intro _
      by_cases g2 : l1.length < (pos + 16) + 2
      · rw [if_pos (Or.inl g2), decide_eq_false (by omega)]
        repeat (first | refine go ?_ | (refine goX ?_; intro))
        exact EK_ret (ER_0 rfl () rfl (Ent.sat (by first | exact Ent.refl _ | exact Ent.last | (repeat (first | refine Ent.cons ?_ | refine Ent.objX ?_ | refine Ent.rowX ?_ | exact Ent.any | exact Ent.last)))))
      rw [decide_eq_true (by omega)]
      have wS := w2_lt l1 (pos + 16)
      have e2 : w2 (st2 l1 (pos + 16) (fixW (w2 l1 (pos + 16)) old addr)) (pos + 16) = fixW (w2 l1 (pos + 16)) old addr := w2_st2 l1 (fixW_lt _ _ _) (by omega)
      have lW := fixW_lt (w2 l1 (pos + 16)) old addr
      have lF := fixN_lt (fixW (w2 l1 (pos + 16)) old addr) (w2 l (pos + 2)) port
      rw [if_neg (fun g => g.elim g2 fun g => g1 g.1), if_neg g1]
      repeat (first | refine go ?_ | (refine goX ?_; intro))
      refine EL_call rfl (wfix_spec (pos + 16) old addr (by omega) (by omega) ho ha) ?_
      intro _
      repeat (first | refine go ?_ | (refine goX ?_; intro))
      refine EL_call rfl (wget_spec (pos + 16) (by rw [st2_len]; omega) (by omega)) ?_
      intro _
      rw [e2]
      repeat (first | refine go ?_ | (refine goX ?_; intro))
      refine EL_call rfl (Fix_spec lW wP hp) ?_
      intro _
      repeat (first | refine go ?_ | (refine goX ?_; intro))
      refine EL_call rfl (wset_spec (pos + 16) _ (by rw [st2_len]; omega) (by omega)) ?_
      intro _
      rw [st2_st2]
      repeat (first | refine go ?_ | (refine goX ?_; intro))
      exact EK_end (EN_0 rfl () rfl (Ent.sat (by first | exact Ent.refl _ | exact Ent.last | (repeat (first | refine Ent.cons ?_ | refine Ent.objX ?_ | refine Ent.rowX ?_ | exact Ent.any | exact Ent.last)))))
    | true =>
      have eP : placeT pos true = (pos + 0) := rfl
      have eS : sumAtT pos proto = (pos + 16) := if_neg g1
      unfold carT carS
      rw [eP, eS]
      have wP := w2_lt l (pos + 0)
      obtain ⟨l1, h1⟩ : ∃ l1, st2 l (pos + 0) port = l1 := ⟨_, rfl⟩
      have n1 : l1.length = l.length := by rw [← h1, st2_len]
      repeat (first | refine go ?_ | (refine goX ?_; intro))
      refine EL_call rfl (wget_spec (pos + 0) (by omega) (by omega)) ?_
      intro _
      repeat (first | refine go ?_ | (refine goX ?_; intro))
      refine EL_call rfl (wset_spec (pos + 0) port (by omega) (by omega)) ?_
      intro _
      rw [h1]
      repeat (first | refine go ?_ | (refine goX ?_; intro))
      refine EL_call rfl (wthere_spec (pos + 16) (by omega)) ?_
      intro _
      by_cases g2 : l1.length < (pos + 16) + 2
      · rw [if_pos (Or.inl g2), decide_eq_false (by omega)]
        repeat (first | refine go ?_ | (refine goX ?_; intro))
        exact EK_ret (ER_0 rfl () rfl (Ent.sat (by first | exact Ent.refl _ | exact Ent.last | (repeat (first | refine Ent.cons ?_ | refine Ent.objX ?_ | refine Ent.rowX ?_ | exact Ent.any | exact Ent.last)))))
      rw [decide_eq_true (by omega)]
      have wS := w2_lt l1 (pos + 16)
      have e2 : w2 (st2 l1 (pos + 16) (fixW (w2 l1 (pos + 16)) old addr)) (pos + 16) = fixW (w2 l1 (pos + 16)) old addr := w2_st2 l1 (fixW_lt _ _ _) (by omega)
      have lW := fixW_lt (w2 l1 (pos + 16)) old addr
      have lF := fixN_lt (fixW (w2 l1 (pos + 16)) old addr) (w2 l (pos + 0)) port
      rw [if_neg (fun g => g.elim g2 fun g => g1 g.1), if_neg g1]
      repeat (first | refine go ?_ | (refine goX ?_; intro))
      refine EL_call rfl (wfix_spec (pos + 16) old addr (by omega) (by omega) ho ha) ?_
      intro _
      repeat (first | refine go ?_ | (refine goX ?_; intro))
      refine EL_call rfl (wget_spec (pos + 16) (by rw [st2_len]; omega) (by omega)) ?_
      intro _
      rw [e2]
      repeat (first | refine go ?_ | (refine goX ?_; intro))
      refine EL_call rfl (Fix_spec lW wP hp) ?_
      intro _
      repeat (first | refine go ?_ | (refine goX ?_; intro))
      refine EL_call rfl (wset_spec (pos + 16) _ (by rw [st2_len]; omega) (by omega)) ?_
      intro _
      rw [st2_st2]
      repeat (first | refine go ?_ | (refine goX ?_; intro))
      exact EK_end (EN_0 rfl () rfl (Ent.sat (by first | exact Ent.refl _ | exact Ent.last | (repeat (first | refine Ent.cons ?_ | refine Ent.objX ?_ | refine Ent.rowX ?_ | exact Ent.any | exact Ent.last)))))
end
end Go.Proofs.YtianbkbehjppoaaGreatDoor

namespace Go.Proofs.YtianbkbehjppoaaGreatDoor
open Go.RowKit
set_option maxRecDepth 10000
attribute [local irreducible] EK EX ER EN EL ES EG OpVal OpDoes OpSkip
variable {W : World} {F : SL} {X : Cx} {k : List KI} {σ : Env}
attribute [local simp] bytesR_len
/-- What a rewriting does within an error. -/
def inB (l : List UInt8) (hs pos isz iproto : Nat) (out : Bool) (addr port : Nat) : List UInt8 :=
  let b2 := bodyT (adT l pos (pos + adPl (!out)) addr) (pos + isz) iproto (!out) port (w4 l (pos + adPl (!out))) addr
  let b3 := st2 b2 (hs + 2) 0
  st2 b3 (hs + 2) (csum (b3.drop hs))
section
variable {w : Option Addr} {q : Slab} {out : Bool} {l : List UInt8}
theorem Of_row (hs : Nat) (h : hs ≤ l.length) (hl : l.length ≤ 100000) : Spec Tryz.prog 118 [.slice (dropP q.1 hs q.2 1) (l.length - hs) (q.2 - hs)] W (WrO w q out l F) (fun _ : Unit => .int .u16 (csum (l.drop hs) : Int)) (fun _ => WrO w q out l F) := by
  have s : Src W (WrO w q out l F) q.1 l.length (bytesR l) := inferInstance
  have r : Room W (WrO w q out l F) q.1 l.length q.2 := inferInstance
  haveI := Src.low s r h
  have := Of_spec (W := W) (F := WrO w q out l F) (dropP q.1 hs q.2 1) (q.2 - hs) (l.drop hs) (by rw [List.length_drop]; omega)
  rwa [List.length_drop] at this
set_option maxHeartbeats 1000000 in
theorem winner_spec (x : PtT) (hs addr port : Nat) (h1 : x.pos = hs + 8) (h2 : 20 ≤ x.inner.size) (h3 : x.inner.size ≤ 60) (h4 : x.pos + x.inner.size + 8 ≤ l.length) (h5 : hs ≤ 60) (hl : l.length ≤ 1500) (ha : addr < 4294967296) (hp : port < 65536) :
    Spec Tryz.prog 127 [.pointer w, .agg (ptV x).toArray, .int .i64 (hs : Int), .int .u32 (addr : Int), .int .u16 (port : Int)] W (WrO w q out l F) (fun _ : Unit => .tuple #[]) (fun _ => WrO w q out (inB l hs x.pos x.inner.size x.inner.proto out addr port) F) := by
  refine Spec.of Tryz.func127 rfl Tryz.ntmps127 rfl ?_
  have hw := w4_lt l (x.pos + adPl (!out))
  repeat (first | refine go ?_ | (refine goX ?_; intro))
  rename_i x6
  refine EK_sink 99 (Obj w 196 [.slice q.1 l.length q.2, .bool out] * (Obj x6 157 (ptV x) * 1)) rfl rfl rfl ?_
  repeat (first | refine goQ ?_ | refine EG_done (by decide +kernel) ?_)
  refine EG_callQ rfl rfl rfl rfl rfl (Spec.at2 w q.1 (waddr_spec x.pos addr (!out) (by omega) (by omega) ha)) (fun _ => by simp only [WrO, adT_len]; first | exact Ent.refl _ | exact Ent.last | (repeat (first | refine Ent.cons ?_ | refine Ent.objX ?_ | refine Ent.rowX ?_ | exact Ent.any | exact Ent.last))) ?_
  intro _
  unfold inB
  dsimp only
  obtain ⟨l2, e2⟩ : ∃ y, adT l x.pos (x.pos + adPl (!out)) addr = y := ⟨_, rfl⟩
  have n2 : l2.length = l.length := by rw [← e2, adT_len]
  rw [e2]
  obtain ⟨od, eo⟩ : ∃ y, w4 l (x.pos + adPl (!out)) = y := ⟨_, rfl⟩
  rw [eo] at hw ⊢
  simp only [WrO]
  rw [n2]
  repeat (first | refine goQ ?_ | refine EG_done (by decide +kernel) ?_)
  rw [← n2]
  repeat (first | refine go ?_ | (refine goX ?_; intro))
  refine EK_join (γ := Unit) (fun _ => True) (fun _ => [(0, .pointer w), (2, .int .i64 (hs : Int))]) (fun _ => WrO w q out (bodyT l2 (x.pos + x.inner.size) x.inner.proto (!out) port od addr) F) ?_ ?_
  · by_cases g1 : x.inner.proto = 1
    · rw [show bodyT l2 (x.pos + x.inner.size) x.inner.proto (!out) port od addr = echoT l2 (x.pos + x.inner.size) port from if_pos g1, decide_eq_true (show (x.inner.proto : Int) = 1 by omega)]
      repeat (first | refine go ?_ | (refine goX ?_; intro))
      refine EL_call rfl (wecho_spec (x.pos + x.inner.size) port (by omega) (by omega) hp) ?_
      intro _
      repeat (first | refine go ?_ | (refine goX ?_; intro))
      exact EK_meet () trivial ⟨rfl, rfl, trivial⟩ (Ent.sat (by simp only [WrO]; first | exact Ent.refl _ | exact Ent.last | (repeat (first | refine Ent.cons ?_ | refine Ent.objX ?_ | refine Ent.rowX ?_ | exact Ent.any | exact Ent.last))))
    · rw [show bodyT l2 (x.pos + x.inner.size) x.inner.proto (!out) port od addr = carT l2 (x.pos + x.inner.size) x.inner.proto (!out) port od addr from if_neg g1, decide_eq_false (show ¬ (x.inner.proto : Int) = 1 by omega)]
      repeat (first | refine go ?_ | (refine goX ?_; intro))
      refine EK_sink 99 (Obj w 196 [.slice q.1 l2.length q.2, .bool out] * (Obj x6 157 (ptV x) * 1)) rfl rfl rfl ?_
      repeat (first | refine goQ ?_ | refine EG_done (by decide +kernel) ?_)
      refine EG_callQ rfl rfl rfl rfl rfl (wcar_spec (x.pos + x.inner.size) x.inner.proto port od addr (!out) (by omega) (by omega) hp hw ha) (fun _ => by simp only [WrO, carT_len]; first | exact Ent.refl _ | exact Ent.last | (repeat (first | refine Ent.cons ?_ | refine Ent.objX ?_ | refine Ent.rowX ?_ | exact Ent.any | exact Ent.last))) ?_
      intro _
      repeat (first | refine goQ ?_ | refine EG_done (by decide +kernel) ?_)
      repeat (first | refine go ?_ | (refine goX ?_; intro))
      exact EK_meet () trivial ⟨rfl, rfl, trivial⟩ (Ent.sat (by simp only [WrO]; first | exact Ent.refl _ | exact Ent.last | (repeat (first | refine Ent.cons ?_ | refine Ent.objX ?_ | refine Ent.rowX ?_ | exact Ent.any | exact Ent.last))))
  · intro _ _
    have n3 : (bodyT l2 (x.pos + x.inner.size) x.inner.proto (!out) port od addr).length = l.length := by rw [bodyT_len, n2]
    obtain ⟨l3, e3⟩ : ∃ y, bodyT l2 (x.pos + x.inner.size) x.inner.proto (!out) port od addr = y := ⟨_, rfl⟩
    rw [e3] at n3 ⊢
    have n4 : (st2 l3 (hs + 2) 0).length = l.length := by rw [st2_len, n3]
    have hc := csum_lt ((st2 l3 (hs + 2) 0).drop hs)
    repeat (first | refine go ?_ | (refine goX ?_; intro))
    refine EL_call rfl (wset_spec (hs + 2) 0 (by omega) (by omega)) ?_
    intro _
    obtain ⟨l4, e4⟩ : ∃ y, st2 l3 (hs + 2) 0 = y := ⟨_, rfl⟩
    rw [e4] at n4 hc ⊢
    simp only [WrO]
    repeat (first | refine go ?_ | (refine goX ?_; intro))
    refine EL_call rfl (Of_row hs (by omega) (by omega)) ?_
    intro _
    simp only [WrO]
    repeat (first | refine go ?_ | (refine goX ?_; intro))
    refine EL_call rfl (wset_spec (hs + 2) _ (by omega) (by omega)) ?_
    intro _
    repeat (first | refine go ?_ | (refine goX ?_; intro))
    exact EK_end (EN_0 rfl () rfl (Ent.sat (by simp only [WrO]; first | exact Ent.refl _ | exact Ent.last | (repeat (first | refine Ent.cons ?_ | refine Ent.objX ?_ | refine Ent.rowX ?_ | exact Ent.any | exact Ent.last)))))
/-- What a rewriting answers. -/
abbrev rwV (q : Slab) (l : List UInt8) (e : Nat) : Value := .tuple #[.slice q.1 l.length q.2, .int .i64 (e : Int)]
theorem bClone_pre {p : Option Addr} {c j : Nat} (s : Src W F p l.length (bytesR l)) (hj : j ≤ l.length) (h0 : 0 < j) (h1 : j ≤ 1000000) : Spec Tryz.prog 125 [.slice p j c] W F (fun q : Slab => .slice q.1 (l.take j).length q.2) (fun q => RowC 5 1 q.1 (l.take j).length q.2 (bytesR (l.take j)) * F) := by
  haveI := Src.pre s hj
  have hpl : (l.take j).length = j := by rw [List.length_take, Nat.min_eq_left hj]
  have := bClone_spec (W := W) (F := F) (p := p) (c := c) (l := l.take j) (by omega) (by omega)
  rw [show ([Value.slice p (l.take j).length c] : List Value) = [.slice p j c] by rw [hpl]] at this
  exact this
set_option maxHeartbeats 1000000 in
theorem change_spec {p : Option Addr} {c : Nat} (hl : l.length ≤ 140737488355328) [s : Src W F p l.length (bytesR l)] [r : Room W F p l.length c] (addr port : Nat) (ha : addr < 4294967296) (hp : port < 65536) : Spec Tryz.prog 110 [.slice p l.length c, .bool out, .int .u32 (addr : Int), .int .u16 (port : Int)] W F (fun z : Slab => rwV z (rwT l out addr port) (readE l)) (fun z => RowC 5 1 z.1 (rwT l out addr port).length z.2 (bytesR (rwT l out addr port)) * F) := by
  refine Spec.of Tryz.func110 rfl Tryz.ntmps110 rfl ?_
  unfold rwT readE
  repeat (first | refine go ?_ | (refine goX ?_; intro))
  refine EL_call rfl (hGet_spec hl) ?_
  intro _
  by_cases g1 : headE false l = 0
  · have g0 := HdOk.of g1
    rw [headT_of g1, g1, if_pos rfl, if_pos rfl]
    obtain ⟨hd, f0⟩ : ∃ x, headH l = x := ⟨_, rfl⟩
    rw [f0] at g0 ⊢
    obtain ⟨h1, h2, h3, h4, h5, h6, h7, h8⟩ := id g0
    repeat (first | refine go ?_ | (refine goX ?_; intro))
    refine EL_call rfl (pGet_spec hd g0) ?_
    intro _
    by_cases g2 : partE hd l = 0
    · have k0 := PtOk.of g0 g2
      have k1 := k0.room
      have k2 := k0.plain
      have k3 := k0.inner
      rw [show partT hd l = partP hd l from if_pos g2, g2, if_pos rfl]
      obtain ⟨x, f1⟩ : ∃ x, partP hd l = x := ⟨_, rfl⟩
      rw [f1] at k2 k3 ⊢
      obtain ⟨xp, xs, xd, xf, xk, xc, xe, xi, xo, xb⟩ := x
      dsimp only at k2 k3
      have hlen : (l.take hd.len).length = hd.len := by rw [List.length_take, Nat.min_eq_left h4]
      repeat (first | refine go ?_ | (refine goX ?_; intro))
      refine EL_call rfl (bClone_pre inferInstance h4 (by omega) (by omega)) ?_
      intro z
      rw [show rwB hd ⟨xp, xs, xd, xf, xk, xc, xe, xi, xo, xb⟩ l out addr port = (if xe then inB (adT (l.take hd.len) 0 (adPl out) addr) hd.size xo xi.size xi.proto out addr port else bodyT (adT (l.take hd.len) 0 (adPl out) addr) hd.size hd.proto out port (w4 (l.take hd.len) (adPl out)) addr) from rfl]
      obtain ⟨b, hb⟩ : ∃ b, l.take hd.len = b := ⟨_, rfl⟩
      rw [hb] at hlen ⊢
      have hw := w4_lt b (adPl out)
      have e0 := Nat.zero_add (adPl out)
      repeat (first | refine go ?_ | (refine goX ?_; intro))
      rename_i xw
      refine EL_call rfl (Spec.at2 xw z.1 (waddr_spec 0 addr out (by omega) (by decide) ha)) ?_
      intro _
      rw [e0]
      obtain ⟨b2, e2⟩ : ∃ y, adT b 0 (adPl out) addr = y := ⟨_, rfl⟩
      have n2 : b2.length = hd.len := by rw [← e2, adT_len, hlen]
      rw [e2]
      obtain ⟨od, eo⟩ : ∃ y, w4 b (adPl out) = y := ⟨_, rfl⟩
      rw [eo] at hw ⊢
      simp only [WrO]
      cases xe with
      | true =>
        obtain ⟨m1, m2, m3, m4, m5⟩ := k3 rfl
        rw [if_pos rfl]
        repeat (first | refine go ?_ | (refine goX ?_; intro))
        refine EL_call rfl (winner_spec ⟨xp, xs, xd, xf, xk, xc, true, xi, xo, xb⟩ hd.size addr port m1 m2 m3 (by dsimp only; omega) h2 (by omega) ha hp) ?_
        intro _
        simp only [WrO]
        repeat (first | refine go ?_ | (refine goX ?_; intro))
        exact EK_ret (ER_2 rfl rfl rfl z rfl (Ent.sat (by first | exact Ent.refl _ | exact Ent.last | (repeat (first | refine Ent.cons ?_ | refine Ent.objX ?_ | refine Ent.rowX ?_ | exact Ent.any | exact Ent.last)))))
      | false =>
        obtain ⟨m1, m2⟩ := k2 rfl
        rw [if_neg (by decide)]
        by_cases g4 : hd.proto = 1
        · rw [show bodyT b2 hd.size hd.proto out port od addr = echoT b2 hd.size port from if_pos g4]
          repeat (first | refine go ?_ | (refine goX ?_; intro))
          refine EL_call rfl (wecho_spec hd.size port (by omega) (by omega) hp) ?_
          intro _
          simp only [WrO]
          repeat (first | refine go ?_ | (refine goX ?_; intro))
          exact EK_ret (ER_2 rfl rfl rfl z rfl (Ent.sat (by first | exact Ent.refl _ | exact Ent.last | (repeat (first | refine Ent.cons ?_ | refine Ent.objX ?_ | refine Ent.rowX ?_ | exact Ent.any | exact Ent.last)))))
        · rw [show bodyT b2 hd.size hd.proto out port od addr = carT b2 hd.size hd.proto out port od addr from if_neg g4]
          rw [← m1]
          repeat (first | refine go ?_ | (refine goX ?_; intro))
          refine EL_call rfl (wcar_spec hd.size xp port od addr out (by omega) (by omega) hp hw ha) ?_
          intro _
          simp only [WrO]
          repeat (first | refine go ?_ | (refine goX ?_; intro))
          exact EK_ret (ER_2 rfl rfl rfl z rfl (Ent.sat (by first | exact Ent.refl _ | exact Ent.last | (repeat (first | refine Ent.cons ?_ | refine Ent.objX ?_ | refine Ent.rowX ?_ | exact Ent.any | exact Ent.last)))))
    · rw [show partT hd l = pt0 from if_neg g2, if_neg g2]
      repeat (first | refine go ?_ | (refine goX ?_; intro))
      exact EK_ret (ER_2 rfl rfl rfl (none, 0) rfl (Ent.sat (Ent.none (by first | exact Ent.refl _ | exact Ent.last | (repeat (first | refine Ent.cons ?_ | refine Ent.objX ?_ | refine Ent.rowX ?_ | exact Ent.any | exact Ent.last))))))
  · rw [headT_of (rfl : headE false l = _), if_neg g1, if_neg g1, if_neg g1]
    repeat (first | refine go ?_ | (refine goX ?_; intro))
    exact EK_ret (ER_2 rfl rfl rfl (none, 0) rfl (Ent.sat (Ent.none (by first | exact Ent.refl _ | exact Ent.last | (repeat (first | refine Ent.cons ?_ | refine Ent.objX ?_ | refine Ent.rowX ?_ | exact Ent.any | exact Ent.last))))))
end
end Go.Proofs.YtianbkbehjppoaaGreatDoor

namespace Go.Proofs.YtianbkbehjppoaaGreatDoor
open Go.RowKit
set_option maxRecDepth 10000
attribute [local irreducible] EK EX ER EN EL ES EG OpVal OpDoes OpSkip
variable {W : World} {F : SL} {X : Cx} {k : List KI} {σ : Env}
section
variable {p : Option Addr} {c i j : Nat} {l : List UInt8}
theorem w2_zero {l : List UInt8} {i : Nat} : w2 l i = 0 ↔ b1 l i = 0 ∧ b1 l (i + 1) = 0 := by
  unfold w2
  omega
set_option maxHeartbeats 2000000 in
theorem r3Get_spec [s : Src W F p l.length (bytesR l)] [r : Room W F p l.length c] (hd : HdT) (h : HdOk hd l.length) : Spec Tryz.prog 62 [.agg (hdV hd).toArray, .slice p l.length c] W F (fun _ : Unit => resP (partT hd l) (partE hd l)) (fun _ => F) := by
  refine Spec.of Tryz.func62 rfl Tryz.ntmps62 rfl ?_
  obtain ⟨h1, h2, h3, h4, h5, h6, h7, h8⟩ := h
  have e0 : partE hd l = _ := rfl
  conv at e0 => rhs; unfold partE
  have sy := Src.cut s r h3 h4
  have ry := Room.cut (i := hd.size) r h4
  have ey := cutB_len l (i := hd.size) h4
  rw [bodyOf_eq] at e0
  have eP : partP hd l = _ := rfl
  conv at eP => rhs; unfold partP
  rw [bodyOf_eq] at eP
  obtain ⟨y, hy⟩ : ∃ y, cutB l hd.size hd.len = y := ⟨_, rfl⟩
  rw [hy] at sy ry ey e0 eP
  have ey := ey.symm
  unfold partT
  have hw0 := w2_lt y 0
  have hw2 := w2_lt y 2
  have hw4 := w2_lt y 4
  have hb6 := b1_lt y 6
  have hb7 := b1_lt y 7
  by_cases g1 : hd.proto = 17
  · have gI : (hd.proto : Int) = 17 := by omega
    rw [if_pos g1] at e0 eP
    rw [e0, eP]
    have e1 : udpE hd.src hd.dst y = _ := rfl
    conv at e1 => rhs; unfold udpE
    repeat (first | refine go ?_ | (refine goX ?_; intro))
    rename_i x2 x4 x7
    rw [ey, gI]
    obtain ⟨q, hq⟩ : ∃ q, dropP p hd.size c 1 = q := ⟨_, rfl⟩
    obtain ⟨cc, hcc⟩ : ∃ cc, c - hd.size = cc := ⟨_, rfl⟩
    rw [hq, hcc] at ry
    rw [hq] at sy
    rw [hq, hcc]
    haveI := sy
    haveI := ry
    by_cases k1 : y.length < 8
    · rw [if_pos k1] at e1
      rw [e1, decide_eq_true (show ((y.length : Nat) : Int) < 8 by omega)]
      repeat (first | refine go ?_ | (refine goX ?_; intro))
      exact EK_ret (ER_cn (rs := [.cell 4 106, .tmp 5]) (v := .agg (ptV pt0).toArray) (u := .int .i64 ((2 : Nat) : Int)) (vs := []) rfl ⟨⟨_, rfl, LoadsV.agg rfl⟩, rfl, trivial⟩ () rfl (Ent.sat (by first | exact Ent.refl _ | exact Ent.last | (repeat (first | refine Ent.cons ?_ | refine Ent.objX ?_ | exact Ent.any | exact Ent.last)))))
    rw [if_neg k1] at e1
    rw [decide_eq_false (show ¬ ((y.length : Nat) : Int) < 8 by omega)]
    repeat (first | refine go ?_ | (refine goX ?_; intro))
    refine EL_call rfl (rNum2 (l := y) (j := 6) inferInstance inferInstance rfl (by omega) _ _ rfl) ?_
    intro _
    by_cases k2 : w2 y 4 ≠ y.length
    · rw [if_pos k2] at e1
      rw [e1]
      repeat (first | refine go ?_ | (refine goX ?_; intro))
      exact EK_ret (ER_cn (rs := [.cell 4 106, .tmp 5]) (v := .agg (ptV pt0).toArray) (u := .int .i64 ((3 : Nat) : Int)) (vs := []) rfl ⟨⟨_, rfl, LoadsV.agg rfl⟩, rfl, trivial⟩ () rfl (Ent.sat (by first | exact Ent.refl _ | exact Ent.last | (repeat (first | refine Ent.cons ?_ | refine Ent.objX ?_ | exact Ent.any | exact Ent.last)))))
    rw [if_neg k2] at e1
    have hz := w2_zero (l := y) (i := 6)
    have hp := pseT_lt hd.src hd.dst 17 y
    by_cases k3 : w2 y 6 = 0
    · rw [if_neg (fun g => g.1 k3)] at e1
      rw [e1, if_pos rfl, show udpP y = { pt0 with proto := 17, sp := w2 y 0, dp := w2 y 2, bare := true } by unfold udpP; rw [decide_eq_true k3]]
      obtain ⟨k4, k5'⟩ := hz.1 k3
      have k5 : b1 y 7 = 0 := k5'
      repeat (first | refine go ?_ | (refine goX ?_; intro))
      refine EK_sink 11 (ObjX x7 106 * F) rfl rfl rfl ?_
      repeat (first | refine goQ ?_ | refine EG_done (by decide +kernel) ?_)
      refine EG_callQ rfl rfl rfl rfl rfl (rNum_pre (l := y) inferInstance (by omega) _) (fun _ => by first | exact Ent.refl _ | exact Ent.last | (repeat (first | refine Ent.cons ?_ | refine Ent.objX ?_ | exact Ent.any | exact Ent.last))) ?_
      intro _
      repeat (first | refine goQ ?_ | refine EG_done (by decide +kernel) ?_)
      refine EG_callQ rfl rfl rfl rfl rfl (rNum2 (l := y) (j := 4) inferInstance inferInstance rfl (by omega) _ _ rfl) (fun _ => by first | exact Ent.refl _ | exact Ent.last | (repeat (first | refine Ent.cons ?_ | refine Ent.objX ?_ | exact Ent.any | exact Ent.last))) ?_
      intro _
      repeat (first | refine goQ ?_ | refine EG_done (by decide +kernel) ?_)
      repeat (first | refine goG ?_ | (refine goGX ?_; intro) | refine goGL ?_ | refine goGS ?_ | refine goGV ?_ | refine EG_done (by decide +kernel) ?_)
      repeat (first | refine go ?_ | (refine goX ?_; intro))
      exact EK_ret (ER_cn (rs := [.cell 4 106, .tmp 5]) (v := .agg (ptV { pt0 with proto := 17, sp := w2 y 0, dp := w2 y 2, bare := true }).toArray) (u := .int .i64 ((0 : Nat) : Int)) (vs := []) rfl ⟨⟨_, rfl, LoadsV.agg rfl⟩, rfl, trivial⟩ () rfl (Ent.sat (by first | exact Ent.refl _ | exact Ent.last | (repeat (first | refine Ent.cons ?_ | refine Ent.objX ?_ | exact Ent.any | exact Ent.last)))))
    have eB : udpP y = { pt0 with proto := 17, sp := w2 y 0, dp := w2 y 2, bare := false } := by unfold udpP; rw [decide_eq_false k3]
    by_cases k6 : pseT hd.src hd.dst 17 y = 0
    · rw [if_neg (fun g => g.2 k6)] at e1
      rw [e1, if_pos rfl, eB]
      by_cases k4 : b1 y 6 = 0
      · have k5 : b1 y 7 ≠ 0 := fun g => k3 (hz.2 ⟨k4, g⟩)
        repeat (first | refine go ?_ | (refine goX ?_; intro))
        refine EL_call rfl (rPseudo_spec (l := y) hd.src hd.dst 17 (by decide) (by omega)) ?_
        intro _
        repeat (first | refine go ?_ | (refine goX ?_; intro))
        refine EK_sink 11 (ObjX x7 106 * F) rfl rfl rfl ?_
        repeat (first | refine goQ ?_ | refine EG_done (by decide +kernel) ?_)
        refine EG_callQ rfl rfl rfl rfl rfl (rNum_pre (l := y) inferInstance (by omega) _) (fun _ => by first | exact Ent.refl _ | exact Ent.last | (repeat (first | refine Ent.cons ?_ | refine Ent.objX ?_ | exact Ent.any | exact Ent.last))) ?_
        intro _
        repeat (first | refine goQ ?_ | refine EG_done (by decide +kernel) ?_)
        refine EG_callQ rfl rfl rfl rfl rfl (rNum2 (l := y) (j := 4) inferInstance inferInstance rfl (by omega) _ _ rfl) (fun _ => by first | exact Ent.refl _ | exact Ent.last | (repeat (first | refine Ent.cons ?_ | refine Ent.objX ?_ | exact Ent.any | exact Ent.last))) ?_
        intro _
        repeat (first | refine goQ ?_ | refine EG_done (by decide +kernel) ?_)
        repeat (first | refine goG ?_ | (refine goGX ?_; intro) | refine goGL ?_ | refine goGS ?_ | refine goGV ?_ | refine EG_done (by decide +kernel) ?_)
        repeat (first | refine go ?_ | (refine goX ?_; intro))
        exact EK_ret (ER_cn (rs := [.cell 4 106, .tmp 5]) (v := .agg (ptV { pt0 with proto := 17, sp := w2 y 0, dp := w2 y 2, bare := false }).toArray) (u := .int .i64 ((0 : Nat) : Int)) (vs := []) rfl ⟨⟨_, rfl, LoadsV.agg rfl⟩, rfl, trivial⟩ () rfl (Ent.sat (by first | exact Ent.refl _ | exact Ent.last | (repeat (first | refine Ent.cons ?_ | refine Ent.objX ?_ | exact Ent.any | exact Ent.last)))))
      · repeat (first | refine go ?_ | (refine goX ?_; intro))
        refine EL_call rfl (rPseudo_spec (l := y) hd.src hd.dst 17 (by decide) (by omega)) ?_
        intro _
        repeat (first | refine go ?_ | (refine goX ?_; intro))
        refine EK_sink 11 (ObjX x7 106 * F) rfl rfl rfl ?_
        repeat (first | refine goQ ?_ | refine EG_done (by decide +kernel) ?_)
        refine EG_callQ rfl rfl rfl rfl rfl (rNum_pre (l := y) inferInstance (by omega) _) (fun _ => by first | exact Ent.refl _ | exact Ent.last | (repeat (first | refine Ent.cons ?_ | refine Ent.objX ?_ | exact Ent.any | exact Ent.last))) ?_
        intro _
        repeat (first | refine goQ ?_ | refine EG_done (by decide +kernel) ?_)
        refine EG_callQ rfl rfl rfl rfl rfl (rNum2 (l := y) (j := 4) inferInstance inferInstance rfl (by omega) _ _ rfl) (fun _ => by first | exact Ent.refl _ | exact Ent.last | (repeat (first | refine Ent.cons ?_ | refine Ent.objX ?_ | exact Ent.any | exact Ent.last))) ?_
        intro _
        repeat (first | refine goQ ?_ | refine EG_done (by decide +kernel) ?_)
        repeat (first | refine goG ?_ | (refine goGX ?_; intro) | refine goGL ?_ | refine goGS ?_ | refine goGV ?_ | refine EG_done (by decide +kernel) ?_)
        repeat (first | refine go ?_ | (refine goX ?_; intro))
        exact EK_ret (ER_cn (rs := [.cell 4 106, .tmp 5]) (v := .agg (ptV { pt0 with proto := 17, sp := w2 y 0, dp := w2 y 2, bare := false }).toArray) (u := .int .i64 ((0 : Nat) : Int)) (vs := []) rfl ⟨⟨_, rfl, LoadsV.agg rfl⟩, rfl, trivial⟩ () rfl (Ent.sat (by first | exact Ent.refl _ | exact Ent.last | (repeat (first | refine Ent.cons ?_ | refine Ent.objX ?_ | exact Ent.any | exact Ent.last)))))
    · rw [if_pos ⟨k3, k6⟩] at e1
      rw [e1]
      by_cases k4 : b1 y 6 = 0
      · have k5 : b1 y 7 ≠ 0 := fun g => k3 (hz.2 ⟨k4, g⟩)
        repeat (first | refine go ?_ | (refine goX ?_; intro))
        refine EL_call rfl (rPseudo_spec (l := y) hd.src hd.dst 17 (by decide) (by omega)) ?_
        intro _
        repeat (first | refine go ?_ | (refine goX ?_; intro))
        exact EK_ret (ER_cn (rs := [.cell 4 106, .tmp 5]) (v := .agg (ptV pt0).toArray) (u := .int .i64 ((4 : Nat) : Int)) (vs := []) rfl ⟨⟨_, rfl, LoadsV.agg rfl⟩, rfl, trivial⟩ () rfl (Ent.sat (by first | exact Ent.refl _ | exact Ent.last | (repeat (first | refine Ent.cons ?_ | refine Ent.objX ?_ | exact Ent.any | exact Ent.last)))))
      · repeat (first | refine go ?_ | (refine goX ?_; intro))
        refine EL_call rfl (rPseudo_spec (l := y) hd.src hd.dst 17 (by decide) (by omega)) ?_
        intro _
        repeat (first | refine go ?_ | (refine goX ?_; intro))
        exact EK_ret (ER_cn (rs := [.cell 4 106, .tmp 5]) (v := .agg (ptV pt0).toArray) (u := .int .i64 ((4 : Nat) : Int)) (vs := []) rfl ⟨⟨_, rfl, LoadsV.agg rfl⟩, rfl, trivial⟩ () rfl (Ent.sat (by first | exact Ent.refl _ | exact Ent.last | (repeat (first | refine Ent.cons ?_ | refine Ent.objX ?_ | exact Ent.any | exact Ent.last)))))
  rw [if_neg g1] at e0 eP
  by_cases g2 : hd.proto = 6
  · have gI : (hd.proto : Int) = 6 := by omega
    rw [if_pos g2] at e0 eP
    rw [e0, eP]
    have e1 : tcpE hd.src hd.dst y = _ := rfl
    conv at e1 => rhs; unfold tcpE
    have hb12 := b1_lt y 12
    have hb13 := b1_lt y 13
    have hp := pseT_lt hd.src hd.dst 6 y
    repeat (first | refine go ?_ | (refine goX ?_; intro))
    rename_i x2 x4 x7
    rw [ey, gI]
    obtain ⟨q, hq⟩ : ∃ q, dropP p hd.size c 1 = q := ⟨_, rfl⟩
    obtain ⟨cc, hcc⟩ : ∃ cc, c - hd.size = cc := ⟨_, rfl⟩
    rw [hq, hcc] at ry
    rw [hq] at sy
    rw [hq, hcc]
    haveI := sy
    haveI := ry
    by_cases k1 : y.length < 20
    · rw [if_pos k1] at e1
      rw [e1, decide_eq_true (show ((y.length : Nat) : Int) < 20 by omega)]
      repeat (first | refine go ?_ | (refine goX ?_; intro))
      exact EK_ret (ER_cn (rs := [.cell 4 106, .tmp 5]) (v := .agg (ptV pt0).toArray) (u := .int .i64 ((2 : Nat) : Int)) (vs := []) rfl ⟨⟨_, rfl, LoadsV.agg rfl⟩, rfl, trivial⟩ () rfl (Ent.sat (by first | exact Ent.refl _ | exact Ent.last | (repeat (first | refine Ent.cons ?_ | refine Ent.objX ?_ | exact Ent.any | exact Ent.last)))))
    rw [if_neg k1] at e1
    rw [decide_eq_false (show ¬ ((y.length : Nat) : Int) < 20 by omega)]
    by_cases k2 : b1 y 12 / 16 * 4 < 20
    · rw [if_pos (Or.inl k2)] at e1
      rw [e1]
      repeat (first | refine go ?_ | (refine goX ?_; intro))
      exact EK_ret (ER_cn (rs := [.cell 4 106, .tmp 5]) (v := .agg (ptV pt0).toArray) (u := .int .i64 ((3 : Nat) : Int)) (vs := []) rfl ⟨⟨_, rfl, LoadsV.agg rfl⟩, rfl, trivial⟩ () rfl (Ent.sat (by first | exact Ent.refl _ | exact Ent.last | (repeat (first | refine Ent.cons ?_ | refine Ent.objX ?_ | exact Ent.any | exact Ent.last)))))
    by_cases k3 : b1 y 12 / 16 * 4 > y.length
    · rw [if_pos (Or.inr k3)] at e1
      rw [e1]
      repeat (first | refine go ?_ | (refine goX ?_; intro))
      exact EK_ret (ER_cn (rs := [.cell 4 106, .tmp 5]) (v := .agg (ptV pt0).toArray) (u := .int .i64 ((3 : Nat) : Int)) (vs := []) rfl ⟨⟨_, rfl, LoadsV.agg rfl⟩, rfl, trivial⟩ () rfl (Ent.sat (by first | exact Ent.refl _ | exact Ent.last | (repeat (first | refine Ent.cons ?_ | refine Ent.objX ?_ | exact Ent.any | exact Ent.last)))))
    rw [if_neg (fun g => g.elim k2 k3)] at e1
    repeat (first | refine go ?_ | (refine goX ?_; intro))
    refine EL_call rfl (rPseudo_spec (l := y) hd.src hd.dst 6 (by decide) (by omega)) ?_
    intro _
    by_cases k4 : pseT hd.src hd.dst 6 y ≠ 0
    · rw [if_pos k4] at e1
      rw [e1]
      repeat (first | refine go ?_ | (refine goX ?_; intro))
      exact EK_ret (ER_cn (rs := [.cell 4 106, .tmp 5]) (v := .agg (ptV pt0).toArray) (u := .int .i64 ((4 : Nat) : Int)) (vs := []) rfl ⟨⟨_, rfl, LoadsV.agg rfl⟩, rfl, trivial⟩ () rfl (Ent.sat (by first | exact Ent.refl _ | exact Ent.last | (repeat (first | refine Ent.cons ?_ | refine Ent.objX ?_ | exact Ent.any | exact Ent.last)))))
    rw [if_neg k4] at e1
    rw [e1, if_pos rfl]
    repeat (first | refine go ?_ | (refine goX ?_; intro))
    refine EK_sink 11 (ObjX x7 106 * F) rfl rfl rfl ?_
    repeat (first | refine goQ ?_ | refine EG_done (by decide +kernel) ?_)
    refine EG_callQ rfl rfl rfl rfl rfl (rNum_pre (l := y) inferInstance (by omega) _) (fun _ => by first | exact Ent.refl _ | exact Ent.last | (repeat (first | refine Ent.cons ?_ | refine Ent.objX ?_ | exact Ent.any | exact Ent.last))) ?_
    intro _
    repeat (first | refine goQ ?_ | refine EG_done (by decide +kernel) ?_)
    refine EG_callQ rfl rfl rfl rfl rfl (rNum2 (l := y) (j := 4) inferInstance inferInstance rfl (by omega) _ _ rfl) (fun _ => by first | exact Ent.refl _ | exact Ent.last | (repeat (first | refine Ent.cons ?_ | refine Ent.objX ?_ | exact Ent.any | exact Ent.last))) ?_
    intro _
    repeat (first | refine goQ ?_ | refine EG_done (by decide +kernel) ?_)
    repeat (first | refine goG ?_ | (refine goGX ?_; intro) | refine goGL ?_ | refine goGS ?_ | refine goGV ?_ | refine EG_done (by decide +kernel) ?_)
    repeat (first | refine go ?_ | (refine goX ?_; intro))
    exact EK_ret (ER_cn (rs := [.cell 4 106, .tmp 5]) (v := .agg (ptV (tcpP y)).toArray) (u := .int .i64 ((0 : Nat) : Int)) (vs := []) rfl ⟨⟨_, rfl, LoadsV.agg rfl⟩, rfl, trivial⟩ () rfl (Ent.sat (by first | exact Ent.refl _ | exact Ent.last | (repeat (first | refine Ent.cons ?_ | refine Ent.objX ?_ | exact Ent.any | exact Ent.last)))))
  rw [if_neg g2] at e0 eP
  by_cases g3 : hd.proto = 1
  · rw [if_pos g3] at e0
    rw [e0, eP]
    repeat (first | refine go ?_ | (refine goX ?_; intro))
    rw [ey]
    haveI := sy
    haveI := ry
    refine EL_call rfl (ricmp_spec (l := y) (hd.proto : Int) (by omega) hd h2 (by omega)) ?_
    intro _
    repeat (first | refine go ?_ | (refine goX ?_; intro))
    exact EK_ret (ER_cn (rs := [.cell 4 106, .tmp 5]) (v := .agg (ptV _).toArray) (u := .int .i64 ((icmpE y : Nat) : Int)) (vs := []) rfl ⟨⟨_, rfl, LoadsV.agg rfl⟩, rfl, trivial⟩ () rfl (Ent.sat (by first | exact Ent.refl _ | exact Ent.last | (repeat (first | refine Ent.cons ?_ | refine Ent.objX ?_ | exact Ent.any | exact Ent.last)))))
  rw [if_neg g3] at e0
  rw [e0]
  repeat (first | refine go ?_ | (refine goX ?_; intro))
  exact EK_ret (ER_cn (rs := [.cell 4 106, .tmp 5]) (v := .agg (ptV pt0).toArray) (u := .int .i64 ((6 : Nat) : Int)) (vs := []) rfl ⟨⟨_, rfl, LoadsV.agg rfl⟩, rfl, trivial⟩ () rfl (Ent.sat (by first | exact Ent.refl _ | exact Ent.last | (repeat (first | refine Ent.cons ?_ | refine Ent.objX ?_ | exact Ent.any | exact Ent.last)))))
end
end Go.Proofs.YtianbkbehjppoaaGreatDoor

namespace Go.Proofs.YtianbkbehjppoaaGreatDoor
open Go.RowKit
set_option maxRecDepth 10000
attribute [local irreducible] EK EX ER EN EL ES EG OpVal OpDoes OpSkip
variable {W : World} {F : SL} {X : Cx} {k : List KI} {σ : Env}
attribute [local simp] bytesR_len
/-- Bytes to be written. -/
abbrev RwO (q : Slab) (l : List UInt8) (F : SL) : SL := RowC 5 1 q.1 l.length q.2 (bytesR l) * F
section
variable {q : Slab} {l : List UInt8}
theorem Out_spec {p : Option Addr} {c : Nat} (hl : l.length ≤ 140737488355328) [s : Src W F p l.length (bytesR l)] [r : Room W F p l.length c] (addr port : Nat) (ha : addr < 4294967296) (hp : port < 65536) : Spec Tryz.prog 106 [.slice p l.length c, .int .u32 (addr : Int), .int .u16 (port : Int)] W F (fun z : Slab => rwV z (rwT l true addr port) (readE l)) (fun z => RwO z (rwT l true addr port) F) := by
  refine Spec.of Tryz.func106 rfl Tryz.ntmps106 rfl ?_
  repeat (first | refine go ?_ | (refine goX ?_; intro))
  refine EL_call rfl (change_spec (out := true) hl addr port ha hp) ?_
  intro z
  repeat (first | refine go ?_ | (refine goX ?_; intro))
  exact EK_ret (ER_2 rfl rfl rfl z rfl (Ent.sat (by first | exact Ent.refl _ | exact Ent.last | (repeat (first | refine Ent.cons ?_ | refine Ent.objX ?_ | refine Ent.rowX ?_ | exact Ent.any | exact Ent.last)))))
theorem In_spec {p : Option Addr} {c : Nat} (hl : l.length ≤ 140737488355328) [s : Src W F p l.length (bytesR l)] [r : Room W F p l.length c] (addr port : Nat) (ha : addr < 4294967296) (hp : port < 65536) : Spec Tryz.prog 83 [.slice p l.length c, .int .u32 (addr : Int), .int .u16 (port : Int)] W F (fun z : Slab => rwV z (rwT l false addr port) (readE l)) (fun z => RwO z (rwT l false addr port) F) := by
  refine Spec.of Tryz.func83 rfl Tryz.ntmps83 rfl ?_
  repeat (first | refine go ?_ | (refine goX ?_; intro))
  refine EL_call rfl (change_spec (out := false) hl addr port ha hp) ?_
  intro z
  repeat (first | refine go ?_ | (refine goX ?_; intro))
  exact EK_ret (ER_2 rfl rfl rfl z rfl (Ent.sat (by first | exact Ent.refl _ | exact Ent.last | (repeat (first | refine Ent.cons ?_ | refine Ent.objX ?_ | refine Ent.rowX ?_ | exact Ent.any | exact Ent.last)))))
theorem rget_spec (i : Nat) (h : i + 1 < l.length) (hi : i ≤ 9000000) : Spec Tryz.prog 97 [.slice q.1 l.length q.2, .int .i64 (i : Int)] W (RwO q l F) (fun _ : Unit => .int .u16 (w2 l i : Int)) (fun _ => RwO q l F) := by
  refine Spec.of Tryz.func97 rfl Tryz.ntmps97 rfl ?_
  have h0 := b1_lt l i
  have h1 := b1_lt l (i + 1)
  simp only [RwO]
  repeat (first | refine go ?_ | (refine goX ?_; intro))
  refine EK_sink 99 (RowC 5 1 q.1 l.length q.2 (bytesR l) * F) rfl rfl rfl ?_
  repeat (first | refine goQ ?_ | refine EG_done (by decide +kernel) ?_)
  repeat (first | refine go ?_ | (refine goX ?_; intro))
  exact EK_ret (ER_1 rfl rfl () (by rw [or8 h0 h1]; rfl) (Ent.sat (by first | exact Ent.refl _ | exact Ent.last | (repeat (first | refine Ent.cons ?_ | refine Ent.objX ?_ | refine Ent.rowX ?_ | exact Ent.any | exact Ent.last)))))
theorem rset_spec (i n : Nat) (h : i + 1 < l.length) (hi : i ≤ 9000000) : Spec Tryz.prog 67 [.slice q.1 l.length q.2, .int .i64 (i : Int), .int .u16 (n : Int)] W (RwO q l F) (fun _ : Unit => .tuple #[]) (fun _ => RwO q (st2 l i n) F) := by
  refine Spec.of Tryz.func67 rfl Tryz.ntmps67 rfl ?_
  simp only [RwO, st2_len]
  unfold st2
  have hs : (l.set i (u8 (n / 256))).length = l.length := List.length_set
  repeat (first | refine go ?_ | (refine goX ?_; intro))
  rw [show (n : Int) / 2 ^ Int.toNat 8 = ((n / 256 : Nat) : Int) from shr_n n 8, u8_val, u8_val]
  repeat (first | refine go ?_ | (refine goX ?_; intro))
  exact EK_end (EN_0 rfl () rfl (Ent.sat (by first | exact Ent.refl _ | exact Ent.last | (repeat (first | refine Ent.cons ?_ | refine Ent.objX ?_ | refine Ent.rowX ?_ | exact Ent.any | exact Ent.last)))))
theorem rFixWide_spec {s old now : Nat} (h1 : s < 65536) (h2 : old < 4294967296) (h3 : now < 4294967296) : Spec Tryz.prog 98 [.int .u16 (s : Int), .int .u32 (old : Int), .int .u32 (now : Int)] W F (fun _ : Unit => .int .u16 (fixW s old now : Int)) (fun _ => F) := by
  refine Spec.of Tryz.func98 rfl Tryz.ntmps98 rfl ?_
  repeat (first | refine go ?_ | (refine goX ?_; intro))
  rw [show (old : Int) / 2 ^ Int.toNat 16 = ((old / 65536 : Nat) : Int) from shr_n old 16, show (now : Int) / 2 ^ Int.toNat 16 = ((now / 65536 : Nat) : Int) from shr_n now 16, w16 (a := old / 65536) (by omega), w16 (a := now / 65536) (by omega)]
  refine EL_call rfl (rFix_spec h1 (by omega) (by omega)) ?_
  intro _
  have hf := fixN_lt s (old / 65536) (now / 65536)
  repeat (first | refine go ?_ | (refine goX ?_; intro))
  rw [w16m old, w16m now]
  refine EL_call rfl (rFix_spec hf (by omega) (by omega)) ?_
  intro _
  repeat (first | refine go ?_ | (refine goX ?_; intro))
  exact EK_ret (ER_1 rfl rfl () rfl (Ent.sat (by first | exact Ent.refl _ | exact Ent.last | (repeat (first | refine Ent.cons ?_ | refine Ent.objX ?_ | refine Ent.rowX ?_ | exact Ent.any | exact Ent.last)))))
theorem raddr_spec (head place addr : Nat) (h : head + 11 < l.length) (hp : place + 3 < l.length) (hi : head ≤ 100000) (hi2 : place ≤ 100000) (ha : addr < 4294967296) : Spec Tryz.prog 64 [.slice q.1 l.length q.2, .int .i64 (head : Int), .int .i64 (place : Int), .int .u32 (addr : Int)] W (RwO q l F) (fun _ : Unit => .int .u32 (w4 l place : Int)) (fun _ => RwO q (adT l head place addr) F) := by
  refine Spec.of Tryz.func64 rfl Tryz.ntmps64 rfl ?_
  have h0 := w2_lt l place
  have h2 := w2_lt l (place + 2)
  have hw := w4_lt l place
  repeat (first | refine go ?_ | (refine goX ?_; intro))
  refine EL_call rfl (rget_spec place (by omega) (by omega)) ?_
  intro _
  repeat (first | refine go ?_ | (refine goX ?_; intro))
  refine EL_call rfl (rget_spec (place + 2) (by omega) (by omega)) ?_
  intro _
  repeat (first | refine go ?_ | (refine goX ?_; intro))
  rw [or16 h0 h2, show w2 l place * 65536 + w2 l (place + 2) = w4 l place from rfl, show (addr : Int) / 2 ^ Int.toNat 16 = ((addr / 65536 : Nat) : Int) from shr_n addr 16, w16 (a := addr / 65536) (by omega)]
  have n1 : (st2 l place (addr / 65536)).length = l.length := st2_len _ _ _
  refine EL_call rfl (rset_spec place (addr / 65536) (by omega) (by omega)) ?_
  intro _
  obtain ⟨l1, e1⟩ : ∃ y, st2 l place (addr / 65536) = y := ⟨_, rfl⟩
  unfold adT
  dsimp only
  rw [e1] at n1 ⊢
  rw [← n1]
  repeat (first | refine go ?_ | (refine goX ?_; intro))
  rw [w16m]
  refine EL_call rfl (rset_spec (place + 2) (addr % 65536) (by omega) (by omega)) ?_
  intro _
  have n2 : (st2 l1 (place + 2) (addr % 65536)).length = l1.length := st2_len _ _ _
  obtain ⟨l2, e2⟩ : ∃ y, st2 l1 (place + 2) (addr % 65536) = y := ⟨_, rfl⟩
  rw [e2] at n2 ⊢
  rw [← n2]
  have hx := fixW_lt (w2 l2 (head + 10)) (w4 l place) addr
  repeat (first | refine go ?_ | (refine goX ?_; intro))
  refine EL_call rfl (rget_spec (head + 10) (by omega) (by omega)) ?_
  intro _
  repeat (first | refine go ?_ | (refine goX ?_; intro))
  refine EL_call rfl (rFixWide_spec (w2_lt l2 (head + 10)) hw ha) ?_
  intro _
  repeat (first | refine go ?_ | (refine goX ?_; intro))
  refine EL_call rfl (rset_spec (head + 10) _ (by omega) (by omega)) ?_
  intro _
  repeat (first | refine go ?_ | (refine goX ?_; intro))
  exact EK_ret (ER_1 rfl rfl () rfl (Ent.sat (by simp only [RwO]; first | exact Ent.refl _ | exact Ent.last | (repeat (first | refine Ent.cons ?_ | refine Ent.objX ?_ | refine Ent.rowX ?_ | exact Ent.any | exact Ent.last)))))
theorem recho_spec (i id : Nat) (h : i + 5 < l.length) (hi : i ≤ 100000) (hd : id < 65536) : Spec Tryz.prog 65 [.slice q.1 l.length q.2, .int .i64 (i : Int), .int .u16 (id : Int)] W (RwO q l F) (fun _ : Unit => .tuple #[]) (fun _ => RwO q (echoT l i id) F) := by
  refine Spec.of Tryz.func65 rfl Tryz.ntmps65 rfl ?_
  have hf := fixN_lt (w2 l (i + 2)) (w2 l (i + 4)) id
  have n1 : (st2 l (i + 4) id).length = l.length := st2_len _ _ _
  repeat (first | refine go ?_ | (refine goX ?_; intro))
  refine EL_call rfl (rget_spec (i + 2) (by omega) (by omega)) ?_
  intro _
  repeat (first | refine go ?_ | (refine goX ?_; intro))
  refine EL_call rfl (rget_spec (i + 4) (by omega) (by omega)) ?_
  intro _
  repeat (first | refine go ?_ | (refine goX ?_; intro))
  refine EL_call rfl (rFix_spec (w2_lt l (i + 2)) (w2_lt l (i + 4)) hd) ?_
  intro _
  repeat (first | refine go ?_ | (refine goX ?_; intro))
  refine EL_call rfl (rset_spec (i + 4) id (by omega) (by omega)) ?_
  intro _
  unfold echoT neverZ
  obtain ⟨l1, e1⟩ : ∃ y, st2 l (i + 4) id = y := ⟨_, rfl⟩
  rw [e1] at n1 ⊢
  rw [← n1]
  by_cases hz : fixN (w2 l (i + 2)) (w2 l (i + 4)) id = 0
  · rw [if_pos hz]
    repeat (first | refine go ?_ | (refine goX ?_; intro))
    refine EL_call rfl (rset_spec (i + 2) 65535 (by omega) (by omega)) ?_
    intro _
    repeat (first | refine go ?_ | (refine goX ?_; intro))
    exact EK_end (EN_0 rfl () rfl (Ent.sat (by simp only [RwO]; first | exact Ent.refl _ | exact Ent.last | (repeat (first | refine Ent.cons ?_ | refine Ent.objX ?_ | refine Ent.rowX ?_ | exact Ent.any | exact Ent.last)))))
  · rw [if_neg hz]
    repeat (first | refine go ?_ | (refine goX ?_; intro))
    refine EL_call rfl (rset_spec (i + 2) _ (by omega) (by omega)) ?_
    intro _
    repeat (first | refine go ?_ | (refine goX ?_; intro))
    exact EK_end (EN_0 rfl () rfl (Ent.sat (by simp only [RwO]; first | exact Ent.refl _ | exact Ent.last | (repeat (first | refine Ent.cons ?_ | refine Ent.objX ?_ | refine Ent.rowX ?_ | exact Ent.any | exact Ent.last)))))
theorem rcar_spec (pos proto port old addr : Nat) (src : Bool) (h : pos + 3 < l.length) (hi : pos ≤ 100000) (hp : port < 65536) (ho : old < 4294967296) (ha : addr < 4294967296) (hl : l.length ≤ 1000000) : Spec Tryz.prog 66 [.slice q.1 l.length q.2, .int .i64 (pos : Int), .int .i64 (proto : Int), .bool src, .int .u16 (port : Int), .int .u32 (old : Int), .int .u32 (addr : Int)] W (RwO q l F) (fun _ : Unit => .tuple #[]) (fun _ => RwO q (carT l pos proto src port old addr) F) := by
  refine Spec.of Tryz.func66 rfl Tryz.ntmps66 rfl ?_
  by_cases g1 : proto = 17
  · cases src with
    | false =>
      have eP : placeT pos false = (pos + 2) := rfl
      have eS : sumAtT pos proto = (pos + 6) := if_pos g1
      unfold carT carS
      rw [eP, eS]
      have wP := w2_lt l (pos + 2)
      have n1 : (st2 l (pos + 2) port).length = l.length := st2_len _ _ _
      repeat (first | refine go ?_ | (refine goX ?_; intro))
      refine EL_call rfl (rget_spec (pos + 2) (by omega) (by omega)) ?_
      intro _
      repeat (first | refine go ?_ | (refine goX ?_; intro))
      refine EL_call rfl (rset_spec (pos + 2) port (by omega) (by omega)) ?_
      intro _
      obtain ⟨l1, h1⟩ : ∃ l1, st2 l (pos + 2) port = l1 := ⟨_, rfl⟩
      rw [h1] at n1 ⊢
      rw [← n1]
      by_cases g2 : l1.length < (pos + 6) + 2
      · rw [if_pos (Or.inl g2)]
        repeat (first | refine go ?_ | (refine goX ?_; intro))
        exact EK_ret (ER_0 rfl () rfl (Ent.sat (by simp only [RwO]; first | exact Ent.refl _ | exact Ent.last | (repeat (first | refine Ent.cons ?_ | refine Ent.objX ?_ | refine Ent.rowX ?_ | exact Ent.any | exact Ent.last)))))
      have wS := w2_lt l1 (pos + 6)
      have lW := fixW_lt (w2 l1 (pos + 6)) old addr
      have lF := fixN_lt (fixW (w2 l1 (pos + 6)) old addr) (w2 l (pos + 2)) port
      repeat (first | refine go ?_ | (refine goX ?_; intro))
      refine EL_call rfl (rget_spec (pos + 6) (by omega) (by omega)) ?_
      intro _
      by_cases g3 : w2 l1 (pos + 6) = 0
      · rw [if_pos (Or.inr ⟨g1, g3⟩)]
        repeat (first | refine go ?_ | (refine goX ?_; intro))
        exact EK_ret (ER_0 rfl () rfl (Ent.sat (by simp only [RwO]; first | exact Ent.refl _ | exact Ent.last | (repeat (first | refine Ent.cons ?_ | refine Ent.objX ?_ | refine Ent.rowX ?_ | exact Ent.any | exact Ent.last)))))
      rw [if_neg (fun g => g.elim g2 fun g => g3 g.2), if_pos g1]
      repeat (first | refine go ?_ | (refine goX ?_; intro))
      refine EL_call rfl (rget_spec (pos + 6) (by omega) (by omega)) ?_
      intro _
      repeat (first | refine go ?_ | (refine goX ?_; intro))
      refine EL_call rfl (rFixWide_spec wS ho ha) ?_
      intro _
      repeat (first | refine go ?_ | (refine goX ?_; intro))
      refine EL_call rfl (rFix_spec lW wP hp) ?_
      intro _
      unfold neverZ
      by_cases g4 : fixN (fixW (w2 l1 (pos + 6)) old addr) (w2 l (pos + 2)) port = 0
      · rw [if_pos g4]
        repeat (first | refine go ?_ | (refine goX ?_; intro))
        refine EL_call rfl (rset_spec (pos + 6) 65535 (by omega) (by omega)) ?_
        intro _
        repeat (first | refine go ?_ | (refine goX ?_; intro))
        exact EK_end (EN_0 rfl () rfl (Ent.sat (by simp only [RwO]; first | exact Ent.refl _ | exact Ent.last | (repeat (first | refine Ent.cons ?_ | refine Ent.objX ?_ | refine Ent.rowX ?_ | exact Ent.any | exact Ent.last)))))
      · rw [if_neg g4]
        repeat (first | refine go ?_ | (refine goX ?_; intro))
        refine EL_call rfl (rset_spec (pos + 6) _ (by omega) (by omega)) ?_
        intro _
        repeat (first | refine go ?_ | (refine goX ?_; intro))
        exact EK_end (EN_0 rfl () rfl (Ent.sat (by simp only [RwO]; first | exact Ent.refl _ | exact Ent.last | (repeat (first | refine Ent.cons ?_ | refine Ent.objX ?_ | refine Ent.rowX ?_ | exact Ent.any | exact Ent.last)))))
    | true =>
      have eP : placeT pos true = pos := rfl
      have eS : sumAtT pos proto = (pos + 6) := if_pos g1
      unfold carT carS
      rw [eP, eS]
      have wP := w2_lt l pos
      have n1 : (st2 l pos port).length = l.length := st2_len _ _ _
      repeat (first | refine go ?_ | (refine goX ?_; intro))
      refine EL_call rfl (rget_spec pos (by omega) (by omega)) ?_
      intro _
      repeat (first | refine go ?_ | (refine goX ?_; intro))
      refine EL_call rfl (rset_spec pos port (by omega) (by omega)) ?_
      intro _
      obtain ⟨l1, h1⟩ : ∃ l1, st2 l pos port = l1 := ⟨_, rfl⟩
      rw [h1] at n1 ⊢
      rw [← n1]
      by_cases g2 : l1.length < (pos + 6) + 2
      · rw [if_pos (Or.inl g2)]
        repeat (first | refine go ?_ | (refine goX ?_; intro))
        exact EK_ret (ER_0 rfl () rfl (Ent.sat (by simp only [RwO]; first | exact Ent.refl _ | exact Ent.last | (repeat (first | refine Ent.cons ?_ | refine Ent.objX ?_ | refine Ent.rowX ?_ | exact Ent.any | exact Ent.last)))))
      have wS := w2_lt l1 (pos + 6)
      have lW := fixW_lt (w2 l1 (pos + 6)) old addr
      have lF := fixN_lt (fixW (w2 l1 (pos + 6)) old addr) (w2 l pos) port
      repeat (first | refine go ?_ | (refine goX ?_; intro))
      refine EL_call rfl (rget_spec (pos + 6) (by omega) (by omega)) ?_
      intro _
      by_cases g3 : w2 l1 (pos + 6) = 0
      · rw [if_pos (Or.inr ⟨g1, g3⟩)]
        repeat (first | refine go ?_ | (refine goX ?_; intro))
        exact EK_ret (ER_0 rfl () rfl (Ent.sat (by simp only [RwO]; first | exact Ent.refl _ | exact Ent.last | (repeat (first | refine Ent.cons ?_ | refine Ent.objX ?_ | refine Ent.rowX ?_ | exact Ent.any | exact Ent.last)))))
      rw [if_neg (fun g => g.elim g2 fun g => g3 g.2), if_pos g1]
      repeat (first | refine go ?_ | (refine goX ?_; intro))
      refine EL_call rfl (rget_spec (pos + 6) (by omega) (by omega)) ?_
      intro _
      repeat (first | refine go ?_ | (refine goX ?_; intro))
      refine EL_call rfl (rFixWide_spec wS ho ha) ?_
      intro _
      repeat (first | refine go ?_ | (refine goX ?_; intro))
      refine EL_call rfl (rFix_spec lW wP hp) ?_
      intro _
      unfold neverZ
      by_cases g4 : fixN (fixW (w2 l1 (pos + 6)) old addr) (w2 l pos) port = 0
      · rw [if_pos g4]
        repeat (first | refine go ?_ | (refine goX ?_; intro))
        refine EL_call rfl (rset_spec (pos + 6) 65535 (by omega) (by omega)) ?_
        intro _
        repeat (first | refine go ?_ | (refine goX ?_; intro))
        exact EK_end (EN_0 rfl () rfl (Ent.sat (by simp only [RwO]; first | exact Ent.refl _ | exact Ent.last | (repeat (first | refine Ent.cons ?_ | refine Ent.objX ?_ | refine Ent.rowX ?_ | exact Ent.any | exact Ent.last)))))
      · rw [if_neg g4]
        repeat (first | refine go ?_ | (refine goX ?_; intro))
        refine EL_call rfl (rset_spec (pos + 6) _ (by omega) (by omega)) ?_
        intro _
        repeat (first | refine go ?_ | (refine goX ?_; intro))
        exact EK_end (EN_0 rfl () rfl (Ent.sat (by simp only [RwO]; first | exact Ent.refl _ | exact Ent.last | (repeat (first | refine Ent.cons ?_ | refine Ent.objX ?_ | refine Ent.rowX ?_ | exact Ent.any | exact Ent.last)))))
  · cases src with
    | false =>
      have eP : placeT pos false = (pos + 2) := rfl
      have eS : sumAtT pos proto = (pos + 16) := if_neg g1
      unfold carT carS
      rw [eP, eS]
      have wP := w2_lt l (pos + 2)
      have n1 : (st2 l (pos + 2) port).length = l.length := st2_len _ _ _
      repeat (first | refine go ?_ | (refine goX ?_; intro))
      refine EL_call rfl (rget_spec (pos + 2) (by omega) (by omega)) ?_
      intro _
      repeat (first | refine go ?_ | (refine goX ?_; intro))
      refine EL_call rfl (rset_spec (pos + 2) port (by omega) (by omega)) ?_
      intro _
      obtain ⟨l1, h1⟩ : ∃ l1, st2 l (pos + 2) port = l1 := ⟨_, rfl⟩
      rw [h1] at n1 ⊢
      rw [← n1]
      by_cases g2 : l1.length < (pos + 16) + 2
      · rw [if_pos (Or.inl g2)]
        repeat (first | refine go ?_ | (refine goX ?_; intro))
        exact EK_ret (ER_0 rfl () rfl (Ent.sat (by simp only [RwO]; first | exact Ent.refl _ | exact Ent.last | (repeat (first | refine Ent.cons ?_ | refine Ent.objX ?_ | refine Ent.rowX ?_ | exact Ent.any | exact Ent.last)))))
      have wS := w2_lt l1 (pos + 16)
      have lW := fixW_lt (w2 l1 (pos + 16)) old addr
      have lF := fixN_lt (fixW (w2 l1 (pos + 16)) old addr) (w2 l (pos + 2)) port
      rw [if_neg (fun g => g.elim g2 fun g => g1 g.1), if_neg g1]
      repeat (first | refine go ?_ | (refine goX ?_; intro))
      refine EL_call rfl (rget_spec (pos + 16) (by omega) (by omega)) ?_
      intro _
      repeat (first | refine go ?_ | (refine goX ?_; intro))
      refine EL_call rfl (rFixWide_spec wS ho ha) ?_
      intro _
      repeat (first | refine go ?_ | (refine goX ?_; intro))
      refine EL_call rfl (rFix_spec lW wP hp) ?_
      intro _
      repeat (first | refine go ?_ | (refine goX ?_; intro))
      refine EL_call rfl (rset_spec (pos + 16) _ (by omega) (by omega)) ?_
      intro _
      repeat (first | refine go ?_ | (refine goX ?_; intro))
      exact EK_end (EN_0 rfl () rfl (Ent.sat (by simp only [RwO]; first | exact Ent.refl _ | exact Ent.last | (repeat (first | refine Ent.cons ?_ | refine Ent.objX ?_ | refine Ent.rowX ?_ | exact Ent.any | exact Ent.last)))))
    | true =>
      have eP : placeT pos true = pos := rfl
      have eS : sumAtT pos proto = (pos + 16) := if_neg g1
      unfold carT carS
      rw [eP, eS]
      have wP := w2_lt l pos
      have n1 : (st2 l pos port).length = l.length := st2_len _ _ _
      repeat (first | refine go ?_ | (refine goX ?_; intro))
      refine EL_call rfl (rget_spec pos (by omega) (by omega)) ?_
      intro _
      repeat (first | refine go ?_ | (refine goX ?_; intro))
      refine EL_call rfl (rset_spec pos port (by omega) (by omega)) ?_
      intro _
      obtain ⟨l1, h1⟩ : ∃ l1, st2 l pos port = l1 := ⟨_, rfl⟩
      rw [h1] at n1 ⊢
      rw [← n1]
      by_cases g2 : l1.length < (pos + 16) + 2
      · rw [if_pos (Or.inl g2)]
        repeat (first | refine go ?_ | (refine goX ?_; intro))
        exact EK_ret (ER_0 rfl () rfl (Ent.sat (by simp only [RwO]; first | exact Ent.refl _ | exact Ent.last | (repeat (first | refine Ent.cons ?_ | refine Ent.objX ?_ | refine Ent.rowX ?_ | exact Ent.any | exact Ent.last)))))
      have wS := w2_lt l1 (pos + 16)
      have lW := fixW_lt (w2 l1 (pos + 16)) old addr
      have lF := fixN_lt (fixW (w2 l1 (pos + 16)) old addr) (w2 l pos) port
      rw [if_neg (fun g => g.elim g2 fun g => g1 g.1), if_neg g1]
      repeat (first | refine go ?_ | (refine goX ?_; intro))
      refine EL_call rfl (rget_spec (pos + 16) (by omega) (by omega)) ?_
      intro _
      repeat (first | refine go ?_ | (refine goX ?_; intro))
      refine EL_call rfl (rFixWide_spec wS ho ha) ?_
      intro _
      repeat (first | refine go ?_ | (refine goX ?_; intro))
      refine EL_call rfl (rFix_spec lW wP hp) ?_
      intro _
      repeat (first | refine go ?_ | (refine goX ?_; intro))
      refine EL_call rfl (rset_spec (pos + 16) _ (by omega) (by omega)) ?_
      intro _
      repeat (first | refine go ?_ | (refine goX ?_; intro))
      exact EK_end (EN_0 rfl () rfl (Ent.sat (by simp only [RwO]; first | exact Ent.refl _ | exact Ent.last | (repeat (first | refine Ent.cons ?_ | refine Ent.objX ?_ | refine Ent.rowX ?_ | exact Ent.any | exact Ent.last)))))
end
end Go.Proofs.YtianbkbehjppoaaGreatDoor

namespace Go.Proofs.YtianbkbehjppoaaGreatDoor
open Go.RowKit
set_option maxRecDepth 10000
attribute [local irreducible] EK EX ER EN EL ES EG OpVal OpDoes OpSkip
variable {W : World} {F : SL} {X : Cx} {k : List KI} {σ : Env}
abbrev clV (x : CallT) (q : Option Addr) (c : Nat) : List Value := [.bool x.out, .slice q x.frame.length c, .int .i64 x.tick, .int .i64 x.port]
def seenP (P : List (Int × BindT)) (i : Int) (x : CallT) (p : PtT) (b : BindT) : List (Int × BindT) := if p.err then P else putL P i (seenB x p b)
theorem seen_spec (n : Option Addr) (cf : Cfg) (m1 m2 : Nat) (P : List (Int × BindT)) (G : List (FlowT × Int)) (i : Int) (b : BindT) (hb : P.lookup i = some b) (ok : b.Ok) (x : CallT) (q : Option Addr) (c : Nat) (h0 : 0 ≤ x.tick) (p : PtT) (rg : PtRng p) (hp : p.err = false → b.flow.proto = p.proto) :
    Spec Tryz.prog 81 [.pointer n, .int .i64 i, .agg (clV x q c).toArray, .agg (ptV p).toArray] W (MnO n cf m1 m2 P G F) (fun _ : Unit => .tuple #[]) (fun _ => MnO n cf m1 m2 (seenP P i x p b) G F) := by
  refine Spec.of Tryz.func81 rfl Tryz.ntmps81 rfl ?_
  obtain ⟨xo, xf, xt, xp⟩ := x
  obtain ⟨pp, ps, pd, pf, pk, pc, pe, pi, po, pb⟩ := p
  obtain ⟨⟨bp, ba, bq⟩, bo, bt, bs⟩ := b
  obtain ⟨o1, o2, o3, o4, o5, o6⟩ := ok
  have r1 := rg.flags
  have r2 := rg.proto
  dsimp only at *
  cases pe with
  | true =>
    rw [show seenP P i ⟨xo, xf, xt, xp⟩ ⟨pp, ps, pd, pf, pk, pc, true, pi, po, pb⟩ ⟨⟨bp, ba, bq⟩, bo, bt, bs⟩ = P from if_pos rfl]
    repeat (first | refine go ?_ | (refine goX ?_; intro))
    exact EK_ret (ER_0 rfl () rfl (Ent.sat (by first | exact Ent.refl _ | exact Ent.last | (repeat (first | refine Ent.cons ?_ | refine Ent.objX ?_ | refine Ent.rowX ?_ | exact Ent.any | exact Ent.last)))))
  | false =>
    have hp := hp rfl
    subst hp
    repeat (first | refine go ?_ | (refine goX ?_; intro))
    refine EL_val (OpVal_found (ek := kInt) (ev := vBd) hb rfl rfl rfl) rfl ?_
    repeat (first | refine go ?_ | (refine goX ?_; intro))
    refine EL_call rfl (Next_spec bp bt pf xo o5 r1 r2) ?_
    intro _
    repeat (first | refine go ?_ | (refine goX ?_; intro))
    refine EL_call rfl (Renews_spec bp xo) ?_
    intro _
    have e1 : seenP P i ⟨xo, xf, xt, xp⟩ ⟨bp, ps, pd, pf, pk, pc, false, pi, po, pb⟩ ⟨⟨bp, ba, bq⟩, bo, bt, bs⟩ = putL P i ⟨⟨bp, ba, bq⟩, bo, nextT bp bt xo pf, if renewsT bp xo then max bs xt.toNat else bs⟩ := rfl
    rw [e1]
    generalize renewsT bp xo = rn
    generalize nextT bp bt xo pf = nx
    cases rn with
    | true =>
      rw [if_pos rfl]
      repeat (first | refine go ?_ | (refine goX ?_; intro))
      dsimp only
      rw [show max (bs : Int) xt = ((max bs xt.toNat : Nat) : Int) by omega]
      generalize max bs xt.toNat = bz
      repeat (first | refine go ?_ | (refine goX ?_; intro))
      rename_i y _ _
      refine EK_sink 6 (Obj n 85 (mnV cf m1 m2) * (Obj y 128 (bdV ⟨⟨bp, ba, bq⟩, bo, nx, bz⟩) * 1)) rfl rfl rfl ?_
      repeat (first | refine goQ ?_ | refine EG_done (by decide +kernel) ?_)
      refine EG_last rfl (OpSkip_mapUpdate (ek := kInt) (ev := vBd) (v := ⟨⟨bp, ba, bq⟩, bo, nx, bz⟩) rfl rfl rfl rfl) (by decide +kernel) (by decide +kernel) ?_
      repeat (first | refine go ?_ | (refine goX ?_; intro))
      exact EK_end (EN_0 rfl () rfl (Ent.sat (by first | exact Ent.refl _ | exact Ent.last | (repeat (first | refine Ent.cons ?_ | refine Ent.objX ?_ | refine Ent.rowX ?_ | exact Ent.any | exact Ent.last)))))
    | false =>
      rw [if_neg (by decide)]
      repeat (first | refine go ?_ | (refine goX ?_; intro))
      rename_i y _ _
      refine EK_sink 6 (Obj n 85 (mnV cf m1 m2) * (Obj y 128 (bdV ⟨⟨bp, ba, bq⟩, bo, nx, bs⟩) * 1)) rfl rfl rfl ?_
      repeat (first | refine goQ ?_ | refine EG_done (by decide +kernel) ?_)
      refine EG_last rfl (OpSkip_mapUpdate (ek := kInt) (ev := vBd) (v := ⟨⟨bp, ba, bq⟩, bo, nx, bs⟩) rfl rfl rfl rfl) (by decide +kernel) (by decide +kernel) ?_
      repeat (first | refine go ?_ | (refine goX ?_; intro))
      exact EK_end (EN_0 rfl () rfl (Ent.sat (by first | exact Ent.refl _ | exact Ent.last | (repeat (first | refine Ent.cons ?_ | refine Ent.objX ?_ | refine Ent.rowX ?_ | exact Ent.any | exact Ent.last)))))
end Go.Proofs.YtianbkbehjppoaaGreatDoor

namespace Go.Proofs.YtianbkbehjppoaaGreatDoor
open Go.RowKit
set_option maxRecDepth 10000
attribute [local irreducible] EK EX ER EN EL ES EG OpVal OpDoes OpSkip
variable {W : World} {F : SL} {X : Cx} {k : List KI} {σ : Env}
theorem who_proto {out : Bool} {l : List UInt8} (h : readE l = 0) (he : (frP l).err = false) : (whoF out l).proto = (frP l).proto := by
  have h1 : headE false l = 0 := by
    unfold readE at h
    split at h
    · assumption
    · exact absurd h (by assumption)
  have h2 : partE (headH l) l = 0 := by
    unfold readE at h
    rwa [if_pos h1] at h
  have h3 : (whoF out l).proto = (headH l).proto := by
    unfold whoF inF outF
    split <;> rw [if_neg (by rw [he]; decide)]
  rw [h3]
  unfold frP partP
  unfold partE at h2
  split
  · assumption
  rename_i g1
  rw [if_neg g1] at h2
  split
  · assumption
  rename_i g2
  rw [if_neg g2] at h2
  split at h2
  · rename_i g3
    rw [g3]
    unfold icmpP faultP
    split <;> rfl
  · cases h2
section
variable {q : Option Addr} {c : Nat}
/-- What is told. -/
abbrev anV (z : Slab) (a : AnsT) : Value := .agg #[.slice z.1 a.frame.length z.2, .int .i64 (a.err : Int)]
theorem Out_int {l : List UInt8} (hl : l.length ≤ 140737488355328) [s : Src W F q l.length (bytesR l)] [r : Room W F q l.length c] (addr port : Int) (ha : 0 ≤ addr ∧ addr < 4294967296) (hp : 0 ≤ port ∧ port < 65536) : Spec Tryz.prog 106 [.slice q l.length c, .int .u32 addr, .int .u16 port] W F (fun z : Slab => rwV z (rwT l true addr.toNat port.toNat) (readE l)) (fun z => RwO z (rwT l true addr.toNat port.toNat) F) := by
  have h := Out_spec (W := W) (F := F) (p := q) (c := c) hl addr.toNat port.toNat (by omega) (by omega)
  rwa [show ((addr.toNat : Nat) : Int) = addr by omega, show ((port.toNat : Nat) : Int) = port by omega] at h
theorem seen_maps {cf : Cfg} {L : List BindT} {P : List (Int × BindT)} {G : List (FlowT × Int)} (hN : NatOk cf L) (hm : MapsOk cf L P G) {i : Nat} {b : BindT} (hb : L[i]? = some b) (x : CallT) (p : PtT) : MapsOk cf (L.modify i (seenB x p)) (seenP P (placeB cf b) x p b) G := by
  unfold seenP
  split
  · rename_i h
    have : seenB x p = id := by
      funext b
      unfold seenB
      rw [if_pos h]
      rfl
    rw [this, modify_set id hb]
    have : L.set i (id b) = L := by
      have := List.getElem?_eq_some_iff.1 hb
      obtain ⟨h1, h2⟩ := this
      rw [← h2]
      exact List.set_getElem_self h1
    rw [this]
    exact hm
  · exact hm.upd hN hb _ (fun b => (seenB_flow x p b).1) (fun b => seenB_place cf x p b)
theorem out_spec (n : Option Addr) (cf : Cfg) (hf : cf.Fit) (hg : cf.Good) (m1 m2 : Nat) {L : List BindT} {P : List (Int × BindT)} {G : List (FlowT × Int)} (hN : NatOk cf L) (hm : MapsOk cf L P G) (x : CallT) (hx : x.out = true) (hl : x.frame.length ≤ 140737488355328) [s : Src W F q x.frame.length (bytesR x.frame)] [r : Room W F q x.frame.length c]
    (ht : 0 ≤ x.tick ∧ x.tick ≤ 4294967295) (hp : I64 x.port) (hw : whoE cf.o.toNat true x.frame = 0) :
    Spec Tryz.prog 80 [.pointer n, .agg (clV x q c).toArray, .agg (flV (whoF true x.frame)).toArray, .agg (ptV (frP x.frame)).toArray] W (MnO n cf m1 m2 P G F) (fun z : Slab => anV z (stepT cf L x)) (fun z => RowC 5 1 z.1 (stepT cf L x).frame.length z.2 (bytesR (stepT cf L x).frame) * (MnC n cf (stepT cf L x).L * F)) := by
  refine Spec.of Tryz.func80 rfl Tryz.ntmps80 rfl ?_
  obtain ⟨xo, xf, xt, xp⟩ := x
  dsimp only at *
  subst hx
  have hR : readE xf = 0 := by
    unfold whoE at hw
    split at hw
    · exact absurd hw (by assumption)
    · omega
  have rg : PtRng (frP xf) := PtRng.of (headH xf) xf
  have eS : stepT cf L ⟨true, xf, xt, xp⟩ = _ := rfl
  conv at eS => rhs; unfold stepT
  rw [if_neg (by dsimp only; omega), if_neg (by dsimp only; omega)] at eS
  have wp := fun h => who_proto (out := true) hR h
  have wo := whoF_ok true xf
  dsimp only at eS
  have hBg := Begins_model (W := W) hl (s := s) (r := r) true
  generalize hww : whoF true xf = w at *
  generalize hpp : frP xf = p at *
  obtain ⟨wo1, wo2, wo3⟩ := wo
  have fo := hf.o
  have eo : ((cf.o.toNat : Nat) : Int) = cf.o := by omega
  cases hi : L.findIdx? (isB true w) with
  | some i =>
    rw [hi] at eS
    dsimp only at eS
    obtain ⟨b, hb, e⟩ := findIdx_some hi
    have hbm := List.mem_of_getElem? hb
    have ew : b.flow = w := by simpa [isB] using e
    have hG : G.lookup w = some (placeB cf b) := by rw [← ew]; exact hm.gl hN hbm
    have hP : P.lookup (placeB cf b) = some b := hm.pl hN hbm
    repeat (first | refine go ?_ | (refine goX ?_; intro))
    rename_i oc ob op ow
    refine EK_sink 99 (Obj n 85 (mnV cf m1 m2) * (Obj ob 126 (flV w) * (MapC kFl kInt m2 G * 1))) rfl rfl rfl ?_
    repeat (first | refine goQ ?_ | refine EG_done (by decide +kernel) ?_)
    refine EG_takeQ 0 rfl rfl rfl rfl (OpVal_foundOk (ek := kFl) (ev := kInt) hG rfl rfl rfl) (by decide +kernel) (by first | exact Ent.refl _ | exact Ent.last | (repeat (first | refine Ent.cons ?_ | refine Ent.objX ?_ | refine Ent.rowX ?_ | exact Ent.any | exact Ent.last))) rfl ?_
    repeat (first | refine goQ ?_ | refine EG_done (by decide +kernel) ?_)
    repeat (first | refine go ?_ | (refine goX ?_; intro))
    refine EL_call rfl (Spec.mn n (seen_spec n cf m1 m2 P G (placeB cf b) b hP (hN.ok b hbm) ⟨true, xf, xt, xp⟩ q c ht.1 p rg (fun h => by rw [ew]; exact wp h))) ?_
    intro _
    have hm' := seen_maps hN hm hb ⟨true, xf, xt, xp⟩ p
    have hN' := hN.modify ⟨true, xf, xt, xp⟩ p ht.2 i
    have hb' : (L.modify i (seenB ⟨true, xf, xt, xp⟩ p))[i]? = some (seenB ⟨true, xf, xt, xp⟩ p b) := by
      rw [List.getElem?_modify, hb]
      simp
    have hP' := hm'.pl hN' (List.mem_of_getElem? hb')
    rw [seenB_place] at hP'
    have hk' := (hN'.ok _ (List.mem_of_getElem? hb')).port
    have fp := (seenB_flow ⟨true, xf, xt, xp⟩ p b).2
    have hgd : L.getD i ⟨fl0, 0, 0, 0⟩ = b := by simp [hb]
    rw [hgd, if_pos rfl, ← fp] at eS
    clear hgd
    generalize hP2 : seenP P (placeB cf b) ⟨true, xf, xt, xp⟩ p b = P2 at *
    generalize hb2 : seenB ⟨true, xf, xt, xp⟩ p b = b2 at *
    generalize hL2 : L.modify i (seenB ⟨true, xf, xt, xp⟩ p) = L2 at *
    repeat (first | refine go ?_ | (refine goX ?_; intro))
    refine EK_sink 19 (Obj n 85 (mnV cf m1 m2) * (Obj oc 44 (clV ⟨true, xf, xt, xp⟩ q c) * (MapC kInt vBd m1 P2 * 1))) rfl rfl rfl ?_
    repeat (first | refine goQ ?_ | refine EG_done (by decide +kernel) ?_)
    refine EG_takeQ 0 rfl rfl rfl rfl (OpVal_found (ek := kInt) (ev := vBd) hP' rfl rfl rfl) (by decide +kernel) (by first | exact Ent.refl _ | exact Ent.last | (repeat (first | refine Ent.cons ?_ | refine Ent.objX ?_ | refine Ent.rowX ?_ | exact Ent.any | exact Ent.last))) rfl ?_
    repeat (first | refine goQ ?_ | refine EG_done (by decide +kernel) ?_)
    refine EG_callQ rfl rfl rfl rfl rfl (Out_int (l := xf) hl cf.o b2.port (by omega) (by omega)) (fun _ => by first | exact Ent.refl _ | exact Ent.last | (repeat (first | refine Ent.cons ?_ | refine Ent.objX ?_ | refine Ent.rowX ?_ | exact Ent.any | exact Ent.last))) ?_
    intro z
    repeat (first | refine goQ ?_ | refine EG_done (by decide +kernel) ?_)
    refine EG_callQ rfl rfl rfl rfl rfl (told_spec z.1 _ z.2 _) (fun _ => by first | exact Ent.refl _ | exact Ent.last | (repeat (first | refine Ent.cons ?_ | refine Ent.objX ?_ | refine Ent.rowX ?_ | exact Ent.any | exact Ent.last))) ?_
    intro _
    repeat (first | refine goG ?_ | (refine goGX ?_; intro) | refine goGL ?_ | refine goGS ?_ | refine goGV ?_ | refine EG_done (by decide +kernel) ?_)
    repeat (first | refine go ?_ | (refine goX ?_; intro))
    rw [eS, hR, Int.toNat_natCast]
    exact EK_ret (ER_c1 (rv := .cell 8 47) rfl ⟨_, rfl, LoadsV.agg rfl⟩ z rfl (Ent.sat (Ent.cons (Ent.trans (by first | exact Ent.refl _ | exact Ent.last | (repeat (first | refine Ent.cons ?_ | refine Ent.objX ?_ | refine Ent.rowX ?_ | exact Ent.any | exact Ent.last))) (MnC.shut (m1 := m1) (m2 := m2) hm')))))
  | none =>
    rw [hi] at eS
    dsimp only at eS
    have hn := findIdx_none hi
    have hG : G.lookup w = none := hm.g0 fun b hb e => by
      have := hn b hb
      simp [isB, e] at this
    repeat (first | refine go ?_ | (refine goX ?_; intro))
    rename_i oc ob op ow
    refine EK_sink 99 (Obj n 85 (mnV cf m1 m2) * (Obj ob 126 (flV w) * (MapC kFl kInt m2 G * 1))) rfl rfl rfl ?_
    repeat (first | refine goQ ?_ | refine EG_done (by decide +kernel) ?_)
    refine EG_takeQ 0 rfl rfl rfl rfl (OpVal_missOk (ek := kFl) (ev := kInt) hG rfl rfl rfl) (by decide +kernel) (by first | exact Ent.refl _ | exact Ent.last | (repeat (first | refine Ent.cons ?_ | refine Ent.objX ?_ | refine Ent.rowX ?_ | exact Ent.any | exact Ent.last))) rfl ?_
    repeat (first | refine goQ ?_ | refine EG_done (by decide +kernel) ?_)
    repeat (first | refine go ?_ | (refine goX ?_; intro))
    refine EL_call rfl (Begins_model hl true) ?_
    intro _
    generalize begF true xf = bg at *
    cases bg with
    | false =>
      rw [if_pos rfl] at eS
      repeat (first | refine go ?_ | (refine goX ?_; intro))
      rw [eS]
      exact EK_ret (ER_c1 (rv := .cell 8 47) rfl ⟨_, rfl, LoadsV.agg rfl⟩ ((none, 0) : Slab) rfl (Ent.sat (Ent.none (Ent.trans (by first | exact Ent.refl _ | exact Ent.last | (repeat (first | refine Ent.cons ?_ | refine Ent.objX ?_ | refine Ent.rowX ?_ | exact Ent.any | exact Ent.last))) (MnC.shut (m1 := m1) (m2 := m2) hm)))))
    | true =>
      rw [if_neg (by decide)] at eS
      by_cases g1 : xp = -1
      · rw [if_pos g1] at eS
        repeat (first | refine go ?_ | (refine goX ?_; intro))
        rw [eS]
        exact EK_ret (ER_c1 (rv := .cell 8 47) rfl ⟨_, rfl, LoadsV.agg rfl⟩ ((none, 0) : Slab) rfl (Ent.sat (Ent.none (Ent.trans (by first | exact Ent.refl _ | exact Ent.last | (repeat (first | refine Ent.cons ?_ | refine Ent.objX ?_ | refine Ent.rowX ?_ | exact Ent.any | exact Ent.last))) (MnC.shut (m1 := m1) (m2 := m2) hm)))))
      rw [if_neg g1] at eS
      by_cases g2 : xp = -2
      · rw [if_pos g2] at eS
        repeat (first | refine go ?_ | (refine goX ?_; intro))
        rw [eS]
        exact EK_ret (ER_c1 (rv := .cell 8 47) rfl ⟨_, rfl, LoadsV.agg rfl⟩ ((none, 0) : Slab) rfl (Ent.sat (Ent.none (Ent.trans (by first | exact Ent.refl _ | exact Ent.last | (repeat (first | refine Ent.cons ?_ | refine Ent.objX ?_ | refine Ent.rowX ?_ | exact Ent.any | exact Ent.last))) (MnC.shut (m1 := m1) (m2 := m2) hm)))))
      rw [if_neg g2] at eS
      generalize hat : placeN cf w.proto xp = at0 at *
      repeat (first | refine go ?_ | (refine goX ?_; intro))
      refine EK_sink 99 (Obj n 85 (mnV cf m1 m2) * (Obj ob 126 (flV w) * (Obj oc 44 (clV ⟨true, xf, xt, xp⟩ q c) * 1))) rfl rfl rfl ?_
      repeat (first | refine goQ ?_ | refine EG_done (by decide +kernel) ?_)
      refine EG_callQ rfl rfl rfl rfl rfl (Place_spec cf hf w.proto xp hp) (fun _ => by first | exact Ent.refl _ | exact Ent.last | (repeat (first | refine Ent.cons ?_ | refine Ent.objX ?_ | refine Ent.rowX ?_ | exact Ent.any | exact Ent.last))) ?_
      intro _
      rw [hat]
      repeat (first | refine goQ ?_ | refine EG_done (by decide +kernel) ?_)
      by_cases g3 : at0 < 0
      · rw [if_pos (Or.inl g3)] at eS
        have hP : P.lookup at0 = none := hm.p0 fun b hb e => by
          have := hN.place b hb
          omega
        repeat (first | refine go ?_ | (refine goX ?_; intro))
        refine EL_val (OpVal_missOk (ek := kInt) (ev := vBd) hP rfl rfl rfl) rfl ?_
        repeat (first | refine go ?_ | (refine goX ?_; intro))
        rw [eS]
        exact EK_ret (ER_c1 (rv := .cell 8 47) rfl ⟨_, rfl, LoadsV.agg rfl⟩ ((none, 0) : Slab) rfl (Ent.sat (Ent.none (Ent.trans (by first | exact Ent.refl _ | exact Ent.last | (repeat (first | refine Ent.cons ?_ | refine Ent.objX ?_ | refine Ent.rowX ?_ | exact Ent.any | exact Ent.last))) (MnC.shut (m1 := m1) (m2 := m2) hm)))))
      have p0 : 0 ≤ placeN cf w.proto xp := by omega
      by_cases g4 : hasB L w.proto xp = true
      · rw [if_pos (Or.inr g4)] at eS
        obtain ⟨a, ha, e⟩ := List.any_eq_true.1 g4
        have e := of_decide_eq_true e
        have e2 : placeB cf a = at0 := by
          rw [← hat]
          exact (place_at p0).2 ⟨by omega, e.2⟩
        have hP : P.lookup at0 = some a := by rw [← e2]; exact hm.pl hN ha
        repeat (first | refine go ?_ | (refine goX ?_; intro))
        refine EL_val (OpVal_foundOk (ek := kInt) (ev := vBd) hP rfl rfl rfl) rfl ?_
        repeat (first | refine go ?_ | (refine goX ?_; intro))
        rw [eS]
        exact EK_ret (ER_c1 (rv := .cell 8 47) rfl ⟨_, rfl, LoadsV.agg rfl⟩ ((none, 0) : Slab) rfl (Ent.sat (Ent.none (Ent.trans (by first | exact Ent.refl _ | exact Ent.last | (repeat (first | refine Ent.cons ?_ | refine Ent.objX ?_ | refine Ent.rowX ?_ | exact Ent.any | exact Ent.last))) (MnC.shut (m1 := m1) (m2 := m2) hm)))))
      rw [if_neg (fun g => g.elim g3 g4)] at eS
      have hP : P.lookup at0 = none := hm.p0 fun b hb e => by
        rw [← hat] at e
        have e := (place_at p0).1 e
        exact g4 (List.any_eq_true.2 ⟨b, hb, decide_eq_true ⟨by omega, e.2⟩⟩)
      obtain ⟨q1, q2, _⟩ := place_le cf _ _ p0
      have hpo := hg.p
      have eport : ((xp.toNat : Nat) : Int) = xp := by omega
      have etick : ((xt.toNat : Nat) : Int) = xt := by omega
      obtain ⟨nb, enb⟩ : ∃ nb : BindT, nb = ⟨w, xp.toNat, nextT w.proto 0 true p.flags, xt.toNat⟩ := ⟨_, rfl⟩
      have ePl : placeB cf nb = at0 := by
        unfold placeB
        rw [enb, ← hat]
        dsimp only
        rw [eport]
      have eV : Value.agg #[.int .i64 (w.proto : Int), .int .u32 (w.addr : Int), .int .u16 (w.port : Int), .int .i64 xp, .int .i64 (nextT w.proto 0 true p.flags : Int), .int .i64 xt] = vBd nb := by
        rw [enb]
        simp [vBd, eport, etick]
      have hm' : MapsOk cf (insB cf nb L) (putL P at0 nb) (putL G w at0) := by
        have := hm.ins (b := nb) (fun a ha e => ?_) (fun a ha e => ?_)
        · rw [ePl] at this
          rw [enb] at this ⊢
          exact this
        · rw [ePl, ← hat] at e
          have e := (place_at p0).1 e
          exact g4 (List.any_eq_true.2 ⟨a, ha, decide_eq_true ⟨by omega, e.2⟩⟩)
        · have := hn a ha
          rw [enb] at e
          simp [isB, e] at this
      repeat (first | refine go ?_ | (refine goX ?_; intro))
      refine EL_val (OpVal_missOk (ek := kInt) (ev := vBd) hP rfl rfl rfl) rfl ?_
      repeat (first | refine go ?_ | (refine goX ?_; intro))
      refine EK_sink 16 (Obj n 85 (mnV cf m1 m2) * (Obj ob 126 (flV w) * (Obj oc 44 (clV ⟨true, xf, xt, xp⟩ q c) * (Obj op 157 (ptV p) * 1)))) rfl rfl rfl ?_
      repeat (first | refine goQ ?_ | refine EG_done (by decide +kernel) ?_)
      refine EG_callQ rfl rfl rfl rfl rfl (Next_spec w.proto 0 p.flags true (by decide) rg.flags wo1) (fun _ => by first | exact Ent.refl _ | exact Ent.last | (repeat (first | refine Ent.cons ?_ | refine Ent.objX ?_ | refine Ent.rowX ?_ | exact Ent.any | exact Ent.last))) ?_
      intro _
      repeat (first | refine goQ ?_ | refine EG_done (by decide +kernel) ?_)
      refine EG_last rfl (OpSkip_mapUpdate (ek := kInt) (ev := vBd) (v := nb) rfl rfl rfl (by rw [← eV]; rfl)) (by decide +kernel) (by decide +kernel) ?_
      repeat (first | refine go ?_ | (refine goX ?_; intro))
      refine EK_sink 6 (Obj n 85 (mnV cf m1 m2) * (Obj ob 126 (flV w) * 1)) rfl rfl rfl ?_
      repeat (first | refine goQ ?_ | refine EG_done (by decide +kernel) ?_)
      refine EG_last rfl (OpSkip_mapUpdate (ek := kFl) (ev := kInt) (k := w) (v := at0) rfl rfl rfl rfl) (by decide +kernel) (by decide +kernel) ?_
      repeat (first | refine go ?_ | (refine goX ?_; intro))
      refine EK_sink 14 (Obj n 85 (mnV cf m1 m2) * (Obj oc 44 (clV ⟨true, xf, xt, xp⟩ q c) * 1)) rfl rfl rfl ?_
      repeat (first | refine goQ ?_ | refine EG_done (by decide +kernel) ?_)
      refine EG_callQ rfl rfl rfl rfl rfl (Out_int (l := xf) hl cf.o xp (by omega) (by omega)) (fun _ => by first | exact Ent.refl _ | exact Ent.last | (repeat (first | refine Ent.cons ?_ | refine Ent.objX ?_ | refine Ent.rowX ?_ | exact Ent.any | exact Ent.last))) ?_
      intro z
      repeat (first | refine goQ ?_ | refine EG_done (by decide +kernel) ?_)
      refine EG_callQ rfl rfl rfl rfl rfl (told_spec z.1 _ z.2 _) (fun _ => by first | exact Ent.refl _ | exact Ent.last | (repeat (first | refine Ent.cons ?_ | refine Ent.objX ?_ | refine Ent.rowX ?_ | exact Ent.any | exact Ent.last))) ?_
      intro _
      repeat (first | refine goG ?_ | (refine goGX ?_; intro) | refine goGL ?_ | refine goGS ?_ | refine goGV ?_ | refine EG_done (by decide +kernel) ?_)
      repeat (first | refine go ?_ | (refine goX ?_; intro))
      rw [eS, hR, ← enb]
      exact EK_ret (ER_c1 (rv := .cell 8 47) rfl ⟨_, rfl, LoadsV.agg rfl⟩ z rfl (Ent.sat (Ent.cons (Ent.trans (by first | exact Ent.refl _ | exact Ent.last | (repeat (first | refine Ent.cons ?_ | refine Ent.objX ?_ | refine Ent.rowX ?_ | exact Ent.any | exact Ent.last))) (MnC.shut (m1 := m1) (m2 := m2) hm')))))
end
end Go.Proofs.YtianbkbehjppoaaGreatDoor

namespace Go.Proofs.YtianbkbehjppoaaGreatDoor
open Go.RowKit
set_option maxRecDepth 10000
attribute [local irreducible] EK EX ER EN EL ES EG OpVal OpDoes OpSkip
variable {W : World} {F : SL} {X : Cx} {k : List KI} {σ : Env}
section
variable {q : Option Addr} {c : Nat}
theorem In_int {l : List UInt8} (hl : l.length ≤ 140737488355328) [s : Src W F q l.length (bytesR l)] [r : Room W F q l.length c] (addr port : Nat) (ha : addr < 4294967296) (hp : port < 65536) : Spec Tryz.prog 83 [.slice q l.length c, .int .u32 (addr : Int), .int .u16 (port : Int)] W F (fun z : Slab => rwV z (rwT l false addr port) (readE l)) (fun z => RwO z (rwT l false addr port) F) := In_spec hl addr port ha hp
theorem out_at (n : Option Addr) (cf : Cfg) (hf : cf.Fit) (hg : cf.Good) (m1 m2 : Nat) {L : List BindT} {P : List (Int × BindT)} {G : List (FlowT × Int)} (hN : NatOk cf L) (hm : MapsOk cf L P G) (x : CallT) (hx : x.out = true) (hl : x.frame.length ≤ 140737488355328) [s : Src W F q x.frame.length (bytesR x.frame)] [r : Room W F q x.frame.length c]
    (ht : 0 ≤ x.tick ∧ x.tick ≤ 4294967295) (hp : I64 x.port) (hw : whoE cf.o.toNat true x.frame = 0) {w : FlowT} {p : PtT} (e1 : whoF true x.frame = w) (e2 : frP x.frame = p) :
    Spec Tryz.prog 80 [.pointer n, .agg (clV x q c).toArray, .agg (flV w).toArray, .agg (ptV p).toArray] W (MnO n cf m1 m2 P G F) (fun z : Slab => anV z (stepT cf L x)) (fun z => RowC 5 1 z.1 (stepT cf L x).frame.length z.2 (bytesR (stepT cf L x).frame) * (MnC n cf (stepT cf L x).L * F)) := by
  subst e1 e2
  exact out_spec n cf hf hg m1 m2 hN hm x hx hl ht hp hw
theorem Step_spec (n : Option Addr) (cf : Cfg) (hf : cf.Fit) (hg : cf.Good) {L : List BindT} (hN : NatOk cf L) (x : CallT) (hl : x.frame.length ≤ 140737488355328) [s : Src W F q x.frame.length (bytesR x.frame)] [r : Room W F q x.frame.length c] (ht : I64 x.tick) (hp : I64 x.port) :
    Spec Tryz.prog 49 [.pointer n, .agg (clV x q c).toArray] W (MnC n cf L * F) (fun z : Slab => anV z (stepT cf L x)) (fun z => RowC 5 1 z.1 (stepT cf L x).frame.length z.2 (bytesR (stepT cf L x).frame) * (MnC n cf (stepT cf L x).L * F)) := by
  refine Spec.of Tryz.func49 rfl Tryz.ntmps49 rfl ?_
  refine MnC.open fun m1 m2 P G hm => ?_
  have eS : stepT cf L x = _ := rfl
  conv at eS => rhs; unfold stepT
  obtain ⟨xo, xf, xt, xp⟩ := x
  dsimp only at *
  unfold I64 at ht
  by_cases g1 : xt < 0
  · rw [if_pos (Or.inl g1)] at eS
    repeat (first | refine go ?_ | (refine goX ?_; intro))
    rw [eS]
    exact EK_ret (ER_c1 (rv := .cell 4 47) rfl ⟨_, rfl, LoadsV.agg rfl⟩ ((none, 0) : Slab) rfl (Ent.sat (Ent.none (Ent.trans (by first | exact Ent.refl _ | exact Ent.last | (repeat (first | refine Ent.cons ?_ | refine Ent.objX ?_ | refine Ent.rowX ?_ | exact Ent.any | exact Ent.last))) (MnC.shut (m1 := m1) (m2 := m2) hm)))))
  by_cases g2 : xt > 4294967295
  · rw [if_pos (Or.inr g2)] at eS
    repeat (first | refine go ?_ | (refine goX ?_; intro))
    rw [eS]
    exact EK_ret (ER_c1 (rv := .cell 4 47) rfl ⟨_, rfl, LoadsV.agg rfl⟩ ((none, 0) : Slab) rfl (Ent.sat (Ent.none (Ent.trans (by first | exact Ent.refl _ | exact Ent.last | (repeat (first | refine Ent.cons ?_ | refine Ent.objX ?_ | refine Ent.rowX ?_ | exact Ent.any | exact Ent.last))) (MnC.shut (m1 := m1) (m2 := m2) hm)))))
  rw [if_neg (fun g => g.elim g1 g2)] at eS
  have fo := hf.o
  repeat (first | refine go ?_ | (refine goX ?_; intro))
  rename_i oc oa
  refine EK_join (γ := Option Addr) (fun _ => True) (fun y => [(0, .pointer n), (1, .agg (clV ⟨xo, xf, xt, xp⟩ q c).toArray), (3, .pointer oc), (4, .pointer oa), (5, .pointer y), (6, .int .i64 (whoE cf.o.toNat xo xf : Int))])
    (fun y => Obj y 126 (flV (whoT cf.o.toNat xo xf)) * (Obj oa 47 [.slice none 0 0, .int .i64 0] * (Obj oc 44 (clV ⟨xo, xf, xt, xp⟩ q c) * MnO n cf m1 m2 P G F))) ?_ ?_
  · refine EK_sink 14 (Obj n 85 (mnV cf m1 m2) * (Obj oc 44 (clV ⟨xo, xf, xt, xp⟩ q c) * 1)) rfl rfl rfl ?_
    repeat (first | refine goQ ?_ | refine EG_done (by decide +kernel) ?_)
    refine EG_two (i := 8) (j := 12) (EI_callQ rfl rfl rfl rfl (Whose_spec (l := xf) hl cf fo.1 xo) (fun _ => by first | exact Ent.refl _ | exact Ent.last | (repeat (first | refine Ent.cons ?_ | refine Ent.objX ?_ | refine Ent.rowX ?_ | exact Ent.any | exact Ent.last))) ?_) (EI_does rfl rfl (OpDoes_alloc rfl) rfl (fun _ => by first | exact Ent.refl _ | exact Ent.last | (repeat (first | refine Ent.cons ?_ | refine Ent.objX ?_ | refine Ent.rowX ?_ | exact Ent.any | exact Ent.last))) ?_)
    · intro _
      repeat (first | refine goQ ?_ | refine EG_done (by decide +kernel) ?_)
      repeat (first | refine goG ?_ | (refine goGX ?_; intro) | refine goGL ?_ | refine goGS ?_ | refine goGV ?_ | refine EG_done (by decide +kernel) ?_)
      rename_i y
      exact EK_meet y trivial ⟨rfl, rfl, rfl, rfl, rfl, rfl, trivial⟩ (Ent.sat (by first | exact Ent.refl _ | exact Ent.last | (repeat (first | refine Ent.cons ?_ | refine Ent.objX ?_ | refine Ent.rowX ?_ | exact Ent.any | exact Ent.last))))
    · intro y
      refine EG_callQ rfl rfl rfl rfl rfl (Whose_spec (l := xf) hl cf fo.1 xo) (fun _ => by first | exact Ent.refl _ | exact Ent.last | (repeat (first | refine Ent.cons ?_ | refine Ent.objX ?_ | refine Ent.rowX ?_ | exact Ent.any | exact Ent.last))) ?_
      intro _
      repeat (first | refine goQ ?_ | refine EG_done (by decide +kernel) ?_)
      repeat (first | refine goG ?_ | (refine goGX ?_; intro) | refine goGL ?_ | refine goGS ?_ | refine goGV ?_ | refine EG_done (by decide +kernel) ?_)
      exact EK_meet y trivial ⟨rfl, rfl, rfl, rfl, rfl, rfl, trivial⟩ (Ent.sat (by first | exact Ent.refl _ | exact Ent.last | (repeat (first | refine Ent.cons ?_ | refine Ent.objX ?_ | refine Ent.rowX ?_ | exact Ent.any | exact Ent.last))))
  intro y _
  by_cases g3 : whoE cf.o.toNat xo xf ≠ 0
  · rw [if_pos g3] at eS
    have g3' : ¬ ((whoE cf.o.toNat xo xf : Nat) : Int) = 0 := by omega
    repeat (first | refine go ?_ | (refine goX ?_; intro))
    rw [eS]
    exact EK_ret (ER_c1 (rv := .cell 4 47) rfl ⟨_, rfl, LoadsV.agg rfl⟩ ((none, 0) : Slab) rfl (Ent.sat (Ent.none (Ent.trans (by first | exact Ent.refl _ | exact Ent.last | (repeat (first | refine Ent.cons ?_ | refine Ent.objX ?_ | refine Ent.rowX ?_ | exact Ent.any | exact Ent.last))) (MnC.shut (m1 := m1) (m2 := m2) hm)))))
  have g3 := Decidable.not_not.1 g3
  rw [if_neg (by omega)] at eS
  have eW : whoT cf.o.toNat xo xf = whoF xo xf := if_pos g3
  have hR : readE xf = 0 := by
    unfold whoE at g3
    split at g3
    · exact absurd g3 (by assumption)
    · omega
  rw [eW, g3]
  repeat (first | refine go ?_ | (refine goX ?_; intro))
  refine EL_call rfl (read_spec hl) ?_
  intro _
  rw [show rdP xf = frP xf from if_pos hR, show rdH xf = headH xf from if_pos hR, hR]
  cases xo with
  | true =>
    obtain ⟨w, hww⟩ : ∃ w, whoF true xf = w := ⟨_, rfl⟩
    obtain ⟨p, hpp⟩ : ∃ p, frP xf = p := ⟨_, rfl⟩
    obtain ⟨hd, hdd⟩ : ∃ h, headH xf = h := ⟨_, rfl⟩
    rw [hww, hpp, hdd]
    repeat (first | refine go ?_ | (refine goX ?_; intro))
    refine EL_call rfl (Spec.mn n (out_at (q := q) (c := c) n cf hf hg m1 m2 hN hm ⟨true, xf, xt, xp⟩ rfl hl (by dsimp only; omega) hp g3 hww hpp)) ?_
    intro z
    repeat (first | refine go ?_ | (refine goX ?_; intro))
    exact EK_ret (ER_c1 (rv := .cell 4 47) rfl ⟨_, rfl, LoadsV.agg rfl⟩ z rfl (Ent.sat (by first | exact Ent.refl _ | exact Ent.last | (repeat (first | refine Ent.cons ?_ | refine Ent.objX ?_ | refine Ent.rowX ?_ | exact Ent.any | exact Ent.last)))))
  | false =>
    obtain ⟨w, hww⟩ : ∃ w, whoF false xf = w := ⟨_, rfl⟩
    have wo := whoF_ok false xf
    have wp := fun h => who_proto (out := false) hR h
    have rg : PtRng (frP xf) := PtRng.of (headH xf) xf
    obtain ⟨p, hpp⟩ : ∃ p, frP xf = p := ⟨_, rfl⟩
    obtain ⟨hd, hdd⟩ : ∃ h, headH xf = h := ⟨_, rfl⟩
    rw [hww] at wo wp eS
    rw [hpp] at wp rg eS
    rw [hww, hpp, hdd]
    obtain ⟨wo1, wo2, wo3⟩ := wo
    generalize hat : placeN cf w.proto w.port = at0 at *
    repeat (first | refine go ?_ | (refine goX ?_; intro))
    rename_i oh op
    refine EK_sink 99 (Obj n 85 (mnV cf m1 m2) * (Obj y 126 (flV w) * 1)) rfl rfl rfl ?_
    repeat (first | refine goQ ?_ | refine EG_done (by decide +kernel) ?_)
    refine EG_callQ rfl rfl rfl rfl rfl (Place_spec cf hf w.proto w.port (by unfold I64; omega)) (fun _ => by first | exact Ent.refl _ | exact Ent.last | (repeat (first | refine Ent.cons ?_ | refine Ent.objX ?_ | refine Ent.rowX ?_ | exact Ent.any | exact Ent.last))) ?_
    intro _
    rw [hat]
    repeat (first | refine goQ ?_ | refine EG_done (by decide +kernel) ?_)
    cases hi : L.findIdx? (isB false w) with
    | none =>
      rw [hi] at eS
      dsimp only at eS
      rw [if_pos (by rfl)] at eS
      have hn := findIdx_none hi
      have hP : P.lookup at0 = none := hm.p0 fun b hb e => by
        have h1 := hn b hb
        have h2 := hN.place b hb
        rw [← hat] at e
        have e := (place_at (by rw [← e]; exact h2)).1 e
        simp only [isB, Bool.false_eq_true, if_false, decide_eq_false_iff_not] at h1
        omega
      repeat (first | refine go ?_ | (refine goX ?_; intro))
      refine EL_val (OpVal_missOk (ek := kInt) (ev := vBd) hP rfl rfl rfl) rfl ?_
      repeat (first | refine go ?_ | (refine goX ?_; intro))
      rw [eS]
      exact EK_ret (ER_c1 (rv := .cell 4 47) rfl ⟨_, rfl, LoadsV.agg rfl⟩ ((none, 0) : Slab) rfl (Ent.sat (Ent.none (Ent.trans (by first | exact Ent.refl _ | exact Ent.last | (repeat (first | refine Ent.cons ?_ | refine Ent.objX ?_ | refine Ent.rowX ?_ | exact Ent.any | exact Ent.last))) (MnC.shut (m1 := m1) (m2 := m2) hm)))))
    | some i =>
      rw [hi] at eS
      dsimp only at eS
      obtain ⟨b, hb, e⟩ := findIdx_some hi
      have hbm := List.mem_of_getElem? hb
      have ew : b.flow.proto = w.proto ∧ b.port = w.port := by simpa [isB] using e
      have e2 : placeB cf b = at0 := by
        rw [← hat]
        unfold placeB
        rw [ew.1, ew.2]
      have hP : P.lookup (placeB cf b) = some b := hm.pl hN hbm
      have hgd : L.getD i ⟨fl0, 0, 0, 0⟩ = b := by simp [hb]
      rw [hgd, if_neg (by decide)] at eS
      have hm' := seen_maps hN hm hb ⟨false, xf, xt, xp⟩ p
      rw [← e2]
      have okb := hN.ok b hbm
      repeat (first | refine go ?_ | (refine goX ?_; intro))
      refine EL_val (OpVal_foundOk (ek := kInt) (ev := vBd) hP rfl rfl rfl) rfl ?_
      repeat (first | refine go ?_ | (refine goX ?_; intro))
      refine EL_call rfl (Spec.mn n (seen_spec n cf m1 m2 P G (placeB cf b) b hP okb ⟨false, xf, xt, xp⟩ q c (by dsimp only; omega) p rg (fun h => by rw [ew.1]; exact wp h))) ?_
      intro _
      repeat (first | refine go ?_ | (refine goX ?_; intro))
      refine EL_call rfl (In_int (l := xf) hl b.flow.addr b.flow.port okb.addr okb.fport) ?_
      intro z
      repeat (first | refine go ?_ | (refine goX ?_; intro))
      refine EL_call rfl (told_spec z.1 _ z.2 _) ?_
      intro _
      repeat (first | refine go ?_ | (refine goX ?_; intro))
      rw [eS, hR]
      exact EK_ret (ER_c1 (rv := .cell 4 47) rfl ⟨_, rfl, LoadsV.agg rfl⟩ z rfl (Ent.sat (Ent.cons (Ent.trans (by first | exact Ent.refl _ | exact Ent.last | (repeat (first | refine Ent.cons ?_ | refine Ent.objX ?_ | refine Ent.rowX ?_ | exact Ent.any | exact Ent.last))) (MnC.shut (m1 := m1) (m2 := m2) hm')))))
end
end Go.Proofs.YtianbkbehjppoaaGreatDoor
