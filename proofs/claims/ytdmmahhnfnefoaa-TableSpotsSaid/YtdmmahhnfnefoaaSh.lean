/-
  Regions that draw their order and write or make memory: what only reads is taken first; a writer is taken where it alone may come up. Plain Lean: no program in sight.
-/
import Derived.Test.YtdmmahhnfnefoaaSd
import Derived.OrdersHeld
namespace Go.Proofs.Ytdmmahhnfnefoaa
open Go.RowKit

def onlyN (R : Act → World → Prop) : Exit → Act → World → Prop
  | .normal, a, w => R a w
  | _, _, _ => False

/-- A region under way: S is what the readers need, at all times. -/
def EH (X : Cx) (k : List KI) (ops : List Oper) (S : SL) (fuel : Nat) (listed : Array Bool) (σ : Env) (H : SL) : Prop :=
  ∀ a w, Fits X.N a σ → Sat X.W w H → wpAnyH X.P .any ops.toArray (onlyN (run X.P X.R k .normal)) (fun w => Sat X.W w S) fuel listed a w

variable {X : Cx} {k : List KI} {σ : Env} {H S : SL} {ops : List Oper} {fuel : Nat} {listed : Array Bool}

theorem EK_held {id n : Nat} {ls : Array Bool} (S : SL) (hm : X.P.follows .mixedOrders = true) (hn : ops.toArray.size = n) (hl : Array.replicate n false = ls) (h : EH X k ops S n ls σ H) : EK X (.code (.region id ops.toArray true) :: k) σ H := by
  subst hn hl
  intro a w ha hs
  refine Code.wp_mono (Q := onlyN (run X.P X.R k .normal)) ?_ (wp_region_held hm (h a _ ha hs.drew))
  intro e a w he
  cases e <;> first | exact he | exact he.elim
/-- The readers need what there is at the region's begin. -/
theorem EK_held0 {id n : Nat} {ls : Array Bool} (hm : X.P.follows .mixedOrders = true) (hn : ops.toArray.size = n) (hl : Array.replicate n false = ls) (h : EH X k ops H n ls σ H) : EK X (.code (.region id ops.toArray true) :: k) σ H := EK_held H hm hn hl h
theorem EH_take {d : Nat} {v : Value} {op : Op} {ty : TypeId} {pos : String} {aft : Array Edge} (i : Nat) (hi : ops.toArray[i]? = some ⟨some d, op, ty, pos, aft, none⟩)
    (hs : Region.noSelect ops.toArray = true) (hf : Region.free .any ops.toArray listed i = true) (hr : (Region.ready .any ops.toArray listed).contains i = true) (hS : Ent H S) (hd : Nat.blt d X.N = true) {ls : Array Bool} (hl : listed.setIfInBounds i true = ls)
    (hv : OpVal X σ S ⟨some d, op, ty, pos, aft, none⟩ v) (h : EH X k ops S fuel ls ((d, v) :: σ) H) : EH X k ops S (fuel + 1) listed σ H := by
  subst hl
  intro a w ha hw
  exact wpAnyH_take hi hs hf hr (fun _ _ _ h => h.elim) (.inl ⟨rfl, fun w hs => hv a w ha hs⟩) (hS.sat _ hw) (h _ _ (ha.put hd v) hw)
theorem EH_does {α : Type} {r : α → Value} {H' : α → SL} {d : Nat} {op : Op} {ty : TypeId} {pos : String} {aft : Array Edge} (i : Nat) (hi : ops.toArray[i]? = some ⟨some d, op, ty, pos, aft, none⟩)
    (hr : Region.ready .any ops.toArray listed = [i]) (hd : Nat.blt d X.N = true) {ls : Array Bool} (hl : listed.setIfInBounds i true = ls)
    (hv : OpDoes X σ H ⟨some d, op, ty, pos, aft, none⟩ r H') (hS : ∀ x, Ent (H' x) S) (h : ∀ x, EH X k ops S fuel ls ((d, r x) :: σ) (H' x)) : EH X k ops S (fuel + 1) listed σ H := by
  subst hl
  intro a w ha hw
  refine wpAnyH_all hr (by simp) fun j hj => ?_
  rw [List.mem_singleton] at hj
  subst hj
  obtain ⟨x, w', h1, h2⟩ := hv a w ha hw
  unfold wpOp
  rw [hi]
  simp only [Region.wanted, Oper.wp, h1, Oper.upon, if_true]
  exact .inl ⟨(hS x).sat _ h2, h x _ _ (ha.put hd _) h2⟩
theorem EH_val {v : Value} {d : Nat} {op : Op} {ty : TypeId} {pos : String} {aft : Array Edge} (i : Nat) (hi : ops.toArray[i]? = some ⟨some d, op, ty, pos, aft, none⟩)
    (hr : Region.ready .any ops.toArray listed = [i]) (hS : Ent H S) (hd : Nat.blt d X.N = true) {ls : Array Bool} (hl : listed.setIfInBounds i true = ls)
    (hv : OpVal X σ H ⟨some d, op, ty, pos, aft, none⟩ v) (h : EH X k ops S fuel ls ((d, v) :: σ) H) : EH X k ops S (fuel + 1) listed σ H := by
  subst hl
  intro a w ha hw
  refine wpAnyH_all hr (by simp) fun j hj => ?_
  rw [List.mem_singleton] at hj
  subst hj
  unfold wpOp
  rw [hi]
  simp only [Region.wanted, Oper.wp, hv a w ha hw, Oper.upon, if_true]
  exact .inl ⟨hS.sat _ hw, h _ _ (ha.put hd _) hw⟩
theorem EH_skip {H' : SL} {op : Op} {ty : TypeId} {pos : String} {aft : Array Edge} (i : Nat) (hi : ops.toArray[i]? = some ⟨none, op, ty, pos, aft, none⟩)
    (hr : Region.ready .any ops.toArray listed = [i]) (hS : Ent H' S) {ls : Array Bool} (hl : listed.setIfInBounds i true = ls)
    (hv : OpSkip X σ H ⟨none, op, ty, pos, aft, none⟩ H') (h : EH X k ops S fuel ls σ H') : EH X k ops S (fuel + 1) listed σ H := by
  subst hl
  intro a w ha hw
  refine wpAnyH_all hr (by simp) fun j hj => ?_
  rw [List.mem_singleton] at hj
  subst hj
  obtain ⟨w', h1, h2⟩ := hv a w ha hw
  unfold wpOp
  rw [hi]
  simp only [Region.wanted, Oper.wp, h1, Oper.upon, if_true]
  exact .inl ⟨hS.sat _ h2, h _ _ ha h2⟩
theorem EH_done (hr : Region.ready .any ops.toArray listed = []) (h : EK X k σ H) : EH X k ops S fuel listed σ H := fun a w ha hw => wpAnyH_done hr (show onlyN (run X.P X.R k .normal) .normal a w from h a w ha hw) _

/-! ### Rows written out -/
instance RowGet.here (x : Value) (l : List Value) : RowGet (x :: l) 0 1 0 x (0 ≤ 0) := ⟨fun _ => rfl⟩
instance RowGet.there (x : Value) (l : List Value) (i : Nat) (v : Value) (φ : Prop) [g : RowGet l i 1 0 v φ] : RowGet (x :: l) (i + 1) 1 0 v φ := ⟨fun h => by
  have := g.get h
  simpa using this⟩

end Go.Proofs.Ytdmmahhnfnefoaa
