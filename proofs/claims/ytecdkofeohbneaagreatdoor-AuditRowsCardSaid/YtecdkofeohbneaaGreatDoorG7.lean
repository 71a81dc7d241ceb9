/-
  Ft0, Ft1, Ft2, Sc, Na0, Na1, Au1, Au2, Au4, Au5, Au6, Au7, Rg, Au8: joined by a program (wip/bundle.py).
-/
import Derived.Lib.ItoaLen
import Derived.Test.YtecdkofeohbneaaGreatDoorG0
import Derived.Test.YtecdkofeohbneaaGreatDoorG1
import Derived.Test.YtecdkofeohbneaaGreatDoorG2
import Derived.Test.YtecdkofeohbneaaGreatDoorG3
import Derived.Test.YtecdkofeohbneaaGreatDoorG4
import Derived.Test.YtecdkofeohbneaaGreatDoorG5
import Derived.Test.YtecdkofeohbneaaGreatDoorG6
namespace Go.Proofs.YtecdkofeohbneaaGreatDoor
open Go.RowKit
def refN (u i : Nat) : Int := ((u / 2 ^ (12 * i) % 4096 : Nat) : Int) - 1
def whereN (u : Nat) (id : Int) : Int := if refN u 0 = id then 0 else if refN u 1 = id then 1 else if refN u 2 = id then 2 else if refN u 3 = id then 3 else -1
def fullB (u : Nat) : Bool := decide (whereN u (-1) < 0)
structure TMove where
  phase : Nat
  id : Nat
  fr : Nat
  to : Nat
  version : Nat
  turn : Nat
deriving DecidableEq
structure TStep where
  kind : Nat
  f1 : Nat
  f2 : Nat
  f3 : Nat
  id : Int
  a : Nat
  b : Nat
  next : Nat
  first : Nat
  word : Nat
  at_ : Nat
  half : Bool
  seen : PWord
  still : Nat
  m : TMove
  v : Nat
  u : Nat
  o0 : Nat
  o1 : Nat
  o2 : Nat
  o3 : Nat
  g0 : Nat
  g1 : Nat
  g2 : Nat
  g3 : Nat
  far : Nat
  second : Bool
  found : Int
  foundAs : PWord
  end_ : Nat
  done : Bool
deriving DecidableEq
def w0 : PWord := ⟨0, 0, 0, 0⟩
/-- What a step of a search wants. -/
def refsB (np u : Nat) : Bool := decide (refN u 0 < np) && decide (refN u 1 < np) && decide (refN u 2 < np) && decide (refN u 3 < np)
def okT (n np : Nat) (cs pl : List Nat) (s : TStep) : Bool :=
  decide (cs.length = n + 1) && decide (n ≤ 1024) && decide (pl.length = 2 * np) && decide (np ≤ 3072) && cs.all (fun u => decide (u < 18446744073709551616)) && pl.all (fun u => decide (u < 18446744073709551616)) &&
  decide (s.a < n) && decide (s.b < n) && decide (s.next ≤ 5) && decide (s.at_ ≤ 4) && refsB np s.word && decide (s.word < 18446744073709551616) && decide (s.first < 18446744073709551616) && decide (-1 ≤ s.id) && decide (s.id < np) && decide (s.f1 ≤ 255) && decide (s.f2 < 4294967296) && decide (s.f3 < 65536) &&
  decide (s.kind ≤ 2) && decide (s.done = false) && (decide (s.next ≠ 5) || (decide (0 ≤ s.id) && !fullB s.first))
structure OkT (n np : Nat) (cs pl : List Nat) (s : TStep) : Prop where
  clen : cs.length = n + 1
  n2 : n ≤ 1024
  plen : pl.length = 2 * np
  np2 : np ≤ 3072
  cw : ∀ j, cs.getD j 0 < 18446744073709551616
  pw : ∀ j, pl.getD j 0 < 18446744073709551616
  a : s.a < n
  b : s.b < n
  next : s.next ≤ 5
  at4 : s.at_ ≤ 4
  refs : ∀ i, i < 4 → refN s.word i < np
  word : s.word < 18446744073709551616
  first : s.first < 18446744073709551616
  id1 : -1 ≤ s.id
  id2 : s.id < np
  f1 : s.f1 ≤ 255
  f2 : s.f2 < 4294967296
  f3 : s.f3 < 65536
  kind : s.kind ≤ 2
  done : s.done = false
  link : s.next = 5 → 0 ≤ s.id ∧ fullB s.first = false
theorem getD_all {l : List Nat} {B : Nat} (h : l.all (fun u => decide (u < B)) = true) (hB : 0 < B) (j : Nat) : l.getD j 0 < B := by
  rw [List.getD_eq_getElem?_getD]
  rcases Nat.lt_or_ge j l.length with hj | hj
  · rw [List.getElem?_eq_getElem hj]
    rw [List.all_eq_true] at h
    exact of_decide_eq_true (h _ (List.getElem_mem hj))
  · rw [List.getElem?_eq_none hj]; exact hB
theorem OkT.of {n np : Nat} {cs pl : List Nat} {s : TStep} (h : okT n np cs pl s = true) : OkT n np cs pl s := by
  unfold okT refsB at h
  simp only [Bool.and_eq_true, decide_eq_true_eq, Bool.or_eq_true, Bool.not_eq_true'] at h
  obtain ⟨⟨⟨⟨⟨⟨⟨⟨⟨⟨⟨⟨⟨⟨⟨⟨⟨⟨⟨⟨h1, h2⟩, h3⟩, h4⟩, h5⟩, h6⟩, h7⟩, h8⟩, h9⟩, h10⟩, h11⟩, h12⟩, h13⟩, h14⟩, h15⟩, h16⟩, h17⟩, h18⟩, h19⟩, h20⟩, h21⟩ := h
  refine ⟨h1, h2, h3, h4, getD_all h5 (by decide), getD_all h6 (by decide), h7, h8, h9, h10, fun i hi => ?_, h12, h13, h14, h15, h16, h17, h18, h19, h20, fun e => ?_⟩
  · obtain ⟨⟨⟨r0, r1⟩, r2⟩, r3⟩ := h11
    match i, hi with
    | 0, _ => exact r0
    | 1, _ => exact r1
    | 2, _ => exact r2
    | 3, _ => exact r3
  · rcases h21 with h | h
    · exact absurd e h
    · exact h
end Go.Proofs.YtecdkofeohbneaaGreatDoor

namespace Go.Proofs.YtecdkofeohbneaaGreatDoor
open Go.RowKit
set_option maxRecDepth 10000
attribute [local irreducible] EK EX ER EN EL ES EG OpVal OpDoes OpSkip
variable {W : World} {F : SL} {X : Cx} {k : List KI} {σ : Env} {p g : Option Addr} {ws : List Nat}
theorem fine_spec (b : Int) : Spec Tryz.prog 48 [.int .i64 b] W F (fun _ : Unit => .bool (fineN b)) (fun _ => F) := by
  refine Spec.of Tryz.func48 rfl Tryz.ntmps48 rfl ?_
  by_cases h1 : 2 ≤ b
  · by_cases h2 : b ≤ 1024
    · obtain ⟨k, rfl⟩ : ∃ k : Nat, b = (k : Int) := ⟨b.toNat, by omega⟩
      repeat (first | refine go ?_ | (refine goX ?_; intro))
      exact EK_ret (ER_1 rfl rfl () (by rw [fine_val (by omega) (by omega)]) (Ent.sat Ent.last))
    · repeat (first | refine go ?_ | (refine goX ?_; intro))
      exact EK_ret (ER_1 rfl rfl () (by rw [fine_no (fun e => h2 e.2)]) (Ent.sat Ent.last))
  · repeat (first | refine go ?_ | (refine goX ?_; intro))
    exact EK_ret (ER_1 rfl rfl () (by rw [fine_no (fun e => h1 e.1)]) (Ent.sat Ent.last))
/-! ### Spots -/
end Go.Proofs.YtecdkofeohbneaaGreatDoor

namespace Go.Proofs.YtecdkofeohbneaaGreatDoor
open Go.RowKit
set_option maxRecDepth 10000
attribute [local irreducible] EK EX ER EN EL ES EG OpVal OpDoes OpSkip
variable {W : World} {F : SL} {X : Cx} {k : List KI} {σ : Env} {p pp g : Option Addr} {ws cs pl : List Nat} {n np : Nat} {s : TStep}
def tsV (s : TStep) : List Value := (Value.int .i64 (s.kind : Int) :: Value.int .i64 (s.f1 : Int) :: Value.int .u32 (s.f2 : Int) :: Value.int .u16 (s.f3 : Int) :: Value.int .i64 s.id :: Value.int .i64 (s.a : Int) :: Value.int .i64 (s.b : Int) :: Value.int .i64 (s.next : Int) :: Value.int .u64 (s.first : Int) :: Value.int .u64 (s.word : Int) :: Value.int .i64 (s.at_ : Int) :: Value.bool s.half :: Value.int .i64 (s.seen.st : Int) :: Value.int .i64 (s.seen.gen : Int) :: Value.int .i64 (s.seen.tr : Int) :: Value.int .i64 (s.seen.sn : Int) :: Value.int .u64 (s.still : Int) :: Value.int .i64 (s.m.phase : Int) :: Value.int .i64 (s.m.id : Int) :: Value.int .i64 (s.m.fr : Int) :: Value.int .i64 (s.m.to : Int) :: Value.int .i64 (s.m.version : Int) :: Value.int .i64 (s.m.turn : Int) :: Value.int .i64 (s.v : Int) :: Value.int .i64 (s.u : Int) :: Value.int .i64 (s.o0 : Int) :: Value.int .i64 (s.o1 : Int) :: Value.int .i64 (s.o2 : Int) :: Value.int .i64 (s.o3 : Int) :: Value.int .u64 (s.g0 : Int) :: Value.int .u64 (s.g1 : Int) :: Value.int .u64 (s.g2 : Int) :: Value.int .u64 (s.g3 : Int) :: Value.int .i64 (s.far : Int) :: Value.bool s.second :: Value.int .i64 s.found :: Value.int .i64 (s.foundAs.st : Int) :: Value.int .i64 (s.foundAs.gen : Int) :: Value.int .i64 (s.foundAs.tr : Int) :: Value.int .i64 (s.foundAs.sn : Int) :: Value.int .i64 (s.end_ : Int) :: Value.bool s.done :: [])
def TStepC (p : Option Addr) (s : TStep) : SL := Obj p 271 (tsV s)
theorem TStepC.shut {l : List Value} (h : l = tsV s) : Ent (Obj p 271 l * F) (TStepC p s * F) := by subst h; exact Ent.refl _
instance (priority := 2000) (p : Option Addr) (s : TStep) (F : SL) : AtP (TStepC p s * F) p (TStepC p s) F := ⟨rfl⟩
instance (p : Option Addr) (s : TStep) : Root (TStepC p s) p := ⟨fun W w F H => (Obj.root p _ _).nn W w _ H⟩
abbrev TableO (p pp g : Option Addr) (n : Nat) (cs : List Nat) (F : SL) : SL := Obj p 127 [.pointer pp, .pointer g, .int .i64 (n : Int)] * (CellsSL g cs * F)
def TableX (p pp : Option Addr) (n : Nat) (cs : List Nat) (g : Option Addr) : SL := Obj p 127 [.pointer pp, .pointer g, .int .i64 (n : Int)] * CellsSL g cs
def TableC (p pp : Option Addr) (n : Nat) (cs : List Nat) : SL := SL.ex (TableX p pp n cs)
theorem TableX.eq (p pp : Option Addr) (n : Nat) (cs : List Nat) (g : Option Addr) (F : SL) : TableX p pp n cs g * F = TableO p pp g n cs F := by
  unfold TableX TableO
  rw [SL.sep_assoc]
theorem TableC.shut {g : Option Addr} : Ent (TableO p pp g n cs F) (TableC p pp n cs * F) := Ent.ex g (by rw [TableX.eq]; exact Ent.refl _)
instance (priority := 2000) (p pp : Option Addr) (n : Nat) (cs : List Nat) (F : SL) : AtP (TableC p pp n cs * F) p (TableC p pp n cs) F := ⟨rfl⟩
instance (p pp : Option Addr) (n : Nat) (cs : List Nat) : Root (TableC p pp n cs) p := ⟨fun W w F H => by
  obtain ⟨g, H⟩ := H.ex_out
  rw [TableX.eq] at H
  exact (Obj.root p _ _).nn W w _ H⟩
theorem TNew_spec {m : Nat} (hf : fineN (n : Int) = true) (hl : ws.length = 2 * m) (hm : m ≤ 3072) : Spec Tryz.prog 34 [.pointer pp, .int .i64 (n : Int)] W (PlaceC pp ws * F) (fun p : Option Addr => .tuple #[.pointer p, .int .i64 0]) (fun p => TableC p pp n (List.replicate (n + 1) 0) * (PlaceC pp ws * F)) := by
  refine Spec.of Tryz.func34 rfl Tryz.ntmps34 rfl ?_
  have hk : 2 ≤ (n : Int) ∧ (n : Int) ≤ 1024 := by unfold fineN at hf; have := of_decide_eq_true hf; omega
  repeat (first | refine go ?_ | (refine goX ?_; intro))
  refine EL_call rfl (fine_spec _) ?_
  intro _
  rw [hf]
  repeat (first | refine go ?_ | (refine goX ?_; intro))
  refine EL_call rfl (PSize_spec hl hm) ?_
  intro _
  repeat (first | refine go ?_ | (refine goX ?_; intro))
  rw [show (n : Int) + 1 = ((n + 1 : Nat) : Int) by omega]
  refine EL_call rfl (CNew_spec (n + 1) (by omega) (by omega)) ?_
  intro g
  repeat (first | refine go ?_ | (refine goX ?_; intro))
  rename_i x
  refine EK_ret (ER_2 rfl rfl rfl x rfl (Ent.sat (Ent.trans ?_ (TableC.shut (g := g)))))
  first | exact Ent.refl _ | exact Ent.last | (repeat (first | refine Ent.cons ?_ | exact Ent.any | exact Ent.last))
end Go.Proofs.YtecdkofeohbneaaGreatDoor

namespace Go.Proofs.YtecdkofeohbneaaGreatDoor
open Go.RowKit
variable {X : Cx} {k : List KI} {σ : Env} {H S : SL} {ops : List Oper} {fuel L : Nat} {listed : Array Bool}
/-- Operation i, whatever else could come. -/
def EI (X : Cx) (k : List KI) (ops : List Oper) (S : SL) (L fuel : Nat) (listed : Array Bool) (i : Nat) (σ : Env) (H : SL) : Prop :=
  ∀ a w, Fits X.N a σ → Sat X.W w H → wpOp X.P ops.toArray (onlyQ (run X.P X.R k .normal)) i (fun a' w' => (i ≠ L ∧ ¬ didL ops.toArray listed L → Sat X.W w' S) ∧ wpAnyL X.P .any ops.toArray (onlyQ (run X.P X.R k .normal)) (fun w => Sat X.W w S) L fuel (listed.setIfInBounds i true) a' w') a w
theorem EG_two {i j : Nat} (h1 : EI X k ops S L fuel listed i σ H) (h2 : EI X k ops S L fuel listed j σ H) (hr : Region.ready .any ops.toArray listed = [i, j] := by decide +kernel) : EG X k ops S L (fuel + 1) listed σ H := fun a w ha hw =>
  ⟨fun h0 => (by rw [hr] at h0; cases h0), fun l hl => by
    rw [hr] at hl
    rcases List.mem_cons.1 hl with rfl | hl
    · exact h1 a w ha hw
    · rw [List.mem_singleton] at hl
      subst hl
      exact h2 a w ha hw⟩
theorem EI_val {v : Value} {d : Nat} {op : Op} {ty : TypeId} {pos : String} {aft : Array Edge} {i : Nat} (hi : ops.toArray[i]? = some ⟨some d, op, ty, pos, aft, none⟩) (hd : Nat.blt d X.N = true)
    (hv : OpVal X σ H ⟨some d, op, ty, pos, aft, none⟩ v) (hS : Ent H S) {ls : Array Bool} (hl : listed.setIfInBounds i true = ls)
    (h : EG X k ops S L fuel ls ((d, v) :: σ) H) : EI X k ops S L fuel listed i σ H := by
  subst hl
  intro a w ha hw
  unfold wpOp
  rw [hi]
  simp only [Region.wanted, Oper.wp, hv a w ha hw, Oper.upon, if_true]
  exact .inl ⟨fun _ => hS.sat _ hw, h _ _ (ha.put hd _) hw⟩
/-- The last writer writes, though there is more to do. -/
theorem EI_sink {H' : SL} {op : Op} {ty : TypeId} {pos : String} {aft : Array Edge} (hi : ops.toArray[L]? = some ⟨none, op, ty, pos, aft, none⟩)
    (hv : OpSkip X σ H ⟨none, op, ty, pos, aft, none⟩ H') {ls : Array Bool} (hl : listed.setIfInBounds L true = ls) (h : EG X k ops S L fuel ls σ H') : EI X k ops S L fuel listed L σ H := by
  subst hl
  intro a w ha hw
  obtain ⟨w', h1, h2⟩ := hv a w ha hw
  unfold wpOp
  rw [hi]
  simp only [Region.wanted, Oper.wp, h1, Oper.upon, if_true]
  exact .inl ⟨fun e => absurd rfl e.1, h _ _ ha h2⟩
/-- What is read behind the last writer. -/
theorem EG_late {v : Value} {d : Nat} {op : Op} {ty : TypeId} {pos : String} {aft : Array Edge} {i : Nat} (hn : nthF listed.toList 0 0 = some i) (hi : ops.toArray[i]? = some ⟨some d, op, ty, pos, aft, none⟩) (hd : Nat.blt d X.N = true)
    (hv : OpVal X σ H ⟨some d, op, ty, pos, aft, none⟩ v) (hdone : didL ops.toArray listed L) {ls : Array Bool} (hl : listed.setIfInBounds i true = ls)
    (h : EG X k ops S L fuel ls ((d, v) :: σ) H) (hr : Region.ready .any ops.toArray listed = [i] := by decide +kernel) : EG X k ops S L (fuel + 1) listed σ H := by
  subst hl
  intro a w ha hw
  refine EG_all hr ?_
  unfold wpOp
  rw [hi]
  simp only [Region.wanted, Oper.wp, hv a w ha hw, Oper.upon, if_true]
  exact .inl ⟨fun e => absurd hdone e.2, h _ _ (ha.put hd _) hw⟩
/-- The last writer, and a value that is dropped: in whatever order. -/
theorem EG_both {H' : SL} {v : Value} {d i : Nat} {op oq : Op} {ty tz : TypeId} {pos poz : String} {aft afz : Array Edge} (hi : ops.toArray[i]? = some ⟨some d, op, ty, pos, aft, none⟩) (hd : Nat.blt d X.N = true)
    (hL : ops.toArray[L]? = some ⟨none, oq, tz, poz, afz, none⟩) (hv : ∀ H, OpVal X σ H ⟨some d, op, ty, pos, aft, none⟩ v) (h1 : OpSkip X σ H ⟨none, oq, tz, poz, afz, none⟩ H') (h2 : OpSkip X ((d, v) :: σ) H ⟨none, oq, tz, poz, afz, none⟩ H') (hS : Ent H S)
    (h : EK X k ((d, v) :: σ) H') (hn : nthF (listed.setIfInBounds L true).toList 0 0 = some i := by rfl) (hdone : (listed.setIfInBounds L true).getD L false = true := by rfl) (hr : Region.ready .any ops.toArray listed = [i, L] := by decide +kernel) (hr1 : Region.ready .any ops.toArray (listed.setIfInBounds i true) = [L] := by decide +kernel)
    (hr2 : Region.ready .any ops.toArray ((listed.setIfInBounds i true).setIfInBounds L true) = [] := by decide +kernel) (hr3 : Region.ready .any ops.toArray (listed.setIfInBounds L true) = [i] := by decide +kernel)
    (hr4 : Region.ready .any ops.toArray ((listed.setIfInBounds L true).setIfInBounds i true) = [] := by decide +kernel) : EG X k ops S L (fuel + 1 + 1) listed σ H :=
  EG_two (EI_val hi hd (hv H) hS rfl (EG_last hL h2 hr1 hr2 h)) (EI_sink hL h1 rfl (EG_late hn hi hd (hv H') ⟨⟨_, hL⟩, hdone⟩ rfl (EG_done hr4 h) hr3)) hr
end Go.Proofs.YtecdkofeohbneaaGreatDoor

namespace Go.Proofs.YtecdkofeohbneaaGreatDoor
open Go.RowKit
set_option maxRecDepth 10000
attribute [local irreducible] EK EX ER EN EL ES EG OpVal OpDoes OpSkip
variable {W : World} {F : SL} {X : Cx} {k : List KI} {σ : Env}
attribute [local simp] ptrF_len
def pools3 (np : Nat) (a b c : Option Addr) (F : SL) : Nat → SL
  | 0 => F
  | 1 => PoolC a np (newWords np) * F
  | 2 => PoolC b np (newWords np) * (PoolC a np (newWords np) * F)
  | _ => PoolC c np (newWords np) * (PoolC b np (newWords np) * (PoolC a np (newWords np) * F))
def caches3 (w : Nat) (p0 p1 p2 a b c : Option Addr) (F : SL) : Nat → SL
  | 0 => F
  | 1 => CacheC a p0 w [] none * F
  | 2 => CacheC b p1 w [] none * (CacheC a p0 w [] none * F)
  | _ => CacheC c p2 w [] none * (CacheC b p1 w [] none * (CacheC a p0 w [] none * F))
def WkS (p0 p1 p2 : Option Addr) (wk : Nat → WkP) (w : Nat) : SL :=
  Obj (wk w).p 101 (wkV (wk w)) * (CacheC (wk w).c0 p0 w [] none * (CacheC (wk w).c1 p1 w [] none * (CacheC (wk w).c2 p2 w [] none * (WheelC (wk w).wh newS * SL.blk (wk w).m (.map #[] 0)))))
theorem WkS.eq (p0 p1 p2 : Option Addr) (wk : Nat → WkP) (w : Nat) (F : SL) : WkS p0 p1 p2 wk w * F = Obj (wk w).p 101 (wkV (wk w)) * (CacheC (wk w).c0 p0 w [] none * (CacheC (wk w).c1 p1 w [] none * (CacheC (wk w).c2 p2 w [] none * (WheelC (wk w).wh newS * (SL.blk (wk w).m (.map #[] 0) * F))))) := by
  unfold WkS
  simp only [SL.sep_assoc]
def NatS (p : Option Addr) (c : NC) (R : NatP) : SL :=
  Obj p 79 (natV c R c.np c.n) * (RowC 88 1 R.ws.1 c.n R.ws.2 (ptrF c.n fun i => (R.wk i).p) * (Stars (WkS R.p0 R.p1 R.p2 R.wk) c.n * (EpC R.ep (List.replicate (c.n + 1) 0) (List.replicate c.n []) * (PoolC R.p0 c.np (newWords c.np) * (PoolC R.p1 c.np (newWords c.np) * (PoolC R.p2 c.np (newWords c.np) * (PlaceC R.pl (List.replicate (2 * (3 * c.np)) 0) * TableC R.tb R.pl c.nb (List.replicate (c.nb + 1) 0))))))))
abbrev NatO (p : Option Addr) (c : NC) (R : NatP) (F : SL) : SL :=
  Obj p 79 (natV c R c.np c.n) * (RowC 88 1 R.ws.1 c.n R.ws.2 (ptrF c.n fun i => (R.wk i).p) * (Stars (WkS R.p0 R.p1 R.p2 R.wk) c.n * (EpC R.ep (List.replicate (c.n + 1) 0) (List.replicate c.n []) * (PoolC R.p0 c.np (newWords c.np) * (PoolC R.p1 c.np (newWords c.np) * (PoolC R.p2 c.np (newWords c.np) * (PlaceC R.pl (List.replicate (2 * (3 * c.np)) 0) * (TableC R.tb R.pl c.nb (List.replicate (c.nb + 1) 0) * F))))))))
theorem NatS.eq (p : Option Addr) (c : NC) (R : NatP) (F : SL) : NatS p c R * F = NatO p c R F := by
  unfold NatS NatO
  simp only [SL.sep_assoc]
set_option maxHeartbeats 4000000 in
theorem NNew_spec {c : NC} (hc : c.Ok) : Spec Tryz.prog 16 [c.cfg.val] W F (fun z : Option Addr × NatP => .tuple #[.pointer z.1, .int .i64 0]) (fun z => NatS z.1 c z.2 * F) := by
  refine Spec.of Tryz.func16 rfl Tryz.ntmps16 rfl ?_
  have hg := hc.good
  have hfit := hc.fit
  have hports := hc.ports
  have hnil := wrongT_nil.2 hg
  have hn := hc.n
  have hnp : 1 ≤ c.np ∧ c.np ≤ 1024 := by
    obtain ⟨h1, h2, h3, h4, h5⟩ := hc
    unfold NC.np; omega
  obtain ⟨np, hnpe⟩ : ∃ np, c.np = np := ⟨_, rfl⟩
  rw [hnpe] at hnp hports
  have hfine : fineN (c.nb : Int) = true := by
    have := hc.b
    unfold pow2 at this
    unfold fineN
    exact decide_eq_true (by omega)
  repeat (first | refine go ?_ | (refine goX ?_; intro))
  rename_i x1
  refine EL_call rfl (Wrong_spec c.cfg hfit) ?_
  intro _
  rw [hnil]
  have e1 : c.cfg.w = (c.n : Int) := rfl
  have e2 : c.cfg.o = (c.o : Int) := rfl
  have e3 : c.cfg.lo = (c.lo : Int) := rfl
  have e4 : c.cfg.hi = (c.hi : Int) := rfl
  have e5 : c.cfg.b = (c.nb : Int) := rfl
  have e6 : c.cfg.r = (c.r : Int) := rfl
  repeat (first | refine go ?_ | (refine goX ?_; intro))
  rw [e1, e2, e3, e4, e5, e6]
  repeat (first | refine go ?_ | (refine goX ?_; intro))
  refine EK_sink 99 (Obj x1 52 [.int .i64 (c.n : Int), .int .u32 (c.o : Int), .int .i64 (c.lo : Int), .int .i64 (c.hi : Int), .int .i64 (c.nb : Int), .int .i64 (c.r : Int)] * 1) rfl rfl rfl ?_
  repeat (first | refine goQ ?_ | refine EG_done (by decide +kernel) ?_)
  refine EG_callQ rfl rfl rfl rfl rfl (Ports_spec c.cfg hfit) (fun _ => by first | exact Ent.refl _ | exact Ent.last | (repeat (first | refine Ent.cons ?_ | exact Ent.any | exact Ent.last))) ?_
  intro _
  rw [hports]
  repeat (first | refine goQ ?_ | refine EG_done (by decide +kernel) ?_)
  repeat (first | refine goG ?_ | (refine goGX ?_; intro) | refine goGL ?_ | refine goGS ?_ | refine goGV ?_ | refine EG_done (by decide +kernel) ?_)
  repeat (first | refine go ?_ | (refine goX ?_; intro))
  rename_i pn
  refine EL_call rfl (ENew_spec hn.1 hn.2) ?_
  intro ep
  repeat (first | refine go ?_ | (refine goX ?_; intro))
  refine EL_call rfl (Places_spec c.cfg hfit) ?_
  intro _
  rw [hports, show (3 : Int) * (np : Int) = ((3 * np : Nat) : Int) by omega]
  repeat (first | refine go ?_ | (refine goX ?_; intro))
  refine EL_call rfl (PNew_spec (n := 3 * np) (by omega) (by omega)) ?_
  intro pl
  repeat (first | refine go ?_ | (refine goX ?_; intro))
  refine EK_sink 13 (Obj pn 79 (natW c np 0 ep pl none none none none (none, 0)) * (Obj x1 52 [.int .i64 (c.n : Int), .int .u32 (c.o : Int), .int .i64 (c.lo : Int), .int .i64 (c.hi : Int), .int .i64 (c.nb : Int), .int .i64 (c.r : Int)] * 1)) rfl rfl rfl ?_
  repeat (first | refine goQ ?_ | refine EG_done (by decide +kernel) ?_)
  refine EG_callQ rfl rfl rfl rfl rfl (Spec.at1 pl (TNew_spec (m := 3 * np) (ws := List.replicate (2 * (3 * np)) 0) hfine (by simp) (by omega))) (fun _ => by first | exact Ent.refl _ | exact Ent.last | (repeat (first | refine Ent.cons ?_ | exact Ent.any | exact Ent.last))) ?_
  intro tb
  repeat (first | refine goQ ?_ | refine EG_done (by decide +kernel) ?_)
  repeat (first | refine goG ?_ | (refine goGX ?_; intro) | refine goGL ?_ | refine goGS ?_ | refine goGV ?_ | refine EG_done (by decide +kernel) ?_)
  refine EG_both rfl rfl rfl (fun _ => OpVal_quick rfl) (OpSkip_store rfl rfl rfl rfl rfl rfl) (OpSkip_store rfl rfl rfl rfl rfl rfl) (by (first | exact Ent.refl _ | exact Ent.last | (repeat (first | refine Ent.cons ?_ | exact Ent.any | exact Ent.last)))) ?_
  repeat (first | refine go ?_ | (refine goX ?_; intro))
  obtain ⟨G, hG⟩ : ∃ G, G = EpC ep (List.replicate (c.n + 1) 0) (List.replicate c.n []) * (PlaceC pl (List.replicate (2 * (3 * np)) 0) * (TableC tb pl c.nb (List.replicate (c.nb + 1) 0) * F)) := ⟨_, rfl⟩
  refine EK_loop (γ := Nat × Option Addr × Option Addr × Option Addr) (fun g => g.1 ≤ 3) (fun g => [(1, .pointer x1), (4, .pointer pn), (48, .int .i64 (g.1 : Int))])
    (fun g => Obj pn 79 (natW c np 0 ep pl tb g.2.1 g.2.2.1 g.2.2.2 (none, 0)) * (Obj x1 52 [.int .i64 (c.n : Int), .int .u32 (c.o : Int), .int .i64 (c.lo : Int), .int .i64 (c.hi : Int), .int .i64 (c.nb : Int), .int .i64 (c.r : Int)] * pools3 np g.2.1 g.2.2.1 g.2.2.2 G g.1)) (fun g => 3 - g.1) (0, none, none, none) (Nat.zero_le _) ⟨rfl, rfl, rfl, trivial⟩ (Ent.sat ?_) ?_
  · simp only [pools3, hG]
    first | exact Ent.refl _ | exact Ent.last | (repeat (first | refine Ent.cons ?_ | exact Ent.any | exact Ent.last))
  intro ⟨j, a, b, d⟩ h1; dsimp only at h1 ⊢
  by_cases hj : j < 3
  · obtain rfl | rfl | rfl : j = 0 ∨ j = 1 ∨ j = 2 := by omega
    · simp only [pools3]
      repeat (first | refine go ?_ | (refine goX ?_; intro))
      refine EK_sink 13 (Obj pn 79 (natW c np 0 ep pl tb a b d (none, 0)) * 1) rfl rfl rfl ?_
      repeat (first | refine goQ ?_ | refine EG_done (by decide +kernel) ?_)
      refine EG_callQ rfl rfl rfl rfl rfl (New_spec (n := np) hnp.1 hnp.2) (fun _ => by first | exact Ent.refl _ | exact Ent.last | (repeat (first | refine Ent.cons ?_ | exact Ent.any | exact Ent.last))) ?_
      intro p
      repeat (first | refine goQ ?_ | refine EG_done (by decide +kernel) ?_)
      refine EG_both rfl rfl rfl (fun _ => OpVal_quick rfl) (OpSkip_store rfl rfl rfl rfl rfl rfl) (OpSkip_store rfl rfl rfl rfl rfl rfl) (by (first | exact Ent.refl _ | exact Ent.last | (repeat (first | refine Ent.cons ?_ | exact Ent.any | exact Ent.last)))) ?_
      repeat (first | refine go ?_ | (refine goX ?_; intro))
      refine EK_round (1, p, b, d) (by dsimp only; omega) (by dsimp only; omega) ⟨rfl, rfl, rfl, trivial⟩ (Ent.sat ?_)
      simp only [pools3]
      first | exact Ent.refl _ | exact Ent.last | (repeat (first | refine Ent.cons ?_ | exact Ent.any | exact Ent.last))
    · simp only [pools3]
      repeat (first | refine go ?_ | (refine goX ?_; intro))
      refine EK_sink 13 (Obj pn 79 (natW c np 0 ep pl tb a b d (none, 0)) * 1) rfl rfl rfl ?_
      repeat (first | refine goQ ?_ | refine EG_done (by decide +kernel) ?_)
      refine EG_callQ rfl rfl rfl rfl rfl (New_spec (n := np) hnp.1 hnp.2) (fun _ => by first | exact Ent.refl _ | exact Ent.last | (repeat (first | refine Ent.cons ?_ | exact Ent.any | exact Ent.last))) ?_
      intro p
      repeat (first | refine goQ ?_ | refine EG_done (by decide +kernel) ?_)
      refine EG_both rfl rfl rfl (fun _ => OpVal_quick rfl) (OpSkip_store rfl rfl rfl rfl rfl rfl) (OpSkip_store rfl rfl rfl rfl rfl rfl) (by (first | exact Ent.refl _ | exact Ent.last | (repeat (first | refine Ent.cons ?_ | exact Ent.any | exact Ent.last)))) ?_
      repeat (first | refine go ?_ | (refine goX ?_; intro))
      refine EK_round (2, a, p, d) (by dsimp only; omega) (by dsimp only; omega) ⟨rfl, rfl, rfl, trivial⟩ (Ent.sat ?_)
      simp only [pools3]
      first | exact Ent.refl _ | exact Ent.last | (repeat (first | refine Ent.cons ?_ | exact Ent.any | exact Ent.last))
    · simp only [pools3]
      repeat (first | refine go ?_ | (refine goX ?_; intro))
      refine EK_sink 13 (Obj pn 79 (natW c np 0 ep pl tb a b d (none, 0)) * 1) rfl rfl rfl ?_
      repeat (first | refine goQ ?_ | refine EG_done (by decide +kernel) ?_)
      refine EG_callQ rfl rfl rfl rfl rfl (New_spec (n := np) hnp.1 hnp.2) (fun _ => by first | exact Ent.refl _ | exact Ent.last | (repeat (first | refine Ent.cons ?_ | exact Ent.any | exact Ent.last))) ?_
      intro p
      repeat (first | refine goQ ?_ | refine EG_done (by decide +kernel) ?_)
      refine EG_both rfl rfl rfl (fun _ => OpVal_quick rfl) (OpSkip_store rfl rfl rfl rfl rfl rfl) (OpSkip_store rfl rfl rfl rfl rfl rfl) (by (first | exact Ent.refl _ | exact Ent.last | (repeat (first | refine Ent.cons ?_ | exact Ent.any | exact Ent.last)))) ?_
      repeat (first | refine go ?_ | (refine goX ?_; intro))
      refine EK_round (3, a, b, p) (by dsimp only; omega) (by dsimp only; omega) ⟨rfl, rfl, rfl, trivial⟩ (Ent.sat ?_)
      simp only [pools3]
      first | exact Ent.refl _ | exact Ent.last | (repeat (first | refine Ent.cons ?_ | exact Ent.any | exact Ent.last))
  · have e3 : j = 3 := by omega
    subst e3
    simp only [pools3]
    repeat (first | refine go ?_ | (refine goX ?_; intro))
    refine EK_loop (γ := Nat × Slab × (Nat → WkP)) (fun g => g.1 ≤ c.n) (fun g => [(4, .pointer pn), (66, .int .i64 (c.n : Int)), (67, .int .i64 (g.1 : Int))])
      (fun g => Obj pn 79 (natW c np g.1 ep pl tb a b d g.2.1) * (RowC 88 1 g.2.1.1 g.1 g.2.1.2 (ptrF g.1 fun i => (g.2.2 i).p) * (Stars (WkS a b d g.2.2) g.1 * (PoolC d np (newWords np) * (PoolC b np (newWords np) * (PoolC a np (newWords np) * G)))))) (fun g => c.n - g.1) (0, (none, 0), fun _ => ⟨none, none, none, none, none, 0⟩) (Nat.zero_le _) ⟨rfl, rfl, rfl, trivial⟩ (Ent.sat ?_) ?_
    · refine Ent.cons (Ent.none ?_)
      show Ent _ (1 * _)
      rw [SL.sep_comm 1, SL.sep_emp]
      first | exact Ent.refl _ | exact Ent.last | (repeat (first | refine Ent.cons ?_ | exact Ent.any | exact Ent.last))
    intro ⟨w, ws, wk⟩ h2; dsimp only at h2 ⊢
    by_cases hw : w < c.n
    · repeat (first | refine go ?_ | (refine goX ?_; intro))
      refine EL_call rfl WNew_spec ?_
      intro wh
      refine EL_does (OpDoes_map rfl) rfl ?_
      intro m
      repeat (first | refine go ?_ | (refine goX ?_; intro))
      rename_i px
      obtain ⟨G2, hG2⟩ : ∃ G2, G2 = RowC 88 1 ws.1 w ws.2 (ptrF w fun i => (wk i).p) * (Stars (WkS a b d wk) w * (WheelC wh newS * (SL.blk m (.map #[] 0) * G))) := ⟨_, rfl⟩
      refine EK_loop (γ := Nat × Option Addr × Option Addr × Option Addr) (fun g => g.1 ≤ 3) (fun g => [(4, .pointer pn), (6, .int .i64 (w : Int)), (7, .pointer px), (66, .int .i64 (c.n : Int)), (67, .int .i64 (w : Int)), (74, .int .i64 (g.1 : Int))])
        (fun g => Obj px 101 (wkW g.2.1 g.2.2.1 g.2.2.2 wh m) * (Obj pn 79 (natW c np w ep pl tb a b d ws) * caches3 w a b d g.2.1 g.2.2.1 g.2.2.2 (PoolC d np (newWords np) * (PoolC b np (newWords np) * (PoolC a np (newWords np) * G2))) g.1)) (fun g => 3 - g.1) (0, none, none, none) (Nat.zero_le _) ⟨rfl, rfl, rfl, rfl, rfl, rfl, trivial⟩ (Ent.sat ?_) ?_
      · simp only [caches3, hG2]
        first | exact Ent.refl _ | exact Ent.last | (repeat (first | refine Ent.cons ?_ | exact Ent.any | exact Ent.last))
      intro ⟨j, u1, u2, u3⟩ h3; dsimp only at h3 ⊢
      by_cases hj : j < 3
      · obtain rfl | rfl | rfl : j = 0 ∨ j = 1 ∨ j = 2 := by omega
        · simp only [caches3]
          repeat (first | refine go ?_ | (refine goX ?_; intro))
          refine EK_sink 16 (Obj pn 79 (natW c np w ep pl tb a b d ws) * (Obj px 101 (wkW u1 u2 u3 wh m) * 1)) rfl rfl rfl ?_
          repeat (first | refine goQ ?_ | refine EG_done (by decide +kernel) ?_)
          refine EG_callQ rfl rfl rfl rfl rfl (Spec.at1 a (CaNew_spec w)) (fun _ => by first | exact Ent.refl _ | exact Ent.last | (repeat (first | refine Ent.cons ?_ | exact Ent.any | exact Ent.last))) ?_
          intro p
          repeat (first | refine goQ ?_ | refine EG_done (by decide +kernel) ?_)
          refine EG_both rfl rfl rfl (fun _ => OpVal_quick rfl) (OpSkip_store rfl rfl rfl rfl rfl rfl) (OpSkip_store rfl rfl rfl rfl rfl rfl) (by (first | exact Ent.refl _ | exact Ent.last | (repeat (first | refine Ent.cons ?_ | exact Ent.any | exact Ent.last)))) ?_
          repeat (first | refine go ?_ | (refine goX ?_; intro))
          refine EK_round (1, p, u2, u3) (by dsimp only; omega) (by dsimp only; omega) ⟨rfl, rfl, rfl, rfl, rfl, rfl, trivial⟩ (Ent.sat ?_)
          simp only [caches3]
          first | exact Ent.refl _ | exact Ent.last | (repeat (first | refine Ent.cons ?_ | exact Ent.any | exact Ent.last))
        · simp only [caches3]
          repeat (first | refine go ?_ | (refine goX ?_; intro))
          refine EK_sink 16 (Obj pn 79 (natW c np w ep pl tb a b d ws) * (Obj px 101 (wkW u1 u2 u3 wh m) * 1)) rfl rfl rfl ?_
          repeat (first | refine goQ ?_ | refine EG_done (by decide +kernel) ?_)
          refine EG_callQ rfl rfl rfl rfl rfl (Spec.at1 b (CaNew_spec w)) (fun _ => by first | exact Ent.refl _ | exact Ent.last | (repeat (first | refine Ent.cons ?_ | exact Ent.any | exact Ent.last))) ?_
          intro p
          repeat (first | refine goQ ?_ | refine EG_done (by decide +kernel) ?_)
          refine EG_both rfl rfl rfl (fun _ => OpVal_quick rfl) (OpSkip_store rfl rfl rfl rfl rfl rfl) (OpSkip_store rfl rfl rfl rfl rfl rfl) (by (first | exact Ent.refl _ | exact Ent.last | (repeat (first | refine Ent.cons ?_ | exact Ent.any | exact Ent.last)))) ?_
          repeat (first | refine go ?_ | (refine goX ?_; intro))
          refine EK_round (2, u1, p, u3) (by dsimp only; omega) (by dsimp only; omega) ⟨rfl, rfl, rfl, rfl, rfl, rfl, trivial⟩ (Ent.sat ?_)
          simp only [caches3]
          first | exact Ent.refl _ | exact Ent.last | (repeat (first | refine Ent.cons ?_ | exact Ent.any | exact Ent.last))
        · simp only [caches3]
          repeat (first | refine go ?_ | (refine goX ?_; intro))
          refine EK_sink 16 (Obj pn 79 (natW c np w ep pl tb a b d ws) * (Obj px 101 (wkW u1 u2 u3 wh m) * 1)) rfl rfl rfl ?_
          repeat (first | refine goQ ?_ | refine EG_done (by decide +kernel) ?_)
          refine EG_callQ rfl rfl rfl rfl rfl (Spec.at1 d (CaNew_spec w)) (fun _ => by first | exact Ent.refl _ | exact Ent.last | (repeat (first | refine Ent.cons ?_ | exact Ent.any | exact Ent.last))) ?_
          intro p
          repeat (first | refine goQ ?_ | refine EG_done (by decide +kernel) ?_)
          refine EG_both rfl rfl rfl (fun _ => OpVal_quick rfl) (OpSkip_store rfl rfl rfl rfl rfl rfl) (OpSkip_store rfl rfl rfl rfl rfl rfl) (by (first | exact Ent.refl _ | exact Ent.last | (repeat (first | refine Ent.cons ?_ | exact Ent.any | exact Ent.last)))) ?_
          repeat (first | refine go ?_ | (refine goX ?_; intro))
          refine EK_round (3, u1, u2, p) (by dsimp only; omega) (by dsimp only; omega) ⟨rfl, rfl, rfl, rfl, rfl, rfl, trivial⟩ (Ent.sat ?_)
          simp only [caches3]
          first | exact Ent.refl _ | exact Ent.last | (repeat (first | refine Ent.cons ?_ | exact Ent.any | exact Ent.last))
      · have e3 : j = 3 := by omega
        subst e3
        simp only [caches3, hG2]
        repeat (first | refine go ?_ | (refine goX ?_; intro))
        rename_i ws2
        refine EK_round (w + 1, ws2, updW wk w ⟨px, u1, u2, u3, wh, m⟩) (by dsimp only; omega) (by dsimp only; omega) ⟨rfl, rfl, rfl, trivial⟩ (Ent.sat ?_)
        dsimp only
        have ep1 : (ptrF (w + 1) fun i => (updW wk w ⟨px, u1, u2, u3, wh, m⟩ i).p) = ptrF w (fun i => (wk i).p) ++ [.pointer px] := by
          rw [← ptrF_snoc, updW_at]
          rw [ptrF_congr (f := fun i => (updW wk w ⟨px, u1, u2, u3, wh, m⟩ i).p) (g := fun i => (wk i).p) fun i hi => by rw [updW_lt wk _ hi]]
        have est : Stars (WkS a b d (updW wk w ⟨px, u1, u2, u3, wh, m⟩)) w = Stars (WkS a b d wk) w := Stars.congr w fun i hi => by unfold WkS; rw [updW_lt wk _ hi]
        rw [ep1, Stars.succ, est, SL.sep_assoc, WkS.eq, updW_at]
        first | exact Ent.refl _ | exact Ent.last | (repeat (first | refine Ent.cons ?_ | exact Ent.any | exact Ent.last))
    · have e4 : w = c.n := by omega
      subst e4
      subst hnpe
      repeat (first | refine go ?_ | (refine goX ?_; intro))
      refine EK_ret (ER_2 rfl rfl rfl (pn, ⟨ep, pl, tb, a, b, d, ws, wk⟩) rfl (Ent.sat ?_))
      rw [NatS.eq, hG]
      first | exact Ent.refl _ | exact Ent.last | (repeat (first | refine Ent.cons ?_ | exact Ent.any | exact Ent.last))
end Go.Proofs.YtecdkofeohbneaaGreatDoor

namespace Go.Proofs.YtecdkofeohbneaaGreatDoor
open Go.RowKit
set_option maxRecDepth 10000
attribute [local irreducible] EK EX ER EN EL ES EG OpVal OpDoes OpSkip
variable {W : World} {F : SL} {X : Cx} {k : List KI} {σ : Env} {pn : Option Addr} {c : NC} {R : NatP}
attribute [local simp] ptrF_len clV_len natsR_len
theorem Config_spec : Spec Tryz.prog 38 [.pointer pn] W (NatO pn c R F) (fun _ : Unit => c.cfg.val) (fun _ => NatO pn c R F) := by
  refine Spec.of Tryz.func38 rfl Tryz.ntmps38 rfl ?_
  simp only [NatO]
  repeat (first | refine go ?_ | (refine goX ?_; intro))
  refine EK_ret (ER_c1 (rv := .cell 2 52) rfl ⟨_, rfl, LoadsV.agg rfl⟩ () rfl (Ent.sat ?_))
  first | exact Ent.refl _ | exact Ent.last | (repeat (first | refine Ent.cons ?_ | exact Ent.any | exact Ent.last))
theorem Config_nil : Spec Tryz.prog 38 [.pointer none] W F (fun _ : Unit => .agg #[.int .i64 0, .int .u32 0, .int .i64 0, .int .i64 0, .int .i64 0, .int .i64 0]) (fun _ => F) := by
  refine Spec.of Tryz.func38 rfl Tryz.ntmps38 rfl ?_
  repeat (first | refine go ?_ | (refine goX ?_; intro))
  refine EK_ret (ER_c1 (rv := .cell 2 52) rfl ⟨_, rfl, LoadsV.agg rfl⟩ () rfl (Ent.sat ?_))
  first | exact Ent.refl _ | exact Ent.last | (repeat (first | refine Ent.cons ?_ | exact Ent.any | exact Ent.last))
theorem wk_at {p0 p1 p2 : Option Addr} {wk : Nat → WkP} {n w : Nat} (hw : w < n) (G : SL) : Stars (WkS p0 p1 p2 wk) n * G = Obj (wk w).p 101 (wkV (wk w)) * (CacheC (wk w).c0 p0 w [] none * (CacheC (wk w).c1 p1 w [] none * (CacheC (wk w).c2 p2 w [] none * (WheelC (wk w).wh newS * (SL.blk (wk w).m (.map #[] 0) * (Stars (But (WkS p0 p1 p2 wk) w) n * G)))))) := by
  rw [Stars.at n hw, SL.sep_assoc, WkS.eq]
theorem retired_new (hc : c.Ok) {w id : Nat} (hw : w < c.n) (hid : id < 1000000) : Spec Tryz.prog 59 [.pointer pn, .int .i64 (w : Int), .int .i64 (id : Int)] W (NatO pn c R F) (fun _ : Unit => .bool false) (fun _ => NatO pn c R F) := by
  refine Spec.of Tryz.func59 rfl Tryz.ntmps59 rfl ?_
  have hn := hc.n
  have hgd : (List.replicate c.n ([] : List (Nat × Nat))).getD w [] = [] := by simp [List.getD_eq_getElem?_getD, hw]
  simp only [NatO]
  rw [wk_at hw]
  repeat (first | refine go ?_ | (refine goX ?_; intro))
  refine EL_call rfl (Spec.at1 R.ep (Given_spec R.ep (w := w) (by simpa using hw) (by simpa using hn.2) (by rw [hgd]; decide))) ?_
  intro q
  rw [hgd]
  simp only [List.map_nil]
  repeat (first | refine go ?_ | (refine goX ?_; intro))
  refine EL_call rfl (contains64_spec q.1 q.2 [] id (by decide)) ?_
  intro _
  rw [decide_eq_false (by simp)]
  repeat (first | refine go ?_ | (refine goX ?_; intro))
  exact EK_ret (ER_1 rfl rfl () rfl (Ent.sat (by first | exact Ent.refl _ | exact Ent.last | (repeat (first | refine Ent.cons ?_ | exact Ent.any | exact Ent.last)))))
theorem containsI_nil (x : Nat) : Spec Tryz.prog 54 [.slice none 0 0, .int .i64 (x : Int)] W F (fun _ : Unit => .bool false) (fun _ => F) := by
  haveI : Src W F none 0 (natsR .i64 []) := ⟨fun _ _ i v h => by simp [natsR] at h, fun _ _ h => by omega⟩
  have h := containsI_spec (W := W) (F := F) none 0 [] x (by decide)
  rw [decide_eq_false (by simp)] at h
  exact h
def newCl : List (Int × Int) := [(1, -1)]
theorem newCl_val : clV newCl = [.int .i64 1, .int .i64 (-1)] := rfl
theorem id_parts {kd x np : Nat} (hx : x < np) : ((kd * np + x : Nat) : Int) / (np : Int) = (kd : Int) ∧ ((kd * np + x : Nat) : Int) % (np : Int) = (x : Int) := by
  have h1 : (kd * np + x) / np = kd := by
    rw [Nat.add_comm, Nat.mul_comm, Nat.add_mul_div_left _ _ (by omega), Nat.div_eq_of_lt hx, Nat.zero_add]
  have h2 : (kd * np + x) % np = x := by
    rw [Nat.add_comm, Nat.add_mul_mod_self_right, Nat.mod_eq_of_lt hx]
  exact ⟨by rw [← Int.natCast_ediv, h1], by rw [← Int.natCast_emod, h2]⟩
theorem placeN_new (hc : c.Ok) {kd x : Nat} (hk : kd ≤ 2) (hx : x < c.np) : placeN c.cfg (protoN kd) ((c.lo : Int) + x) = ((kd * c.np + x : Nat) : Int) := by
  have hp := hc.ports
  have h1 : kindN (protoN kd) = kd := kind_proto kd (by omega) (by omega)
  obtain ⟨_, _, h3, _, _⟩ := hc
  unfold placeN
  rw [hp, h1]
  have h2 : ¬ ((c.np : Int) = 0 ∨ (kd : Int) < 0 ∨ ¬ (c.cfg.lo ≤ (c.lo : Int) + x ∧ (c.lo : Int) + x ≤ c.cfg.hi)) := by
    unfold NC.np at hx
    unfold NC.cfg
    dsimp only
    unfold NC.np
    omega
  rw [if_neg h2, show c.cfg.lo = (c.lo : Int) from rfl, Int.natCast_add, Int.natCast_mul]
  omega
set_option maxHeartbeats 4000000 in
theorem claims_new0 (hc : c.Ok) {x : Nat} (hx : x < c.np) (hf : x ∈ freeN (newWords c.np) ((c.np + 31) / 32 * 32)) : Spec Tryz.prog 40 [.pointer pn, .int .i64 (protoN 0), .int .i64 ((c.lo : Int) + x)] W (NatO pn c R F) (fun z : Slab => .slice z.1 1 z.2) (fun z => RowC 65 2 z.1 1 z.2 (clV newCl) * NatO pn c R F) := by
  refine Spec.of Tryz.func40 rfl Tryz.ntmps40 rfl ?_
  have hn := hc.n
  have hnp : 1 ≤ c.np ∧ c.np ≤ 1024 := by
    obtain ⟨_, _, h3, _, _⟩ := hc
    unfold NC.np
    omega
  haveI : Pos c.np := ⟨hnp.1⟩
  have hlo : (c.lo : Int) ≤ 65535 := by
    obtain ⟨_, _, h3, _, _⟩ := hc
    omega
  have hpl := placeN_new hc (kd := 0) (x := x) (by decide) hx
  obtain ⟨hq, hr⟩ := id_parts (kd := 0) hx
  have hidl : 0 * c.np + x < 3072 := by omega
  have hid3 : 0 * c.np + x < 3 * c.np := by omega
  generalize hide : 0 * c.np + x = id at hpl hq hr hidl hid3
  have hfl := freeN_len (newWords c.np) ((c.np + 31) / 32 * 32)
  simp only [NatO]
  refine EK_le (Ent.sat (Ent.none (e := 65) (sz := 2) (Ent.refl _))) ?_
  repeat (first | refine go ?_ | (refine goX ?_; intro))
  refine EL_call rfl (Place_spec c.cfg hc.fit _ _ (by unfold I64; omega)) ?_
  intro _
  rw [show (((0 : Nat) : Int)) = (0 : Int) from rfl] at hpl
  rw [hpl]
  repeat (first | refine go ?_ | (refine goX ?_; intro))
  refine EK_drawn rfl (by kernel_rfl) ?_
  repeat (refine goS ?_)
  rw [hq, hr]
  repeat (first | refine go ?_ | (refine goX ?_; intro))
  refine EL_call rfl (Spec.at1 R.p0 (Free_spec (newWords_ok hnp.1 hnp.2))) ?_
  intro fr
  repeat (first | refine go ?_ | (refine goX ?_; intro))
  refine EL_call rfl (containsI_spec fr.1 fr.2 _ x (by omega)) ?_
  intro _
  rw [decide_eq_true hf]
  repeat (first | refine go ?_ | (refine goX ?_; intro))
  rename_i z
  refine EK_exits (γ := Unit) (fun _ => True) (fun _ => [(0, .pointer pn), (7, .int .i64 (id : Int)), (10, .slice z.1 1 z.2)]) (fun _ => RowC 65 2 z.1 1 z.2 (clV newCl) * NatO pn c R F) ?_ ?_
  · refine EK_loop (γ := Nat) (fun w => w ≤ c.n) (fun w => [(0, .pointer pn), (7, .int .i64 (id : Int)), (8, .int .i64 0), (9, .int .i64 (x : Int)), (10, .slice z.1 1 z.2), (55, .slice R.ws.1 c.n R.ws.2), (56, .int .i64 (c.n : Int)), (57, .int .i64 (w : Int))]) (fun _ => RowC 65 2 z.1 1 z.2 (clV newCl) * NatO pn c R F) (fun w => c.n - w) 0 (Nat.zero_le _) ⟨rfl, rfl, rfl, rfl, rfl, rfl, rfl, rfl, trivial⟩ (Ent.sat ?_) ?_
    · simp only [NatO, newCl_val, List.nil_append, Nat.zero_add]
      first | exact Ent.refl _ | exact Ent.last | (repeat (first | refine Ent.cons ?_ | exact Ent.any | exact Ent.last))
    intro w h1
    by_cases hw : w < c.n
    · simp only [NatO]
      rw [wk_at hw]
      repeat (first | refine go ?_ | (refine goX ?_; intro))
      refine EL_call rfl (Spec.at1 (R.wk w).c0 (All_spec (by decide))) ?_
      intro al
      repeat (first | refine go ?_ | (refine goX ?_; intro))
      refine EL_call rfl (containsI_spec al.1 al.2 [] x (by decide)) ?_
      intro _
      rw [decide_eq_false (by simp)]
      repeat (first | refine go ?_ | (refine goX ?_; intro))
      refine EL_call rfl (Spec.at1 (R.wk w).c0 Leaving_none) ?_
      intro _
      repeat (first | refine go ?_ | (refine goX ?_; intro))
      refine EL_call rfl (containsI_nil x) ?_
      intro _
      repeat (first | refine go ?_ | (refine goX ?_; intro))
      refine EK_round (w + 1) (by omega) (by omega) ⟨rfl, rfl, rfl, rfl, rfl, rfl, rfl, rfl, trivial⟩ (Ent.sat ?_)
      first | exact Ent.refl _ | exact Ent.last | (repeat (first | refine Ent.cons ?_ | exact Ent.any | exact Ent.last))
    · have e : w = c.n := by omega
      subst e
      repeat (first | refine go ?_ | (refine goX ?_; intro))
      exact EK_meet () trivial ⟨rfl, rfl, rfl, trivial⟩ (Ent.sat (by first | exact Ent.refl _ | exact Ent.last | (repeat (first | refine Ent.cons ?_ | exact Ent.any | exact Ent.last))))
  · intro _ _
    simp only [NatO]
    repeat (first | refine go ?_ | (refine goX ?_; intro))
    refine EL_call rfl (Spec.at1 R.pl (PLoad_spec (n := 3 * c.np) (by simp) (by omega) hid3 (fun j => by rw [List.getD_eq_getElem?_getD, List.getElem?_replicate]; split <;> simp))) ?_
    intro _
    have hz : (List.replicate (2 * (3 * c.np)) 0).getD (2 * id) 0 = 0 := by rw [List.getD_eq_getElem?_getD, List.getElem?_replicate]; split <;> rfl
    rw [hz]
    repeat (first | refine go ?_ | (refine goX ?_; intro))
    refine EK_loop (γ := Nat) (fun w => w ≤ c.n) (fun w => [(0, .pointer pn), (7, .int .i64 (id : Int)), (10, .slice z.1 1 z.2), (105, .int .i64 (c.n : Int)), (106, .int .i64 (w : Int))]) (fun _ => RowC 65 2 z.1 1 z.2 (clV newCl) * NatO pn c R F) (fun w => c.n - w) 0 (Nat.zero_le _) ⟨rfl, rfl, rfl, rfl, rfl, trivial⟩ (Ent.sat ?_) ?_
    · simp only [NatO]
      first | exact Ent.refl _ | exact Ent.last | (repeat (first | refine Ent.cons ?_ | exact Ent.any | exact Ent.last))
    intro w h1
    by_cases hw : w < c.n
    · repeat (first | refine go ?_ | (refine goX ?_; intro))
      refine EL_call rfl (Spec.pre (retired_new (R := R) (F := RowC 65 2 z.1 1 z.2 (clV newCl) * F) hc hw (by omega)) (by simp only [NatO]; first | exact Ent.refl _ | exact Ent.last | (repeat (first | refine Ent.cons ?_ | exact Ent.any | exact Ent.last)))) ?_
      intro _
      repeat (first | refine go ?_ | (refine goX ?_; intro))
      refine EK_round (w + 1) (by omega) (by omega) ⟨rfl, rfl, rfl, rfl, rfl, trivial⟩ (Ent.sat ?_)
      simp only [NatO]
      first | exact Ent.refl _ | exact Ent.last | (repeat (first | refine Ent.cons ?_ | exact Ent.any | exact Ent.last))
    · have e : w = c.n := by omega
      subst e
      repeat (first | refine go ?_ | (refine goX ?_; intro))
      exact EK_ret (ER_1 rfl rfl z rfl (Ent.sat (Ent.refl _)))
set_option maxHeartbeats 4000000 in
theorem claims_new1 (hc : c.Ok) {x : Nat} (hx : x < c.np) (hf : x ∈ freeN (newWords c.np) ((c.np + 31) / 32 * 32)) : Spec Tryz.prog 40 [.pointer pn, .int .i64 (protoN 1), .int .i64 ((c.lo : Int) + x)] W (NatO pn c R F) (fun z : Slab => .slice z.1 1 z.2) (fun z => RowC 65 2 z.1 1 z.2 (clV newCl) * NatO pn c R F) := by
  refine Spec.of Tryz.func40 rfl Tryz.ntmps40 rfl ?_
  have hn := hc.n
  have hnp : 1 ≤ c.np ∧ c.np ≤ 1024 := by
    obtain ⟨_, _, h3, _, _⟩ := hc
    unfold NC.np
    omega
  haveI : Pos c.np := ⟨hnp.1⟩
  have hlo : (c.lo : Int) ≤ 65535 := by
    obtain ⟨_, _, h3, _, _⟩ := hc
    omega
  have hpl := placeN_new hc (kd := 1) (x := x) (by decide) hx
  obtain ⟨hq, hr⟩ := id_parts (kd := 1) hx
  have hidl : 1 * c.np + x < 3072 := by omega
  have hid3 : 1 * c.np + x < 3 * c.np := by omega
  generalize hide : 1 * c.np + x = id at hpl hq hr hidl hid3
  have hfl := freeN_len (newWords c.np) ((c.np + 31) / 32 * 32)
  simp only [NatO]
  refine EK_le (Ent.sat (Ent.none (e := 65) (sz := 2) (Ent.refl _))) ?_
  repeat (first | refine go ?_ | (refine goX ?_; intro))
  refine EL_call rfl (Place_spec c.cfg hc.fit _ _ (by unfold I64; omega)) ?_
  intro _
  rw [show (((1 : Nat) : Int)) = (1 : Int) from rfl] at hpl
  rw [hpl]
  repeat (first | refine go ?_ | (refine goX ?_; intro))
  refine EK_drawn rfl (by kernel_rfl) ?_
  repeat (refine goS ?_)
  rw [hq, hr]
  repeat (first | refine go ?_ | (refine goX ?_; intro))
  refine EL_call rfl (Spec.at1 R.p1 (Free_spec (newWords_ok hnp.1 hnp.2))) ?_
  intro fr
  repeat (first | refine go ?_ | (refine goX ?_; intro))
  refine EL_call rfl (containsI_spec fr.1 fr.2 _ x (by omega)) ?_
  intro _
  rw [decide_eq_true hf]
  repeat (first | refine go ?_ | (refine goX ?_; intro))
  rename_i z
  refine EK_exits (γ := Unit) (fun _ => True) (fun _ => [(0, .pointer pn), (7, .int .i64 (id : Int)), (10, .slice z.1 1 z.2)]) (fun _ => RowC 65 2 z.1 1 z.2 (clV newCl) * NatO pn c R F) ?_ ?_
  · refine EK_loop (γ := Nat) (fun w => w ≤ c.n) (fun w => [(0, .pointer pn), (7, .int .i64 (id : Int)), (8, .int .i64 1), (9, .int .i64 (x : Int)), (10, .slice z.1 1 z.2), (55, .slice R.ws.1 c.n R.ws.2), (56, .int .i64 (c.n : Int)), (57, .int .i64 (w : Int))]) (fun _ => RowC 65 2 z.1 1 z.2 (clV newCl) * NatO pn c R F) (fun w => c.n - w) 0 (Nat.zero_le _) ⟨rfl, rfl, rfl, rfl, rfl, rfl, rfl, rfl, trivial⟩ (Ent.sat ?_) ?_
    · simp only [NatO, newCl_val, List.nil_append, Nat.zero_add]
      first | exact Ent.refl _ | exact Ent.last | (repeat (first | refine Ent.cons ?_ | exact Ent.any | exact Ent.last))
    intro w h1
    by_cases hw : w < c.n
    · simp only [NatO]
      rw [wk_at hw]
      repeat (first | refine go ?_ | (refine goX ?_; intro))
      refine EL_call rfl (Spec.at1 (R.wk w).c1 (All_spec (by decide))) ?_
      intro al
      repeat (first | refine go ?_ | (refine goX ?_; intro))
      refine EL_call rfl (containsI_spec al.1 al.2 [] x (by decide)) ?_
      intro _
      rw [decide_eq_false (by simp)]
      repeat (first | refine go ?_ | (refine goX ?_; intro))
      refine EL_call rfl (Spec.at1 (R.wk w).c1 Leaving_none) ?_
      intro _
      repeat (first | refine go ?_ | (refine goX ?_; intro))
      refine EL_call rfl (containsI_nil x) ?_
      intro _
      repeat (first | refine go ?_ | (refine goX ?_; intro))
      refine EK_round (w + 1) (by omega) (by omega) ⟨rfl, rfl, rfl, rfl, rfl, rfl, rfl, rfl, trivial⟩ (Ent.sat ?_)
      first | exact Ent.refl _ | exact Ent.last | (repeat (first | refine Ent.cons ?_ | exact Ent.any | exact Ent.last))
    · have e : w = c.n := by omega
      subst e
      repeat (first | refine go ?_ | (refine goX ?_; intro))
      exact EK_meet () trivial ⟨rfl, rfl, rfl, trivial⟩ (Ent.sat (by first | exact Ent.refl _ | exact Ent.last | (repeat (first | refine Ent.cons ?_ | exact Ent.any | exact Ent.last))))
  · intro _ _
    simp only [NatO]
    repeat (first | refine go ?_ | (refine goX ?_; intro))
    refine EL_call rfl (Spec.at1 R.pl (PLoad_spec (n := 3 * c.np) (by simp) (by omega) hid3 (fun j => by rw [List.getD_eq_getElem?_getD, List.getElem?_replicate]; split <;> simp))) ?_
    intro _
    have hz : (List.replicate (2 * (3 * c.np)) 0).getD (2 * id) 0 = 0 := by rw [List.getD_eq_getElem?_getD, List.getElem?_replicate]; split <;> rfl
    rw [hz]
    repeat (first | refine go ?_ | (refine goX ?_; intro))
    refine EK_loop (γ := Nat) (fun w => w ≤ c.n) (fun w => [(0, .pointer pn), (7, .int .i64 (id : Int)), (10, .slice z.1 1 z.2), (105, .int .i64 (c.n : Int)), (106, .int .i64 (w : Int))]) (fun _ => RowC 65 2 z.1 1 z.2 (clV newCl) * NatO pn c R F) (fun w => c.n - w) 0 (Nat.zero_le _) ⟨rfl, rfl, rfl, rfl, rfl, trivial⟩ (Ent.sat ?_) ?_
    · simp only [NatO]
      first | exact Ent.refl _ | exact Ent.last | (repeat (first | refine Ent.cons ?_ | exact Ent.any | exact Ent.last))
    intro w h1
    by_cases hw : w < c.n
    · repeat (first | refine go ?_ | (refine goX ?_; intro))
      refine EL_call rfl (Spec.pre (retired_new (R := R) (F := RowC 65 2 z.1 1 z.2 (clV newCl) * F) hc hw (by omega)) (by simp only [NatO]; first | exact Ent.refl _ | exact Ent.last | (repeat (first | refine Ent.cons ?_ | exact Ent.any | exact Ent.last)))) ?_
      intro _
      repeat (first | refine go ?_ | (refine goX ?_; intro))
      refine EK_round (w + 1) (by omega) (by omega) ⟨rfl, rfl, rfl, rfl, rfl, trivial⟩ (Ent.sat ?_)
      simp only [NatO]
      first | exact Ent.refl _ | exact Ent.last | (repeat (first | refine Ent.cons ?_ | exact Ent.any | exact Ent.last))
    · have e : w = c.n := by omega
      subst e
      repeat (first | refine go ?_ | (refine goX ?_; intro))
      exact EK_ret (ER_1 rfl rfl z rfl (Ent.sat (Ent.refl _)))
set_option maxHeartbeats 4000000 in
theorem claims_new2 (hc : c.Ok) {x : Nat} (hx : x < c.np) (hf : x ∈ freeN (newWords c.np) ((c.np + 31) / 32 * 32)) : Spec Tryz.prog 40 [.pointer pn, .int .i64 (protoN 2), .int .i64 ((c.lo : Int) + x)] W (NatO pn c R F) (fun z : Slab => .slice z.1 1 z.2) (fun z => RowC 65 2 z.1 1 z.2 (clV newCl) * NatO pn c R F) := by
  refine Spec.of Tryz.func40 rfl Tryz.ntmps40 rfl ?_
  have hn := hc.n
  have hnp : 1 ≤ c.np ∧ c.np ≤ 1024 := by
    obtain ⟨_, _, h3, _, _⟩ := hc
    unfold NC.np
    omega
  haveI : Pos c.np := ⟨hnp.1⟩
  have hlo : (c.lo : Int) ≤ 65535 := by
    obtain ⟨_, _, h3, _, _⟩ := hc
    omega
  have hpl := placeN_new hc (kd := 2) (x := x) (by decide) hx
  obtain ⟨hq, hr⟩ := id_parts (kd := 2) hx
  have hidl : 2 * c.np + x < 3072 := by omega
  have hid3 : 2 * c.np + x < 3 * c.np := by omega
  generalize hide : 2 * c.np + x = id at hpl hq hr hidl hid3
  have hfl := freeN_len (newWords c.np) ((c.np + 31) / 32 * 32)
  simp only [NatO]
  refine EK_le (Ent.sat (Ent.none (e := 65) (sz := 2) (Ent.refl _))) ?_
  repeat (first | refine go ?_ | (refine goX ?_; intro))
  refine EL_call rfl (Place_spec c.cfg hc.fit _ _ (by unfold I64; omega)) ?_
  intro _
  rw [show (((2 : Nat) : Int)) = (2 : Int) from rfl] at hpl
  rw [hpl]
  repeat (first | refine go ?_ | (refine goX ?_; intro))
  refine EK_drawn rfl (by kernel_rfl) ?_
  repeat (refine goS ?_)
  rw [hq, hr]
  repeat (first | refine go ?_ | (refine goX ?_; intro))
  refine EL_call rfl (Spec.at1 R.p2 (Free_spec (newWords_ok hnp.1 hnp.2))) ?_
  intro fr
  repeat (first | refine go ?_ | (refine goX ?_; intro))
  refine EL_call rfl (containsI_spec fr.1 fr.2 _ x (by omega)) ?_
  intro _
  rw [decide_eq_true hf]
  repeat (first | refine go ?_ | (refine goX ?_; intro))
  rename_i z
  refine EK_exits (γ := Unit) (fun _ => True) (fun _ => [(0, .pointer pn), (7, .int .i64 (id : Int)), (10, .slice z.1 1 z.2)]) (fun _ => RowC 65 2 z.1 1 z.2 (clV newCl) * NatO pn c R F) ?_ ?_
  · refine EK_loop (γ := Nat) (fun w => w ≤ c.n) (fun w => [(0, .pointer pn), (7, .int .i64 (id : Int)), (8, .int .i64 2), (9, .int .i64 (x : Int)), (10, .slice z.1 1 z.2), (55, .slice R.ws.1 c.n R.ws.2), (56, .int .i64 (c.n : Int)), (57, .int .i64 (w : Int))]) (fun _ => RowC 65 2 z.1 1 z.2 (clV newCl) * NatO pn c R F) (fun w => c.n - w) 0 (Nat.zero_le _) ⟨rfl, rfl, rfl, rfl, rfl, rfl, rfl, rfl, trivial⟩ (Ent.sat ?_) ?_
    · simp only [NatO, newCl_val, List.nil_append, Nat.zero_add]
      first | exact Ent.refl _ | exact Ent.last | (repeat (first | refine Ent.cons ?_ | exact Ent.any | exact Ent.last))
    intro w h1
    by_cases hw : w < c.n
    · simp only [NatO]
      rw [wk_at hw]
      repeat (first | refine go ?_ | (refine goX ?_; intro))
      refine EL_call rfl (Spec.at1 (R.wk w).c2 (All_spec (by decide))) ?_
      intro al
      repeat (first | refine go ?_ | (refine goX ?_; intro))
      refine EL_call rfl (containsI_spec al.1 al.2 [] x (by decide)) ?_
      intro _
      rw [decide_eq_false (by simp)]
      repeat (first | refine go ?_ | (refine goX ?_; intro))
      refine EL_call rfl (Spec.at1 (R.wk w).c2 Leaving_none) ?_
      intro _
      repeat (first | refine go ?_ | (refine goX ?_; intro))
      refine EL_call rfl (containsI_nil x) ?_
      intro _
      repeat (first | refine go ?_ | (refine goX ?_; intro))
      refine EK_round (w + 1) (by omega) (by omega) ⟨rfl, rfl, rfl, rfl, rfl, rfl, rfl, rfl, trivial⟩ (Ent.sat ?_)
      first | exact Ent.refl _ | exact Ent.last | (repeat (first | refine Ent.cons ?_ | exact Ent.any | exact Ent.last))
    · have e : w = c.n := by omega
      subst e
      repeat (first | refine go ?_ | (refine goX ?_; intro))
      exact EK_meet () trivial ⟨rfl, rfl, rfl, trivial⟩ (Ent.sat (by first | exact Ent.refl _ | exact Ent.last | (repeat (first | refine Ent.cons ?_ | exact Ent.any | exact Ent.last))))
  · intro _ _
    simp only [NatO]
    repeat (first | refine go ?_ | (refine goX ?_; intro))
    refine EL_call rfl (Spec.at1 R.pl (PLoad_spec (n := 3 * c.np) (by simp) (by omega) hid3 (fun j => by rw [List.getD_eq_getElem?_getD, List.getElem?_replicate]; split <;> simp))) ?_
    intro _
    have hz : (List.replicate (2 * (3 * c.np)) 0).getD (2 * id) 0 = 0 := by rw [List.getD_eq_getElem?_getD, List.getElem?_replicate]; split <;> rfl
    rw [hz]
    repeat (first | refine go ?_ | (refine goX ?_; intro))
    refine EK_loop (γ := Nat) (fun w => w ≤ c.n) (fun w => [(0, .pointer pn), (7, .int .i64 (id : Int)), (10, .slice z.1 1 z.2), (105, .int .i64 (c.n : Int)), (106, .int .i64 (w : Int))]) (fun _ => RowC 65 2 z.1 1 z.2 (clV newCl) * NatO pn c R F) (fun w => c.n - w) 0 (Nat.zero_le _) ⟨rfl, rfl, rfl, rfl, rfl, trivial⟩ (Ent.sat ?_) ?_
    · simp only [NatO]
      first | exact Ent.refl _ | exact Ent.last | (repeat (first | refine Ent.cons ?_ | exact Ent.any | exact Ent.last))
    intro w h1
    by_cases hw : w < c.n
    · repeat (first | refine go ?_ | (refine goX ?_; intro))
      refine EL_call rfl (Spec.pre (retired_new (R := R) (F := RowC 65 2 z.1 1 z.2 (clV newCl) * F) hc hw (by omega)) (by simp only [NatO]; first | exact Ent.refl _ | exact Ent.last | (repeat (first | refine Ent.cons ?_ | exact Ent.any | exact Ent.last)))) ?_
      intro _
      repeat (first | refine go ?_ | (refine goX ?_; intro))
      refine EK_round (w + 1) (by omega) (by omega) ⟨rfl, rfl, rfl, rfl, rfl, trivial⟩ (Ent.sat ?_)
      simp only [NatO]
      first | exact Ent.refl _ | exact Ent.last | (repeat (first | refine Ent.cons ?_ | exact Ent.any | exact Ent.last))
    · have e : w = c.n := by omega
      subst e
      repeat (first | refine go ?_ | (refine goX ?_; intro))
      exact EK_ret (ER_1 rfl rfl z rfl (Ent.sat (Ent.refl _)))
end Go.Proofs.YtecdkofeohbneaaGreatDoor

namespace Go.Proofs.YtecdkofeohbneaaGreatDoor
open Go.RowKit
set_option maxRecDepth 10000
attribute [local irreducible] EK EX ER EN EL ES EG OpVal OpDoes OpSkip
variable {W : World} {F : SL} {X : Cx} {k : List KI} {σ : Env}
attribute [local simp] clV_len arV_len fV_len
/-- The document's rows: a row of one's own, of claims that are there already. -/
abbrev RRows (q : Slab) (l : List ARow) (ps : Nat → Slab) : SL := RowC 37 3 q.1 l.length q.2 (arV l ps)
def clS (l : List ARow) (ps : Nat → Slab) (i : Nat) : SL := RowC 65 2 (ps i).1 (l.getD i ar0).cl.length (ps i).2 (clV (l.getD i ar0).cl)
def AuC (q : Slab) (l : List ARow) (ps : Nat → Slab) : SL := RowC 60 3 q.1 l.length q.2 (arV l ps) * Stars (clS l ps) l.length
theorem AuC.eq (q : Slab) (l : List ARow) (ps : Nat → Slab) (F : SL) : AuC q l ps * F = RowC 60 3 q.1 l.length q.2 (arV l ps) * (Stars (clS l ps) l.length * F) := by
  unfold AuC; rw [SL.sep_assoc]
theorem AuC.at {q : Slab} {l : List ARow} {ps : Nat → Slab} {i : Nat} (hi : i < l.length) (F : SL) : AuC q l ps * F = RowC 60 3 q.1 l.length q.2 (arV l ps) * (RowC 65 2 (ps i).1 (l.getD i ar0).cl.length (ps i).2 (clV (l.getD i ar0).cl) * (Stars (But (clS l ps) i) l.length * F)) := by
  rw [AuC.eq, Stars.at l.length hi, SL.sep_assoc]; rfl
theorem AuC.snoc {q : Slab} {l : List ARow} {ps : Nat → Slab} (r : ARow) (z : Slab) (F : SL) : RowC 60 3 q.1 (l.length + 1) q.2 (arV l ps ++ [.int .i64 r.proto, .int .i64 r.port, .slice z.1 r.cl.length z.2]) * (RowC 65 2 z.1 r.cl.length z.2 (clV r.cl) * (Stars (clS l ps) l.length * F)) = AuC q (l ++ [r]) (updS ps l.length z) * F := by
  rw [AuC.eq, arV_snoc l _ r rfl, updS_at, List.length_append, List.length_singleton, arV_congr (ps := updS ps l.length z) (qs := ps) fun i hi => updS_lt ps z hi, Stars.succ, SL.sep_assoc]
  have e1 : clS (l ++ [r]) (updS ps l.length z) l.length = RowC 65 2 z.1 r.cl.length z.2 (clV r.cl) := by
    unfold clS
    rw [updS_at, getD_end rfl]
  have e2 : Stars (clS (l ++ [r]) (updS ps l.length z)) l.length = Stars (clS l ps) l.length := Stars.congr _ fun i hi => by
    unfold clS
    rw [updS_lt ps z hi, getD_left hi]
  rw [e1, e2]
theorem Ro.take {W : World} {p : Option Addr} {n m sz : Nat} {xs : List Value} (h : Ro W p n xs) (hm : m ≤ n) : Ro W p m (xs.take (m * sz)) := ⟨fun i v hv => h.cells i v (by
    rw [List.getElem?_take] at hv
    split at hv
    · exact hv
    · cases hv), fun h0 => h.nn (by omega)⟩
theorem NN.ofRo {W : World} {p : Option Addr} {n : Nat} {xs : List Value} (r : Ro W p n xs) (h : 0 < n) (i s : Nat) : ∀ H, NN H (el p i s) := fun H => ⟨fun _ _ _ e => by
  have := r.nn h
  cases p <;> simp_all [el, off]⟩
theorem few_snoc (l : List ARow) {i : Nat} (hi : i < l.length) : (l.take (i + 1)).map few1 = (l.take i).map few1 ++ [few1 (l.getD i ar0)] := by
  rw [← take_snocD (d := ar0) hi, List.map_append]; rfl
theorem few_len (l : List ARow) {i : Nat} (hi : i ≤ l.length) : ((l.take i).map few1).length = i := by simp [Nat.min_eq_left hi]
theorem known_spec (k w : Int) : Spec Tryz.prog 27 [.agg #[.int .i64 k, .int .i64 w]] W F (fun _ : Unit => .bool (decide (1 ≤ k ∧ k ≤ 4))) (fun _ => F) := by
  refine Spec.of Tryz.func27 rfl Tryz.ntmps27 rfl ?_
  by_cases h1 : 1 ≤ k
  · by_cases h2 : k ≤ 4
    · repeat (first | refine go ?_ | (refine goX ?_; intro))
      exact EK_ret (ER_1 rfl rfl () (by rw [decide_eq_true ⟨h1, h2⟩]) (Ent.sat Ent.last))
    · repeat (first | refine go ?_ | (refine goX ?_; intro))
      exact EK_ret (ER_1 rfl rfl () (by rw [decide_eq_false (fun e => h2 e.2)]) (Ent.sat Ent.last))
  · repeat (first | refine go ?_ | (refine goX ?_; intro))
    exact EK_ret (ER_1 rfl rfl () (by rw [decide_eq_false (fun e => h1 e.1)]) (Ent.sat Ent.last))
theorem few_spec (p : Option Addr) (c : Nat) (l : List ARow) (ps : Nat → Slab) [Ro W p l.length (arV l ps)] (hps : ∀ i, i < l.length → (l.getD i ar0).cl.length ≤ (ps i).2 ∧ (ps i).2 < 9223372036854775808) : Spec Tryz.prog 5 [.slice p l.length c] W F (fun g : Slab => .slice g.1 (fewR l).length g.2) (fun g => RRows g (fewR l) ps * F) := by
  refine Spec.of Tryz.func5 rfl Tryz.ntmps5 rfl ?_
  repeat (first | refine go ?_ | (refine goX ?_; intro))
  refine EK_loop (γ := Nat × Slab) (fun g => g.1 ≤ l.length ∧ g.1 ≤ 40) (fun g => [(0, .slice p l.length c), (3, .slice g.2.1 g.1 g.2.2), (4, .int .i64 (g.1 : Int))])
    (fun g => RowC 37 3 g.2.1 g.1 g.2.2 (arV ((l.take g.1).map few1) ps) * F) (fun g => l.length - g.1) (0, (none, 0)) ⟨Nat.zero_le _, Nat.zero_le _⟩ ⟨rfl, rfl, rfl, trivial⟩ (Ent.sat (Ent.none (Ent.refl _))) ?_
  intro ⟨i, g⟩ ⟨h1, h2⟩; dsimp only at h1 h2 ⊢
  by_cases hi : i < l.length
  · by_cases h40 : i < 40
    · have hq := hps i hi
      haveI : ∀ H, Room W H (ps i).1 (l.getD i ar0).cl.length (ps i).2 := fun H => ⟨fun _ _ => hq.1⟩
      repeat (first | refine go ?_ | (refine goX ?_; intro))
      rw [show min (((l.getD i ar0).cl.length : Nat) : Int) 5 = ((min 5 (l.getD i ar0).cl.length : Nat) : Int) by omega]
      repeat (first | refine go ?_ | (refine goX ?_; intro))
      rename_i q
      refine EK_round (i + 1, q) ⟨by dsimp only; omega, by dsimp only; omega⟩ (by dsimp only; omega) ⟨rfl, rfl, rfl, trivial⟩ (Ent.sat ?_)
      dsimp only
      rw [few_snoc l hi, arV_snoc _ ps _ (few_len l h1)]
      unfold few1
      dsimp only
      rw [List.length_take]
      rw [Nat.min_comm]
      first | exact Ent.refl _ | exact Ent.last | (repeat (first | refine Ent.cons ?_ | exact Ent.any | exact Ent.last))
    · have e : i = 40 := by omega
      subst e
      repeat (first | refine go ?_ | (refine goX ?_; intro))
      refine EK_ret (ER_1 rfl rfl g ?_ (Ent.sat ?_))
      · unfold fewR; rw [few_len l h1]
      · unfold RRows fewR; rw [few_len l h1]; exact Ent.refl _
  · have e : i = l.length := by omega
    subst e
    have ef : fewR l = (l.take l.length).map few1 := by unfold fewR; rw [List.take_length, List.take_of_length_le h2]
    repeat (first | refine go ?_ | (refine goX ?_; intro))
    refine EK_ret (ER_1 rfl rfl g ?_ (Ent.sat ?_))
    · rw [ef, few_len l h1]
    · unfold RRows; rw [ef, few_len l h1]; exact Ent.refl _
/-! ### Rows into rows -/
theorem to_spec (g : Slab) (L : List ARow) (ps : Nat → Slab) (hR : ∀ i, i < L.length → Ro W (ps i).1 (L.getD i ar0).cl.length (clV (L.getD i ar0).cl)) (hL : L.length ≤ 40) (h5 : ∀ i, i < L.length → (L.getD i ar0).cl.length ≤ 5) :
    Spec Tryz.prog 9 [.slice g.1 L.length g.2] W (RRows g L ps * F) (fun q : Slab × (Nat → Slab) => .slice q.1.1 L.length q.1.2) (fun q => AuC q.1 L q.2 * (RRows g L ps * F)) := by
  refine Spec.of Tryz.func9 rfl Tryz.ntmps9 rfl ?_
  repeat (first | refine go ?_ | (refine goX ?_; intro))
  refine EK_loop (γ := Nat × Slab × (Nat → Slab)) (fun a => a.1 ≤ L.length) (fun a => [(0, .slice g.1 L.length g.2), (3, .slice a.2.1.1 a.1 a.2.1.2), (4, .int .i64 (a.1 : Int))])
    (fun a => AuC a.2.1 (L.take a.1) a.2.2 * (RRows g L ps * F)) (fun a => L.length - a.1) (0, (none, 0), fun _ => (none, 0)) (Nat.zero_le _) ⟨rfl, rfl, rfl, trivial⟩ (Ent.sat ?_) ?_
  · dsimp only
    rw [AuC.eq]
    exact Ent.none (by show Ent _ (1 * _); rw [SL.sep_comm 1, SL.sep_emp]; exact Ent.refl _)
  intro ⟨i, q, qs⟩ h1; dsimp only at h1 ⊢
  by_cases hi : i < L.length
  · haveI := hR i hi
    haveI : Pos L.length := ⟨by omega⟩
    have h5i := h5 i hi
    repeat (first | refine go ?_ | (refine goX ?_; intro))
    refine EK_sink 12 (RRows g L ps * 1) rfl rfl rfl ?_
    repeat (first | refine goG ?_ | (refine goGX ?_; intro) | refine goGL ?_ | refine goGS ?_ | refine goGV ?_ | refine EG_done (by decide +kernel) ?_)
    repeat (first | refine go ?_ | (refine goX ?_; intro))
    rename_i x
    refine EK_loop (γ := Nat × Slab) (fun a => a.1 ≤ (L.getD i ar0).cl.length) (fun a => [(0, .slice g.1 L.length g.2), (3, .slice q.1 i q.2), (4, .int .i64 (i : Int)), (5, .pointer x), (6, .int .i64 (a.1 : Int))])
      (fun a => Obj x 60 [.int .i64 (L.getD i ar0).proto, .int .i64 (L.getD i ar0).port, .slice a.2.1 a.1 a.2.2] * (RowC 65 2 a.2.1 a.1 a.2.2 (clV ((L.getD i ar0).cl.take a.1)) * (AuC q (L.take i) qs * (RRows g L ps * F)))) (fun a => (L.getD i ar0).cl.length - a.1) (0, (none, 0)) (Nat.zero_le _) ⟨rfl, rfl, rfl, rfl, rfl, trivial⟩ (Ent.sat (Ent.cons (Ent.none (Ent.refl _)))) ?_
    intro ⟨j, z⟩ hj1; dsimp only at hj1 ⊢
    by_cases hj : j < (L.getD i ar0).cl.length
    · haveI := NN.ofRo (hR i hi) (by omega : 0 < (L.getD i ar0).cl.length) j 2
      repeat (first | refine go ?_ | (refine goX ?_; intro))
      refine EK_sink 24 (RRows g L ps * (Obj x 60 [.int .i64 (L.getD i ar0).proto, .int .i64 (L.getD i ar0).port, .slice z.1 j z.2] * 1)) rfl rfl rfl ?_
      repeat (first | refine goG ?_ | (refine goGX ?_; intro) | refine goGL ?_ | refine goGS ?_ | refine goGV ?_ | refine EG_done (by decide +kernel) ?_)
      repeat (first | refine go ?_ | (refine goX ?_; intro))
      rename_i z2
      refine EK_round (j + 1, z2) (by dsimp only; omega) (by dsimp only; omega) ⟨rfl, rfl, rfl, rfl, rfl, trivial⟩ (Ent.sat ?_)
      dsimp only
      rw [← take_snocD (d := (0, 0)) hj, clV_snoc]
      first | exact Ent.refl _ | exact Ent.last | (repeat (first | refine Ent.cons ?_ | exact Ent.any | exact Ent.last))
    · have e : j = (L.getD i ar0).cl.length := by omega
      subst e
      have hlen : (L.take i).length = i := by rw [List.length_take]; omega
      rw [AuC.eq, hlen, List.take_length]
      repeat (first | refine go ?_ | (refine goX ?_; intro))
      rename_i q2
      have e2 := AuC.snoc (q := q2) (l := L.take i) (ps := qs) (L.getD i ar0) z (RRows g L ps * F)
      rw [take_snocD (d := ar0) hi, hlen] at e2
      refine EK_round (i + 1, q2, updS qs i z) (by dsimp only; omega) (by dsimp only; omega) ⟨rfl, rfl, rfl, trivial⟩ (Ent.sat ?_)
      dsimp only
      rw [← e2]
      first | exact Ent.refl _ | exact Ent.last | (repeat (first | refine Ent.cons ?_ | exact Ent.any | exact Ent.last))
  · have e : i = L.length := by omega
    subst e
    repeat (first | refine go ?_ | (refine goX ?_; intro))
    refine EK_ret (ER_1 rfl rfl (q, qs) rfl (Ent.sat ?_))
    rw [List.take_length]
    first | exact Ent.refl _ | exact Ent.last | (repeat (first | refine Ent.cons ?_ | exact Ent.any | exact Ent.last))
/-! ### Faults and counts -/
theorem faults_spec (q : Slab) (L : List ARow) (qs : Nat → Slab) (hL : L.length ≤ 40) (h5 : ∀ i, i < L.length → (L.getD i ar0).cl.length ≤ 5) :
    Spec Tryz.prog 11 [.slice q.1 L.length q.2] W (AuC q L qs * F) (fun o : Slab => .slice o.1 (faultsL L).length o.2) (fun o => RowC 39 3 o.1 (faultsL L).length o.2 (fV (faultsL L)) * (AuC q L qs * F)) := by
  refine Spec.of Tryz.func11 rfl Tryz.ntmps11 rfl ?_
  repeat (first | refine go ?_ | (refine goX ?_; intro))
  refine EK_loop (γ := Nat × Slab) (fun a => a.1 ≤ L.length) (fun a => [(3, .slice a.2.1 (faultsL (L.take a.1)).length a.2.2), (6, .slice q.1 L.length q.2), (7, .int .i64 (L.length : Int)), (8, .int .i64 (a.1 : Int))])
    (fun a => RowC 39 3 a.2.1 (faultsL (L.take a.1)).length a.2.2 (fV (faultsL (L.take a.1))) * (AuC q L qs * F)) (fun a => L.length - a.1) (0, (none, 0)) (Nat.zero_le _) ⟨rfl, rfl, rfl, rfl, trivial⟩ (Ent.sat (Ent.none (Ent.refl _))) ?_
  intro ⟨i, o⟩ h1; dsimp only at h1 ⊢
  have hfl : (faultsL (L.take i)).length ≤ 40 := by
    unfold faultsL
    refine Nat.le_trans (List.length_filter_le _ _) ?_
    rw [List.length_take]; omega
  by_cases hi : i < L.length
  · have h5i := h5 i hi
    have es : faultsL (L.take (i + 1)) = faultsL (L.take i) ++ (if faultK (L.getD i ar0) ≠ 0 then [L.getD i ar0] else []) := by
      unfold faultsL
      rw [← take_snocD (d := ar0) hi, List.filter_append]
      congr 1
      simp only [List.filter_cons, List.filter_nil, decide_eq_true_eq]
    have ea := AuC.at (q := q) (ps := qs) hi F
    rw [ea]
    by_cases c0 : (L.getD i ar0).cl.length = 0
    · have ek : faultK (L.getD i ar0) = 1 := by unfold faultK; rw [if_pos c0]
      rw [ek, if_pos (by decide)] at es
      repeat (first | refine go ?_ | (refine goX ?_; intro))
      rename_i o2
      refine EK_round (i + 1, o2) (by dsimp only; omega) (by dsimp only; omega) ⟨by dsimp only; rw [es, List.length_append]; rfl, rfl, rfl, rfl, trivial⟩ (Ent.sat ?_)
      dsimp only
      rw [es, fV_snoc, List.length_append, ek]
      first | exact Ent.refl _ | exact Ent.last | (repeat (first | refine Ent.cons ?_ | exact Ent.any | exact Ent.last))
    · by_cases c1 : 1 < (L.getD i ar0).cl.length
      · have ek : faultK (L.getD i ar0) = 2 := by unfold faultK; rw [if_neg c0, if_pos c1]
        rw [ek, if_pos (by decide)] at es
        repeat (first | refine go ?_ | (refine goX ?_; intro))
        rename_i o2
        refine EK_round (i + 1, o2) (by dsimp only; omega) (by dsimp only; omega) ⟨by dsimp only; rw [es, List.length_append]; rfl, rfl, rfl, rfl, trivial⟩ (Ent.sat ?_)
        dsimp only
        rw [es, fV_snoc, List.length_append, ek]
        first | exact Ent.refl _ | exact Ent.last | (repeat (first | refine Ent.cons ?_ | exact Ent.any | exact Ent.last))
      · have c2 : 0 < (L.getD i ar0).cl.length := by omega
        repeat (first | refine go ?_ | (refine goX ?_; intro))
        refine EL_call rfl (known_spec _ _) ?_
        intro _
        by_cases ck : 1 ≤ ((L.getD i ar0).cl.getD 0 (0, 0)).1 ∧ ((L.getD i ar0).cl.getD 0 (0, 0)).1 ≤ 4
        · have ek : faultK (L.getD i ar0) = 0 := by unfold faultK; rw [if_neg c0, if_neg c1, if_pos ck]
          rw [ek, if_neg (by decide), List.append_nil] at es
          rw [decide_eq_true ck]
          repeat (first | refine go ?_ | (refine goX ?_; intro))
          refine EK_round (i + 1, o) (by dsimp only; omega) (by dsimp only; omega) ⟨by dsimp only; rw [es]; rfl, rfl, rfl, rfl, trivial⟩ (Ent.sat ?_)
          dsimp only
          rw [es]
          first | exact Ent.refl _ | exact Ent.last | (repeat (first | refine Ent.cons ?_ | exact Ent.any | exact Ent.last))
        · have ek : faultK (L.getD i ar0) = 3 := by unfold faultK; rw [if_neg c0, if_neg c1, if_neg ck]
          rw [ek, if_pos (by decide)] at es
          rw [decide_eq_false ck]
          repeat (first | refine go ?_ | (refine goX ?_; intro))
          rename_i o2
          refine EK_round (i + 1, o2) (by dsimp only; omega) (by dsimp only; omega) ⟨by dsimp only; rw [es, List.length_append]; rfl, rfl, rfl, rfl, trivial⟩ (Ent.sat ?_)
          dsimp only
          rw [es, fV_snoc, List.length_append, ek]
          first | exact Ent.refl _ | exact Ent.last | (repeat (first | refine Ent.cons ?_ | exact Ent.any | exact Ent.last))
  · have e : i = L.length := by omega
    subst e
    repeat (first | refine go ?_ | (refine goX ?_; intro))
    refine EK_ret (ER_1 rfl rfl o ?_ (Ent.sat ?_))
    · rw [List.take_length]
    · rw [List.take_length]; first | exact Ent.refl _ | exact Ent.last | (repeat (first | refine Ent.cons ?_ | exact Ent.any | exact Ent.last))
def kK (w : Option Int) (k : Int) (c : Int × Int) : Bool := decide (c.1 = k) && (match w with | none => true | some w => decide (c.2 = w))
abbrev sV (a b c d : Nat) : List Value := [.int .i64 (a : Int), .int .i64 (b : Int), .int .i64 (c : Int), .int .i64 (d : Int)]
theorem add_spec (p : Option Addr) (k w : Int) {a b c d : Nat} (ha : a < 4294967296) (hb : b < 4294967296) (hc : c < 4294967296) (hd : d < 4294967296) : Spec Tryz.prog 28 [.pointer p, .agg #[.int .i64 k, .int .i64 w]] W (Obj p 41 (sV a b c d) * F) (fun _ : Unit => .tuple #[])
    (fun _ => Obj p 41 (sV (a + if k = 1 then 1 else 0) (b + if k = 2 then 1 else 0) (c + if k = 3 then 1 else 0) (d + if k = 4 then 1 else 0)) * F) := by
  refine Spec.of Tryz.func28 rfl Tryz.ntmps28 rfl ?_
  by_cases h1 : k = 1
  · subst h1
    repeat (first | refine go ?_ | (refine goX ?_; intro))
    refine EK_end (EN_0 rfl () rfl (Ent.sat ?_))
    rw [if_pos rfl, if_neg (by decide), if_neg (by decide), if_neg (by decide)]
    simp only [Nat.add_zero]
    rw [show sV (a + 1) b c d = [.int .i64 ((a : Int) + 1), .int .i64 ((b : Int)), .int .i64 ((c : Int)), .int .i64 ((d : Int))] from rfl]
    first | exact Ent.refl _ | exact Ent.last | (repeat (first | refine Ent.cons ?_ | exact Ent.any | exact Ent.last))
  · by_cases h2 : k = 2
    · subst h2
      repeat (first | refine go ?_ | (refine goX ?_; intro))
      refine EK_end (EN_0 rfl () rfl (Ent.sat ?_))
      rw [if_neg (by decide), if_pos rfl, if_neg (by decide), if_neg (by decide)]
      simp only [Nat.add_zero]
      rw [show sV a (b + 1) c d = [.int .i64 ((a : Int)), .int .i64 ((b : Int) + 1), .int .i64 ((c : Int)), .int .i64 ((d : Int))] from rfl]
      first | exact Ent.refl _ | exact Ent.last | (repeat (first | refine Ent.cons ?_ | exact Ent.any | exact Ent.last))
    · by_cases h3 : k = 3
      · subst h3
        repeat (first | refine go ?_ | (refine goX ?_; intro))
        refine EK_end (EN_0 rfl () rfl (Ent.sat ?_))
        rw [if_neg (by decide), if_neg (by decide), if_pos rfl, if_neg (by decide)]
        simp only [Nat.add_zero]
        rw [show sV a b (c + 1) d = [.int .i64 ((a : Int)), .int .i64 ((b : Int)), .int .i64 ((c : Int) + 1), .int .i64 ((d : Int))] from rfl]
        first | exact Ent.refl _ | exact Ent.last | (repeat (first | refine Ent.cons ?_ | exact Ent.any | exact Ent.last))
      · by_cases h4 : k = 4
        · subst h4
          repeat (first | refine go ?_ | (refine goX ?_; intro))
          refine EK_end (EN_0 rfl () rfl (Ent.sat ?_))
          rw [if_neg (by decide), if_neg (by decide), if_neg (by decide), if_pos rfl]
          simp only [Nat.add_zero]
          rw [show sV a b c (d + 1) = [.int .i64 ((a : Int)), .int .i64 ((b : Int)), .int .i64 ((c : Int)), .int .i64 ((d : Int) + 1)] from rfl]
          first | exact Ent.refl _ | exact Ent.last | (repeat (first | refine Ent.cons ?_ | exact Ent.any | exact Ent.last))
        · repeat (first | refine go ?_ | (refine goX ?_; intro))
          rw [if_neg h1, if_neg h2, if_neg h3, if_neg h4]
          refine EK_end (EN_0 rfl () rfl (Ent.sat ?_))
          first | exact Ent.refl _ | exact Ent.last | (repeat (first | refine Ent.cons ?_ | exact Ent.any | exact Ent.last))
def cV (w : Option Int) (l : List ARow) (m : List (Int × Int)) : List Value := sV (cntP (kK w 1) l + m.countP (kK w 1)) (cntP (kK w 2) l + m.countP (kK w 2)) (cntP (kK w 3) l + m.countP (kK w 3)) (cntP (kK w 4) l + m.countP (kK w 4))
theorem kK_take {w : Option Int} {cl : List (Int × Int)} {j : Nat} (hj : j < cl.length) (hw : ∀ x, w = some x → (cl.getD j (0, 0)).2 = x) (k : Int) : (cl.take (j + 1)).countP (kK w k) = (cl.take j).countP (kK w k) + if (cl.getD j (0, 0)).1 = k then 1 else 0 := by
  rw [countP_take1 _ _ hj]
  congr 1
  cases w with
  | none => simp [kK]
  | some x => rw [show kK (some x) k (cl.getD j (0, 0)) = (decide ((cl.getD j (0, 0)).1 = k) && decide ((cl.getD j (0, 0)).2 = x)) from rfl, hw x rfl]; simp
theorem kK_skip {x : Int} {cl : List (Int × Int)} {j : Nat} (hj : j < cl.length) (hw : (cl.getD j (0, 0)).2 ≠ x) (k : Int) : (cl.take (j + 1)).countP (kK (some x) k) = (cl.take j).countP (kK (some x) k) := by
  rw [countP_take1 _ _ hj, if_neg (by unfold kK; simp only [Bool.and_eq_true, decide_eq_true_eq]; exact fun e => hw e.2), Nat.add_zero]
theorem cV_next {w : Option Int} {l : List ARow} {cl : List (Int × Int)} {j : Nat} (hj : j < cl.length) (hw : ∀ x, w = some x → (cl.getD j (0, 0)).2 = x) : cV w l (cl.take (j + 1)) = sV (cntP (kK w 1) l + (cl.take j).countP (kK w 1) + if (cl.getD j (0, 0)).1 = 1 then 1 else 0) (cntP (kK w 2) l + (cl.take j).countP (kK w 2) + if (cl.getD j (0, 0)).1 = 2 then 1 else 0) (cntP (kK w 3) l + (cl.take j).countP (kK w 3) + if (cl.getD j (0, 0)).1 = 3 then 1 else 0) (cntP (kK w 4) l + (cl.take j).countP (kK w 4) + if (cl.getD j (0, 0)).1 = 4 then 1 else 0) := by
  unfold cV
  simp only [kK_take hj hw, Nat.add_assoc]
theorem cV_skip {x : Int} {l : List ARow} {cl : List (Int × Int)} {j : Nat} (hj : j < cl.length) (hw : (cl.getD j (0, 0)).2 ≠ x) : cV (some x) l (cl.take (j + 1)) = cV (some x) l (cl.take j) := by
  unfold cV
  simp only [kK_skip hj hw]
theorem cV_row {w : Option Int} {L : List ARow} {i : Nat} (hi : i < L.length) : cV w (L.take (i + 1)) [] = cV w (L.take i) ((L.getD i ar0).cl.take (L.getD i ar0).cl.length) := by
  unfold cV
  rw [← take_snocD (d := ar0) hi, List.take_length]
  simp only [cntP_snoc, List.countP_nil, Nat.add_zero]
theorem cnt_small {L : List ARow} (hL : L.length ≤ 40) (h5 : ∀ i, i < L.length → (L.getD i ar0).cl.length ≤ 5) (i j : Nat) (r : ARow) (hr : r.cl.length ≤ 5) (p : Int × Int → Bool) : cntP p (L.take i) + (r.cl.take j).countP p < 4294967296 := by
  have h1 := cntP_le p (L.take i) fun x hx => by
    obtain ⟨t, ht, e⟩ := List.getElem_of_mem (List.mem_of_mem_take hx)
    have := h5 t ht
    rw [← getD_at L ar0 ht, e] at this
    exact this
  have h2 : (r.cl.take j).countP p ≤ (r.cl.take j).length := List.countP_le_length
  rw [List.length_take] at h1 h2
  omega
theorem count_spec (q : Slab) (L : List ARow) (qs : Nat → Slab) (hL : L.length ≤ 40) (h5 : ∀ i, i < L.length → (L.getD i ar0).cl.length ≤ 5) :
    Spec Tryz.prog 13 [.slice q.1 L.length q.2] W (AuC q L qs * F) (fun _ : Unit => .agg (cV none L []).toArray) (fun _ => AuC q L qs * F) := by
  refine Spec.of Tryz.func13 rfl Tryz.ntmps13 rfl ?_
  repeat (first | refine go ?_ | (refine goX ?_; intro))
  rename_i x2 x3
  refine EK_loop (γ := Nat) (fun i => i ≤ L.length) (fun i => [(2, .pointer x2), (3, .pointer x3), (8, .slice q.1 L.length q.2), (9, .int .i64 (L.length : Int)), (10, .int .i64 (i : Int))])
    (fun i => Obj x3 41 (cV none (L.take i) []) * (Obj x2 41 (sV 0 0 0 0) * (AuC q L qs * F))) (fun i => L.length - i) 0 (Nat.zero_le _) ⟨rfl, rfl, rfl, rfl, rfl, trivial⟩ (Ent.sat (by first | exact Ent.refl _ | exact Ent.last | (repeat (first | refine Ent.cons ?_ | exact Ent.any | exact Ent.last)))) ?_
  intro i h1
  by_cases hi : i < L.length
  · have h5i := h5 i hi
    have ea := AuC.at (q := q) (ps := qs) hi F
    rw [ea]
    repeat (first | refine go ?_ | (refine goX ?_; intro))
    rename_i x5
    refine EK_loop (γ := Nat) (fun j => j ≤ (L.getD i ar0).cl.length) (fun j => [(2, .pointer x2), (3, .pointer x3), (8, .slice q.1 L.length q.2), (9, .int .i64 (L.length : Int)), (10, .int .i64 (i : Int)), (15, .slice (qs i).1 (L.getD i ar0).cl.length (qs i).2), (16, .int .i64 ((L.getD i ar0).cl.length : Int)), (17, .int .i64 (j : Int))])
      (fun j => Obj x3 41 (cV none (L.take i) ((L.getD i ar0).cl.take j)) * (Obj x2 41 (sV 0 0 0 0) * (AuC q L qs * F))) (fun j => (L.getD i ar0).cl.length - j) 0 (Nat.zero_le _) ⟨rfl, rfl, rfl, rfl, rfl, rfl, rfl, rfl, trivial⟩ (Ent.sat (by rw [ea, List.take_zero]; first | exact Ent.refl _ | exact Ent.last | (repeat (first | refine Ent.cons ?_ | exact Ent.any | exact Ent.last)))) ?_
    intro j hj1
    rw [ea]
    by_cases hj : j < (L.getD i ar0).cl.length
    · repeat (first | refine go ?_ | (refine goX ?_; intro))
      have hb := cnt_small hL h5 i j (L.getD i ar0) h5i
      refine EL_call rfl (Spec.at1 x3 (add_spec x3 _ _ (hb _) (hb _) (hb _) (hb _))) ?_
      intro _
      repeat (first | refine go ?_ | (refine goX ?_; intro))
      refine EK_round (j + 1) (by omega) (by omega) ⟨rfl, rfl, rfl, rfl, rfl, rfl, rfl, rfl, trivial⟩ (Ent.sat ?_)
      rw [cV_next hj (fun _ e => by cases e)]
      first | exact Ent.refl _ | exact Ent.last | (repeat (first | refine Ent.cons ?_ | exact Ent.any | exact Ent.last))
    · have e : j = (L.getD i ar0).cl.length := by omega
      subst e
      repeat (first | refine go ?_ | (refine goX ?_; intro))
      refine EK_round (i + 1) (by omega) (by omega) ⟨rfl, rfl, rfl, rfl, rfl, trivial⟩ (Ent.sat ?_)
      rw [cV_row hi]
      first | exact Ent.refl _ | exact Ent.last | (repeat (first | refine Ent.cons ?_ | exact Ent.any | exact Ent.last))
  · have e : i = L.length := by omega
    subst e
    repeat (first | refine go ?_ | (refine goX ?_; intro))
    rw [List.take_length]
    refine EK_ret (ER_c1 (rv := .cell 2 41) rfl ⟨_, rfl, LoadsV.agg rfl⟩ () rfl (Ent.sat ?_))
    first | exact Ent.refl _ | exact Ent.last | (repeat (first | refine Ent.cons ?_ | exact Ent.any | exact Ent.last))
theorem of_spec (q : Slab) (L : List ARow) (qs : Nat → Slab) (w : Int) (hL : L.length ≤ 40) (h5 : ∀ i, i < L.length → (L.getD i ar0).cl.length ≤ 5) :
    Spec Tryz.prog 14 [.slice q.1 L.length q.2, .int .i64 w] W (AuC q L qs * F) (fun _ : Unit => .agg (cV (some w) L []).toArray) (fun _ => AuC q L qs * F) := by
  refine Spec.of Tryz.func14 rfl Tryz.ntmps14 rfl ?_
  repeat (first | refine go ?_ | (refine goX ?_; intro))
  rename_i x2 x3
  refine EK_loop (γ := Nat) (fun i => i ≤ L.length) (fun i => [(1, .int .i64 w), (4, .pointer x2), (5, .pointer x3), (10, .slice q.1 L.length q.2), (11, .int .i64 (L.length : Int)), (12, .int .i64 (i : Int))])
    (fun i => Obj x3 41 (cV (some w) (L.take i) []) * (Obj x2 41 (sV 0 0 0 0) * (AuC q L qs * F))) (fun i => L.length - i) 0 (Nat.zero_le _) ⟨rfl, rfl, rfl, rfl, rfl, rfl, trivial⟩ (Ent.sat (by first | exact Ent.refl _ | exact Ent.last | (repeat (first | refine Ent.cons ?_ | exact Ent.any | exact Ent.last)))) ?_
  intro i h1
  by_cases hi : i < L.length
  · have h5i := h5 i hi
    have ea := AuC.at (q := q) (ps := qs) hi F
    rw [ea]
    repeat (first | refine go ?_ | (refine goX ?_; intro))
    rename_i x5
    refine EK_loop (γ := Nat) (fun j => j ≤ (L.getD i ar0).cl.length) (fun j => [(1, .int .i64 w), (4, .pointer x2), (5, .pointer x3), (10, .slice q.1 L.length q.2), (11, .int .i64 (L.length : Int)), (12, .int .i64 (i : Int)), (17, .slice (qs i).1 (L.getD i ar0).cl.length (qs i).2), (18, .int .i64 ((L.getD i ar0).cl.length : Int)), (19, .int .i64 (j : Int))])
      (fun j => Obj x3 41 (cV (some w) (L.take i) ((L.getD i ar0).cl.take j)) * (Obj x2 41 (sV 0 0 0 0) * (AuC q L qs * F))) (fun j => (L.getD i ar0).cl.length - j) 0 (Nat.zero_le _) ⟨rfl, rfl, rfl, rfl, rfl, rfl, rfl, rfl, rfl, trivial⟩ (Ent.sat (by rw [ea, List.take_zero]; first | exact Ent.refl _ | exact Ent.last | (repeat (first | refine Ent.cons ?_ | exact Ent.any | exact Ent.last)))) ?_
    intro j hj1
    rw [ea]
    by_cases hj : j < (L.getD i ar0).cl.length
    · by_cases hw : ((L.getD i ar0).cl.getD j (0, 0)).2 = w
      · repeat (first | refine go ?_ | (refine goX ?_; intro))
        have hb := cnt_small hL h5 i j (L.getD i ar0) h5i
        refine EL_call rfl (Spec.at1 x3 (add_spec x3 _ _ (hb _) (hb _) (hb _) (hb _))) ?_
        intro _
        repeat (first | refine go ?_ | (refine goX ?_; intro))
        refine EK_round (j + 1) (by omega) (by omega) ⟨rfl, rfl, rfl, rfl, rfl, rfl, rfl, rfl, rfl, trivial⟩ (Ent.sat ?_)
        rw [cV_next hj (fun _ e => by cases e; exact hw)]
        first | exact Ent.refl _ | exact Ent.last | (repeat (first | refine Ent.cons ?_ | exact Ent.any | exact Ent.last))
      · repeat (first | refine go ?_ | (refine goX ?_; intro))
        refine EK_round (j + 1) (by omega) (by omega) ⟨rfl, rfl, rfl, rfl, rfl, rfl, rfl, rfl, rfl, trivial⟩ (Ent.sat ?_)
        rw [cV_skip hj hw]
        first | exact Ent.refl _ | exact Ent.last | (repeat (first | refine Ent.cons ?_ | exact Ent.any | exact Ent.last))
    · have e : j = (L.getD i ar0).cl.length := by omega
      subst e
      repeat (first | refine go ?_ | (refine goX ?_; intro))
      refine EK_round (i + 1) (by omega) (by omega) ⟨rfl, rfl, rfl, rfl, rfl, rfl, trivial⟩ (Ent.sat ?_)
      rw [cV_row hi]
      first | exact Ent.refl _ | exact Ent.last | (repeat (first | refine Ent.cons ?_ | exact Ent.any | exact Ent.last))
  · have e : i = L.length := by omega
    subst e
    repeat (first | refine go ?_ | (refine goX ?_; intro))
    rw [List.take_length]
    refine EK_ret (ER_c1 (rv := .cell 4 41) rfl ⟨_, rfl, LoadsV.agg rfl⟩ () rfl (Ent.sat ?_))
    first | exact Ent.refl _ | exact Ent.last | (repeat (first | refine Ent.cons ?_ | exact Ent.any | exact Ent.last))
/-! ### The document's -/
theorem rfault_spec (r : ARow) (z : Slab) [hr : Ro W z.1 r.cl.length (clV r.cl)] (h5 : r.cl.length ≤ 5) : Spec Tryz.prog 12 [.agg #[.int .i64 r.proto, .int .i64 r.port, .slice z.1 r.cl.length z.2]] W F (fun _ : Unit => .int .i64 (faultK r)) (fun _ => F) := by
  refine Spec.of Tryz.func12 rfl Tryz.ntmps12 rfl ?_
  unfold faultK
  by_cases c0 : r.cl.length = 0
  · repeat (first | refine go ?_ | (refine goX ?_; intro))
    exact EK_ret (ER_1 rfl rfl () (by rw [if_pos c0]) (Ent.sat (by first | exact Ent.refl _ | exact Ent.last | (repeat (first | refine Ent.cons ?_ | exact Ent.any | exact Ent.last)))))
  · by_cases c1 : 1 < r.cl.length
    · repeat (first | refine go ?_ | (refine goX ?_; intro))
      exact EK_ret (ER_1 rfl rfl () (by rw [if_neg c0, if_pos c1]) (Ent.sat (by first | exact Ent.refl _ | exact Ent.last | (repeat (first | refine Ent.cons ?_ | exact Ent.any | exact Ent.last)))))
    · have c2 : 0 < r.cl.length := by omega
      haveI := NN.ofRo hr c2 0 2
      by_cases ca : 1 ≤ (r.cl.getD 0 (0, 0)).1
      · by_cases cb : (r.cl.getD 0 (0, 0)).1 ≤ 4
        · repeat (first | refine go ?_ | (refine goX ?_; intro))
          exact EK_ret (ER_1 rfl rfl () (by rw [if_neg c0, if_neg c1, if_pos ⟨ca, cb⟩]) (Ent.sat (by first | exact Ent.refl _ | exact Ent.last | (repeat (first | refine Ent.cons ?_ | exact Ent.any | exact Ent.last)))))
        · repeat (first | refine go ?_ | (refine goX ?_; intro))
          exact EK_ret (ER_1 rfl rfl () (by rw [if_neg c0, if_neg c1, if_neg (fun e => cb e.2)]) (Ent.sat (by first | exact Ent.refl _ | exact Ent.last | (repeat (first | refine Ent.cons ?_ | exact Ent.any | exact Ent.last)))))
      · repeat (first | refine go ?_ | (refine goX ?_; intro))
        exact EK_ret (ER_1 rfl rfl () (by rw [if_neg c0, if_neg c1, if_neg (fun e => ca e.1)]) (Ent.sat (by first | exact Ent.refl _ | exact Ent.last | (repeat (first | refine Ent.cons ?_ | exact Ent.any | exact Ent.last)))))
def oneO (one : Bool) (w : Int) : Option Int := if one then some w else none
theorem oneO_next {one : Bool} {w : Int} {c : Int × Int} {k : Int} : kK (oneO one w) k c = (decide (c.1 = k) && (!one || decide (c.2 = w))) := by
  cases one <;> rfl
theorem rcount_spec (g : Slab) (L : List ARow) (ps : Nat → Slab) (k : Int) (one : Bool) (w : Int) (hR : ∀ i, i < L.length → Ro W (ps i).1 (L.getD i ar0).cl.length (clV (L.getD i ar0).cl)) (hL : L.length ≤ 40) (h5 : ∀ i, i < L.length → (L.getD i ar0).cl.length ≤ 5) :
    Spec Tryz.prog 15 [.slice g.1 L.length g.2, .int .i64 k, .bool one, .int .i64 w] W (RRows g L ps * F) (fun _ : Unit => .int .i64 (cntP (kK (oneO one w) k) L : Nat)) (fun _ => RRows g L ps * F) := by
  refine Spec.of Tryz.func15 rfl Tryz.ntmps15 rfl ?_
  repeat (first | refine go ?_ | (refine goX ?_; intro))
  refine EK_loop (γ := Nat) (fun i => i ≤ L.length) (fun i => [(0, .slice g.1 L.length g.2), (1, .int .i64 k), (2, .bool one), (3, .int .i64 w), (9, .int .i64 ((cntP (kK (oneO one w) k) (L.take i) : Nat) : Int)), (10, .int .i64 (i : Int))])
    (fun i => RRows g L ps * F) (fun i => L.length - i) 0 (Nat.zero_le _) ⟨rfl, rfl, rfl, rfl, rfl, rfl, trivial⟩ (Ent.sat (by first | exact Ent.refl _ | exact Ent.last | (repeat (first | refine Ent.cons ?_ | exact Ent.any | exact Ent.last)))) ?_
  intro i h1
  by_cases hi : i < L.length
  · have h5i := h5 i hi
    haveI := hR i hi
    haveI : Pos L.length := ⟨by omega⟩
    repeat (first | refine go ?_ | (refine goX ?_; intro))
    refine EK_loop (γ := Nat) (fun j => j ≤ (L.getD i ar0).cl.length) (fun j => [(0, .slice g.1 L.length g.2), (1, .int .i64 k), (2, .bool one), (3, .int .i64 w), (9, .int .i64 ((cntP (kK (oneO one w) k) (L.take i) + ((L.getD i ar0).cl.take j).countP (kK (oneO one w) k) : Nat) : Int)), (10, .int .i64 (i : Int)), (11, .int .i64 (j : Int))])
      (fun j => RRows g L ps * F) (fun j => (L.getD i ar0).cl.length - j) 0 (Nat.zero_le _) ⟨rfl, rfl, rfl, rfl, by rw [List.take_zero]; rfl, rfl, rfl, trivial⟩ (Ent.sat (by first | exact Ent.refl _ | exact Ent.last | (repeat (first | refine Ent.cons ?_ | exact Ent.any | exact Ent.last)))) ?_
    intro j hj1
    by_cases hj : j < (L.getD i ar0).cl.length
    · have hb := cnt_small hL h5 i j (L.getD i ar0) h5i (kK (oneO one w) k)
      have hn : (cntP (kK (oneO one w) k) (L.take i) + ((L.getD i ar0).cl.take (j + 1)).countP (kK (oneO one w) k) : Nat) = cntP (kK (oneO one w) k) (L.take i) + ((L.getD i ar0).cl.take j).countP (kK (oneO one w) k) + if (decide (((L.getD i ar0).cl.getD j (0, 0)).1 = k) && (!one || decide (((L.getD i ar0).cl.getD j (0, 0)).2 = w))) = true then 1 else 0 := by
        rw [countP_take1 _ _ hj, oneO_next, Nat.add_assoc]
      by_cases hk : ((L.getD i ar0).cl.getD j (0, 0)).1 = k
      · cases ho : one with
        | false =>
          rw [ho, decide_eq_true hk] at hn
          rw [ho] at hb
          repeat (first | refine go ?_ | (refine goX ?_; intro))
          refine EK_round (j + 1) (by omega) (by omega) ⟨rfl, rfl, rfl, rfl, by rw [hn]; rfl, rfl, rfl, trivial⟩ (Ent.sat (by first | exact Ent.refl _ | exact Ent.last | (repeat (first | refine Ent.cons ?_ | exact Ent.any | exact Ent.last))))
        | true =>
          by_cases hw : ((L.getD i ar0).cl.getD j (0, 0)).2 = w
          · rw [ho, decide_eq_true hk, decide_eq_true hw] at hn
            rw [ho] at hb
            repeat (first | refine go ?_ | (refine goX ?_; intro))
            refine EK_round (j + 1) (by omega) (by omega) ⟨rfl, rfl, rfl, rfl, by rw [hn]; rfl, rfl, rfl, trivial⟩ (Ent.sat (by first | exact Ent.refl _ | exact Ent.last | (repeat (first | refine Ent.cons ?_ | exact Ent.any | exact Ent.last))))
          · rw [ho, decide_eq_true hk, decide_eq_false hw] at hn
            rw [ho] at hb
            repeat (first | refine go ?_ | (refine goX ?_; intro))
            refine EK_round (j + 1) (by omega) (by omega) ⟨rfl, rfl, rfl, rfl, by rw [hn]; rfl, rfl, rfl, trivial⟩ (Ent.sat (by first | exact Ent.refl _ | exact Ent.last | (repeat (first | refine Ent.cons ?_ | exact Ent.any | exact Ent.last))))
      · rw [decide_eq_false hk] at hn
        repeat (first | refine go ?_ | (refine goX ?_; intro))
        refine EK_round (j + 1) (by omega) (by omega) ⟨rfl, rfl, rfl, rfl, by rw [hn]; rfl, rfl, rfl, trivial⟩ (Ent.sat (by first | exact Ent.refl _ | exact Ent.last | (repeat (first | refine Ent.cons ?_ | exact Ent.any | exact Ent.last))))
    · have e : j = (L.getD i ar0).cl.length := by omega
      subst e
      repeat (first | refine go ?_ | (refine goX ?_; intro))
      refine EK_round (i + 1) (by omega) (by omega) ⟨rfl, rfl, rfl, rfl, by rw [← take_snocD (d := ar0) hi, cntP_snoc, List.take_length]; rfl, rfl, trivial⟩ (Ent.sat (by first | exact Ent.refl _ | exact Ent.last | (repeat (first | refine Ent.cons ?_ | exact Ent.any | exact Ent.last))))
  · have e : i = L.length := by omega
    subst e
    repeat (first | refine go ?_ | (refine goX ?_; intro))
    refine EK_ret (ER_1 rfl rfl () (by rw [List.take_length]) (Ent.sat (by first | exact Ent.refl _ | exact Ent.last | (repeat (first | refine Ent.cons ?_ | exact Ent.any | exact Ent.last)))))
end Go.Proofs.YtecdkofeohbneaaGreatDoor

namespace Go.Proofs.YtecdkofeohbneaaGreatDoor
open Go.RowKit
set_option maxRecDepth 10000
attribute [local irreducible] EK EX ER EN EL ES EG OpVal OpDoes OpSkip
variable {W : World} {F : SL} {X : Cx} {k : List KI} {σ : Env}
attribute [local simp] clV_len arV_len fV_len strsR_len
def B64i (n : Int) : Prop := -9223372036854775808 ≤ n ∧ n ≤ 9223372036854775807
theorem itoa_len {n : Int} (h : B64i n) : (Lib.itoa n).length ≤ 21 := Lib.itoa_length_le n h.1 h.2
theorem claimB_len {c : Int × Int} (h1 : B64i c.1) (h2 : B64i c.2) : (claimB c).length ≤ 29 := by
  have a1 := itoa_len h1
  have a2 := itoa_len h2
  unfold claimB
  split <;> (try split) <;> (try split) <;> (try split) <;> simp <;> omega
theorem protoB_len {p : Int} (h : B64i p) : (protoB p).length ≤ 21 := by
  have a1 := itoa_len h
  unfold protoB
  split <;> (try split) <;> (try split) <;> simp <;> omega
def jc (l : List (Int × Int)) (i : Nat) : List UInt8 := Lib.join ((l.take i).map claimB) andB
theorem jc_zero (l : List (Int × Int)) : jc l 0 = [] := rfl
theorem join_snoc (l : List (List UInt8)) (x sep : List UInt8) (h : l ≠ []) : Lib.join (l ++ [x]) sep = Lib.join l sep ++ sep ++ x := by
  cases l with
  | nil => exact absurd rfl h
  | cons a r =>
    rw [List.cons_append, Lib.join_cons, Lib.join_cons]
    unfold Lib.joinTail
    simp
theorem jc_one {l : List (Int × Int)} (h : 0 < l.length) : jc l 1 = claimB (l.getD 0 (0, 0)) := by
  unfold jc
  rw [← take_snocD (d := (0, 0)) h, List.take_zero, List.nil_append, List.map_singleton, Lib.join_one]
theorem jc_succ {l : List (Int × Int)} {i : Nat} (h : i < l.length) (h0 : 0 < i) : jc l (i + 1) = jc l i ++ andB ++ claimB (l.getD i (0, 0)) := by
  unfold jc
  rw [← take_snocD (d := (0, 0)) h, List.map_append, List.map_singleton, join_snoc]
  intro e
  have := congrArg List.length e
  rw [List.length_map, List.length_take, List.length_nil] at this
  omega
theorem jc_len {l : List (Int × Int)} (hb : ∀ j, j < l.length → B64i (l.getD j (0, 0)).1 ∧ B64i (l.getD j (0, 0)).2) : ∀ i, i ≤ l.length → (jc l i).length ≤ i * 34
  | 0, _ => by rw [jc_zero]; exact Nat.le_refl _
  | 1, h => by
    rw [jc_one (by omega)]
    have := hb 0 (by omega)
    have := claimB_len this.1 this.2
    omega
  | i + 2, h => by
    have h1 := jc_len hb (i + 1) (by omega)
    have h2 := hb (i + 1) (by omega)
    have h3 := claimB_len h2.1 h2.2
    rw [jc_succ (by omega) (by omega), List.length_append, List.length_append]
    have : andB.length = 5 := rfl
    omega
theorem claimsB_jc (l : List (Int × Int)) : claimsB l = if l.length = 0 then [110, 111, 98, 111, 100, 121] else jc l l.length := by
  unfold claimsB jc
  rw [List.take_length]
theorem claimsB_len {l : List (Int × Int)} (h5 : l.length ≤ 5) (hb : ∀ j, j < l.length → B64i (l.getD j (0, 0)).1 ∧ B64i (l.getD j (0, 0)).2) : (claimsB l).length ≤ 200 := by
  rw [claimsB_jc]
  split
  · decide
  · have := jc_len hb l.length (Nat.le_refl _)
    omega
theorem aprotocol_spec [PlanT W] {p : Int} (h : B64i p) : Spec Tryz.prog 22 [.int .i64 p] W F (fun _ : Unit => str (protoB p)) (fun _ => F) := by
  refine Spec.of Tryz.func22 rfl Tryz.ntmps22 rfl ?_
  unfold protoB
  by_cases h1 : p = 1
  · repeat (first | refine go ?_ | (refine goX ?_; intro))
    exact EK_ret (ER_1 rfl rfl () (by rw [if_pos h1]; rfl) (Ent.sat (by first | exact Ent.refl _ | exact Ent.last | (repeat (first | refine Ent.cons ?_ | exact Ent.any | exact Ent.last)))))
  · by_cases h2 : p = 6
    · repeat (first | refine go ?_ | (refine goX ?_; intro))
      exact EK_ret (ER_1 rfl rfl () (by rw [if_neg h1, if_pos h2]; rfl) (Ent.sat (by first | exact Ent.refl _ | exact Ent.last | (repeat (first | refine Ent.cons ?_ | exact Ent.any | exact Ent.last)))))
    · by_cases h3 : p = 17
      · repeat (first | refine go ?_ | (refine goX ?_; intro))
        exact EK_ret (ER_1 rfl rfl () (by rw [if_neg h1, if_neg h2, if_pos h3]; rfl) (Ent.sat (by first | exact Ent.refl _ | exact Ent.last | (repeat (first | refine Ent.cons ?_ | exact Ent.any | exact Ent.last)))))
      · repeat (first | refine go ?_ | (refine goX ?_; intro))
        refine EL_call rfl (Itoa_spec p h.1 h.2) ?_
        intro _
        repeat (first | refine go ?_ | (refine goX ?_; intro))
        exact EK_ret (ER_1 rfl rfl () (by rw [if_neg h1, if_neg h2, if_neg h3]) (Ent.sat (by first | exact Ent.refl _ | exact Ent.last | (repeat (first | refine Ent.cons ?_ | exact Ent.any | exact Ent.last)))))
theorem claim_spec [PlanT W] {a b : Int} (ha : B64i a) (hb : B64i b) : Spec Tryz.prog 43 [.agg #[.int .i64 a, .int .i64 b]] W F (fun _ : Unit => str (claimB (a, b))) (fun _ => F) := by
  refine Spec.of Tryz.func43 rfl Tryz.ntmps43 rfl ?_
  unfold claimB
  dsimp only
  have la := itoa_len ha
  have lb := itoa_len hb
  by_cases h1 : a = 1
  · repeat (first | refine go ?_ | (refine goX ?_; intro))
    exact EK_ret (ER_1 rfl rfl () (by rw [if_pos h1]; rfl) (Ent.sat (by first | exact Ent.refl _ | exact Ent.last | (repeat (first | refine Ent.cons ?_ | exact Ent.any | exact Ent.last)))))
  · by_cases h2 : a = 2
    · repeat (first | refine go ?_ | (refine goX ?_; intro))
      refine EL_call rfl (Itoa_spec b hb.1 hb.2) ?_
      intro _
      repeat (first | refine go ?_ | (refine goX ?_; intro))
      exact EK_ret (ER_1 rfl rfl () (by rw [if_neg h1, if_pos h2]) (Ent.sat (by first | exact Ent.refl _ | exact Ent.last | (repeat (first | refine Ent.cons ?_ | exact Ent.any | exact Ent.last)))))
    · by_cases h3 : a = 3
      · repeat (first | refine go ?_ | (refine goX ?_; intro))
        exact EK_ret (ER_1 rfl rfl () (by rw [if_neg h1, if_neg h2, if_pos h3]; rfl) (Ent.sat (by first | exact Ent.refl _ | exact Ent.last | (repeat (first | refine Ent.cons ?_ | exact Ent.any | exact Ent.last)))))
      · by_cases h4 : a = 4
        · repeat (first | refine go ?_ | (refine goX ?_; intro))
          refine EL_call rfl (Itoa_spec b hb.1 hb.2) ?_
          intro _
          repeat (first | refine go ?_ | (refine goX ?_; intro))
          exact EK_ret (ER_1 rfl rfl () (by rw [if_neg h1, if_neg h2, if_neg h3, if_pos h4]) (Ent.sat (by first | exact Ent.refl _ | exact Ent.last | (repeat (first | refine Ent.cons ?_ | exact Ent.any | exact Ent.last)))))
        · repeat (first | refine go ?_ | (refine goX ?_; intro))
          refine EL_call rfl (Itoa_spec a ha.1 ha.2) ?_
          intro _
          repeat (first | refine go ?_ | (refine goX ?_; intro))
          exact EK_ret (ER_1 rfl rfl () (by rw [if_neg h1, if_neg h2, if_neg h3, if_neg h4]) (Ent.sat (by first | exact Ent.refl _ | exact Ent.last | (repeat (first | refine Ent.cons ?_ | exact Ent.any | exact Ent.last)))))
theorem claims_spec [PlanT W] (p : Option Addr) (c : Nat) (l : List (Int × Int)) (h5 : l.length ≤ 5) (hb : ∀ j, j < l.length → B64i (l.getD j (0, 0)).1 ∧ B64i (l.getD j (0, 0)).2) [Src W F p l.length (clV l)] :
    Spec Tryz.prog 23 [.slice p l.length c] W F (fun _ : Unit => str (claimsB l)) (fun _ => F) := by
  refine Spec.of Tryz.func23 rfl Tryz.ntmps23 rfl ?_
  by_cases h0 : l.length = 0
  · repeat (first | refine go ?_ | (refine goX ?_; intro))
    exact EK_ret (ER_1 rfl rfl () (by unfold claimsB; rw [if_pos h0]; rfl) (Ent.sat (by first | exact Ent.refl _ | exact Ent.last | (repeat (first | refine Ent.cons ?_ | exact Ent.any | exact Ent.last)))))
  · repeat (first | refine go ?_ | (refine goX ?_; intro))
    refine EK_loop (γ := Nat × Slab) (fun a => a.1 ≤ l.length) (fun a => [(3, .slice a.2.1 a.1 a.2.2), (9, .slice p l.length c), (10, .int .i64 (l.length : Int)), (11, .int .i64 (a.1 : Int))])
      (fun a => RowC 9 1 a.2.1 a.1 a.2.2 (strsR ((l.take a.1).map claimB)) * F) (fun a => l.length - a.1) (0, (none, 0)) (Nat.zero_le _) ⟨rfl, rfl, rfl, rfl, trivial⟩ (Ent.sat (Ent.none (Ent.refl _))) ?_
    intro ⟨i, q⟩ h1; dsimp only at h1 ⊢
    by_cases hi : i < l.length
    · have hbi := hb i hi
      have hml : ((l.take i).map claimB).length = i := by rw [List.length_map, List.length_take]; omega
      repeat (first | refine go ?_ | (refine goX ?_; intro))
      refine EL_call rfl (claim_spec hbi.1 hbi.2) ?_
      intro _
      repeat (first | refine go ?_ | (refine goX ?_; intro))
      rename_i q2
      refine EK_round (i + 1, q2) (by dsimp only; omega) (by dsimp only; omega) ⟨rfl, rfl, rfl, rfl, trivial⟩ (Ent.sat ?_)
      dsimp only
      rw [← take_snocD (d := (0, 0)) hi, List.map_append, List.map_singleton, ← strsR_snoc]
      first | exact Ent.refl _ | exact Ent.last | (repeat (first | refine Ent.cons ?_ | exact Ent.any | exact Ent.last))
    · have e : i = l.length := by omega
      subst e
      have hj := jc_len hb l.length (Nat.le_refl _)
      unfold jc at hj
      repeat (first | refine go ?_ | (refine goX ?_; intro))
      refine EL_call rfl (Join_spec q.1 l.length q.2 _ [32, 97, 110, 100, 32] (by omega) (by show (Lib.join _ andB).length ≤ _; omega) (by omega)) ?_
      intro _
      repeat (first | refine go ?_ | (refine goX ?_; intro))
      refine EK_ret (ER_1 rfl rfl () (by unfold claimsB; rw [if_neg h0, List.take_length]; rfl) (Ent.sat (by first | exact Ent.refl _ | exact Ent.last | (repeat (first | refine Ent.cons ?_ | exact Ent.any | exact Ent.last)))))
theorem dec_t {p : Prop} {i : Decidable p} (h : @decide p i = true) : p := @of_decide_eq_true p i h
theorem clE_inj {a b : Int × Int} (h : [Value.int .i64 a.1, Value.int .i64 a.2] = [Value.int .i64 b.1, Value.int .i64 b.2]) : a = b := by
  simp only [List.cons.injEq, Value.int.injEq, true_and, and_true] at h
  exact Prod.ext h.1 h.2
theorem equal_spec (p q : Option Addr) (c d : Nat) (a b : List (Int × Int)) (ha : a.length ≤ 5) (hb : b.length ≤ 5) [Src W F p a.length (clV a)] [Src W F q b.length (clV b)] :
    Spec Tryz.prog 41 [.slice p a.length c, .slice q b.length d] W F (fun _ : Unit => .bool (decide (a = b))) (fun _ => F) := by
  refine Spec.of Tryz.func41 rfl Tryz.ntmps41 rfl ?_
  by_cases hl : a.length = b.length
  · repeat (first | refine go ?_ | (refine goX ?_; intro))
    refine EK_loop (γ := Nat) (fun i => i ≤ a.length ∧ a.take i = b.take i) (fun i => [(0, .slice p a.length c), (1, .slice q b.length d), (12, .int .i64 (a.length : Int)), (13, .int .i64 (i : Int))])
      (fun _ => F) (fun i => a.length - i) 0 ⟨Nat.zero_le _, rfl⟩ ⟨rfl, rfl, rfl, rfl, trivial⟩ (Ent.sat (Ent.refl _)) ?_
    intro i ⟨h1, h2⟩
    by_cases hi : i < a.length
    · repeat (first | refine go ?_ | (refine goX ?_; intro))
      refine EK_drawn rfl (by kernel_rfl) ?_
      repeat (refine goS ?_)
      refine EK_cond rfl (fun hne => ?_) (fun heq => ?_)
      · rw [Bool.not_eq_true', decide_eq_false_iff_not] at hne
        repeat (first | refine go ?_ | (refine goX ?_; intro))
        refine EK_ret (ER_1 rfl rfl () (by rw [decide_eq_false (fun e => hne (by rw [e]))]) (Ent.sat (by first | exact Ent.refl _ | exact Ent.last | (repeat (first | refine Ent.cons ?_ | exact Ent.any | exact Ent.last)))))
      · rw [Bool.not_eq_false'] at heq; replace heq := dec_t heq
        repeat (first | refine go ?_ | (refine goX ?_; intro))
        refine EK_round (i + 1) ⟨by omega, ?_⟩ (by omega) ⟨rfl, rfl, rfl, rfl, trivial⟩ (Ent.sat (by first | exact Ent.refl _ | exact Ent.last | (repeat (first | refine Ent.cons ?_ | exact Ent.any | exact Ent.last))))
        rw [← take_snocD (d := (0, 0)) hi, ← take_snocD (d := (0, 0)) (by omega : i < b.length), h2, clE_inj heq]
    · have e : i = a.length := by omega
      subst e
      rw [List.take_length, hl, List.take_length] at h2
      repeat (first | refine go ?_ | (refine goX ?_; intro))
      exact EK_ret (ER_1 rfl rfl () (by rw [decide_eq_true h2]) (Ent.sat (by first | exact Ent.refl _ | exact Ent.last | (repeat (first | refine Ent.cons ?_ | exact Ent.any | exact Ent.last)))))
  · repeat (first | refine go ?_ | (refine goX ?_; intro))
    exact EK_ret (ER_1 rfl rfl () (by rw [decide_eq_false (fun e => hl (by rw [e]))]) (Ent.sat (by first | exact Ent.refl _ | exact Ent.last | (repeat (first | refine Ent.cons ?_ | exact Ent.any | exact Ent.last)))))
theorem follows_spec (a b : ARow) (za zb : Slab) (ha : a.cl.length ≤ 5) (hb : b.cl.length ≤ 5) (ba : B64i a.port) (bb : B64i b.port) [Src W F za.1 a.cl.length (clV a.cl)] [Src W F zb.1 b.cl.length (clV b.cl)] :
    Spec Tryz.prog 20 [.agg #[.int .i64 a.proto, .int .i64 a.port, .slice za.1 a.cl.length za.2], .agg #[.int .i64 b.proto, .int .i64 b.port, .slice zb.1 b.cl.length zb.2]] W F (fun _ : Unit => .bool (nextB a b)) (fun _ => F) := by
  refine Spec.of Tryz.func20 rfl Tryz.ntmps20 rfl ?_
  obtain ⟨ba1, ba2⟩ := ba
  obtain ⟨bb1, bb2⟩ := bb
  by_cases h1 : a.proto = b.proto
  · by_cases h2 : a.port < b.port
    · by_cases h3 : b.port - 1 = a.port
      · repeat (first | refine go ?_ | (refine goX ?_; intro))
        refine EL_call rfl (equal_spec za.1 zb.1 za.2 zb.2 a.cl b.cl ha hb) ?_
        intro _
        repeat (first | refine go ?_ | (refine goX ?_; intro))
        refine EK_ret (ER_1 rfl rfl () ?_ (Ent.sat (by first | exact Ent.refl _ | exact Ent.last | (repeat (first | refine Ent.cons ?_ | exact Ent.any | exact Ent.last)))))
        exact congrArg Value.bool (decide_eq_decide.2 ⟨fun e => ⟨h1, by omega, e⟩, fun e => e.2.2⟩)
      · repeat (first | refine go ?_ | (refine goX ?_; intro))
        refine EK_ret (ER_1 rfl rfl () (by unfold nextB; rw [decide_eq_false (by omega)]) (Ent.sat (by first | exact Ent.refl _ | exact Ent.last | (repeat (first | refine Ent.cons ?_ | exact Ent.any | exact Ent.last)))))
    · repeat (first | refine go ?_ | (refine goX ?_; intro))
      refine EK_ret (ER_1 rfl rfl () (by unfold nextB; rw [decide_eq_false (by omega)]) (Ent.sat (by first | exact Ent.refl _ | exact Ent.last | (repeat (first | refine Ent.cons ?_ | exact Ent.any | exact Ent.last)))))
  · repeat (first | refine go ?_ | (refine goX ?_; intro))
    refine EK_ret (ER_1 rfl rfl () (by unfold nextB; rw [decide_eq_false (fun e => h1 e.1)]) (Ent.sat (by first | exact Ent.refl _ | exact Ent.last | (repeat (first | refine Ent.cons ?_ | exact Ent.any | exact Ent.last)))))
end Go.Proofs.YtecdkofeohbneaaGreatDoor

namespace Go.Proofs.YtecdkofeohbneaaGreatDoor
open Go.RowKit
set_option maxRecDepth 10000
attribute [local irreducible] EK EX ER EN EL ES EG OpVal OpDoes OpSkip
variable {W : World} {F : SL} {X : Cx} {k : List KI} {σ : Env}
attribute [local simp] clV_len arV_len fV_len strsR_len
instance (priority := 1550) NatOf.succ1 (m : Nat) : NatOf ((m : Int) + 1 - 1) m := ⟨by omega⟩
theorem runK_stop {l : List ARow} {f k : Nat} (h : ¬ (k < l.length ∧ nextB (l.getD (k - 1) ar0) (l.getD k ar0) = true)) : runK l f k = k := by
  cases f with
  | zero => rfl
  | succ f => rw [runK, if_neg h]
theorem runK_step {l : List ARow} {f k : Nat} (hf : l.length - k ≤ f) (h : k < l.length ∧ nextB (l.getD (k - 1) ar0) (l.getD k ar0) = true) : ∃ f', l.length - (k + 1) ≤ f' ∧ runK l f k = runK l f' (k + 1) := by
  cases f with
  | zero => omega
  | succ f => exact ⟨f, by omega, by rw [runK, if_pos h]⟩
structure RowsOk (W : World) (L : List ARow) (ps : Nat → Slab) : Prop where
  ro : ∀ i, i < L.length → Ro W (ps i).1 (L.getD i ar0).cl.length (clV (L.getD i ar0).cl)
  len : L.length ≤ 40
  five : ∀ i, i < L.length → (L.getD i ar0).cl.length ≤ 5
  num : ∀ i, i < L.length → B64i (L.getD i ar0).proto ∧ B64i (L.getD i ar0).port
  cl : ∀ i j, i < L.length → j < (L.getD i ar0).cl.length → B64i ((L.getD i ar0).cl.getD j (0, 0)).1 ∧ B64i ((L.getD i ar0).cl.getD j (0, 0)).2
theorem portsB_one {L : List ARow} {i k : Nat} (h : ¬ i + 1 < k) : portsB L i k = Lib.itoa (L.getD i ar0).port := if_neg h
theorem portsB_more {L : List ARow} {i k : Nat} (h : i + 1 < k) : portsB L i k = Lib.itoa (L.getD i ar0).port ++ ([45] ++ Lib.itoa (L.getD (k - 1) ar0).port) := if_pos h
def rinv (L : List ARow) (i K m : Nat) : Prop := i ≤ m ∧ m + 1 ≤ L.length ∧ (∃ f, L.length - (m + 1) ≤ f ∧ K = runK L f (m + 1)) ∧ (L.getD m ar0).proto = (L.getD i ar0).proto ∧ (L.getD m ar0).cl = (L.getD i ar0).cl
theorem rinv_stop {L : List ARow} {i K m : Nat} (h : rinv L i K m) (hn : ¬ (m + 1 < L.length ∧ nextB (L.getD m ar0) (L.getD (m + 1) ar0) = true)) : K = m + 1 := by
  obtain ⟨_, _, ⟨f, _, e⟩, _⟩ := h
  rw [e, runK_stop hn]
theorem rinv_step {L : List ARow} {i K m : Nat} (h : rinv L i K m) (hn : m + 1 < L.length ∧ nextB (L.getD m ar0) (L.getD (m + 1) ar0) = true) : rinv L i K (m + 1) := by
  obtain ⟨h1, h2, ⟨f, hf, e⟩, h3, h4⟩ := h
  obtain ⟨f', hf', e'⟩ := runK_step hf hn
  have hd := hn.2
  unfold nextB at hd
  have hd := of_decide_eq_true hd
  exact ⟨by omega, by omega, ⟨f', hf', by rw [e, e']⟩, by rw [← hd.1, h3], by rw [← hd.2.2, h4]⟩
end Go.Proofs.YtecdkofeohbneaaGreatDoor

namespace Go.Proofs.YtecdkofeohbneaaGreatDoor
open Go.RowKit
set_option maxRecDepth 10000
attribute [local irreducible] EK EX ER EN EL ES EG OpVal OpDoes OpSkip
variable {W : World} {F : SL} {X : Cx} {k : List KI} {σ : Env}
attribute [local simp] clV_len arV_len fV_len strsR_len
theorem srcCl {W : World} {L : List ARow} {qs : Nat → Slab} {i : Nat} (hi : i < L.length) (F : SL) : Src W (Stars (clS L qs) L.length * F) (qs i).1 (L.getD i ar0).cl.length (clV (L.getD i ar0).cl) := by
  rw [Stars.at L.length hi, SL.sep_assoc]
  unfold clS
  infer_instance
structure RowsNum (L : List ARow) : Prop where
  len : L.length ≤ 200
  five : ∀ i, i < L.length → (L.getD i ar0).cl.length ≤ 5
  num : ∀ i, i < L.length → B64i (L.getD i ar0).proto ∧ B64i (L.getD i ar0).port
  cl : ∀ i j, i < L.length → j < (L.getD i ar0).cl.length → B64i ((L.getD i ar0).cl.getD j (0, 0)).1 ∧ B64i ((L.getD i ar0).cl.getD j (0, 0)).2
set_option maxHeartbeats 4000000 in
theorem text_spec [PlanT W] (g : Slab) (L : List ARow) (qs : Nat → Slab) (h : RowsNum L) : Spec Tryz.prog 8 [.slice g.1 L.length g.2] W (AuC g L qs * F) (fun q : Slab => .slice q.1 (textOf L).length q.2) (fun q => RowC 9 1 q.1 (textOf L).length q.2 (strsR (textOf L)) * (AuC g L qs * F)) := by
  refine Spec.of Tryz.func8 rfl Tryz.ntmps8 rfl ?_
  have hL := h.len
  simp only [AuC.eq]
  obtain ⟨ST, hST⟩ : ∃ S, S = Stars (clS L qs) L.length := ⟨_, rfl⟩
  have hS : ∀ i, i < L.length → Src W (ST * F) (qs i).1 (L.getD i ar0).cl.length (clV (L.getD i ar0).cl) := fun i hi => by rw [hST]; exact srcCl hi F
  have hS1 : ∀ i, i < L.length → Src W (ST * 1) (qs i).1 (L.getD i ar0).cl.length (clV (L.getD i ar0).cl) := fun i hi => by rw [hST]; exact srcCl hi 1
  rw [← hST]
  clear hST
  repeat (first | refine go ?_ | (refine goX ?_; intro))
  refine EK_loop (γ := Nat × Slab × List (List UInt8)) (fun a => a.1 ≤ L.length ∧ a.2.2.length ≤ a.1 ∧ ∃ f, L.length - a.1 ≤ f ∧ textOf L = a.2.2 ++ textR L f a.1) (fun a => [(0, .slice g.1 L.length g.2), (3, .slice a.2.1.1 a.2.2.length a.2.1.2), (4, .int .i64 (a.1 : Int))])
    (fun a => RowC 9 1 a.2.1.1 a.2.2.length a.2.1.2 (strsR a.2.2) * (RowC 60 3 g.1 L.length g.2 (arV L qs) * (ST * F))) (fun a => L.length - a.1) (0, (none, 0), []) ⟨Nat.zero_le _, Nat.zero_le _, L.length, by dsimp only; omega, rfl⟩ ⟨rfl, rfl, rfl, trivial⟩ (Ent.sat (Ent.none (Ent.refl _))) ?_
  intro ⟨i, q, out⟩ ⟨h1, h2, f, h3, h4⟩; dsimp only at h1 h2 h3 h4 ⊢
  by_cases hi : i < L.length
  · haveI : Pos L.length := ⟨by omega⟩
    obtain ⟨f, rfl⟩ : ∃ f', f = f' + 1 := ⟨f - 1, by omega⟩
    rw [textR, if_pos hi] at h4
    obtain ⟨K, hK⟩ : ∃ K, runK L L.length (i + 1) = K := ⟨_, rfl⟩
    rw [hK] at h4
    have hr0 : rinv L i K i := ⟨Nat.le_refl _, hi, ⟨L.length, by omega, hK.symm⟩, rfl, rfl⟩
    have hK1 : i + 1 ≤ K := by rw [← hK]; exact runK_ge _ _ _
    have hK2 : K ≤ L.length := by rw [← hK]; exact runK_le _ _ _ hi
    have fi := h.five i hi
    have ni := h.num i hi
    haveI s1 := hS i hi
    repeat (first | refine go ?_ | (refine goX ?_; intro))
    refine EK_exits (γ := Unit) (fun _ => True) (fun _ => [(0, .slice g.1 L.length g.2), (3, .slice q.1 out.length q.2), (4, .int .i64 (i : Int)), (5, .int .i64 (K : Int))]) (fun _ => RowC 9 1 q.1 out.length q.2 (strsR out) * (RowC 60 3 g.1 L.length g.2 (arV L qs) * (ST * F))) ?_ ?_
    · refine EK_loop (γ := Nat) (rinv L i K) (fun m => [(0, .slice g.1 L.length g.2), (3, .slice q.1 out.length q.2), (4, .int .i64 (i : Int)), (5, .int .i64 ((m : Int) + 1))])
        (fun _ => RowC 9 1 q.1 out.length q.2 (strsR out) * (RowC 60 3 g.1 L.length g.2 (arV L qs) * (ST * F))) (fun m => L.length - m) i hr0 ⟨rfl, rfl, rfl, rfl, trivial⟩ (Ent.sat (Ent.refl _)) ?_
      intro m hm
      obtain ⟨m1, m2, _, mp, mc⟩ := id hm
      by_cases a1 : m + 1 < L.length
      · have nm := h.num m (by omega)
        have nk := h.num (m + 1) a1
        have fk := h.five (m + 1) a1
        have fm := h.five m (by omega)
        haveI s2 := hS (m + 1) a1
        haveI s3 := hS m (by omega)
        repeat (first | refine go ?_ | (refine goX ?_; intro))
        refine EK_sink 99 (RowC 60 3 g.1 L.length g.2 (arV L qs) * 1) rfl rfl rfl ?_
        repeat (first | refine goQ ?_ | refine EG_done (by decide +kernel) ?_)
        refine EG_callQ rfl rfl rfl rfl rfl (follows_spec (L.getD m ar0) (L.getD (m + 1) ar0) (qs m) (qs (m + 1)) fm fk nm.2 nk.2) (fun _ => by first | exact Ent.refl _ | exact Ent.last | (repeat (first | refine Ent.cons ?_ | exact Ent.any | exact Ent.last))) ?_
        intro _
        by_cases hn : nextB (L.getD m ar0) (L.getD (m + 1) ar0) = true
        · have hs := rinv_step hm ⟨a1, hn⟩
          rw [hn]
          repeat (first | refine goQ ?_ | refine EG_done (by decide +kernel) ?_)
          repeat (first | refine go ?_ | (refine goX ?_; intro))
          exact EK_round (m + 1) hs (by omega) ⟨rfl, rfl, rfl, rfl, trivial⟩ (Ent.sat (by first | exact Ent.refl _ | exact Ent.last | (repeat (first | refine Ent.cons ?_ | exact Ent.any | exact Ent.last))))
        · have e := rinv_stop hm (fun x => hn x.2)
          rw [Bool.not_eq_true] at hn
          rw [hn]
          repeat (first | refine goQ ?_ | refine EG_done (by decide +kernel) ?_)
          repeat (first | refine go ?_ | (refine goX ?_; intro))
          exact EK_meet () trivial ⟨rfl, rfl, rfl, by rw [e]; rfl, trivial⟩ (Ent.sat (by first | exact Ent.refl _ | exact Ent.last | (repeat (first | refine Ent.cons ?_ | exact Ent.any | exact Ent.last))))
      · have e := rinv_stop hm (fun x => a1 x.1)
        repeat (first | refine go ?_ | (refine goX ?_; intro))
        refine EK_sink 99 (RowC 60 3 g.1 L.length g.2 (arV L qs) * 1) rfl rfl rfl ?_
        repeat (first | refine goQ ?_ | refine EG_done (by decide +kernel) ?_)
        repeat (first | refine go ?_ | (refine goX ?_; intro))
        exact EK_meet () trivial ⟨rfl, rfl, rfl, by rw [e]; rfl, trivial⟩ (Ent.sat (by first | exact Ent.refl _ | exact Ent.last | (repeat (first | refine Ent.cons ?_ | exact Ent.any | exact Ent.last))))
    · intro _ _
      have hcl := claimsB_len fi (fun j hj => h.cl i j hi hj)
      have li := itoa_len ni.2
      have lp := protoB_len ni.1
      repeat (first | refine go ?_ | (refine goX ?_; intro))
      refine EL_call rfl (Itoa_spec _ ni.2.1 ni.2.2) ?_
      intro _
      by_cases ck : i + 1 < K
      · obtain ⟨m, rfl⟩ : ∃ m, K = m + 1 := ⟨K - 1, by omega⟩
        have eT : lineB L i (m + 1) = protoB (L.getD i ar0).proto ++ [32] ++ (Lib.itoa (L.getD i ar0).port ++ ([45] ++ Lib.itoa (L.getD m ar0).port)) ++ [32] ++ claimsB (L.getD i ar0).cl := by
          unfold lineB
          rw [portsB_more ck, Nat.add_sub_cancel]
        rw [eT] at h4
        have nm := h.num m (by omega)
        have lm := itoa_len nm.2
        rw [show ((m + 1 : Nat) : Int) = (m : Int) + 1 from rfl]
        repeat (first | refine go ?_ | (refine goX ?_; intro))
        refine EL_call rfl (Itoa_spec _ nm.2.1 nm.2.2) ?_
        intro _
        repeat (first | refine go ?_ | (refine goX ?_; intro))
        refine EK_sink 99 (RowC 60 3 g.1 L.length g.2 (arV L qs) * (ST * 1)) rfl rfl rfl ?_
        repeat (first | refine goQ ?_ | refine EG_done (by decide +kernel) ?_)
        refine EG_callQ rfl rfl rfl rfl rfl (aprotocol_spec ni.1) (fun _ => by first | exact Ent.refl _ | exact Ent.last | (repeat (first | refine Ent.cons ?_ | exact Ent.any | exact Ent.last))) ?_
        intro _
        repeat (first | refine goQ ?_ | refine EG_done (by decide +kernel) ?_)
        refine EG_callQ rfl rfl rfl rfl rfl (claims_spec (qs i).1 (qs i).2 _ fi (fun j hj => h.cl i j hi hj)) (fun _ => by first | exact Ent.refl _ | exact Ent.last | (repeat (first | refine Ent.cons ?_ | exact Ent.any | exact Ent.last))) ?_
        intro _
        repeat (first | refine goQ ?_ | refine EG_done (by decide +kernel) ?_)
        repeat (first | refine goG ?_ | (refine goGX ?_; intro) | refine goGL ?_ | refine goGS ?_ | refine goGV ?_ | refine EG_done (by decide +kernel) ?_)
        repeat (first | refine go ?_ | (refine goX ?_; intro))
        rename_i q2
        refine EK_round (m + 1, q2, out ++ [protoB (L.getD i ar0).proto ++ [32] ++ (Lib.itoa (L.getD i ar0).port ++ ([45] ++ Lib.itoa (L.getD m ar0).port)) ++ [32] ++ claimsB (L.getD i ar0).cl]) ⟨hK2, by dsimp only; rw [List.length_append, List.length_singleton]; omega, f, by dsimp only; omega, by dsimp only; rw [List.append_assoc]; exact h4⟩ (by dsimp only; omega) ⟨rfl, by rw [List.length_append]; rfl, rfl, trivial⟩ (Ent.sat ?_)
        dsimp only
        rw [← strsR_snoc, List.length_append]
        first | exact Ent.refl _ | exact Ent.last | (repeat (first | refine Ent.cons ?_ | exact Ent.any | exact Ent.last))
      · have eK : K = i + 1 := by omega
        subst eK
        have eT : lineB L i (i + 1) = protoB (L.getD i ar0).proto ++ [32] ++ Lib.itoa (L.getD i ar0).port ++ [32] ++ claimsB (L.getD i ar0).cl := by
          unfold lineB
          rw [portsB_one ck]
        rw [eT] at h4
        repeat (first | refine go ?_ | (refine goX ?_; intro))
        refine EK_sink 99 (RowC 60 3 g.1 L.length g.2 (arV L qs) * (ST * 1)) rfl rfl rfl ?_
        repeat (first | refine goQ ?_ | refine EG_done (by decide +kernel) ?_)
        refine EG_callQ rfl rfl rfl rfl rfl (aprotocol_spec ni.1) (fun _ => by first | exact Ent.refl _ | exact Ent.last | (repeat (first | refine Ent.cons ?_ | exact Ent.any | exact Ent.last))) ?_
        intro _
        repeat (first | refine goQ ?_ | refine EG_done (by decide +kernel) ?_)
        refine EG_callQ rfl rfl rfl rfl rfl (claims_spec (qs i).1 (qs i).2 _ fi (fun j hj => h.cl i j hi hj)) (fun _ => by first | exact Ent.refl _ | exact Ent.last | (repeat (first | refine Ent.cons ?_ | exact Ent.any | exact Ent.last))) ?_
        intro _
        repeat (first | refine goQ ?_ | refine EG_done (by decide +kernel) ?_)
        repeat (first | refine goG ?_ | (refine goGX ?_; intro) | refine goGL ?_ | refine goGS ?_ | refine goGV ?_ | refine EG_done (by decide +kernel) ?_)
        repeat (first | refine go ?_ | (refine goX ?_; intro))
        rename_i q2
        refine EK_round (i + 1, q2, out ++ [protoB (L.getD i ar0).proto ++ [32] ++ Lib.itoa (L.getD i ar0).port ++ [32] ++ claimsB (L.getD i ar0).cl]) ⟨hK2, by dsimp only; rw [List.length_append, List.length_singleton]; omega, f, by dsimp only; omega, by dsimp only; rw [List.append_assoc]; exact h4⟩ (by dsimp only; omega) ⟨rfl, by rw [List.length_append]; rfl, rfl, trivial⟩ (Ent.sat ?_)
        dsimp only
        rw [← strsR_snoc, List.length_append]
        first | exact Ent.refl _ | exact Ent.last | (repeat (first | refine Ent.cons ?_ | exact Ent.any | exact Ent.last))
  · have e : i = L.length := by omega
    subst e
    have e2 : textR L f L.length = [] := by
      cases f with
      | zero => rfl
      | succ f => rw [textR, if_neg (Nat.lt_irrefl _)]
    rw [e2, List.append_nil] at h4
    rw [h4]
    repeat (first | refine go ?_ | (refine goX ?_; intro))
    exact EK_ret (ER_1 rfl rfl q rfl (Ent.sat (by first | exact Ent.refl _ | exact Ent.last | (repeat (first | refine Ent.cons ?_ | exact Ent.any | exact Ent.last)))))
end Go.Proofs.YtecdkofeohbneaaGreatDoor

namespace Go.Proofs.YtecdkofeohbneaaGreatDoor
open Go.RowKit
set_option maxRecDepth 10000
attribute [local irreducible] EK EX ER EN EL ES EG OpVal OpDoes OpSkip
variable {W : World} {F : SL} {X : Cx} {k : List KI} {σ : Env} {pn : Option Addr} {c : NC} {R : NatP}
attribute [local simp] ptrF_len clV_len natsR_len arV_len strsR_len
def newRow (c : NC) (i : Nat) : ARow := ⟨protoN ((i / c.np : Nat) : Int), (c.lo : Int) + ((i % c.np : Nat) : Int), newCl⟩
def newRows (c : NC) (n : Nat) : List ARow := (List.range n).map (newRow c)
theorem newRows_len (c : NC) (n : Nat) : (newRows c n).length = n := by simp [newRows]
theorem newRows_snoc (c : NC) (n : Nat) : newRows c n ++ [newRow c n] = newRows c (n + 1) := by simp [newRows, List.range_succ]
theorem claims_new (hc : c.Ok) {kd x : Nat} (hk : kd ≤ 2) (hx : x < c.np) (hf : x ∈ freeN (newWords c.np) ((c.np + 31) / 32 * 32)) : Spec Tryz.prog 40 [.pointer pn, .int .i64 (protoN (kd : Int)), .int .i64 ((c.lo : Int) + x)] W (NatO pn c R F) (fun z : Slab => .slice z.1 1 z.2) (fun z => RowC 65 2 z.1 1 z.2 (clV newCl) * NatO pn c R F) := by
  obtain rfl | rfl | rfl : kd = 0 ∨ kd = 1 ∨ kd = 2 := by omega
  · exact claims_new0 hc hx hf
  · exact claims_new1 hc hx hf
  · exact claims_new2 hc hx hf
theorem portN_new (hc : c.Ok) {i : Nat} (hi : i < 3 * c.np) : portN c.cfg (i : Int) = (protoN ((i / c.np : Nat) : Int), (c.lo : Int) + ((i % c.np : Nat) : Int)) := by
  have hp := hc.ports
  unfold portN
  rw [hp, if_neg (by omega), ← Int.natCast_ediv, ← Int.natCast_emod]
  rfl
set_option maxHeartbeats 4000000 in
theorem Look_new (hc : c.Ok) (hf : ∀ x, x < c.np → x ∈ freeN (newWords c.np) ((c.np + 31) / 32 * 32)) : Spec Tryz.prog 19 [.pointer pn] W (NatO pn c R F) (fun q : Slab × (Nat → Slab) => .slice q.1.1 (3 * c.np) q.1.2) (fun q => AuC q.1 (newRows c (3 * c.np)) q.2 * NatO pn c R F) := by
  refine Spec.of Tryz.func19 rfl Tryz.ntmps19 rfl ?_
  have hnp : 1 ≤ c.np ∧ c.np ≤ 1024 := by
    obtain ⟨_, _, h3, _, _⟩ := hc
    unfold NC.np
    omega
  have hlo : (c.lo : Int) ≤ 65535 := by
    obtain ⟨_, _, h3, _, _⟩ := hc
    omega
  repeat (first | refine go ?_ | (refine goX ?_; intro))
  refine EL_call rfl Config_spec ?_
  intro _
  repeat (first | refine go ?_ | (refine goX ?_; intro))
  rename_i x3
  refine EL_call rfl (Places_spec c.cfg hc.fit) ?_
  intro _
  rw [hc.ports, show (3 : Int) * (c.np : Int) = ((3 * c.np : Nat) : Int) by omega]
  repeat (first | refine go ?_ | (refine goX ?_; intro))
  refine EK_loop (γ := Nat × Slab × (Nat → Slab)) (fun a => a.1 ≤ 3 * c.np) (fun a => [(0, .pointer pn), (3, .pointer x3), (4, .slice a.2.1.1 a.1 a.2.1.2), (11, .int .i64 ((3 * c.np : Nat) : Int)), (12, .int .i64 (a.1 : Int))])
    (fun a => Obj x3 52 [.int .i64 c.cfg.w, .int .u32 c.cfg.o, .int .i64 c.cfg.lo, .int .i64 c.cfg.hi, .int .i64 c.cfg.b, .int .i64 c.cfg.r] * (AuC a.2.1 (newRows c a.1) a.2.2 * NatO pn c R F)) (fun a => 3 * c.np - a.1) (0, (none, 0), fun _ => (none, 0)) (Nat.zero_le _) ⟨rfl, rfl, rfl, rfl, rfl, trivial⟩ (Ent.sat ?_) ?_
  · dsimp only
    rw [AuC.eq]
    refine Ent.cons (Ent.none ?_)
    show Ent _ (1 * _)
    rw [SL.sep_comm 1, SL.sep_emp]
    first | exact Ent.refl _ | exact Ent.last | (repeat (first | refine Ent.cons ?_ | exact Ent.any | exact Ent.last))
  intro ⟨i, q, qs⟩ h1; dsimp only at h1 ⊢
  by_cases hi : i < 3 * c.np
  · have hk : i / c.np ≤ 2 := by
      have : i / c.np < 3 := Nat.div_lt_of_lt_mul (by rw [Nat.mul_comm]; exact hi)
      omega
    have hx : i % c.np < c.np := Nat.mod_lt _ (by omega)
    have hlen := newRows_len c i
    rw [AuC.eq, hlen]
    repeat (first | refine go ?_ | (refine goX ?_; intro))
    refine EL_call rfl (Port_spec c.cfg hc.fit (i : Int)) ?_
    intro _
    rw [portN_new hc hi]
    repeat (first | refine go ?_ | (refine goX ?_; intro))
    refine EL_call rfl (Spec.pre (claims_new (R := R) (F := RowC 60 3 q.1 i q.2 (arV (newRows c i) qs) * (Stars (clS (newRows c i) qs) i * (Obj x3 52 [.int .i64 c.cfg.w, .int .u32 c.cfg.o, .int .i64 c.cfg.lo, .int .i64 c.cfg.hi, .int .i64 c.cfg.b, .int .i64 c.cfg.r] * F))) hc hk hx (hf _ hx)) (by simp only [NatO]; first | exact Ent.refl _ | exact Ent.last | (repeat (first | refine Ent.cons ?_ | exact Ent.any | exact Ent.last)))) ?_
    intro z
    repeat (first | refine go ?_ | (refine goX ?_; intro))
    rename_i q2
    have e2 := AuC.snoc (q := q2) (l := newRows c i) (ps := qs) (newRow c i) z (NatO pn c R F)
    rw [newRows_snoc, hlen] at e2
    refine EK_round (i + 1, q2, updS qs i z) (by dsimp only; omega) (by dsimp only; omega) ⟨rfl, rfl, rfl, rfl, rfl, trivial⟩ (Ent.sat ?_)
    dsimp only
    rw [← e2]
    unfold newRow
    simp only [NatO, show newCl.length = 1 from rfl]
    first | exact Ent.refl _ | exact Ent.last | (repeat (first | refine Ent.cons ?_ | exact Ent.any | exact Ent.last))
  · have e : i = 3 * c.np := by omega
    subst e
    repeat (first | refine go ?_ | (refine goX ?_; intro))
    exact EK_ret (ER_1 rfl rfl (q, qs) rfl (Ent.sat (by first | exact Ent.refl _ | exact Ent.last | (repeat (first | refine Ent.cons ?_ | exact Ent.any | exact Ent.last)))))
theorem Look_nil : Spec Tryz.prog 19 [.pointer none] W F (fun _ : Unit => .slice none 0 0) (fun _ => F) := by
  refine Spec.of Tryz.func19 rfl Tryz.ntmps19 rfl ?_
  repeat (first | refine go ?_ | (refine goX ?_; intro))
  refine EL_call rfl Config_nil ?_
  intro _
  repeat (first | refine go ?_ | (refine goX ?_; intro))
  rename_i x3
  refine EL_call rfl (Places_spec ⟨0, 0, 0, 0, 0, 0⟩ ⟨by unfold I64; decide, by decide, by unfold I64; decide, by unfold I64; decide, by unfold I64; decide, by unfold I64; decide⟩) ?_
  intro _
  rw [show 3 * portsN ⟨0, 0, 0, 0, 0, 0⟩ = 0 from by decide]
  repeat (first | refine go ?_ | (refine goX ?_; intro))
  refine EK_loop (γ := Unit) (fun _ => True) (fun _ => [(4, .slice none 0 0), (11, .int .i64 0), (12, .int .i64 0)]) (fun _ => F) (fun _ => 0) () trivial ⟨rfl, rfl, rfl, trivial⟩ (Ent.sat (by first | exact Ent.refl _ | exact Ent.last | (repeat (first | refine Ent.cons ?_ | exact Ent.any | exact Ent.last)))) ?_
  intro _ _
  repeat (first | refine go ?_ | (refine goX ?_; intro))
  exact EK_ret (ER_1 rfl rfl () rfl (Ent.sat (by first | exact Ent.refl _ | exact Ent.last | (repeat (first | refine Ent.cons ?_ | exact Ent.any | exact Ent.last)))))
end Go.Proofs.YtecdkofeohbneaaGreatDoor

namespace Go.Proofs.YtecdkofeohbneaaGreatDoor
open Go.RowKit
set_option maxRecDepth 10000
attribute [local irreducible] EK EX ER EN EL ES EG OpVal OpDoes OpSkip
variable {W : World} {F : SL} {X : Cx} {k : List KI} {σ : Env} {pn : Option Addr} {c : NC} {R : NatP}
attribute [local simp] ptrF_len clV_len natsR_len arV_len strsR_len
def c0 : NC := ⟨2, 3221225985, 1000, 1039, 16, 4⟩
theorem c0_ok : c0.Ok := ⟨by decide, by decide, by decide, by decide, by decide⟩
theorem c0_free : ∀ x, x < c0.np → x ∈ freeN (newWords c0.np) ((c0.np + 31) / 32 * 32) := by decide +kernel
def rows0 : List ARow := newRows c0 120
theorem itoa1000 : Lib.itoa 1000 = [49, 48, 48, 48] := by
  unfold Lib.itoa
  rw [if_neg (by decide)]
  simp [Lib.decDigits]
theorem itoa1039 : Lib.itoa 1039 = [49, 48, 51, 57] := by
  unfold Lib.itoa
  rw [if_neg (by decide)]
  simp [Lib.decDigits]
theorem rows0_len : rows0.length = 120 := newRows_len c0 120
def L0 : List UInt8 := [105, 99, 109, 112, 32, 49, 48, 48, 48, 45, 49, 48, 51, 57, 32, 112, 111, 111, 108]
def L1 : List UInt8 := [116, 99, 112, 32, 49, 48, 48, 48, 45, 49, 48, 51, 57, 32, 112, 111, 111, 108]
def L2 : List UInt8 := [117, 100, 112, 32, 49, 48, 48, 48, 45, 49, 48, 51, 57, 32, 112, 111, 111, 108]
theorem line0 {i : Nat} {p : Int} {L : List UInt8} (h1 : rows0.getD i ar0 = ⟨p, 1000, newCl⟩) (h2 : rows0.getD (i + 40 - 1) ar0 = ⟨p, 1039, newCl⟩) (h3 : protoB p ++ [32] ++ ([49, 48, 48, 48] ++ ([45] ++ [49, 48, 51, 57])) ++ [32] ++ claimsB newCl = L) : lineB rows0 i (i + 40) = L := by
  unfold lineB
  rw [portsB_more (by omega), h1, h2, itoa1000, itoa1039]
  exact h3
theorem text0 : textOf rows0 = [L0, L1, L2] := by
  have r1 : runK rows0 120 1 = 0 + 40 := by decide +kernel
  have r2 : runK rows0 120 41 = 40 + 40 := by decide +kernel
  have r3 : runK rows0 120 81 = 80 + 40 := by decide +kernel
  have l0 : lineB rows0 0 (0 + 40) = L0 := line0 (p := 1) (by decide +kernel) (by decide +kernel) (by decide +kernel)
  have l1 : lineB rows0 40 (40 + 40) = L1 := line0 (p := 6) (by decide +kernel) (by decide +kernel) (by decide +kernel)
  have l2 : lineB rows0 80 (80 + 40) = L2 := line0 (p := 17) (by decide +kernel) (by decide +kernel) (by decide +kernel)
  unfold textOf
  rw [rows0_len, textR, rows0_len, if_pos (by decide), r1, l0, textR, rows0_len, if_pos (by decide), r2, l1, textR, rows0_len, if_pos (by decide), r3, l2, textR, rows0_len, if_neg (by decide)]
theorem rows0_get {i : Nat} (hi : i < 120) : rows0.getD i ar0 = newRow c0 i := by
  unfold rows0 newRows
  rw [List.getD_eq_getElem?_getD, List.getElem?_map, List.getElem?_range hi]
  rfl
theorem rows0_num : RowsNum rows0 where
  len := by rw [rows0_len]; decide
  five := fun i hi => by rw [rows0_len] at hi; rw [rows0_get hi]; show (1 : Nat) ≤ 5; decide
  num := fun i hi => by
    rw [rows0_len] at hi
    rw [rows0_get hi]
    unfold newRow protoN B64i
    dsimp only
    have : i % c0.np < 40 := Nat.mod_lt _ (by decide)
    rw [show (c0.lo : Int) = 1000 from rfl]
    constructor
    · split
      · decide
      · split <;> decide
    · omega
  cl := fun i j hi hj => by
    rw [rows0_len] at hi
    rw [rows0_get hi] at hj ⊢
    have hj0 : j = 0 := by unfold newRow newCl at hj; simp at hj; exact hj
    subst hj0
    exact ⟨by show B64i 1; unfold B64i; decide, by show B64i (-1); unfold B64i; decide⟩
theorem Cfg15_spec : Spec Tryz.prog 18 [.int .i64 1, .int .i64 39, .int .i64 2] W F (fun _ : Unit => .agg #[.int .i64 2, .int .u32 3221225985, .int .i64 1000, .int .i64 1039, .int .i64 16, .int .i64 4]) (fun _ => F) := by
  refine Spec.of Tryz.func18 rfl Tryz.ntmps18 rfl ?_
  repeat (first | refine go ?_ | (refine goX ?_; intro))
  refine EK_ret (ER_c1 (rv := .cell 6 54) rfl ⟨_, rfl, LoadsV.agg rfl⟩ () rfl (Ent.sat ?_))
  first | exact Ent.refl _ | exact Ent.last | (repeat (first | refine Ent.cons ?_ | exact Ent.any | exact Ent.last))
theorem To14_spec {a b c d e f : Int} : Spec Tryz.prog 17 [.agg #[.int .i64 a, .int .u32 b, .int .i64 c, .int .i64 d, .int .i64 e, .int .i64 f]] W F (fun _ : Unit => .agg #[.int .i64 a, .int .u32 b, .int .i64 c, .int .i64 d, .int .i64 e, .int .i64 f]) (fun _ => F) := by
  refine Spec.of Tryz.func17 rfl Tryz.ntmps17 rfl ?_
  repeat (first | refine go ?_ | (refine goX ?_; intro))
  refine EK_ret (ER_c1 (rv := .cell 2 52) rfl ⟨_, rfl, LoadsV.agg rfl⟩ () rfl (Ent.sat ?_))
  first | exact Ent.refl _ | exact Ent.last | (repeat (first | refine Ent.cons ?_ | exact Ent.any | exact Ent.last))
theorem rows0_eq : newRows c0 (3 * c0.np) = rows0 := rfl
theorem rows0_n : 3 * c0.np = rows0.length := by rw [rows0_len]; rfl
attribute [local irreducible] rows0
theorem c0_val : c0.cfg.val = .agg #[.int .i64 2, .int .u32 3221225985, .int .i64 1000, .int .i64 1039, .int .i64 16, .int .i64 4] := by
  unfold Cfg.val NC.cfg c0
  simp
theorem new0_spec : Spec Tryz.prog 16 [.agg #[.int .i64 2, .int .u32 3221225985, .int .i64 1000, .int .i64 1039, .int .i64 16, .int .i64 4]] W F (fun z : Option Addr × NatP => .tuple #[.pointer z.1, .int .i64 0]) (fun z => NatS z.1 c0 z.2 * F) := by
  rw [← c0_val]
  exact NNew_spec c0_ok
theorem looks_spec [PlanT W] : Spec Tryz.prog 6 [] W F (fun _ : Unit => .bool true) (fun _ => F) := by
  refine Spec.of Tryz.func6 rfl Tryz.ntmps6 rfl ?_
  repeat (first | refine go ?_ | (refine goX ?_; intro))
  refine EL_call rfl Cfg15_spec ?_
  intro _
  repeat (first | refine go ?_ | (refine goX ?_; intro))
  refine EL_call rfl To14_spec ?_
  intro _
  repeat (first | refine go ?_ | (refine goX ?_; intro))
  refine EL_call rfl new0_spec ?_
  intro ⟨pn, R⟩
  rw [NatS.eq]
  dsimp only
  repeat (first | refine go ?_ | (refine goX ?_; intro))
  refine EL_call rfl (Look_new c0_ok c0_free) ?_
  intro ⟨q, qs⟩
  dsimp only
  rw [rows0_eq, rows0_n]
  repeat (first | refine go ?_ | (refine goX ?_; intro))
  refine EL_call rfl (text_spec q rows0 qs rows0_num) ?_
  intro t
  rw [text0]
  obtain ⟨T, hT⟩ : ∃ T, T = [L0, L1, L2] := ⟨_, rfl⟩
  have hl : T.length = 3 := by rw [hT]; rfl
  have h0 : T.getD 0 [] = L0 := by rw [hT]; rfl
  have h2 : T.getD 2 [] = L2 := by rw [hT]; rfl
  rw [← hT]
  repeat (first | refine go ?_ | (refine goX ?_; intro))
  rw [decide_eq_true (show T.getD 0 [] = [105, 99, 109, 112, 32, 49, 48, 48, 48, 45, 49, 48, 51, 57, 32, 112, 111, 111, 108] from h0)]
  repeat (first | refine go ?_ | (refine goX ?_; intro))
  rw [decide_eq_true (show T.getD 2 [] = [117, 100, 112, 32, 49, 48, 48, 48, 45, 49, 48, 51, 57, 32, 112, 111, 111, 108] from h2)]
  repeat (first | refine go ?_ | (refine goX ?_; intro))
  refine EL_call rfl Look_nil ?_
  intro _
  repeat (first | refine go ?_ | (refine goX ?_; intro))
  exact EK_ret (ER_1 rfl rfl () rfl (Ent.sat (by first | exact Ent.refl _ | exact Ent.last | (repeat (first | refine Ent.cons ?_ | exact Ent.any | exact Ent.last)))))
end Go.Proofs.YtecdkofeohbneaaGreatDoor

namespace Go.Proofs.YtecdkofeohbneaaGreatDoor
open Go.ChangeShapes Go.WideShapes Go.ChangeAt Go.RowKit Go.Deep
def B64 (n : Int) : Prop := -9223372036854775808 ≤ n ∧ n ≤ 9223372036854775807
theorem wf64 {n : Int} (h : (Lit.int .i64 n).wf = true) : B64 n := by
  have h' : (decide (IntKind.i64.min ≤ n) && decide (n ≤ IntKind.i64.max)) = true := h
  rw [Bool.and_eq_true, decide_eq_true_eq, decide_eq_true_eq] at h'
  exact h'
structure RowN where
  a : Int
  b : Int
  p : Option Addr
  n : Nat
  c : Nat
  g : Nat → Nat → Int
structure RowN.Fit (W : World) (x : RowN) : Prop where
  ro : Ro W x.p x.n (tabR 2 x.n x.g)
  g : ∀ i j, i < x.n → j < 2 → B64 (x.g i j)
  a : B64 x.a
  b : B64 x.b
  cap : x.n ≤ x.c ∧ x.c < 9223372036854775808
def rowC (x : RowN) (j : Nat) : Value := if j = 0 then .int .i64 x.a else if j = 1 then .int .i64 x.b else .slice x.p x.n x.c
def rowsN (n : Nat) (f : Nat → RowN) : List Value := (List.range (n * 3)).map fun t => rowC (f (t / 3)) (t % 3)
theorem rowsN_get {n i j : Nat} {f : Nat → RowN} (hi : i < n) (hj : j < 3) : (rowsN n f)[i * 3 + j]? = some (rowC (f i) j) := by
  have h : i * 3 + j < n * 3 := by omega
  unfold rowsN
  simp [h, show (i * 3 + j) / 3 = i by omega, show (i * 3 + j) % 3 = j by omega]
section
variable {H : Type} {enc : TypeId × Value → H} {P : Program} {W : World} {base : Nat} {held : Bool}
theorem tab_roB {t e ti k : Nat} {fs : Array Field} {fuel : Nat} {v : Value} {x : DataW H × List MemPlace} (ht : P.underlying t = some (.slice e)) (he : P.underlying e = some (.struct fs)) (hone : oneCellFields P fs = true) (hC : P.cellsOf e = k)
    (hf : (fs.map (·.type)) = Array.replicate k ti) (hi : P.underlying ti = some (.int .i64)) (hk : 0 < k)
    (h : DataW.trod enc P W base (fun _ => true) held fuel t [v] = some x) : ∃ (p : Option Addr) (n cap : Nat) (f : Nat → Nat → Int), v = .slice p n cap ∧ Ro W p n (tabR k n f) ∧ (∀ i j, i < n → j < k → B64 (f i j)) ∧ n ≤ cap ∧ cap < 9223372036854775808 := by
  have hfs : fs.size = k := by have := congrArg Array.size hf; simpa using this
  rcases Deep.open_slice ht h with ⟨h0, _⟩ | ⟨a, len, cap, m, n, D, Pl, h0, _, hle, hm, hmm, _, hel⟩
  · simp only [List.cons.injEq, and_true] at h0
    exact ⟨none, 0, 0, fun _ _ => 0, h0, ⟨fun i v hv => by simp [tabR] at hv, fun h => by simp at h⟩, fun i j hi => by omega, by decide, by decide⟩
  · simp only [List.cons.injEq, and_true] at h0
    simp only [if_true] at hmm
    subst hmm
    have each : ∀ i, i < len → ∃ y : Nat → Int, ∀ j, j < k → W.cell? (a.add (i * k + j)) = some (.int .i64 (y j)) ∧ B64 (y j) := by
      intro i hi'
      obtain ⟨cs', hcs, htr⟩ := hel i (by omega)
      rw [hC] at hcs
      obtain ⟨_, hcl, hat⟩ := World.cells?_some hcs
      obtain ⟨ys, n', _, _, hcl', hyl, hfl⟩ := DataW.trod_struct he htr
      have fld : ∀ j, j < k → ∃ z : Int, cs'[j]? = some (.int .i64 z) ∧ B64 z := by
        intro j hj
        have hj' : j < fs.size := by omega
        have hfj : fs[j]? = some fs[j] := Array.getElem?_eq_getElem hj'
        obtain ⟨ho, hk1⟩ := Deep.hone_of hone j _ hfj
        have h1 := hfl j _ hfj
        rw [ho, hk1] at h1
        have hy : ys[j]? = some (ys[j]'(by omega)) := List.getElem?_eq_getElem (by omega)
        have hjc : j < cs'.length := by omega
        rw [Deep.take1_drop _ _ (cs'[j]) hjc] at h1
        have e0 : fs[j].type = ti := by
          have := congrArg (fun z => z[j]?) hf
          simp [hj', hj] at this
          exact this
        rw [e0] at h1
        obtain ⟨z, q, _, wz⟩ := DataW.trod_int hi (h1.trans hy)
        refine ⟨z, ?_, wf64 wz⟩
        rw [List.getElem?_eq_getElem hjc]
        have := List.cons.inj q |>.1
        rw [List.getD_eq_getElem?_getD, List.getElem?_eq_getElem hjc] at this
        exact congrArg some this
      have hex : ∀ j, ∃ z : Int, j < k → cs'[j]? = some (.int .i64 z) ∧ B64 z := fun j => by
        by_cases hj : j < k
        · obtain ⟨z, hz⟩ := fld j hj
          exact ⟨z, fun _ => hz⟩
        · exact ⟨0, fun h => absurd h hj⟩
      refine ⟨fun j => Classical.choose (hex j), fun j hj => ?_⟩
      have h2 := Classical.choose_spec (hex j) hj
      have hjc : j < cs'.length := by omega
      have h3 := hat j (by omega)
      rw [Deep.add_add] at h3
      exact ⟨by rw [h3, ← h2.1], h2.2⟩
    obtain ⟨f, hfe⟩ := Deep.choose_lt each
    refine ⟨some a, len, m, f, h0, ⟨fun t v hv => ?_, fun _ => by simp⟩, fun i j hi hj => (hfe i hi j hj).2, hle, Nat.lt_of_le_of_lt hm (by decide)⟩
    have ht1 : t < len * k := by
      have := (List.getElem?_eq_some_iff.1 hv).1
      rwa [tabR_len] at this
    have hi1 : t / k < len := Nat.div_lt_of_lt_mul (by rw [Nat.mul_comm]; exact ht1)
    have hj1 : t % k < k := Nat.mod_lt _ hk
    have e1 : t / k * k + t % k = t := by rw [Nat.mul_comm]; exact Nat.div_add_mod t k
    have h3 := (hfe (t / k) hi1 (t % k) hj1).1
    have h4 := tabR_get (f := f) hi1 hj1
    rw [e1] at h3 h4
    rw [hv] at h4
    rw [h4]
    exact ⟨a.add t, rfl, World.block_lt_of_cell? _ _ h3, h3⟩
theorem arows_ro {t e ti tl tc : TypeId} {fs gs : Array Field} {fuel : Nat} {v : Value} {x : DataW H × List MemPlace} (ht : P.underlying t = some (.slice e)) (he : P.underlying e = some (.struct fs)) (hone : oneCellFields P fs = true) (hC : P.cellsOf e = 3)
    (hf : (fs.map (·.type)) = #[ti, ti, tl]) (hi : P.underlying ti = some (.int .i64)) (hl : P.underlying tl = some (.slice tc)) (hc1 : P.underlying tc = some (.struct gs)) (hc2 : oneCellFields P gs = true) (hc3 : P.cellsOf tc = 2) (hc4 : (gs.map (·.type)) = Array.replicate 2 ti)
    (h : DataW.trod enc P W base (fun _ => true) held fuel t [v] = some x) : ∃ (p : Option Addr) (n cap : Nat) (f : Nat → RowN), v = .slice p n cap ∧ Ro W p n (rowsN n f) ∧ ∀ i, i < n → (f i).Fit W := by
  have hfs : fs.size = 3 := by have := congrArg Array.size hf; simpa using this
  rcases Deep.open_slice ht h with ⟨h0, _⟩ | ⟨a, len, cap, m, n, D, Pl, h0, _, hle, hm, hmm, _, hel⟩
  · simp only [List.cons.injEq, and_true] at h0
    exact ⟨none, 0, 0, fun _ => ⟨0, 0, none, 0, 0, fun _ _ => 0⟩, h0, ⟨fun i v hv => by simp [rowsN] at hv, fun h => by simp at h⟩, fun i hi => by omega⟩
  · simp only [List.cons.injEq, and_true] at h0
    simp only [if_true] at hmm
    subst hmm
    have each : ∀ i, i < len → ∃ y : RowN, (∀ j, j < 3 → W.cell? (a.add (i * 3 + j)) = some (rowC y j)) ∧ y.Fit W := by
      intro i hi'
      obtain ⟨cs', hcs, htr⟩ := hel i (by omega)
      rw [hC] at hcs
      obtain ⟨_, hcl, hat⟩ := World.cells?_some hcs
      obtain ⟨ys, n', _, _, hcl', hyl, hfl⟩ := DataW.trod_struct he htr
      match cs', hcl with
      | [c0, c1, c2], _ =>
        have fld : ∀ j (hj : j < 3), ∃ f y, fs[j]? = some f ∧ DataW.trod enc P W base (fun _ => true) held n' f.type [[c0, c1, c2].getD j c0] = some y := by
          intro j hj
          have hj' : j < fs.size := by omega
          have hfj : fs[j]? = some fs[j] := Array.getElem?_eq_getElem hj'
          obtain ⟨ho, hk⟩ := Deep.hone_of hone j _ hfj
          have h1 := hfl j _ hfj
          rw [ho, hk] at h1
          have hy : ys[j]? = some (ys[j]'(by omega)) := List.getElem?_eq_getElem (by omega)
          rw [Deep.take1_drop _ _ c0 (by simpa using hj)] at h1
          exact ⟨_, _, hfj, h1.trans hy⟩
        have ftype : ∀ (j : Nat) (f : Field), fs[j]? = some f → some f.type = (#[ti, ti, tl] : Array TypeId)[j]? := by
          intro j f hj
          rw [← hf]
          simp [hj]
        obtain ⟨f0, y0, g0, t0⟩ := fld 0 (by decide)
        obtain ⟨f1, y1, g1, t1⟩ := fld 1 (by decide)
        obtain ⟨f2, y2, g2, t2⟩ := fld 2 (by decide)
        have e0 : f0.type = ti := Option.some.inj (ftype 0 f0 g0)
        have e1 : f1.type = ti := Option.some.inj (ftype 1 f1 g1)
        have e2 : f2.type = tl := Option.some.inj (ftype 2 f2 g2)
        rw [e0] at t0
        rw [e1] at t1
        rw [e2] at t2
        obtain ⟨z0, q0, _, w0⟩ := DataW.trod_int hi t0
        obtain ⟨z1, q1, _, w1⟩ := DataW.trod_int hi t1
        obtain ⟨p2, n2, k2_, zs, hv2, hro, hbd, hcap⟩ := tab_roB hl hc1 hc2 hc3 hc4 hi (by decide) t2
        have cell : ∀ j, j < 3 → W.cell? (a.add (i * 3 + j)) = some ([c0, c1, c2].getD j c0) := by
          intro j hj
          have := hat j hj
          rw [Deep.add_add] at this
          rw [this, List.getD_eq_getElem?_getD, List.getElem?_eq_getElem (by simpa using hj)]
          rfl
        have k0 := cell 0 (by decide)
        have k1 := cell 1 (by decide)
        have k2 := cell 2 (by decide)
        rw [List.cons.inj q0 |>.1] at k0
        rw [List.cons.inj q1 |>.1] at k1
        rw [show [c0, c1, c2].getD 2 c0 = .slice p2 n2 k2_ from hv2] at k2
        exact ⟨⟨z0, z1, p2, n2, k2_, zs⟩, fun j hj => match j, hj with
          | 0, _ => k0
          | 1, _ => k1
          | 2, _ => k2, ⟨hro, hbd, wf64 w0, wf64 w1, hcap⟩⟩
    haveI : Inhabited RowN := ⟨⟨0, 0, none, 0, 0, fun _ _ => 0⟩⟩
    obtain ⟨f, hfe⟩ := Deep.choose_lt each
    refine ⟨some a, len, m, f, h0, ⟨fun t v hv => ?_, fun _ => by simp⟩, fun i hi => (hfe i hi).2⟩
    have ht1 : t < len * 3 := by
      have := (List.getElem?_eq_some_iff.1 hv).1
      simpa [rowsN] using this
    have hi1 : t / 3 < len := by omega
    have hj1 : t % 3 < 3 := Nat.mod_lt _ (by decide)
    have e1 : t / 3 * 3 + t % 3 = t := by omega
    have h3 := (hfe (t / 3) hi1).1 (t % 3) hj1
    have h4 := rowsN_get (f := f) hi1 hj1
    rw [e1] at h3 h4
    rw [hv] at h4
    obtain rfl := Option.some.inj h4
    exact ⟨a.add t, rfl, World.block_lt_of_cell? _ _ h3, h3⟩
/-! ### As rows of claims -/
def clN (x : RowN) : List (Int × Int) := (List.range x.n).map fun i => (x.g i 0, x.g i 1)
theorem clN_len (x : RowN) : (clN x).length = x.n := by simp [clN]
theorem list_ext2 {a b : List Value} (hl : a.length = b.length) (h : ∀ i : Nat, i < a.length → a[i]? = b[i]?) : a = b := by
  apply List.ext_getElem?
  intro i
  rcases Nat.lt_or_ge i a.length with hi | hi
  · exact h i hi
  · rw [List.getElem?_eq_none hi, List.getElem?_eq_none (by omega)]
theorem clV_N (x : RowN) : tabR 2 x.n x.g = clV (clN x) := by
  refine list_ext2 (by rw [tabR_len, clV_len, clN_len]) fun t ht => ?_
  rw [tabR_len] at ht
  have e1 : t = t / 2 * 2 + t % 2 := by omega
  have h2 : t % 2 < 2 := Nat.mod_lt _ (by decide)
  have h3 : t / 2 < x.n := by omega
  rw [e1, tabR_get h3 h2, clV_get (by rw [clN_len]; exact h3) h2]
  have h4 : (clN x).getD (t / 2) (0, 0) = (x.g (t / 2) 0, x.g (t / 2) 1) := by
    unfold clN
    rw [List.getD_eq_getElem?_getD, List.getElem?_map, List.getElem?_range h3]
    rfl
  rw [h4]
  generalize t % 2 = j at h2 ⊢
  match j, h2 with
  | 0, _ => rfl
  | 1, _ => rfl
def arN (n : Nat) (f : Nat → RowN) : List ARow := (List.range n).map fun i => ⟨(f i).a, (f i).b, clN (f i)⟩
def psN (f : Nat → RowN) : Nat → Slab := fun i => ((f i).p, (f i).c)
theorem arN_len (n : Nat) (f : Nat → RowN) : (arN n f).length = n := by simp [arN]
theorem arN_get {n i : Nat} (f : Nat → RowN) (h : i < n) : (arN n f).getD i ar0 = ⟨(f i).a, (f i).b, clN (f i)⟩ := by
  unfold arN
  rw [List.getD_eq_getElem?_getD, List.getElem?_map, List.getElem?_range h]
  rfl
theorem arV_N (n : Nat) (f : Nat → RowN) : rowsN n f = arV (arN n f) (psN f) := by
  refine list_ext2 (by rw [arV_len, arN_len]; simp [rowsN]) fun t ht => ?_
  have ht' : t < n * 3 := by simpa [rowsN] using ht
  have e1 : t = t / 3 * 3 + t % 3 := by omega
  have h2 : t % 3 < 3 := Nat.mod_lt _ (by decide)
  have h3 : t / 3 < n := by omega
  rw [e1, rowsN_get h3 h2, arV_get (by rw [arN_len]; exact h3) h2]
  unfold arE psN
  rw [arN_get f h3]
  generalize t % 3 = j at h2 ⊢
  match j, h2 with
  | 0, _ => rfl
  | 1, _ => rfl
  | 2, _ => simp [rowC, clN_len]
/-- What the law is given: rows that are there already. -/
structure RowsAt (W : World) (l : List ARow) (ps : Nat → Slab) : Prop where
  cap : ∀ i, i < l.length → (l.getD i ar0).cl.length ≤ (ps i).2 ∧ (ps i).2 < 9223372036854775808
  ro : ∀ i, i < l.length → Ro W (ps i).1 (l.getD i ar0).cl.length (clV (l.getD i ar0).cl)
  num : ∀ i, i < l.length → B64 (l.getD i ar0).proto ∧ B64 (l.getD i ar0).port
  cl : ∀ i j, i < l.length → j < (l.getD i ar0).cl.length → B64 ((l.getD i ar0).cl.getD j (0, 0)).1 ∧ B64 ((l.getD i ar0).cl.getD j (0, 0)).2
theorem rowsAt {n : Nat} {f : Nat → RowN} (h : ∀ i, i < n → (f i).Fit W) : RowsAt W (arN n f) (psN f) where
  cap := fun i hi => by
    rw [arN_len] at hi
    rw [arN_get f hi]
    dsimp only
    rw [clN_len]
    exact (h i hi).cap
  ro := fun i hi => by
    rw [arN_len] at hi
    rw [arN_get f hi]
    have := (h i hi).ro
    rw [clV_N] at this
    dsimp only
    rw [clN_len]
    exact this
  num := fun i hi => by
    rw [arN_len] at hi
    rw [arN_get f hi]
    exact ⟨(h i hi).a, (h i hi).b⟩
  cl := fun i j hi hj => by
    rw [arN_len] at hi
    rw [arN_get f hi] at hj ⊢
    dsimp only at hj ⊢
    rw [clN_len] at hj
    have h4 : (clN (f i)).getD j (0, 0) = ((f i).g j 0, (f i).g j 1) := by
      unfold clN
      rw [List.getD_eq_getElem?_getD, List.getElem?_map, List.getElem?_range hj]
      rfl
    rw [h4]
    exact ⟨(h i hi).g j 0 hj (by decide), (h i hi).g j 1 hj (by decide)⟩
end
end Go.Proofs.YtecdkofeohbneaaGreatDoor

namespace Go.Proofs.YtecdkofeohbneaaGreatDoor
open Go.RowKit
set_option maxRecDepth 10000
attribute [local irreducible] EK EX ER EN EL ES EG OpVal OpDoes OpSkip
variable {W : World} {F : SL} {X : Cx} {k : List KI} {σ : Env}
attribute [local simp] ptrF_len clV_len natsR_len arV_len strsR_len fV_len
theorem dec_refl {α : Type} {A : α} {i : Decidable (A = A)} : @decide (A = A) i = true := by
  cases i with
  | isTrue _ => rfl
  | isFalse h => exact absurd rfl h
theorem fewR_len (L : List ARow) : (fewR L).length = min 40 L.length := by simp [fewR]
theorem fewR_get {L : List ARow} {i : Nat} (hi : i < (fewR L).length) : (fewR L).getD i ar0 = few1 (L.getD i ar0) ∧ i < L.length := by
  have h := hi
  rw [fewR_len] at h
  refine ⟨?_, by omega⟩
  unfold fewR
  rw [List.getD_eq_getElem?_getD, List.getElem?_map, List.getElem?_take, if_pos (by omega), List.getD_eq_getElem?_getD, List.getElem?_eq_getElem (by omega : i < L.length)]
  rfl
theorem few1_cl (r : ARow) : (few1 r).cl = r.cl.take 5 := rfl
theorem rows_ok {L : List ARow} {ps : Nat → Slab} (h : RowsAt W L ps) : RowsOk W (fewR L) ps where
  ro := fun i hi => by
    obtain ⟨e, hl⟩ := fewR_get hi
    rw [e, few1_cl]
    have h1 := (h.ro i hl).take (m := min 5 (L.getD i ar0).cl.length) (sz := 2) (by omega)
    have h2 : (L.getD i ar0).cl.take (min 5 (L.getD i ar0).cl.length) = (L.getD i ar0).cl.take 5 := by
      rcases Nat.le_total 5 (L.getD i ar0).cl.length with g | g
      · rw [Nat.min_eq_left g]
      · rw [Nat.min_eq_right g, List.take_length, List.take_of_length_le g]
    rw [clV_take, h2] at h1
    rw [List.length_take]
    exact h1
  len := by rw [fewR_len]; omega
  five := fun i hi => by
    obtain ⟨e, hl⟩ := fewR_get hi
    rw [e, few1_cl, List.length_take]
    omega
  num := fun i hi => by
    obtain ⟨e, hl⟩ := fewR_get hi
    rw [e]
    exact h.num i hl
  cl := fun i j hi hj => by
    obtain ⟨e, hl⟩ := fewR_get hi
    rw [e, few1_cl] at hj ⊢
    rw [List.length_take] at hj
    have e2 : ((L.getD i ar0).cl.take 5).getD j (0, 0) = (L.getD i ar0).cl.getD j (0, 0) := by
      rw [List.getD_eq_getElem?_getD, List.getElem?_take, if_pos (by omega), List.getD_eq_getElem?_getD (l := (L.getD i ar0).cl)]
    rw [e2]
    exact h.cl i j hl (by omega)
theorem faults_at {L : List ARow} {i : Nat} (hi : i < L.length) (hk : faultK (L.getD i ar0) ≠ 0) : (faultsL (L.take i)).length < (faultsL L).length ∧ (faultsL L).getD (faultsL (L.take i)).length ar0 = L.getD i ar0 := by
  have e1 : faultsL (L.take (i + 1)) = faultsL (L.take i) ++ [L.getD i ar0] := by
    unfold faultsL
    rw [← take_snocD (d := ar0) hi, List.filter_append]
    congr 1
    rw [List.filter_cons, if_pos (decide_eq_true hk)]
    rfl
  have e2 : faultsL L = faultsL (L.take i) ++ ([L.getD i ar0] ++ faultsL (L.drop (i + 1))) := by
    rw [← List.append_assoc, ← e1]
    unfold faultsL
    rw [← List.filter_append, List.take_append_drop]
  rw [e2]
  refine ⟨by simp, ?_⟩
  simp [List.getD_eq_getElem?_getD]
theorem faults_step {L : List ARow} {i : Nat} (hi : i < L.length) : (faultsL (L.take (i + 1))).length = (faultsL (L.take i)).length + if faultK (L.getD i ar0) = 0 then 0 else 1 := by
  unfold faultsL
  rw [← take_snocD (d := ar0) hi, List.filter_append, List.length_append]
  congr 1
  by_cases h : faultK (L.getD i ar0) = 0
  · rw [if_pos h, List.filter_cons, if_neg (by rw [decide_eq_true_eq]; exact fun e => e h)]
    rfl
  · rw [if_neg h, List.filter_cons, if_pos (decide_eq_true h)]
    rfl
theorem cV_eq (w : Option Int) (L : List ARow) : cV w L [] = [.int .i64 ((cntP (kK w 1) L : Nat) : Int), .int .i64 ((cntP (kK w 2) L : Nat) : Int), .int .i64 ((cntP (kK w 3) L : Nat) : Int), .int .i64 ((cntP (kK w 4) L : Nat) : Int)] := rfl
set_option maxHeartbeats 4000000 in
theorem Rows_walk [PlanT W] (p : Option Addr) (c : Nat) (L : List ARow) (ps : Nat → Slab) (z : Int) [Ro W p L.length (arV L ps)] (hA : RowsAt W L ps) : Spec Tryz.prog 4 [.slice p L.length c, .int .i64 z] W F (fun _ : Unit => .bool true) (fun _ => F) := by
  refine Spec.of Tryz.func4 rfl Tryz.ntmps4 rfl ?_
  have hok := rows_ok hA
  have hl := hok.len
  repeat (first | refine go ?_ | (refine goX ?_; intro))
  refine EL_call rfl (few_spec p c L ps hA.cap) ?_
  intro g
  repeat (first | refine go ?_ | (refine goX ?_; intro))
  refine EL_call rfl (to_spec g (fewR L) ps hok.ro hl hok.five) ?_
  intro ⟨q, qs⟩
  dsimp only
  generalize fewR L = L at hok hl ⊢
  have hfl : (faultsL L).length ≤ 40 := by
    unfold faultsL
    exact Nat.le_trans (List.length_filter_le _ _) hl
  repeat (first | refine go ?_ | (refine goX ?_; intro))
  refine EL_call rfl (faults_spec q L qs hl hok.five) ?_
  intro o
  repeat (first | refine go ?_ | (refine goX ?_; intro))
  refine EK_loop (γ := Nat) (fun i => i ≤ L.length) (fun i => [(0, .slice g.1 L.length g.2), (1, .int .i64 z), (5, .slice q.1 L.length q.2), (6, .slice o.1 (faultsL L).length o.2), (7, .int .i64 ((faultsL (L.take i)).length : Int)), (8, .int .i64 (i : Int))])
    (fun _ => AuC q L qs * (RowC 39 3 o.1 (faultsL L).length o.2 (fV (faultsL L)) * (RRows g L ps * F))) (fun i => L.length - i) 0 (Nat.zero_le _) ⟨rfl, rfl, rfl, rfl, rfl, rfl, trivial⟩ (Ent.sat (by first | exact Ent.refl _ | exact Ent.last | (repeat (first | refine Ent.cons ?_ | exact Ent.any | exact Ent.last)))) ?_
  intro i h1
  by_cases hi : i < L.length
  · haveI : Pos L.length := ⟨by omega⟩
    haveI := hok.ro i hi
    have h5i := hok.five i hi
    have hst := faults_step hi
    have hfi : (faultsL (L.take i)).length ≤ 40 := by
      unfold faultsL
      refine Nat.le_trans (List.length_filter_le _ _) ?_
      rw [List.length_take]; omega
    repeat (first | refine go ?_ | (refine goX ?_; intro))
    refine EL_call rfl (rfault_spec (L.getD i ar0) (ps i) h5i) ?_
    intro _
    by_cases hk : faultK (L.getD i ar0) = 0
    · rw [if_pos hk, Nat.add_zero] at hst
      repeat (first | refine go ?_ | (refine goX ?_; intro))
      exact EK_round (i + 1) (by omega) (by omega) ⟨rfl, rfl, rfl, rfl, by rw [hst]; rfl, rfl, trivial⟩ (Ent.sat (by first | exact Ent.refl _ | exact Ent.last | (repeat (first | refine Ent.cons ?_ | exact Ent.any | exact Ent.last))))
    · rw [if_neg hk] at hst
      obtain ⟨hlt, hget⟩ := faults_at hi hk
      repeat (first | refine go ?_ | (refine goX ?_; intro))
      refine EK_sink 99 (RowC 39 3 o.1 (faultsL L).length o.2 (fV (faultsL L)) * (RRows g L ps * 1)) rfl rfl rfl ?_
      repeat (first | refine goQ ?_ | refine EG_done (by decide +kernel) ?_)
      rw [hget]
      repeat (first | refine go ?_ | (refine goX ?_; intro))
      refine EK_cond rfl (fun hne => ?_) (fun _ => ?_)
      · rw [Bool.not_eq_true', decide_eq_false_iff_not] at hne
        exact absurd rfl hne
      · repeat (first | refine go ?_ | (refine goX ?_; intro))
        exact EK_round (i + 1) (by omega) (by omega) ⟨rfl, rfl, rfl, rfl, by rw [hst]; rfl, rfl, trivial⟩ (Ent.sat (by first | exact Ent.refl _ | exact Ent.last | (repeat (first | refine Ent.cons ?_ | exact Ent.any | exact Ent.last))))
  · have e : i = L.length := by omega
    subst e
    rw [List.take_length]
    repeat (first | refine go ?_ | (refine goX ?_; intro))
    refine EL_call rfl (count_spec q L qs hl hok.five) ?_
    intro _
    repeat (first | refine go ?_ | (refine goX ?_; intro))
    refine EL_call rfl (of_spec q L qs z hl hok.five) ?_
    intro _
    rw [cV_eq, cV_eq]
    repeat (first | refine go ?_ | (refine goX ?_; intro))
    rename_i x10 x11
    refine EK_sink 99 (Obj x10 41 [.int .i64 ((cntP (kK none 1) L : Nat) : Int), .int .i64 ((cntP (kK none 2) L : Nat) : Int), .int .i64 ((cntP (kK none 3) L : Nat) : Int), .int .i64 ((cntP (kK none 4) L : Nat) : Int)] * (Obj x11 41 [.int .i64 ((cntP (kK (some z) 1) L : Nat) : Int), .int .i64 ((cntP (kK (some z) 2) L : Nat) : Int), .int .i64 ((cntP (kK (some z) 3) L : Nat) : Int), .int .i64 ((cntP (kK (some z) 4) L : Nat) : Int)] * 1)) rfl rfl rfl ?_
    repeat (first | refine goQ ?_ | refine EG_done (by decide +kernel) ?_)
    refine EG_callQ rfl rfl rfl rfl rfl looks_spec (fun _ => by first | exact Ent.refl _ | exact Ent.last | (repeat (first | refine Ent.cons ?_ | exact Ent.any | exact Ent.last))) ?_
    intro _
    repeat (first | refine goQ ?_ | refine EG_done (by decide +kernel) ?_)
    refine EG_callQ rfl rfl rfl rfl rfl (Spec.at1 g.1 (rcount_spec g L ps 1 false 0 hok.ro hl hok.five)) (fun _ => by first | exact Ent.refl _ | exact Ent.last | (repeat (first | refine Ent.cons ?_ | exact Ent.any | exact Ent.last))) ?_
    intro _
    repeat (first | refine goQ ?_ | refine EG_done (by decide +kernel) ?_)
    refine EG_callQ rfl rfl rfl rfl rfl (Spec.at1 g.1 (rcount_spec g L ps 2 false 0 hok.ro hl hok.five)) (fun _ => by first | exact Ent.refl _ | exact Ent.last | (repeat (first | refine Ent.cons ?_ | exact Ent.any | exact Ent.last))) ?_
    intro _
    repeat (first | refine goQ ?_ | refine EG_done (by decide +kernel) ?_)
    refine EG_callQ rfl rfl rfl rfl rfl (Spec.at1 g.1 (rcount_spec g L ps 3 false 0 hok.ro hl hok.five)) (fun _ => by first | exact Ent.refl _ | exact Ent.last | (repeat (first | refine Ent.cons ?_ | exact Ent.any | exact Ent.last))) ?_
    intro _
    repeat (first | refine goQ ?_ | refine EG_done (by decide +kernel) ?_)
    refine EG_callQ rfl rfl rfl rfl rfl (Spec.at1 g.1 (rcount_spec g L ps 4 false 0 hok.ro hl hok.five)) (fun _ => by first | exact Ent.refl _ | exact Ent.last | (repeat (first | refine Ent.cons ?_ | exact Ent.any | exact Ent.last))) ?_
    intro _
    repeat (first | refine goQ ?_ | refine EG_done (by decide +kernel) ?_)
    rw [show oneO false 0 = none from rfl, dec_refl]
    repeat (first | refine goQ ?_ | refine EG_done (by decide +kernel) ?_)
    refine EG_callQ rfl rfl rfl rfl rfl (Spec.at1 g.1 (rcount_spec g L ps 1 true z hok.ro hl hok.five)) (fun _ => by first | exact Ent.refl _ | exact Ent.last | (repeat (first | refine Ent.cons ?_ | exact Ent.any | exact Ent.last))) ?_
    intro _
    repeat (first | refine goQ ?_ | refine EG_done (by decide +kernel) ?_)
    refine EG_callQ rfl rfl rfl rfl rfl (Spec.at1 g.1 (rcount_spec g L ps 2 true z hok.ro hl hok.five)) (fun _ => by first | exact Ent.refl _ | exact Ent.last | (repeat (first | refine Ent.cons ?_ | exact Ent.any | exact Ent.last))) ?_
    intro _
    repeat (first | refine goQ ?_ | refine EG_done (by decide +kernel) ?_)
    refine EG_callQ rfl rfl rfl rfl rfl (Spec.at1 g.1 (rcount_spec g L ps 3 true z hok.ro hl hok.five)) (fun _ => by first | exact Ent.refl _ | exact Ent.last | (repeat (first | refine Ent.cons ?_ | exact Ent.any | exact Ent.last))) ?_
    intro _
    repeat (first | refine goQ ?_ | refine EG_done (by decide +kernel) ?_)
    refine EG_callQ rfl rfl rfl rfl rfl (Spec.at1 g.1 (rcount_spec g L ps 4 true z hok.ro hl hok.five)) (fun _ => by first | exact Ent.refl _ | exact Ent.last | (repeat (first | refine Ent.cons ?_ | exact Ent.any | exact Ent.last))) ?_
    intro _
    repeat (first | refine goQ ?_ | refine EG_done (by decide +kernel) ?_)
    rw [show oneO true z = some z from rfl, dec_refl]
    repeat (first | refine goQ ?_ | refine EG_done (by decide +kernel) ?_)
    repeat (first | refine go ?_ | (refine goX ?_; intro))
    exact EK_ret (ER_1 rfl rfl () rfl (Ent.sat (by first | exact Ent.refl _ | exact Ent.last | (repeat (first | refine Ent.cons ?_ | exact Ent.any | exact Ent.last)))))
theorem Rows_rows [PlanT W] {p : Option Addr} {n c : Nat} {f : Nat → RowN} (z : Int) (hr : Ro W p n (rowsN n f)) (hg : ∀ i, i < n → (f i).Fit W) : Spec Tryz.prog 4 [.slice p n c, .int .i64 z] W F (fun _ : Unit => .bool true) (fun _ => F) := by
  haveI : Ro W p (arN n f).length (arV (arN n f) (psN f)) := by rw [arN_len, ← arV_N]; exact hr
  have h := Rows_walk (F := F) p c (arN n f) (psN f) z (rowsAt hg)
  rw [arN_len] at h
  exact h
end Go.Proofs.YtecdkofeohbneaaGreatDoor
