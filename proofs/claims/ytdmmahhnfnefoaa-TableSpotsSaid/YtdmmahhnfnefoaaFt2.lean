/-
  Package table: New, the steps that begin, through, look, search, Do.
-/
import Derived.Test.YtdmmahhnfnefoaaFt1
namespace Go.Proofs.Ytdmmahhnfnefoaa
open Go.RowKit
set_option maxRecDepth 10000
attribute [local irreducible] EK EX ER EN EL ES EG OpVal OpDoes OpSkip
variable {W : World} {F : SL} {X : Cx} {k : List KI} {σ : Env} {p pp g : Option Addr} {ws cs pl : List Nat} {n np : Nat} {s : TStep}
abbrev wL (w : PWord) (l : List Value) : List Value := .int .i64 (w.st : Int) :: .int .i64 (w.gen : Int) :: .int .i64 (w.tr : Int) :: .int .i64 (w.sn : Int) :: l
def tsV (s : TStep) : List Value := (Value.int .i64 (s.kind : Int) :: Value.int .i64 (s.f1 : Int) :: Value.int .u32 (s.f2 : Int) :: Value.int .u16 (s.f3 : Int) :: Value.int .i64 s.id :: Value.int .i64 (s.a : Int) :: Value.int .i64 (s.b : Int) :: Value.int .i64 (s.next : Int) :: Value.int .u64 (s.first : Int) :: Value.int .u64 (s.word : Int) :: Value.int .i64 (s.at_ : Int) :: Value.bool s.half :: Value.int .i64 (s.seen.st : Int) :: Value.int .i64 (s.seen.gen : Int) :: Value.int .i64 (s.seen.tr : Int) :: Value.int .i64 (s.seen.sn : Int) :: Value.int .u64 (s.still : Int) :: Value.int .i64 (s.m.phase : Int) :: Value.int .i64 (s.m.id : Int) :: Value.int .i64 (s.m.fr : Int) :: Value.int .i64 (s.m.to : Int) :: Value.int .i64 (s.m.version : Int) :: Value.int .i64 (s.m.turn : Int) :: Value.int .i64 (s.v : Int) :: Value.int .i64 (s.u : Int) :: Value.int .i64 (s.o0 : Int) :: Value.int .i64 (s.o1 : Int) :: Value.int .i64 (s.o2 : Int) :: Value.int .i64 (s.o3 : Int) :: Value.int .u64 (s.g0 : Int) :: Value.int .u64 (s.g1 : Int) :: Value.int .u64 (s.g2 : Int) :: Value.int .u64 (s.g3 : Int) :: Value.int .i64 (s.far : Int) :: Value.bool s.second :: Value.int .i64 s.found :: Value.int .i64 (s.foundAs.st : Int) :: Value.int .i64 (s.foundAs.gen : Int) :: Value.int .i64 (s.foundAs.tr : Int) :: Value.int .i64 (s.foundAs.sn : Int) :: Value.int .i64 (s.end_ : Int) :: Value.bool s.done :: [])
abbrev tsL (s : TStep) : List Value := (Value.int .i64 (s.kind : Int) :: Value.int .i64 (s.f1 : Int) :: Value.int .u32 (s.f2 : Int) :: Value.int .u16 (s.f3 : Int) :: Value.int .i64 s.id :: Value.int .i64 (s.a : Int) :: Value.int .i64 (s.b : Int) :: Value.int .i64 (s.next : Int) :: Value.int .u64 (s.first : Int) :: Value.int .u64 (s.word : Int) :: Value.int .i64 (s.at_ : Int) :: Value.bool s.half :: Value.int .i64 (s.seen.st : Int) :: Value.int .i64 (s.seen.gen : Int) :: Value.int .i64 (s.seen.tr : Int) :: Value.int .i64 (s.seen.sn : Int) :: Value.int .u64 (s.still : Int) :: Value.int .i64 (s.m.phase : Int) :: Value.int .i64 (s.m.id : Int) :: Value.int .i64 (s.m.fr : Int) :: Value.int .i64 (s.m.to : Int) :: Value.int .i64 (s.m.version : Int) :: Value.int .i64 (s.m.turn : Int) :: Value.int .i64 (s.v : Int) :: Value.int .i64 (s.u : Int) :: Value.int .i64 (s.o0 : Int) :: Value.int .i64 (s.o1 : Int) :: Value.int .i64 (s.o2 : Int) :: Value.int .i64 (s.o3 : Int) :: Value.int .u64 (s.g0 : Int) :: Value.int .u64 (s.g1 : Int) :: Value.int .u64 (s.g2 : Int) :: Value.int .u64 (s.g3 : Int) :: Value.int .i64 (s.far : Int) :: Value.bool s.second :: Value.int .i64 s.found :: Value.int .i64 (s.foundAs.st : Int) :: Value.int .i64 (s.foundAs.gen : Int) :: Value.int .i64 (s.foundAs.tr : Int) :: Value.int .i64 (s.foundAs.sn : Int) :: Value.int .i64 (s.end_ : Int) :: Value.bool s.done :: [])
def TStepC (p : Option Addr) (s : TStep) : SL := Obj p 123 (tsV s)
theorem TStepC.open (H : EK X k σ (Obj p 123 (Value.int .i64 (s.kind : Int) :: Value.int .i64 (s.f1 : Int) :: Value.int .u32 (s.f2 : Int) :: Value.int .u16 (s.f3 : Int) :: Value.int .i64 s.id :: Value.int .i64 (s.a : Int) :: Value.int .i64 (s.b : Int) :: Value.int .i64 (s.next : Int) :: Value.int .u64 (s.first : Int) :: Value.int .u64 (s.word : Int) :: Value.int .i64 (s.at_ : Int) :: Value.bool s.half :: Value.int .i64 (s.seen.st : Int) :: Value.int .i64 (s.seen.gen : Int) :: Value.int .i64 (s.seen.tr : Int) :: Value.int .i64 (s.seen.sn : Int) :: Value.int .u64 (s.still : Int) :: Value.int .i64 (s.m.phase : Int) :: Value.int .i64 (s.m.id : Int) :: Value.int .i64 (s.m.fr : Int) :: Value.int .i64 (s.m.to : Int) :: Value.int .i64 (s.m.version : Int) :: Value.int .i64 (s.m.turn : Int) :: Value.int .i64 (s.v : Int) :: Value.int .i64 (s.u : Int) :: Value.int .i64 (s.o0 : Int) :: Value.int .i64 (s.o1 : Int) :: Value.int .i64 (s.o2 : Int) :: Value.int .i64 (s.o3 : Int) :: Value.int .u64 (s.g0 : Int) :: Value.int .u64 (s.g1 : Int) :: Value.int .u64 (s.g2 : Int) :: Value.int .u64 (s.g3 : Int) :: Value.int .i64 (s.far : Int) :: Value.bool s.second :: Value.int .i64 s.found :: Value.int .i64 (s.foundAs.st : Int) :: Value.int .i64 (s.foundAs.gen : Int) :: Value.int .i64 (s.foundAs.tr : Int) :: Value.int .i64 (s.foundAs.sn : Int) :: Value.int .i64 (s.end_ : Int) :: Value.bool s.done :: []) * F)) : EK X k σ (TStepC p s * F) := H
theorem TStepC.openL {ops o : List Oper} (H : EL X k ops o σ (Obj p 123 (Value.int .i64 (s.kind : Int) :: Value.int .i64 (s.f1 : Int) :: Value.int .u32 (s.f2 : Int) :: Value.int .u16 (s.f3 : Int) :: Value.int .i64 s.id :: Value.int .i64 (s.a : Int) :: Value.int .i64 (s.b : Int) :: Value.int .i64 (s.next : Int) :: Value.int .u64 (s.first : Int) :: Value.int .u64 (s.word : Int) :: Value.int .i64 (s.at_ : Int) :: Value.bool s.half :: Value.int .i64 (s.seen.st : Int) :: Value.int .i64 (s.seen.gen : Int) :: Value.int .i64 (s.seen.tr : Int) :: Value.int .i64 (s.seen.sn : Int) :: Value.int .u64 (s.still : Int) :: Value.int .i64 (s.m.phase : Int) :: Value.int .i64 (s.m.id : Int) :: Value.int .i64 (s.m.fr : Int) :: Value.int .i64 (s.m.to : Int) :: Value.int .i64 (s.m.version : Int) :: Value.int .i64 (s.m.turn : Int) :: Value.int .i64 (s.v : Int) :: Value.int .i64 (s.u : Int) :: Value.int .i64 (s.o0 : Int) :: Value.int .i64 (s.o1 : Int) :: Value.int .i64 (s.o2 : Int) :: Value.int .i64 (s.o3 : Int) :: Value.int .u64 (s.g0 : Int) :: Value.int .u64 (s.g1 : Int) :: Value.int .u64 (s.g2 : Int) :: Value.int .u64 (s.g3 : Int) :: Value.int .i64 (s.far : Int) :: Value.bool s.second :: Value.int .i64 s.found :: Value.int .i64 (s.foundAs.st : Int) :: Value.int .i64 (s.foundAs.gen : Int) :: Value.int .i64 (s.foundAs.tr : Int) :: Value.int .i64 (s.foundAs.sn : Int) :: Value.int .i64 (s.end_ : Int) :: Value.bool s.done :: []) * F)) : EL X k ops o σ (TStepC p s * F) := H
theorem TStepC.shut {l : List Value} (h : l = tsV s) : Ent (Obj p 123 l * F) (TStepC p s * F) := by subst h; exact Ent.refl _
theorem TStepC.ent {l : List Value} {G : SL} (h : l = tsV s) (k : Ent F G) : Ent (Obj p 123 l * F) (TStepC p s * G) := Ent.trans (TStepC.shut h) (Ent.cons k)
instance (priority := 2000) (p : Option Addr) (s : TStep) (F : SL) : AtP (TStepC p s * F) p (TStepC p s) F := ⟨rfl⟩
instance (p : Option Addr) (s : TStep) : Root (TStepC p s) p := ⟨fun W w F H => (Obj.root p _ _).nn W w _ H⟩
abbrev TableO (p pp g : Option Addr) (n : Nat) (cs : List Nat) (F : SL) : SL := Obj p 110 [.pointer pp, .pointer g, .int .i64 (n : Int)] * (CellsSL g cs * F)
def TableX (p pp : Option Addr) (n : Nat) (cs : List Nat) (g : Option Addr) : SL := Obj p 110 [.pointer pp, .pointer g, .int .i64 (n : Int)] * CellsSL g cs
def TableC (p pp : Option Addr) (n : Nat) (cs : List Nat) : SL := SL.ex (TableX p pp n cs)
theorem TableX.eq (p pp : Option Addr) (n : Nat) (cs : List Nat) (g : Option Addr) (F : SL) : TableX p pp n cs g * F = TableO p pp g n cs F := by
  unfold TableX TableO
  rw [SL.sep_assoc]
theorem TableC.open (H : ∀ g, EK X k σ (TableO p pp g n cs F)) : EK X k σ (TableC p pp n cs * F) := EK_ex fun g => by
  rw [TableX.eq]; exact H g
theorem TableC.openL {ops o : List Oper} (H : ∀ g, EL X k ops o σ (TableO p pp g n cs F)) : EL X k ops o σ (TableC p pp n cs * F) := EL_exF fun g => by
  rw [TableX.eq]; exact H g
theorem TableC.shut {g : Option Addr} : Ent (TableO p pp g n cs F) (TableC p pp n cs * F) := Ent.ex g (by rw [TableX.eq]; exact Ent.refl _)
instance (priority := 2000) (p pp : Option Addr) (n : Nat) (cs : List Nat) (F : SL) : AtP (TableC p pp n cs * F) p (TableC p pp n cs) F := ⟨rfl⟩
instance (p pp : Option Addr) (n : Nat) (cs : List Nat) : Root (TableC p pp n cs) p := ⟨fun W w F H => by
  obtain ⟨g, H⟩ := H.ex_out
  rw [TableX.eq] at H
  exact (Obj.root p _ _).nn W w _ H⟩
theorem TNew_spec {m : Nat} (hf : fineN (n : Int) = true) (hl : ws.length = 2 * m) (hm : m ≤ 3072) : Spec Try.prog 22 [.pointer pp, .int .i64 (n : Int)] W (PlaceC pp ws * F) (fun p : Option Addr => .tuple #[.pointer p, .int .i64 0]) (fun p => TableC p pp n (List.replicate (n + 1) 0) * (PlaceC pp ws * F)) := by
  refine Spec.of Try.func22 rfl Try.ntmps22 rfl ?_
  have hk : 2 ≤ (n : Int) ∧ (n : Int) ≤ 1024 := by unfold fineN at hf; have := of_decide_eq_true hf; omega
  repeat (first | refine go ?_ | (refine goX ?_; intro))
  refine EL_call rfl (fine_spec _) ?_
  intro _
  rw [hf]
  repeat (first | refine go ?_ | (refine goX ?_; intro))
  refine EL_call rfl (PSize_spec hl hm) ?_
  intro _
  repeat (first | refine go ?_ | (refine goX ?_; intro))
  rw [show (n : Int) + 1 = ((n + 1 : Nat) : Int) by omega]
  refine EL_call rfl (CNew_spec (n + 1) (by omega) (by omega)) ?_
  intro g
  repeat (first | refine go ?_ | (refine goX ?_; intro))
  rename_i x
  refine EK_ret (ER_2 rfl rfl rfl x rfl (Ent.sat (Ent.trans ?_ (TableC.shut (g := g)))))
  first | exact Ent.refl _ | exact Ent.last | (repeat (first | refine Ent.cons ?_ | exact Ent.any | exact Ent.last))
theorem TNew_bad {b : Int} (hf : fineN b = false) : Spec Try.prog 22 [.pointer pp, .int .i64 b] W (PlaceC pp ws * F) (fun _ : Unit => .tuple #[.pointer none, .int .i64 1]) (fun _ => PlaceC pp ws * F) := by
  refine Spec.of Try.func22 rfl Try.ntmps22 rfl ?_
  repeat (first | refine go ?_ | (refine goX ?_; intro))
  refine EL_call rfl (fine_spec _) ?_
  intro _
  rw [hf]
  repeat (first | refine go ?_ | (refine goX ?_; intro))
  exact EK_ret (ER_2 rfl rfl rfl () rfl (Ent.sat (Ent.refl _)))
theorem TNew_nil {b : Int} : Spec Try.prog 22 [.pointer none, .int .i64 b] W F (fun _ : Unit => .tuple #[.pointer none, .int .i64 1]) (fun _ => F) := by
  refine Spec.of Try.func22 rfl Try.ntmps22 rfl ?_
  repeat (first | refine go ?_ | (refine goX ?_; intro))
  exact EK_ret (ER_2 rfl rfl rfl () rfl (Ent.sat (Ent.refl _)))
theorem tbegin_spec {kd f1 f2 f3 nx : Nat} {id : Int} (hf : fineN (n : Int) = true) (h1 : f1 ≤ 255) (h2 : f2 < 4294967296) (h3 : f3 < 65536) : Spec Try.prog 50 [.pointer p, .int .i64 (kd : Int), flowV (f1 : Int) f2 f3, .int .i64 id, .int .i64 (nx : Int)] W (TableC p pp n cs * F) (fun g : Option Addr => .pointer g)
    (fun g => TStepC g (tbegin kd f1 f2 f3 id nx n) * (TableC p pp n cs * F)) := by
  refine Spec.of Try.func50 rfl Try.ntmps50 rfl ?_
  have hk : 2 ≤ (n : Int) ∧ (n : Int) ≤ 1024 := by unfold fineN at hf; have := of_decide_eq_true hf; omega
  have hsp : spotsI (f1 : Int) f2 f3 (n : Int) = (((spotsN (keyN f1 f2 f3) n).1 : Int), ((spotsN (keyN f1 f2 f3) n).2 : Int)) := by
    unfold spotsI keyI; rw [if_pos hf, show ((f1 : Int) % 65536).toNat = f1 by omega]; rfl
  refine TableC.open fun g => ?_
  simp only [TableO]
  repeat (first | refine go ?_ | (refine goX ?_; intro))
  rename_i y
  refine EK_sink 99 (Obj y 65 [.int .i64 (f1 : Int), .int .u32 (f2 : Int), .int .u16 (f3 : Int)] * (Obj p 110 [.pointer pp, .pointer g, .int .i64 (n : Int)] * 1)) rfl rfl rfl ?_
  repeat (first | refine goQ ?_ | refine EG_done (by decide +kernel) ?_)
  refine EG_callQ rfl rfl rfl rfl rfl (Spots_spec _ _ h2 h3) (fun _ => by first | exact Ent.refl _ | exact Ent.last | (repeat (first | refine Ent.cons ?_ | exact Ent.any | exact Ent.last))) ?_
  intro _
  rw [hsp]
  repeat (first | refine goQ ?_ | refine EG_done (by decide +kernel) ?_)
  repeat (first | refine go ?_ | (refine goX ?_; intro))
  rename_i x
  refine EK_ret (ER_1 rfl rfl x rfl (Ent.sat (Ent.trans ?_ (TStepC.shut (s := tbegin kd f1 f2 f3 id nx n) rfl))))
  refine Ent.obj x rfl (Ent.trans ?_ (TableC.shut (g := g)))
  first | exact Ent.refl _ | exact Ent.last | (repeat (first | refine Ent.cons ?_ | exact Ent.any | exact Ent.last))
theorem TFind_spec {f1 f2 f3 : Nat} (hf : fineN (n : Int) = true) (h1 : f1 ≤ 255) (h2 : f2 < 4294967296) (h3 : f3 < 65536) : Spec Try.prog 26 [.pointer p, flowV (f1 : Int) f2 f3] W (TableC p pp n cs * F) (fun g : Option Addr => .pointer g)
    (fun g => TStepC g (tbegin 0 f1 f2 f3 (-1) 0 n) * (TableC p pp n cs * F)) := by
  refine Spec.of Try.func26 rfl Try.ntmps26 rfl ?_
  repeat (first | refine go ?_ | (refine goX ?_; intro))
  refine EL_call rfl (Spec.at1 p (tbegin_spec (kd := 0) (nx := 0) hf h1 h2 h3)) ?_
  intro g
  repeat (first | refine go ?_ | (refine goX ?_; intro))
  exact EK_ret (ER_1 rfl rfl g rfl (Ent.sat (by first | exact Ent.refl _ | exact Ent.last | (repeat (first | refine Ent.cons ?_ | exact Ent.any | exact Ent.last)))))
theorem TPut_spec {f1 f2 f3 : Nat} {id : Int} (hf : fineN (n : Int) = true) (h1 : f1 ≤ 255) (h2 : f2 < 4294967296) (h3 : f3 < 65536) : Spec Try.prog 27 [.pointer p, flowV (f1 : Int) f2 f3, .int .i64 id] W (TableC p pp n cs * F) (fun g : Option Addr => .pointer g)
    (fun g => TStepC g (tbegin 1 f1 f2 f3 id 0 n) * (TableC p pp n cs * F)) := by
  refine Spec.of Try.func27 rfl Try.ntmps27 rfl ?_
  repeat (first | refine go ?_ | (refine goX ?_; intro))
  refine EL_call rfl (Spec.at1 p (tbegin_spec (kd := 1) (nx := 0) hf h1 h2 h3)) ?_
  intro g
  repeat (first | refine go ?_ | (refine goX ?_; intro))
  exact EK_ret (ER_1 rfl rfl g rfl (Ent.sat (by first | exact Ent.refl _ | exact Ent.last | (repeat (first | refine Ent.cons ?_ | exact Ent.any | exact Ent.last)))))
theorem finish_spec {e : Nat} : Spec Try.prog 80 [.pointer p, .int .i64 (e : Int)] W (TStepC p s * F) (fun _ : Unit => .tuple #[]) (fun _ => TStepC p (finishS s e) * F) := by
  refine Spec.of Try.func80 rfl Try.ntmps80 rfl ?_
  refine TStepC.open ?_
  repeat (first | refine go ?_ | (refine goX ?_; intro))
  exact EK_end (EN_0 rfl () rfl (Ent.sat (TStepC.shut (by rfl))))
theorem through_spec {u nx : Nat} : Spec Try.prog 91 [.pointer p, .int .u64 (u : Int), .int .i64 (nx : Int)] W (TStepC p s * F) (fun _ : Unit => .tuple #[]) (fun _ => TStepC p (throughS s u nx) * F) := by
  refine Spec.of Try.func91 rfl Try.ntmps91 rfl ?_
  refine TStepC.open ?_
  repeat (first | refine go ?_ | (refine goX ?_; intro))
  exact EK_end (EN_0 rfl () rfl (Ent.sat (TStepC.shut (by rfl))))
theorem behind_spec (hk : s.kind ≤ 2) (hw : s.first < 18446744073709551616) : Spec Try.prog 93 [.pointer p] W (TStepC p s * F) (fun _ : Unit => .int .i64 (behindS s : Int)) (fun _ => TStepC p s * F) := by
  refine Spec.of Try.func93 rfl Try.ntmps93 rfl ?_
  refine TStepC.open ?_
  by_cases h0 : s.kind = 0
  · repeat (first | refine go ?_ | (refine goX ?_; intro))
    exact EK_ret (ER_1 rfl rfl () (by unfold behindS; rw [if_pos h0]; rfl) (Ent.sat (TStepC.shut (by rfl))))
  · repeat (first | refine go ?_ | (refine goX ?_; intro))
    refine EL_call rfl (full_spec hw) ?_
    intro _
    cases hfu : fullB s.first with
    | true =>
      repeat (first | refine go ?_ | (refine goX ?_; intro))
      exact EK_ret (ER_1 rfl rfl () (by unfold behindS; rw [if_neg h0, hfu]; rfl) (Ent.sat (TStepC.shut (by rfl))))
    | false =>
      repeat (first | refine go ?_ | (refine goX ?_; intro))
      exact EK_ret (ER_1 rfl rfl () (by unfold behindS; rw [if_neg h0, hfu]; rfl) (Ent.sat (TStepC.shut (by rfl))))
end Go.Proofs.Ytdmmahhnfnefoaa
