/-
  Package wheel: order, and what it gives the sort (cmp.Or, cmp.Compare): by the kit's own walk, for the sort wants the worlds themselves.
-/
import Derived.Test.YtdmmahhnfnefoaaWh2
import Derived.Test.YtdmmahhnfnefoaaShelf
import Derived.WalkKit
import Derived.Deep.RegionWith
namespace Go.Proofs.Ytdmmahhnfnefoaa
open Go.RowKit Go.Sort

theorem Or_calls (b : Nat) (x y : Int) (w : World) (h0 : w.cell? ⟨b, 0, none⟩ = some (.int .i64 x)) (h1 : w.cell? ⟨b, 1, none⟩ = some (.int .i64 y)) :
    Calls Try.prog 69 #[.slice (some ⟨b, 0, none⟩) 2 2] w fun e w' => e = .returned (.int .i64 (if x = 0 then y else x)) ∧ w' = w := by
  obtain ⟨r, hr⟩ : ∃ r : Int, r = if x = 0 then y else x := ⟨_, rfl⟩
  rw [← hr]
  have HR := Lib.hid hr
  clear hr
  go_enter Try.func69, Try.ntmps69
  go_wp2
  go_loop [8] (fun i => ∃ k : Nat, k ≤ 2 ∧ i = .int .i64 k ∧ (0 < k → x = 0) ∧ (1 < k → y = 0)) (fun i => 2 - (intOf i).toNat)
  case atStart => exact ⟨0, Nat.zero_le _, rfl, by omega, by omega⟩
  case round =>
    obtain ⟨k, hk, rfl, k0, k1⟩ := hrel
    have hk3 : k = 0 ∨ k = 1 ∨ k = 2 := by omega
    rcases hk3 with rfl | rfl | rfl
    · go_wp2
      · have hx : (x != 0) = true := by assumption
        have hx : x ≠ 0 := by simpa using hx
        go_ret
        exact ⟨by rw [HR.out, if_neg hx]; rfl, rfl⟩
      · have hx : (x != 0) = false := by assumption
        have hx : x = 0 := by simpa using hx
        go_round
        case rel => exact ⟨1, by omega, rfl, fun _ => hx, by omega⟩
        case measure => decide
    · go_wp2
      · go_ret
        exact ⟨by rw [HR.out, if_pos (k0 (by omega))]; rfl, rfl⟩
      · have hy : (y != 0) = false := by assumption
        have hy : y = 0 := by simpa using hy
        go_round
        case rel => exact ⟨2, by omega, rfl, fun _ => k0 (by omega), fun _ => hy⟩
        case measure => decide
    · go_wp2
      go_ret
      exact ⟨by rw [HR.out, if_pos (k0 (by omega)), k1 (by omega)]; rfl, rfl⟩
def cfW (a b : Wen) : Int := if Lib.compareInt (a.at_ : Int) (b.at_ : Int) = 0 then Lib.compareInt (a.turn : Int) (b.turn : Int) else Lib.compareInt (a.at_ : Int) (b.at_ : Int)

/-! A walk that knows the world itself. -/
section
variable {X : Cx} {k : List KI} {σ : Env} {S : World → Prop}
def KW (X : Cx) (S : World → Prop) (k : List KI) (σ : Env) : Prop := ∀ a w, Fits X.N a σ → S w → run X.P X.R k .normal a w
def LW (X : Cx) (S : World → Prop) (k : List KI) (ops l : List Oper) (σ : Env) : Prop := ∀ a w, Fits X.N a σ → S w → wpList X.P ops.toArray (run X.P X.R k) l a w
def SW (X : Cx) (S : World → Prop) (ops l : List Oper) (σ : Env) (Z : Act → Prop) : Prop := ∀ a, Fits X.N a σ → wpSt X.P ops.toArray S Z l a
theorem KW_seq {x y : Code} (h : KW X S (.code x :: .code y :: k) σ) : KW X S (.code (.seq x y) :: k) σ := fun a w ha hs => wp_seq (h a w ha hs)
theorem KW_skip (h : KW X S k σ) : KW X S (.code .skip :: k) σ := fun a w ha hs => wp_skip (h a w ha hs)
theorem KW_region {id : Nat} {ops : List Oper} (h : LW X S k ops ops σ) : KW X S (.code (.region id ops.toArray false) :: k) σ := fun a w ha hs => wp_region_lit (h a w ha hs)
theorem KW_drawnT {id : Nat} {ops pre suf : List Oper} (n : Nat) (hm : X.P.follows .mixedOrders = true) (hB : Region.lexTailB .any ops.toArray n = true) (hd : ∀ w, S w → S w.drew) (hp : ops.take n = pre) (hsuf : ops.drop n = suf)
    (h : SW X S ops pre σ (fun a => ∀ w, S w → wpList X.P ops.toArray (run X.P X.R k) suf a w)) : KW X S (.code (.region id ops.toArray true) :: k) σ :=
  fun a w ha hs => wp_region_steady_tail (S := S) n hm hB hd hs (by rw [hp, hsuf]; exact h a ha)
theorem SW_tail {ops suf : List Oper} (h : LW X S k ops suf σ) : SW X S ops [] σ (fun a => ∀ w, S w → wpList X.P ops.toArray (run X.P X.R k) suf a w) := fun a ha w hs => h a w ha hs
theorem LW_nil {ops : List Oper} (h : KW X S k σ) : LW X S k ops [] σ := fun a w ha hs => h a w ha hs
theorem LW_le {S' : World → Prop} {ops l : List Oper} (hS : ∀ w, S w → S' w) (h : LW X S' k ops l σ) : LW X S k ops l σ := fun a w ha hs => h a w ha (hS w hs)
variable {ops l : List Oper} {Z : Act → Prop} {d : Nat} {v : Value} {op : Op} {ty : TypeId} {pos : String} {aft : Array Edge} {H : SL}
theorem SW_val (hSH : ∀ w, S w → Sat X.W w H) (hv : OpVal X σ H ⟨some d, op, ty, pos, aft, none⟩ v) (hd : Nat.blt d X.N = true) (h : SW X S ops l ((d, v) :: σ) Z) :
    SW X S ops (⟨some d, op, ty, pos, aft, none⟩ :: l) σ Z :=
  fun a ha => ⟨v, .inl ⟨rfl, fun w hs => .inl ⟨w, hv a w ha (hSH w hs), hs⟩⟩, h _ (ha.put hd v)⟩
theorem SW_call {f : FuncId} [IsFn X.P f] {args : Array Operand} {ats : Array TypeId} {vs : List Value} (hargs : evs σ args.toList = some vs) (hd : Nat.blt d X.N = true)
    (hc : ∀ w, S w → Calls X.P f vs.toArray w (fun e w' => e = .returned v ∧ S w')) (h : SW X S ops l ((d, v) :: σ) Z) :
    SW X S ops (⟨some d, .call { callee := .value (.func f), args := args, argTypes := ats }, ty, pos, aft, none⟩ :: l) σ Z :=
  fun a ha => ⟨v, .inl ⟨rfl, fun w hs => .inr (.inr ⟨f, vs.toArray, w, run_call ha hargs, hc w hs⟩)⟩, h _ (ha.put hd v)⟩
theorem LW_val (hSH : ∀ w, S w → Sat X.W w H) (hv : OpVal X σ H ⟨some d, op, ty, pos, aft, none⟩ v) (hd : Nat.blt d X.N = true) (h : LW X S k ops l ((d, v) :: σ)) :
    LW X S k ops (⟨some d, op, ty, pos, aft, none⟩ :: l) σ := by
  intro a w ha hs
  refine wpList_plain rfl fun K hK => ?_
  unfold Oper.wp
  rw [hv a w ha (hSH w hs)]
  exact hK _ _ (h _ _ (ha.put hd v) hs)
theorem LW_call {f : FuncId} [IsFn X.P f] {S' : World → Prop} {args : Array Operand} {ats : Array TypeId} {vs : List Value} (hargs : evs σ args.toList = some vs) (hd : Nat.blt d X.N = true)
    (hc : ∀ w, S w → Calls X.P f vs.toArray w (fun e w' => e = .returned v ∧ S' w')) (h : LW X S' k ops l ((d, v) :: σ)) :
    LW X S k ops (⟨some d, .call { callee := .value (.func f), args := args, argTypes := ats }, ty, pos, aft, none⟩ :: l) σ := by
  intro a w ha hs
  refine wpList_plain rfl fun K hK => ?_
  unfold Oper.wp
  rw [run_call ha hargs, Oper.upon_enter]
  refine (hc w hs).mono ?_
  rintro e w' ⟨rfl, hs'⟩
  exact hK _ _ (h _ _ (ha.put hd _) hs')
/-- An operation that makes a new block; its number is known. -/
theorem LW_new {g : Nat → Value} {o : Go.Obj} {B : Nat} (hB : ∀ w, S w → w.heap.size = B) (hv : ∀ a w, Fits X.N a σ → (execOp a.eval ⟨some d, op, ty, pos, aft, none⟩).run X.P w = .ok (.value (g w.heap.size)) (w.alloc o)) (hd : Nat.blt d X.N = true)
    (h : LW X (fun w' => ∃ w, S w ∧ w' = w.alloc o) k ops l ((d, g B) :: σ)) : LW X S k ops (⟨some d, op, ty, pos, aft, none⟩ :: l) σ := by
  intro a w ha hs
  refine wpList_plain rfl fun K hK => ?_
  unfold Oper.wp
  rw [hv a w ha, hB w hs]
  exact hK _ _ (h _ _ (ha.put hd _) ⟨w, hs, rfl⟩)
theorem run_box {t : TypeId} {x : Operand} {v : Value} {cs : List Value} (hx : ev σ x = some v) (hv : cellsS v = some cs) (a : Act) (w : World) (ha : Fits X.N a σ) :
    (execOp a.eval ⟨some d, .box t x, ty, pos, aft, none⟩).run X.P w = .ok (.value (.pointer (some ⟨w.heap.size, 0, none⟩))) (w.alloc (.cells cs.toArray t)) := by
  obtain rfl := cellsS_spec hv
  have hc : v.cells = (cellsL v).toArray := by rw [← cellsL_spec, Array.toArray_toList]
  simp only [execOp, ha.eval hx]
  simp [Instr.box, newVar, newRow, go_sem]
  exact congrArg (fun c => w.alloc (.cells c t)) hc
theorem run_buildSlice {t e sz by' n : Nat} {z vs : List Value} {parts : Array (Nat × Operand)} [s : TSlice X.P t e sz by' z] (hv : bsl σ sz 0 parts.toList = some vs) (hn : Nat.beq vs.length (n * sz) = true) (hn' : n ≤ 65536) (hsz : sz ≤ 256) (a : Act) (w : World) (ha : Fits X.N a σ) :
    (execOp a.eval ⟨some d, .buildSlice t n parts, ty, pos, aft, none⟩).run X.P w = .ok (.value (.slice (some ⟨w.heap.size, 0, none⟩) n n)) (w.alloc (.cells vs.toArray e)) := by
  obtain ⟨i, v, hi, hz, hs1, hbs, hzc⟩ := s.parts
  have hn := Nat.eq_of_beq_eq_true hn
  have hmul : n * sz ≤ 65536 * 256 := Nat.mul_le_mul hn' hsz
  have key : ∀ cs : Array Value, cs.size = n * sz → Instr.fill (fun i => some (i * sz, sz)) cs (parts.toList.map fun (q : Nat × Operand) => (q.1, a.eval q.2)) = some vs.toArray := fun cs hcs => by
    have := fill_bsl (P := fun i => some (i * sz, sz)) (fun _ => rfl) ha rfl parts.toList 0 vs [] cs.toList hv (by simp) (by rw [Array.length_toList]; omega)
    simpa using this
  have hlim : ¬ (16777216 < n * sz) := by omega
  have hz2 : (zeroValue e).run X.P w = .ok v w := by simp [zeroValue, typeInfo, hi, hz, go_sem]
  have hs2 : (sizeOf e).run X.P w = .ok sz w := by simp [sizeOf, typeInfo, hi, hs1, go_sem]
  simp only [execOp]
  generalize a.eval = ρ at key ⊢
  by_cases h0 : n * sz = 0
  · simp [Instr.buildSlice, run_underlying s.under, hs2, h0, newRow, go_sem]
    rw [key #[] (by simp [h0])]
    simp [go_sem]
  · simp [Instr.buildSlice, run_underlying s.under, hs2, h0, hlim, newRow, hz2, go_sem]
    rw [key _ (by simp)]
    simp [go_sem]
theorem KW_ret {P : Program} {N : Nat} {W : World} {fn : Func} {K : Ending → World → Prop} {t : Nat} {v : Value} (hf : fn.results = #[.tmp t]) (ht : σ.get t = some v) (h : ∀ w, S w → K (.returned v) w) : KW ⟨P, N, W, bodyPost P fn K⟩ S (.code .ret :: k) σ := fun a w ha hs => wp_ret (by
  show run _ _ k .ret a w
  rw [run_ret]
  exact ⟨ha.defers, _, res1 ha hf ht, h w hs⟩)
theorem calls_of {P : Program} {f : FuncId} {fn : Func} {c : Code} {N : Nat} {W w : World} {K : Ending → World → Prop} {vs : List Value} (hf : P.funcs[f]? = some fn) (hb : fn.body = some c) (hn : fn.ntmps = N) (hl : Nat.ble vs.length N = true) (hs : S w)
    (h : KW ⟨P, N, W, bodyPost P fn K⟩ S [.code c] (argsEnv 0 vs)) : Calls P f vs.toArray w K := by
  subst hn
  have hl := Nat.le_of_ble_eq_true hl
  refine calls_of_wp hf hb ?_
  refine wp_mono (h _ w ⟨?_, rfl, fun t v ht => ?_⟩ hs) (fun e a w q => q)
  · simp; omega
  · obtain ⟨_, h2⟩ := argsEnv_get _ _ _ _ ht
    rw [Nat.sub_zero] at h2
    have ht : t < vs.length := (List.getElem?_eq_some_iff.1 h2).1
    rw [Array.getElem?_append_left (by simpa using ht)]
    simpa using h2
end
theorem cell_new (w : World) (cs : Array Value) (e : TypeId) (B j : Nat) (hB : w.heap.size = B) : (w.alloc (.cells cs e)).cell? ⟨B, j, none⟩ = cs[j]? := by
  subst hB
  unfold World.cell?
  rw [heap_alloc_new]
  simp
theorem alloc3 (w : World) (q : Nat) (a b c : Go.Obj) : (((w.alloc a).alloc b).drewN q).alloc c = grow (w.drewN q) #[a, b, c] := by
  cases w
  simp only [World.alloc, World.drewN, grow]
  congr 1
theorem order_calls (x y : Wen) (w : World) : Calls Try.prog 44 #[.agg (wenC x).toArray, .agg (wenC y).toArray] w fun e w' => e = .returned (.int .i64 (cfW x y)) ∧ ∃ q os', w' = grow (w.drewN q) os' := by
  have hc1 := fun w' => Try.cmp_Compare_int (x.at_ : Int) (y.at_ : Int) w'
  have hc2 := fun w' => Try.cmp_Compare_int (x.turn : Int) (y.turn : Int) w'
  have hor := fun b w' h0 h1 => Or_calls b (Lib.compareInt (x.at_ : Int) (y.at_ : Int)) (Lib.compareInt (x.turn : Int) (y.turn : Int)) w' h0 h1
  obtain ⟨r, hr⟩ : ∃ r, cfW x y = r := ⟨_, rfl⟩
  rw [hr]
  unfold cfW at hr
  rw [hr] at hor
  clear hr
  simp only [wenC]
  generalize Lib.compareInt (x.at_ : Int) (y.at_ : Int) = c1 at *
  generalize Lib.compareInt (x.turn : Int) (y.turn : Int) = c2 at *
  refine calls_of (S := fun w' => w' = w) (W := w) (vs := [.agg #[_, _, _], .agg #[_, _, _]]) Try.func44 rfl Try.ntmps44 rfl rfl ?_
  refine KW_seq ?_
  repeat (first | refine KW_seq ?_ | refine KW_skip ?_)
  refine KW_region ?_
  refine LW_new (g := fun B => .pointer (some ⟨B, 0, none⟩)) (B := w.heap.size) (fun _ h => by rw [h]) (fun a w ha => run_box rfl rfl a w ha) rfl ?_
  refine LW_new (g := fun B => .pointer (some ⟨B, 0, none⟩)) (B := w.heap.size + 1) (fun _ h => by obtain ⟨_, rfl, rfl⟩ := h; simp) (fun a w ha => run_box rfl rfl a w ha) rfl ?_
  generalize hw1 : (w.alloc (.cells #[.int .i64 x.id, .int .i64 (x.at_ : Int), .int .i64 (x.turn : Int)] 97)).alloc (.cells #[.int .i64 y.id, .int .i64 (y.at_ : Int), .int .i64 (y.turn : Int)] 97) = w1
  refine LW_le (S' := fun w' => ∃ q, w' = w1.drewN q) (fun w' h => by
    obtain ⟨_, ⟨_, rfl, rfl⟩, rfl⟩ := h
    exact ⟨0, by rw [← hw1]; rfl⟩) ?_
  have hs1 : w1.heap.size = w.heap.size + 2 := by rw [← hw1]; simp
  have hS0 : Sat w w1 (Obj (some ⟨w.heap.size + 1, 0, none⟩) 97 [.int .i64 y.id, .int .i64 (y.at_ : Int), .int .i64 (y.turn : Int)] * (Obj (some ⟨w.heap.size, 0, none⟩) 97 [.int .i64 x.id, .int .i64 (x.at_ : Int), .int .i64 (x.turn : Int)] * 1)) := by
    have h1 := (Sat.start w).newObj 97 [.int .i64 x.id, .int .i64 (x.at_ : Int), .int .i64 (x.turn : Int)]
    have h2 := h1.newObj 97 [.int .i64 y.id, .int .i64 (y.at_ : Int), .int .i64 (y.turn : Int)]
    rw [← hw1]
    simpa using h2
  have hSH : ∀ w', (∃ q, w' = w1.drewN q) → Sat w w' (Obj (some ⟨w.heap.size + 1, 0, none⟩) 97 [.int .i64 y.id, .int .i64 (y.at_ : Int), .int .i64 (y.turn : Int)] * (Obj (some ⟨w.heap.size, 0, none⟩) 97 [.int .i64 x.id, .int .i64 (x.at_ : Int), .int .i64 (x.turn : Int)] * 1)) := by
    rintro _ ⟨q, rfl⟩
    exact hS0.keep (Nat.le_refl _) rfl rfl rfl (fun _ _ => rfl)
  refine LW_val hSH (OpVal_quick rfl) rfl ?_
  refine LW_nil ?_
  repeat (first | refine KW_seq ?_ | refine KW_skip ?_)
  have hdr : ∀ w', (∃ q, w' = w1.drewN q) → ∃ q, w'.drew = w1.drewN q := by
    rintro _ ⟨q, rfl⟩
    exact ⟨q + 1, rfl⟩
  refine KW_drawnT 12 rfl (by kernel_rfl) hdr rfl rfl ?_
  refine SW_val hSH (OpVal_fieldAddr rfl rfl) rfl ?_
  refine SW_val hSH (OpVal_fieldAddr rfl rfl) rfl ?_
  refine SW_val hSH (OpVal_load rfl rfl rfl) rfl ?_
  refine SW_val hSH (OpVal_fieldAddr rfl rfl) rfl ?_
  refine SW_val hSH (OpVal_fieldAddr rfl rfl) rfl ?_
  refine SW_val hSH (OpVal_load rfl rfl rfl) rfl ?_
  refine SW_call (v := .int .i64 c1) rfl rfl (fun w' h => (hc1 w').mono ?_) ?_
  · rintro e w'' ⟨rfl, rfl⟩
    exact ⟨rfl, h⟩
  refine SW_val hSH (OpVal_fieldAddr rfl rfl) rfl ?_
  refine SW_val hSH (OpVal_load rfl rfl rfl) rfl ?_
  refine SW_val hSH (OpVal_fieldAddr rfl rfl) rfl ?_
  refine SW_val hSH (OpVal_load rfl rfl rfl) rfl ?_
  refine SW_call (v := .int .i64 c2) rfl rfl (fun w' h => (hc2 w').mono ?_) ?_
  · rintro e w'' ⟨rfl, rfl⟩
    exact ⟨rfl, h⟩
  refine SW_tail ?_
  have hs2 : ∀ w', (∃ q, w' = w1.drewN q) → w'.heap.size = w.heap.size + 2 := by
    rintro _ ⟨q, rfl⟩
    exact hs1
  refine LW_new (g := fun B => .slice (some ⟨B, 0, none⟩) 2 2) (B := w.heap.size + 2) hs2 (fun a w ha => run_buildSlice rfl rfl (by decide) (by decide) a w ha) rfl ?_
  refine LW_call (S' := fun w' => ∃ q os', w' = grow (w.drewN q) os') (v := .int .i64 r) rfl rfl (fun w' h => ?_) ?_
  · obtain ⟨_, ⟨q, rfl⟩, rfl⟩ := h
    refine (hor _ _ ?_ ?_).mono ?_
    · rw [cell_new _ _ _ _ _ (by exact hs1)]; rfl
    · rw [cell_new _ _ _ _ _ (by exact hs1)]; rfl
    · rintro e w'' ⟨rfl, rfl⟩
      refine ⟨rfl, q, #[.cells #[.int .i64 x.id, .int .i64 (x.at_ : Int), .int .i64 (x.turn : Int)] 97, .cells #[.int .i64 y.id, .int .i64 (y.at_ : Int), .int .i64 (y.turn : Int)] 97, .cells #[.int .i64 c1, .int .i64 c2] 3], ?_⟩
      rw [← hw1]
      exact alloc3 _ _ _ _ _
  refine LW_val (H := 1) (fun w' h => ?_) (OpVal_quick rfl) rfl ?_
  · obtain ⟨q, os', rfl⟩ := h
    exact (Sat.start w).keep (by simp [grow]) rfl rfl rfl (fun k hk => by simp [grow]; exact Array.getElem?_append_left hk)
  refine LW_nil ?_
  refine KW_ret rfl rfl (fun w' h => ⟨rfl, h⟩)
end Go.Proofs.Ytdmmahhnfnefoaa
