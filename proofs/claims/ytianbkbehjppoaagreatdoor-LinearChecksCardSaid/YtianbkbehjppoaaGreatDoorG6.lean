/-
  PsI, Rd, Rh, Rl, Fr, Pl0, Md, Sn, Sq, Sj, Sc, Fs, Fq, Fn, Sb, Fh: joined by a program (wip/bundle.py).
-/
import Derived.Lib.ItoaNum
import Derived.Lib.Join
import Derived.Test.YtianbkbehjppoaaGreatDoorRows
import Derived.ProofKit
import Derived.OpenShut
import Derived.Deep.DeepHandedRow
import Derived.Deep.Slices
import Derived.Deep.Fields
import Derived.Carry
import Derived.Test.YtianbkbehjppoaaGreatDoorCards
import Derived.Test.YtianbkbehjppoaaGreatDoorTie
import Derived.Stop.LaidErr
import Derived.SizedLaws
import Derived.Laws.BitsAllLaws
import Derived.Test.YtianbkbehjppoaaGreatDoorG0
import Derived.Test.YtianbkbehjppoaaGreatDoorG1
import Derived.Test.YtianbkbehjppoaaGreatDoorG2
import Derived.Test.YtianbkbehjppoaaGreatDoorG3
import Derived.Test.YtianbkbehjppoaaGreatDoorG4
import Derived.Test.YtianbkbehjppoaaGreatDoorG5
namespace Go.Proofs.YtianbkbehjppoaaGreatDoor
open Go.RowKit
set_option maxRecDepth 10000
attribute [local irreducible] EK EX ER EN EL ES EG OpVal OpDoes OpSkip
variable {W : World} {F : SL}

abbrev str (l : List UInt8) : Value := .string (bs l)
def strsR (l : List (List UInt8)) : List Value := l.map fun x => .string (bs x)
instance RowGet.strs (l : List (List UInt8)) (i : Nat) : RowGet (strsR l) i 1 0 (.string (bs (l.getD i []))) (i < l.length) := ⟨fun h => by
  simp only [strsR, List.getElem?_map, Nat.mul_one, Nat.add_zero, getD_get [] h, Option.map_some]⟩
instance Ones.iStrs (l : List (List UInt8)) : Ones (strsR l) := ⟨by simp [Go.Proofs.YtianbkbehjppoaaGreatDoor.ones, strsR, Value.oneCell']⟩
class PlanT (W : World) : Prop where
  tab : Lib.TabIs Tryz.prog W "internal/strconv.uint64pow10" .u64 Lib.pow10Tab

theorem Sat.under {w w' : World} (h : Sat W w F) (hb : Below w.heap.size w w') : Sat W w' F := h.keep hb.size hb.os hb.tape hb.output hb.block
theorem tab_under {P : Program} {n : String} {k : IntKind} {zs : List Int} {w w' : World} (h : Lib.TabIs P w n k zs) (hb : Below w.heap.size w w') : Lib.TabIs P w' n k zs := by
  unfold Lib.TabIs World.var? at h ⊢
  cases hg : P.globalNamed n with
  | none => simp [hg] at h
  | some g =>
    simp only [hg, Option.bind_some] at h ⊢
    have hlt : g < w.heap.size := by
      rcases Nat.lt_or_ge g w.heap.size with h' | h'
      · exact h'
      · simp [Array.getElem?_eq_none h'] at h
    rw [hb.block g hlt]
    exact h
end Go.Proofs.YtianbkbehjppoaaGreatDoor

namespace Go.Proofs.YtianbkbehjppoaaGreatDoor
open Go.ChangeShapes Go.WideShapes Go.ChangeAt Go.RowKit Go.Deep
section
variable {H : Type} {enc : TypeId × Value → H} {P : Program}
theorem post_below {f : Func} {s : ChangeSpec} {apart fresh handsOn again : Bool} {W W' : World} {args : Array Value} {v : Value} {ds : List (DataW H)} {before : List MemPlace} (hs : s.vars = []) (hl : laidOutB P = true)
    (hr : ∀ t ∈ f.params.toList, P.readableRec t = true ∧ t < P.types.size)
    (hW : DataW.Whole enc P f.params.toList s.vars apart W args.toList ds [] before)
    (hres : ∀ (b : Nat) (sp : Nat → Bool) (hd : Bool), DataW.TrodAll enc P W' b sp hd f.resultTypes.toList (v.resultList f.resultTypes.size) (s.fn H (ds ++ [])).results [])
    (hsame : (s.fn H (ds ++ [])).args = ds) (hsv : (s.fn H (ds ++ [])).vars = []) (hb : Below W.heap.size W W')
    (hok : ∀ (j : Nat) (t : TypeId) (r : Value), f.resultTypes[j]? = some t → (v.resultList f.resultTypes.size)[j]? = some r → Value.okWide P W' .any 0 t r) :
    s.post enc P f apart fresh handsOn again W args v W' := by
  have hlt : ∀ p ∈ before, p.block < W.heap.size := hW.lt
  obtain ⟨p, q, hA, hV, he, hz, hn⟩ := id hW
  rw [hs] at hV
  obtain ⟨_, rfl⟩ := trodVars_none hV
  obtain rfl : before = p := by rw [he]; simp
  have stay : ∀ (sp : Nat → Bool) (ts : List TypeId) (vs : List Value) (ds' : List (DataW H)) (ps : List MemPlace), (∀ t ∈ ts, P.readableRec t = true ∧ t < P.types.size) → (∀ x ∈ ps, x.block < W.heap.size) → (∀ x ∈ ps, sp x.block = true) →
      DataW.TrodAll enc P W 0 (fun _ => true) true ts vs ds' ps → DataW.TrodAll enc P W' 0 sp true ts vs ds' ps := by
    intro sp ts
    induction ts with
    | nil =>
      intro vs ds' ps _ _ _ h
      obtain ⟨rfl, rfl, rfl⟩ := trodAll_nil h
      exact trodAll_mk0
    | cons t ts ih =>
      intro vs ds' ps h1 h2 h3 h
      obtain ⟨v, vs, d, ds', a, b, rfl, rfl, rfl, hd, hrest⟩ := trodAll_cons h
      obtain ⟨r1, r2⟩ := h1 t (by simp)
      refine trodAll_cons_mk (WideElems.Trod_stays hl r1 r2 hd (fun x hx => hb.same (h2 x (by simp [hx]))) (fun x hx => h3 x (by simp [hx]))) (ih _ _ _ (fun t ht => h1 t (by simp [ht])) (fun x hx => h2 x (by simp [hx])) (fun x hx => h3 x (by simp [hx])) hrest)
  have hargs : ∀ sp : Nat → Bool, (∀ p ∈ before, sp p.block = true) → DataW.TrodAll enc P W' 0 sp true f.params.toList args.toList (s.fn H (ds ++ [])).args before := fun sp hsp => by
    rw [hsame]
    exact stay sp _ _ _ _ hr hlt hsp hA
  have hold : ∀ p ∈ before, (fun b => decide (b < W.heap.size)) p.block = true := fun p hp => by simpa using hlt p hp
  have hvars : ∀ sp : Nat → Bool, DataW.TrodVars enc P W' sp s.vars (s.fn H (ds ++ [])).vars [] := fun sp => by rw [hs, hsv]; exact rfl
  refine ⟨ds, [], before, [], before, [], hW, hres _ _ _, hargs _ hold, hvars _, hb.frame _, fun _ => ?_⟩
  refine ⟨hok, _, _, ([] ++ before) ++ [], ⟨[] ++ before, [], trodAll_append (hargs _ (fun _ _ => rfl)) (hres _ _ _), hvars _, rfl, ?_, ?_⟩, ?_⟩
  · intro b off hp
    have hp' : MemPlace.cell b off ∈ before := by simpa using hp
    rw [hb.frozen (p := ⟨b, off, none⟩) (hlt _ hp')]
    exact hz b off (by rw [he]; simpa using hp')
  · intro ha
    have := hn ha
    rw [he] at this
    simpa using this
  · intro p hp _
    simpa using hp
end
section
variable {H : Type} {enc : TypeId × Value → H} {P : Program} {W : World} {base : Nat} {held : Bool}
end
end Go.Proofs.YtianbkbehjppoaaGreatDoor

namespace Go.Proofs.YtianbkbehjppoaaGreatDoor
open Go.ChangeShapes Go.WideShapes Go.ChangeAt Go.RowKit Go.Deep
theorem planT_of {W : World} {a b : String × DataW Unit} {r : List (String × DataW Unit)} (h : laidMet Tryz.prog (a :: b :: ("internal/strconv.uint64pow10", Rows.laid_internal_strconv_uint64pow10) :: r) W) : PlanT W :=
  ⟨Lib.tabIs_of_head (g := 0) (t := 228) (n := 20) (by kernel_rfl) (by kernel_rfl) Tryz.underlying228 Tryz.underlying91 (by kernel_rfl) (by kernel_rfl) h.tail.tail⟩
def litV : DataW Unit → Value
  | .lit (.int k n) => .int k n
  | _ => .nilFunc
def cells1 : DataW Unit → List Value
  | .agg l => l.map litV
  | d => [litV d]
def putCells (w : World) (g : Nat) (cs : List Value) : World := { w with heap := w.heap.modify g fun
  | .cells _ t frozen => .cells cs.toArray t frozen
  | o => o }
noncomputable def tabsWorld (os : Os) : World :=
  putCells (putCells (putCells (World.holding Tryz.prog os ⟨#[], #[], []⟩) 1 (cells1 Rows.laid_math_bits_deBruijn32tab)) 2 (cells1 Rows.laid_math_bits_deBruijn64tab)) 0 (cells1 Rows.laid_internal_strconv_uint64pow10)
end Go.Proofs.YtianbkbehjppoaaGreatDoor

namespace Go.Proofs.YtianbkbehjppoaaGreatDoor
open Go.ChangeShapes Go.WideShapes Go.ChangeAt Go.RowKit Go.Deep
inductive Leaf where
  | i64 | bool | u8 | u16 | u32 | bytes
def Leaf.At (W : World) (v : Value) : Leaf → Prop
  | .i64 => ∃ n : Int, v = .int .i64 n ∧ -9223372036854775808 ≤ n ∧ n ≤ 9223372036854775807
  | .bool => ∃ b, v = .bool b
  | .u8 => ∃ n : Nat, v = .int .u8 (n : Int) ∧ n < 256
  | .u16 => ∃ n : Nat, v = .int .u16 (n : Int) ∧ n < 65536
  | .u32 => ∃ n : Nat, v = .int .u32 (n : Int) ∧ n < 4294967296
  | .bytes => ∃ (p : Option Addr) (l : List UInt8) (c : Nat), v = .slice p l.length c ∧ Ro W p l.length (bytesR l) ∧ l.length ≤ c ∧ c ≤ 140737488355328
def leavesF (P : Program) (g : TypeId → Option (List Leaf)) : List Field → Nat → Option (List Leaf)
  | [], _ => some []
  | f :: fs, o => if f.offset = o then
      match g f.type with
      | some l => if P.cellsOf f.type = l.length then
          match leavesF P g fs (o + l.length) with
          | some r => some (l ++ r)
          | none => none
        else none
      | none => none
    else none
def leavesOf (P : Program) : Nat → TypeId → Option (List Leaf)
  | 0, _ => none
  | n + 1, t => match P.underlying t with
    | some .bool => some [.bool]
    | some (.int .i64) => some [.i64]
    | some (.int .u8) => some [.u8]
    | some (.int .u16) => some [.u16]
    | some (.int .u32) => some [.u32]
    | some (.slice e) => match P.underlying e with
      | some (.int .u8) => if P.cellsOf e = 1 ∧ P.bytesOf e = 1 then some [.bytes] else none
      | _ => none
    | some (.struct fs) => match leavesF P (leavesOf P n) fs.toList 0 with
      | some ls => if P.cellsOf t = ls.length then some ls else none
      | none => none
    | _ => none
section
variable {H : Type} {enc : TypeId × Value → H} {P : Program} {W : World} {base : Nat} {held : Bool}
def LeavesAt (W : World) (ls : List Leaf) (cs : List Value) : Prop := cs.length = ls.length ∧ ∀ (i : Nat) (l : Leaf), ls[i]? = some l → ∃ v, cs[i]? = some v ∧ l.At W v
theorem LeavesAt.one {l : Leaf} {v : Value} (h : l.At W v) : LeavesAt W [l] [v] := ⟨rfl, fun i l' hl => by
  cases i with
  | zero =>
    cases hl
    exact ⟨v, rfl, h⟩
  | succ i => simp at hl⟩
theorem wfK {k : IntKind} {n : Int} (h : (Lit.int k n).wf = true) : k.min ≤ n ∧ n ≤ k.max := by
  have h' : (decide (k.min ≤ n) && decide (n ≤ k.max)) = true := h
  rwa [Bool.and_eq_true, decide_eq_true_eq, decide_eq_true_eq] at h'
/-- What the form's own reach says of a reading. -/
def Few (P : Program) (t : TypeId) (d : DataW H) : Prop := ∀ n ∈ d.weights P t, n ≤ 140737488355328
theorem weights_slice {t e : TypeId} {a b : List (DataW H)} (ht : P.underlying t = some (.slice e)) : DataW.weights P t (.slice a b) = (a.length + b.length) * P.bytesOf e :: (DataW.weightsAll P e a ++ DataW.weightsAll P e b) := by
  unfold DataW.weights
  rw [ht]
theorem Few.cap {t e : TypeId} {a b : List (DataW H)} (h : Few P t (.slice a b)) (ht : P.underlying t = some (.slice e)) (hb : 0 < P.bytesOf e) : a.length + b.length ≤ 140737488355328 := by
  have := h ((a.length + b.length) * P.bytesOf e) (by rw [weights_slice ht]; exact List.mem_cons_self)
  exact Nat.le_trans (Nat.le_mul_of_pos_right _ hb) this
theorem weightsAll_mem {e : TypeId} : ∀ {a : List (DataW H)} {d : DataW H}, d ∈ a → ∀ n ∈ d.weights P e, n ∈ DataW.weightsAll P e a
  | x :: a, d, hd, n, hn => by
    unfold DataW.weightsAll
    rcases List.mem_cons.1 hd with rfl | hd
    · exact List.mem_append_left _ hn
    · exact List.mem_append_right _ (weightsAll_mem hd n hn)
theorem Few.elem {t e : TypeId} {a b : List (DataW H)} (h : Few P t (.slice a b)) (ht : P.underlying t = some (.slice e)) {d : DataW H} (hd : d ∈ a) : Few P e d := fun n hn =>
  h n (by rw [weights_slice ht]; exact List.mem_cons_of_mem _ (List.mem_append_left _ (weightsAll_mem hd n hn)))
theorem Few.field {t : TypeId} {fs : Array Field} {ps : List (DataW H)} (h : Few P t (.agg ps)) (ht : P.underlying t = some (.struct fs)) {i : Nat} {f : Field} {d : DataW H} (hf : fs[i]? = some f) (hd : ps[i]? = some d) : Few P f.type d := fun n hn =>
  h n (by
    unfold DataW.weights
    rw [ht]
    exact DataW.weights_mem_each (j := i) (by rw [List.getElem?_map]; simp [hf]) hd n hn)
theorem few_of {ts : List TypeId} {ds : List (DataW H)} (h : (DataW.weightsEach P ts ds).all (· ≤ reachBytes) = true) {j : Nat} {t : TypeId} {d : DataW H} (ht : ts[j]? = some t) (hd : ds[j]? = some d) : Few P t d := fun n hn => by
  have := List.all_eq_true.1 h n (DataW.weights_mem_each ht hd n hn)
  exact Nat.le_trans (of_decide_eq_true this) (by decide)
theorem bytes_ro {t e : TypeId} {fuel : Nat} {cs : List Value} {x : DataW H × List MemPlace} (ht : P.underlying t = some (.slice e)) (he : P.underlying e = some (.int .u8)) (hc : P.cellsOf e = 1) (hb : P.bytesOf e = 1) (hw : Few P t x.1)
    (h : DataW.trod enc P W base (fun _ => true) held fuel t cs = some x) : ∃ (p : Option Addr) (l : List UInt8) (c : Nat), cs = [.slice p l.length c] ∧ Ro W p l.length (bytesR l) ∧ l.length ≤ c ∧ c ≤ 140737488355328 := by
  rcases open_ints ht he hc h with ⟨h0, _⟩ | ⟨a, len, cap, zs, h0, _, hl, hm, hz, hx, hcell, hwf⟩
  · exact ⟨none, [], 0, h0, ⟨fun i v hv => by simp [bytesR] at hv, fun h => by simp at h⟩, by simp, by decide⟩
  · simp only [if_true] at hz
    have hcap : cap ≤ 140737488355328 := by
      rw [hx] at hw
      have := hw.cap ht (by rw [hb]; decide)
      simp only [lits, List.length_map, List.length_take, List.length_drop] at this
      omega
    have hlen : ((zs.take len).map fun z => UInt8.ofNat z.toNat).length = len := by rw [List.length_map, List.length_take]; omega
    refine ⟨some a, (zs.take len).map fun z => UInt8.ofNat z.toNat, cap, by rw [hlen]; exact h0, ⟨fun i v hv => ?_, fun _ => by simp⟩, by rw [hlen]; exact hl, hcap⟩
    unfold bytesR at hv
    rw [List.map_map, List.getElem?_map, List.getElem?_take] at hv
    split at hv
    · rename_i hi
      have hlt : i < zs.length := by omega
      rw [List.getElem?_eq_getElem hlt] at hv
      simp only [Option.map_some, Option.some.injEq, Function.comp] at hv
      subst hv
      have hw := wfK (hwf _ (List.getElem_mem hlt))
      have h0 : (0 : Int) ≤ zs[i] := hw.1
      have h1 : zs[i] ≤ 255 := hw.2
      have := hcell i hlt
      rw [List.getD_eq_getElem?_getD, List.getElem?_eq_getElem hlt, Option.getD_some] at this
      refine ⟨a.add i, rfl, World.block_lt_of_cell? _ _ this, ?_⟩
      rw [this, UInt8.toNat_ofNat', Nat.mod_eq_of_lt (by omega), Int.toNat_of_nonneg h0]
    · simp at hv
theorem leavesF_ok {g : TypeId → Option (List Leaf)} {cs : List Value} {n : Nat} (hg : ∀ t ls c x, g t = some ls → DataW.trod enc P W base (fun _ => true) held n t c = some x → Few P t x.1 → LeavesAt W ls c) :
    ∀ (fs : List Field) (o : Nat) (r : List Leaf), leavesF P g fs o = some r → (∀ f ∈ fs, ∃ x, DataW.trod enc P W base (fun _ => true) held n f.type ((cs.drop f.offset).take (P.cellsOf f.type)) = some x ∧ Few P f.type x.1) → ∀ (i : Nat) (l : Leaf), r[i]? = some l → ∃ v, cs[o + i]? = some v ∧ l.At W v
  | [], o, r, h, _ => by
    cases h
    intro i l hl
    simp at hl
  | f :: fs, o, r, h, hf => by
    unfold leavesF at h
    split at h
    · rename_i ho
      split at h
      · rename_i l1 hl1
        split at h
        · rename_i hk
          split at h
          · rename_i r1 hr1
            cases h
            obtain ⟨x, hx, hfw⟩ := hf f List.mem_cons_self
            obtain ⟨hlen, hat⟩ := hg _ _ _ _ hl1 hx hfw
            intro i l hl
            rcases Nat.lt_or_ge i l1.length with hi | hi
            · rw [List.getElem?_append_left hi] at hl
              obtain ⟨v, hv, hA⟩ := hat i l hl
              rw [List.getElem?_take, hk, if_pos hi, List.getElem?_drop, ho] at hv
              exact ⟨v, hv, hA⟩
            · rw [List.getElem?_append_right hi] at hl
              obtain ⟨v, hv, hA⟩ := leavesF_ok hg fs _ _ hr1 (fun f hm => hf f (List.mem_cons_of_mem _ hm)) _ _ hl
              exact ⟨v, by rw [← hv]; congr 1; omega, hA⟩
          · cases h
        · cases h
      · cases h
    · cases h
theorem leaves_ok : ∀ (m : Nat) (t : TypeId) (ls : List Leaf) (n : Nat) (cs : List Value) (x : DataW H × List MemPlace), leavesOf P m t = some ls → DataW.trod enc P W base (fun _ => true) held n t cs = some x → Few P t x.1 → LeavesAt W ls cs
  | 0, t, ls, n, cs, x, h, _, _ => by cases h
  | m + 1, t, ls, n, cs, x, h, hx, hfw => by
    unfold leavesOf at h
    split at h
    · rename_i ht
      cases h
      obtain ⟨b, rfl, _⟩ := DataW.trod_bool ht hx
      exact .one ⟨b, rfl⟩
    · rename_i ht
      cases h
      obtain ⟨z, rfl, _, hw⟩ := DataW.trod_int ht hx
      have := wfK hw
      exact .one ⟨z, rfl, this.1, this.2⟩
    · rename_i ht
      cases h
      obtain ⟨z, rfl, _, hw⟩ := DataW.trod_int ht hx
      have h0 : (0 : Int) ≤ z := (wfK hw).1
      have h1 : z ≤ 255 := (wfK hw).2
      exact .one ⟨z.toNat, by rw [Int.toNat_of_nonneg h0], by omega⟩
    · rename_i ht
      cases h
      obtain ⟨z, rfl, _, hw⟩ := DataW.trod_int ht hx
      have h0 : (0 : Int) ≤ z := (wfK hw).1
      have h1 : z ≤ 65535 := (wfK hw).2
      exact .one ⟨z.toNat, by rw [Int.toNat_of_nonneg h0], by omega⟩
    · rename_i ht
      cases h
      obtain ⟨z, rfl, _, hw⟩ := DataW.trod_int ht hx
      have h0 : (0 : Int) ≤ z := (wfK hw).1
      have h1 : z ≤ 4294967295 := (wfK hw).2
      exact .one ⟨z.toNat, by rw [Int.toNat_of_nonneg h0], by omega⟩
    · rename_i e ht
      split at h
      · rename_i he
        split at h
        · rename_i hc
          cases h
          obtain ⟨p, l, c, rfl, h1, h2, h3⟩ := bytes_ro ht he hc.1 hc.2 hfw hx
          exact .one ⟨p, l, c, rfl, h1, h2, h3⟩
        · cases h
      · cases h
    · rename_i fs ht
      split at h
      · rename_i ls' hls
        split at h
        · rename_i hc
          cases h
          obtain ⟨ys, n', _, hxe, hl, hy, hf⟩ := DataW.trod_struct ht hx
          rw [hxe] at hfw
          refine ⟨by rw [hl, hc], fun i l hi => ?_⟩
          have := leavesF_ok (cs := cs) (n := n') (fun t ls c x => leaves_ok m t ls n' c x) fs.toList 0 _ hls (fun f hm => by
            obtain ⟨j, hj, e⟩ := List.getElem_of_mem hm
            have hj' : j < fs.size := by simpa using hj
            have e' : fs[j]? = some f := by rw [Array.getElem?_eq_getElem hj', ← e]; simp
            have := hf j f e'
            rw [List.getElem?_eq_getElem (by omega)] at this
            exact ⟨_, this, hfw.field ht e' (by rw [List.getElem?_map, List.getElem?_eq_getElem (by omega)]; rfl)⟩) i l hi
          rwa [Nat.zero_add] at this
        · cases h
      · cases h
    · cases h
/-- A slice of such, in the arguments' memory. -/
theorem rows_ro {t e : TypeId} {m fuel k : Nat} {ls : List Leaf} {cs : List Value} {x : DataW H × List MemPlace} (ht : P.underlying t = some (.slice e)) (hl : leavesOf P m e = some ls) (hC : P.cellsOf e = k) (hk : ls.length = k) (h0 : 0 < k) (hb : 0 < P.bytesOf e) (hw : Few P t x.1)
    (h : DataW.trod enc P W base (fun _ => true) held fuel t cs = some x) : ∃ (p : Option Addr) (n c : Nat) (f : Nat → List Value), cs = [.slice p n c] ∧ n ≤ c ∧ c ≤ 140737488355328 ∧ (∀ i, i < n → LeavesAt W ls (f i)) ∧ Ro W p n ((List.range n).flatMap f) := by
  rcases Deep.open_slice ht h with ⟨h0, _⟩ | ⟨a, len, cap, mm, n, D, Pl, h0', _, hle, hm, hmm, hx, hel⟩
  · exact ⟨none, 0, 0, fun _ => [], h0, by simp, by simp, fun i hi => by omega, ⟨fun i v hv => by simp at hv, fun h => by simp at h⟩⟩
  · simp only [if_true] at hmm
    subst hmm
    rw [hx] at hw
    have hcap : mm ≤ 140737488355328 := by
      have := hw.cap ht hb
      simp only [List.length_map, List.length_range] at this
      omega
    have each : ∀ i, i < len → ∃ y : List Value, LeavesAt W ls y ∧ ∀ j v, y[j]? = some v → W.cell? (a.add (i * k + j)) = some v := by
      intro i hi
      obtain ⟨cs', hcs, htr⟩ := hel i (by omega)
      rw [hC] at hcs
      obtain ⟨_, hcl, hat⟩ := World.cells?_some hcs
      refine ⟨cs', leaves_ok _ _ _ _ _ _ hl htr (hw.elem ht (List.mem_map.2 ⟨i, List.mem_range.2 hi, rfl⟩)), fun j v hv => ?_⟩
      have hj : j < cs'.length := (List.getElem?_eq_some_iff.1 hv).1
      have := hat j (by omega)
      rw [Deep.add_add] at this
      rw [this]
      exact hv
    obtain ⟨f, hf⟩ := Deep.choose_lt each
    refine ⟨some a, len, mm, f, h0', hle, hcap, fun i hi => (hf i hi).1, ⟨fun t' v hv => ?_, fun _ => by simp⟩⟩
    have hfl : ∀ i, i < len → (f i).length = k := fun i hi => by rw [(hf i hi).1.1, hk]
    have hsum : ∀ (n t' : Nat) (v : Value), n ≤ len → ((List.range n).flatMap f)[t']? = some v → ∃ i j, i < n ∧ j < k ∧ t' = i * k + j ∧ (f i)[j]? = some v := by
      intro n
      induction n with
      | zero => intro t' v _ hv; simp at hv
      | succ n ih =>
        intro t' v hn hv
        rw [List.range_succ, List.flatMap_append] at hv
        have hll : ∀ n, n ≤ len → ((List.range n).flatMap f).length = n * k := by
          intro n
          induction n with
          | zero => intro _; simp
          | succ n ih2 =>
            intro hn
            rw [List.range_succ, List.flatMap_append, List.length_append, ih2 (by omega)]
            simp only [List.flatMap_cons, List.flatMap_nil, List.append_nil]
            rw [hfl n (by omega), Nat.succ_mul]
        have hL := hll n (by omega)
        rcases Nat.lt_or_ge t' (n * k) with hlt | hge
        · rw [List.getElem?_append_left (by omega)] at hv
          obtain ⟨i, j, h1, h2, h3, h4⟩ := ih t' v (by omega) hv
          exact ⟨i, j, by omega, h2, h3, h4⟩
        · rw [List.getElem?_append_right (by omega), hL] at hv
          simp only [List.flatMap_cons, List.flatMap_nil, List.append_nil] at hv
          have hj : t' - n * k < k := by
            have := (List.getElem?_eq_some_iff.1 hv).1
            rw [hfl n (by omega)] at this
            exact this
          exact ⟨n, t' - n * k, by omega, hj, by omega, hv⟩
    obtain ⟨i, j, h1, h2, h3, h4⟩ := hsum len t' v (Nat.le_refl _) hv
    have := (hf i h1).2 j v h4
    rw [← h3] at this
    exact ⟨a.add t', rfl, World.block_lt_of_cell? _ _ this, this⟩
end
end Go.Proofs.YtianbkbehjppoaaGreatDoor

namespace Go.Proofs.YtianbkbehjppoaaGreatDoor
open Go.RowKit

/-! ### Bytes -/
def b1 (l : List UInt8) (i : Nat) : Nat := (l.getD i 0).toNat
def w2 (l : List UInt8) (i : Nat) : Nat := b1 l i * 256 + b1 l (i + 1)
def w4 (l : List UInt8) (i : Nat) : Nat := w2 l i * 65536 + w2 l (i + 2)
theorem b1_lt (l : List UInt8) (i : Nat) : b1 l i < 256 := UInt8.toNat_lt _
theorem w2_lt (l : List UInt8) (i : Nat) : w2 l i < 65536 := by
  have h1 := b1_lt l i
  have h2 := b1_lt l (i + 1)
  unfold w2
  omega
theorem w4_lt (l : List UInt8) (i : Nat) : w4 l i < 4294967296 := by
  have h1 := w2_lt l i
  have h2 := w2_lt l (i + 2)
  unfold w4
  omega
/-- A number's lowest byte. -/
def u8 (n : Nat) : UInt8 := UInt8.ofNat n
theorem u8_toNat (n : Nat) : (u8 n).toNat = n % 256 := by simp [u8]
def be2 (n : Nat) : List UInt8 := [u8 (n / 256), u8 n]
def be4 (n : Nat) : List UInt8 := [u8 (n / 16777216), u8 (n / 65536), u8 (n / 256), u8 n]
def st2 (l : List UInt8) (i n : Nat) : List UInt8 := (l.set i (u8 (n / 256))).set (i + 1) (u8 n)
theorem st2_len (l : List UInt8) (i n : Nat) : (st2 l i n).length = l.length := by simp [st2]
theorem b1_set (l : List UInt8) (i j : Nat) (v : UInt8) (hi : i < l.length) : b1 (l.set i v) j = if j = i then v.toNat else b1 l j := by
  unfold b1
  rw [List.getD_eq_getElem?_getD, List.getD_eq_getElem?_getD, List.getElem?_set]
  by_cases h : i = j
  · subst h
    simp [hi]
  · rw [if_neg h, if_neg (Ne.symm h)]
theorem b1_st2 (l : List UInt8) (i n j : Nat) (hi : i + 1 < l.length) : b1 (st2 l i n) j = if j = i + 1 then n % 256 else if j = i then n / 256 % 256 else b1 l j := by
  unfold st2
  rw [b1_set _ _ _ _ (by simpa using hi), b1_set _ _ _ _ (by omega), u8_toNat, u8_toNat]
theorem w2_st2 (l : List UInt8) {i n : Nat} (hn : n < 65536) (hi : i + 1 < l.length) : w2 (st2 l i n) i = n := by
  unfold w2
  rw [b1_st2 _ _ _ _ hi, b1_st2 _ _ _ _ hi, if_neg (by omega), if_pos rfl, if_pos rfl]
  omega
theorem w2_other (l : List UInt8) {i n j : Nat} (hi : i + 1 < l.length) (hj : j + 1 < i ∨ i + 1 < j) : w2 (st2 l i n) j = w2 l j := by
  unfold w2
  rw [b1_st2 _ _ _ _ hi, b1_st2 _ _ _ _ hi, if_neg (by omega), if_neg (by omega), if_neg (by omega), if_neg (by omega)]
theorem st2_st2 (l : List UInt8) (i a b : Nat) : st2 (st2 l i a) i b = st2 l i b := by
  unfold st2
  apply List.ext_getElem?
  intro j
  simp only [List.getElem?_set, List.length_set]
  repeat' split
  all_goals first | rfl | omega
/-! ### Sums -/
/-- All words of bytes, the first one at a high place, or at a low one. -/
def rawS : Bool → List UInt8 → Nat
  | _, [] => 0
  | true, b :: l => b.toNat * 256 + rawS false l
  | false, b :: l => b.toNat + rawS true l
theorem rawS_le : ∀ (e : Bool) (l : List UInt8), rawS e l ≤ 65280 * l.length
  | _, [] => by simp [rawS]
  | true, b :: l => by
    have := rawS_le false l
    have hb := b.toNat_lt
    simp only [rawS, List.length_cons]
    omega
  | false, b :: l => by
    have := rawS_le true l
    have hb := b.toNat_lt
    simp only [rawS, List.length_cons]
    omega
theorem rawS_append : ∀ (e : Bool) (l m : List UInt8), rawS e (l ++ m) = rawS e l + rawS (if l.length % 2 = 0 then e else !e) m
  | e, [], m => by simp [rawS]
  | true, b :: l, m => by
    rw [List.cons_append, rawS, rawS, rawS_append false l m, List.length_cons]
    by_cases h : l.length % 2 = 0
    · rw [if_pos h, if_neg (by omega), Bool.not_true]; omega
    · rw [if_neg h, if_pos (by omega), Bool.not_false]; omega
  | false, b :: l, m => by
    rw [List.cons_append, rawS, rawS, rawS_append true l m, List.length_cons]
    by_cases h : l.length % 2 = 0
    · rw [if_pos h, if_neg (by omega), Bool.not_false]; omega
    · rw [if_neg h, if_pos (by omega), Bool.not_true]; omega
theorem rawS_snoc (l : List UInt8) (b : UInt8) : rawS true (l ++ [b]) = rawS true l + b.toNat * (if l.length % 2 = 0 then 256 else 1) := by
  rw [rawS_append]
  by_cases h : l.length % 2 = 0
  · rw [if_pos h, if_pos h]; simp [rawS]
  · rw [if_neg h, if_neg h]; simp [rawS]
def foldN (n : Nat) : Nat := if n = 0 then 0 else (n - 1) % 65535 + 1
theorem foldN_le (n : Nat) : foldN n ≤ 65535 := by
  unfold foldN
  split
  · omega
  · have := Nat.mod_lt (n - 1) (show 0 < 65535 by omega)
    omega
theorem foldN_small {n : Nat} (h : n ≤ 65535) : foldN n = n := by
  unfold foldN
  split
  · omega
  · rw [Nat.mod_eq_of_lt (by omega)]; omega
theorem foldN_zero {n : Nat} : foldN n = 0 ↔ n = 0 := by
  unfold foldN
  split
  · simp_all
  · simp_all
theorem foldN_step {n : Nat} (h : 65535 < n) : foldN (n / 65536 + n % 65536) = foldN n := by
  unfold foldN
  rw [if_neg (by omega), if_neg (by omega)]
  congr 1
  have e : n = 65536 * (n / 65536) + n % 65536 := (Nat.div_add_mod n 65536).symm
  have : n - 1 = (n / 65536 + n % 65536 - 1) + 65535 * (n / 65536) := by omega
  rw [this, Nat.add_mul_mod_self_left]
theorem foldN_fold (a b : Nat) : foldN (foldN a + b) = foldN (a + b) := by
  by_cases ha : a = 0
  · subst ha; rfl
  · have hf : foldN a ≠ 0 := fun e => ha (foldN_zero.1 e)
    have e1 : foldN a = (a - 1) % 65535 + 1 := by unfold foldN; rw [if_neg ha]
    have e2 := Nat.div_add_mod (a - 1) 65535
    unfold foldN at *
    rw [if_neg ha] at *
    rw [if_neg (by omega), if_neg (by omega)]
    congr 1
    have : a + b - 1 = ((a - 1) % 65535 + 1 + b - 1) + 65535 * ((a - 1) / 65535) := by omega
    rw [this, Nat.add_mul_mod_self_left]
def csum (l : List UInt8) : Nat := 65535 - foldN (rawS true l)
theorem csum_lt (l : List UInt8) : csum l < 65536 := by unfold csum; omega
def fixN (s old now : Nat) : Nat := 65535 - foldN (65535 - s + (65535 - old) + now)
theorem fixN_lt (s old now : Nat) : fixN s old now < 65536 := by unfold fixN; omega
def fixW (s old now : Nat) : Nat := fixN (fixN s (old / 65536) (now / 65536)) (old % 65536) (now % 65536)
theorem fixW_lt (s old now : Nat) : fixW s old now < 65536 := fixN_lt _ _ _
def pseT (src dst proto : Nat) (l : List UInt8) : Nat := csum (be4 src ++ be4 dst ++ [0, u8 proto] ++ be2 l.length ++ l)

/-! ### Heads -/
structure HdT where
  size : Nat
  len : Nat
  ttl : Nat
  proto : Nat
  src : Nat
  dst : Nat
def hd0 : HdT := ⟨0, 0, 0, 0, 0, 0⟩
abbrev hdV (h : HdT) : List Value := [.int .i64 (h.size : Int), .int .i64 (h.len : Int), .int .i64 (h.ttl : Int), .int .i64 (h.proto : Int), .int .u32 (h.src : Int), .int .u32 (h.dst : Int)]
def headH (l : List UInt8) : HdT := ⟨b1 l 0 % 16 * 4, w2 l 2, b1 l 8, b1 l 9, w4 l 12, w4 l 16⟩
/-- What a head is told: the error. -/
def headE (part : Bool) (l : List UInt8) : Nat :=
  if l.length < 20 then 2
  else if b1 l 0 / 16 ≠ 4 ∨ b1 l 0 % 16 * 4 < 20 then 3
  else if l.length < b1 l 0 % 16 * 4 then 2
  else if w2 l 2 < b1 l 0 % 16 * 4 ∨ (w2 l 2 > 1500 ∧ part = false) then 3
  else if l.length < w2 l 2 ∧ part = false then 2
  else if part = false ∧ csum (l.take (b1 l 0 % 16 * 4)) ≠ 0 then 4
  else if w2 l 6 % 16384 ≠ 0 then 5
  else 0
def headT (part : Bool) (l : List UInt8) : HdT := if headE part l = 0 then headH l else hd0
theorem headE_ok {part : Bool} {l : List UInt8} (h : headE part l = 0) : 20 ≤ (headH l).size ∧ (headH l).size ≤ 60 ∧ (headH l).size ≤ l.length ∧ (headH l).size ≤ (headH l).len ∧ (part = false → (headH l).len ≤ 1500 ∧ (headH l).len ≤ l.length) ∧ headT part l = headH l := by
  have e : headT part l = headH l := by unfold headT; rw [if_pos h]
  rw [e]
  have hb := b1_lt l 0
  unfold headE at h
  unfold headH
  dsimp only
  repeat' split at h
  all_goals first | (exact absurd h (by decide)) | skip
  rename_i h1 h2 h3 h4 h5 h6 h7
  refine ⟨by omega, by omega, by omega, by omega, fun hp => ⟨?_, ?_⟩, rfl⟩
  · exact Nat.le_of_not_lt fun g => h4 (.inr ⟨g, hp⟩)
  · exact Nat.le_of_not_lt fun g => h5 ⟨g, hp⟩

/-! ### Parts -/
structure PtT where
  proto : Nat
  sp : Nat
  dp : Nat
  flags : Nat
  kind : Nat
  code : Nat
  err : Bool
  inner : HdT
  pos : Nat
  bare : Bool
def pt0 : PtT := ⟨0, 0, 0, 0, 0, 0, false, hd0, 0, false⟩
abbrev ptV (p : PtT) : List Value := [.int .i64 (p.proto : Int), .int .u16 (p.sp : Int), .int .u16 (p.dp : Int), .int .i64 (p.flags : Int), .int .i64 (p.kind : Int), .int .i64 (p.code : Int), .bool p.err, .int .i64 (p.inner.size : Int), .int .i64 (p.inner.len : Int), .int .i64 (p.inner.ttl : Int), .int .i64 (p.inner.proto : Int), .int .u32 (p.inner.src : Int), .int .u32 (p.inner.dst : Int), .int .i64 (p.pos : Int), .bool p.bare]
def udpE (src dst : Nat) (x : List UInt8) : Nat :=
  if x.length < 8 then 2
  else if w2 x 4 ≠ x.length then 3
  else if w2 x 6 ≠ 0 ∧ pseT src dst 17 x ≠ 0 then 4
  else 0
def udpP (x : List UInt8) : PtT := { pt0 with proto := 17, sp := w2 x 0, dp := w2 x 2, bare := decide (w2 x 6 = 0) }
def tcpE (src dst : Nat) (x : List UInt8) : Nat :=
  if x.length < 20 then 2
  else if b1 x 12 / 16 * 4 < 20 ∨ b1 x 12 / 16 * 4 > x.length then 3
  else if pseT src dst 6 x ≠ 0 then 4
  else 0
def tcpP (x : List UInt8) : PtT := { pt0 with proto := 6, sp := w2 x 0, dp := w2 x 2, flags := b1 x 13 }
/-- The packet that an error is about: y are its bytes behind its head. -/
def faultE (y8 : List UInt8) : Nat :=
  if headE true y8 ≠ 0 then headE true y8
  else if y8.length - (headH y8).size < 8 ∨ (headH y8).len < (headH y8).size + 8 then 3
  else if (headH y8).proto = 17 ∨ (headH y8).proto = 6 then 0
  else if (headH y8).proto = 1 ∧ (b1 y8 (headH y8).size = 0 ∨ b1 y8 (headH y8).size = 8) then 0
  else 6
def faultP (kind code hsize : Nat) (y8 : List UInt8) : PtT :=
  { pt0 with proto := 1, kind := kind, code := code, err := true, inner := headH y8, pos := hsize + 8, sp := if (headH y8).proto = 1 then w2 y8 ((headH y8).size + 4) else w2 y8 (headH y8).size, dp := if (headH y8).proto = 1 then w2 y8 ((headH y8).size + 4) else w2 y8 ((headH y8).size + 2) }
def errK (k : Nat) : Prop := k = 3 ∨ k = 11 ∨ k = 12
instance (k : Nat) : Decidable (errK k) := inferInstanceAs (Decidable (_ ∨ _))
def icmpE (x : List UInt8) : Nat :=
  if x.length < 8 then 2
  else if csum x ≠ 0 then 4
  else if b1 x 0 = 0 ∨ b1 x 0 = 8 then (if b1 x 1 ≠ 0 then 3 else 0)
  else if errK (b1 x 0) then faultE (x.drop 8)
  else 6
def icmpP (hsize : Nat) (x : List UInt8) : PtT :=
  if b1 x 0 = 0 ∨ b1 x 0 = 8 then { pt0 with proto := 1, kind := b1 x 0, code := 0, sp := w2 x 4, dp := w2 x 4 }
  else faultP (b1 x 0) (b1 x 1) hsize (x.drop 8)
def bodyOf (h : HdT) (l : List UInt8) : List UInt8 := (l.take h.len).drop h.size
/-- Of a head that was got. -/
def partE (h : HdT) (l : List UInt8) : Nat :=
  if h.proto = 17 then udpE h.src h.dst (bodyOf h l)
  else if h.proto = 6 then tcpE h.src h.dst (bodyOf h l)
  else if h.proto = 1 then icmpE (bodyOf h l)
  else 6
def partP (h : HdT) (l : List UInt8) : PtT :=
  if h.proto = 17 then udpP (bodyOf h l)
  else if h.proto = 6 then tcpP (bodyOf h l)
  else icmpP h.size (bodyOf h l)
def partT (h : HdT) (l : List UInt8) : PtT := if partE h l = 0 then partP h l else pt0

/-! ### Rewriting -/
def adT (l : List UInt8) (head place addr : Nat) : List UInt8 :=
  let l1 := st2 (st2 l place (addr / 65536)) (place + 2) (addr % 65536)
  st2 l1 (head + 10) (fixW (w2 l1 (head + 10)) (w4 l place) addr)
def neverZ (s : Nat) : Nat := if s = 0 then 65535 else s
def echoT (l : List UInt8) (pos id : Nat) : List UInt8 := st2 (st2 l (pos + 4) id) (pos + 2) (neverZ (fixN (w2 l (pos + 2)) (w2 l (pos + 4)) id))
def placeT (pos : Nat) (src : Bool) : Nat := if src then pos else pos + 2
def sumAtT (pos proto : Nat) : Nat := if proto = 17 then pos + 6 else pos + 16
def carS (l1 : List UInt8) (pos proto was port old addr : Nat) : List UInt8 :=
  if l1.length < sumAtT pos proto + 2 ∨ (proto = 17 ∧ w2 l1 (sumAtT pos proto) = 0) then l1
  else st2 l1 (sumAtT pos proto) (if proto = 17 then neverZ (fixN (fixW (w2 l1 (sumAtT pos proto)) old addr) was port) else fixN (fixW (w2 l1 (sumAtT pos proto)) old addr) was port)
def carT (l : List UInt8) (pos proto : Nat) (src : Bool) (port old addr : Nat) : List UInt8 := carS (st2 l (placeT pos src) port) pos proto (w2 l (placeT pos src)) port old addr
def bodyT (l : List UInt8) (pos proto : Nat) (src : Bool) (port old addr : Nat) : List UInt8 := if proto = 1 then echoT l pos port else carT l pos proto src port old addr
def adPl (out : Bool) : Nat := if out then 12 else 16
def rwB (h : HdT) (p : PtT) (l : List UInt8) (out : Bool) (addr port : Nat) : List UInt8 :=
  let b := l.take h.len
  let b1 := adT b 0 (adPl out) addr
  if p.err then
    let b2 := bodyT (adT b1 p.pos (p.pos + adPl (!out)) addr) (p.pos + p.inner.size) p.inner.proto (!out) port (w4 b1 (p.pos + adPl (!out))) addr
    let b3 := st2 b2 (h.size + 2) 0
    st2 b3 (h.size + 2) (csum (b3.drop h.size))
  else bodyT b1 h.size h.proto out port (w4 b (adPl out)) addr
/-- What can be got of a frame: the error. -/
def readE (l : List UInt8) : Nat := if headE false l = 0 then partE (headH l) l else headE false l
def rwT (l : List UInt8) (out : Bool) (addr port : Nat) : List UInt8 := if readE l = 0 then rwB (headH l) (partP (headH l) l) l out addr port else []

/-! ### How a connection stands -/
def endT (s : Nat) (out : Bool) : Nat := if s ≤ 1 then (if out then 2 else 3) else if (s = 2 ∧ out = false) ∨ (s = 3 ∧ out = true) then 4 else s
def nextT (proto s : Nat) (out : Bool) (flags : Nat) : Nat :=
  if proto ≠ 6 then 0
  else if flags / 4 % 2 = 1 then 4
  else if flags % 2 = 1 then endT s out
  else if (flags / 2 % 2 = 1 ∧ flags / 16 % 2 = 0) ∧ out = true ∧ s = 4 then 0
  else if flags / 16 % 2 = 1 ∧ out = false ∧ s = 0 then 1
  else s
theorem nextT_le {proto s flags : Nat} {out : Bool} (h : s ≤ 4) : nextT proto s out flags ≤ 4 := by
  unfold nextT endT
  repeat' split
  all_goals omega
def lifeT (proto s : Nat) : Nat := if proto = 17 then 120 else if proto = 1 then 60 else if proto = 6 then (if s = 1 then 7440 else 240) else 0
def renewsT (proto : Nat) (out : Bool) : Bool := proto == 6 || (out && (proto == 17 || proto == 1))
def beginsT (proto kind flags : Nat) : Bool := proto == 17 || (proto == 6 && (flags / 2 % 2 == 1 && flags % 2 == 0 && flags / 4 % 2 == 0 && flags / 16 % 2 == 0)) || (proto == 1 && kind == 8)
end Go.Proofs.YtianbkbehjppoaaGreatDoor

namespace Go.Proofs.YtianbkbehjppoaaGreatDoor
open Go.RowKit

/-- A Config. -/
structure Cfg where
  w : Int
  o : Int
  lo : Int
  hi : Int
  b : Int
  r : Int
def I64 (z : Int) : Prop := -9223372036854775808 ≤ z ∧ z ≤ 9223372036854775807
structure Cfg.Fit (c : Cfg) : Prop where
  w : I64 c.w
  o : 0 ≤ c.o ∧ c.o ≤ 4294967295
  lo : I64 c.lo
  hi : I64 c.hi
  b : I64 c.b
  r : I64 c.r
def Cfg.cells (c : Cfg) : List Value := [.int .i64 c.w, .int .u32 c.o, .int .i64 c.lo, .int .i64 c.hi, .int .i64 c.b, .int .i64 c.r]

def pow2 (b : Int) : Prop := b = 2 ∨ b = 4 ∨ b = 8 ∨ b = 16 ∨ b = 32 ∨ b = 64 ∨ b = 128 ∨ b = 256 ∨ b = 512 ∨ b = 1024
instance (b : Int) : Decidable (pow2 b) := by unfold pow2; infer_instance
/-- What is wrong. -/
def wrongT (c : Cfg) : List UInt8 :=
  if ¬ (1 ≤ c.w ∧ c.w ≤ 64) then [119, 111, 114, 107, 101, 114, 115]
  else if c.o = 0 ∨ c.o = 4294967295 then [111, 117, 116, 101, 114]
  else if c.lo < 1 ∨ c.hi > 65535 ∨ c.hi < c.lo ∨ c.hi - c.lo ≥ 1024 then [112, 111, 114, 116, 115]
  else if ¬ pow2 c.b then [98, 117, 99, 107, 101, 116, 115]
  else if ¬ (1 ≤ c.r ∧ c.r ≤ 256) then [114, 105, 110, 103]
  else []
structure Cfg.Good (c : Cfg) : Prop where
  w : 1 ≤ c.w ∧ c.w ≤ 64
  o : ¬ c.o = 0 ∧ ¬ c.o = 4294967295
  p : 1 ≤ c.lo ∧ c.hi ≤ 65535 ∧ c.lo ≤ c.hi ∧ c.hi - c.lo < 1024
  b : pow2 c.b
  r : 1 ≤ c.r ∧ c.r ≤ 256
theorem wrongT_nil {c : Cfg} : wrongT c = [] ↔ c.Good := by
  unfold wrongT
  constructor
  · intro h
    split at h; · simp at h
    split at h; · simp at h
    split at h; · simp at h
    split at h; · simp at h
    split at h; · simp at h
    rename_i h1 h2 h3 h4 h5
    exact ⟨by omega, by omega, by omega, Classical.not_not.1 h4, by omega⟩
  · intro h
    obtain ⟨h1, h2, h3, h4, h5⟩ := h
    rw [if_neg (by omega), if_neg (by omega), if_neg (by omega), if_neg (Classical.not_not.2 h4), if_neg (by omega)]
def portsN (c : Cfg) : Int := if wrongT c = [] then c.hi - c.lo + 1 else 0
theorem portsN_le (c : Cfg) : 0 ≤ portsN c ∧ portsN c ≤ 1024 := by
  unfold portsN
  split
  · rename_i h
    have := (wrongT_nil.1 h).p
    omega
  · omega
def kindN (p : Int) : Int := if p = 1 then 0 else if p = 6 then 1 else if p = 17 then 2 else -1
def protoN (k : Int) : Int := if k = 0 then 1 else if k = 1 then 6 else 17
def placeN (c : Cfg) (proto port : Int) : Int := if portsN c = 0 ∨ kindN proto < 0 ∨ ¬ (c.lo ≤ port ∧ port ≤ c.hi) then -1 else kindN proto * portsN c + port - c.lo
def portN (c : Cfg) (place : Int) : Int × Int := if portsN c = 0 ∨ ¬ (0 ≤ place ∧ place ≤ 3 * portsN c - 1) then (0, 0) else (protoN (place / portsN c), c.lo + place % portsN c)

theorem proto_kind (p : Int) (h : 0 ≤ kindN p) : protoN (kindN p) = p ∧ kindN p ≤ 2 := by
  unfold kindN at *
  split at h
  · rename_i e; subst e; simp [protoN]
  split at h
  · rename_i e; subst e; simp [protoN]
  split at h
  · rename_i e; subst e; simp [protoN]
  · omega

/-- They undo each other. -/
theorem port_of_place {c : Cfg} {proto port : Int} (h : 0 ≤ placeN c proto port) : portN c (placeN c proto port) = (proto, port) := by
  unfold placeN at h ⊢
  split at h
  · omega
  · rename_i hn
    rw [if_neg hn]
    obtain ⟨h1, h2⟩ := proto_kind proto (by omega)
    have h3 := portsN_le c
    have hp : portsN c = c.hi - c.lo + 1 := by
      unfold portsN at hn ⊢
      split
      · rfl
      · rename_i hw
        rw [if_neg hw] at hn
        omega
    generalize kindN proto = k at *
    generalize hP : portsN c = n at *
    have hk : k = 0 ∨ k = 1 ∨ k = 2 := by omega
    have hq : k * n + port - c.lo = k * n + (port - c.lo) := by omega
    have hd : (k * n + port - c.lo) / n = k := by
      rw [hq, Int.add_comm, Int.add_mul_ediv_right _ _ (by omega), Int.ediv_eq_zero_of_lt (by omega) (by omega)]; omega
    have hm : (k * n + port - c.lo) % n = port - c.lo := by
      rw [hq, Int.add_comm, Int.add_mul_emod_self_right, Int.emod_eq_of_lt (by omega) (by omega)]
    have hb : k * n ≤ 2 * n := Int.mul_le_mul_of_nonneg_right (by omega) (by omega)
    unfold portN
    rw [hP, if_neg (by omega), hd, hm, h1]
    congr 1
    omega
end Go.Proofs.YtianbkbehjppoaaGreatDoor

namespace Go.Proofs.YtianbkbehjppoaaGreatDoor
open Go.RowKit
structure FlowT where
  proto : Nat
  addr : Nat
  port : Nat
deriving DecidableEq
def fl0 : FlowT := ⟨0, 0, 0⟩
structure BindT where
  flow : FlowT
  port : Nat
  track : Nat
  seen : Nat
deriving DecidableEq
structure CallT where
  out : Bool
  frame : List UInt8
  tick : Int
  port : Int
def inF (h : HdT) (p : PtT) : FlowT := if p.err then ⟨p.inner.proto, p.inner.dst, p.dp⟩ else ⟨h.proto, h.src, p.sp⟩
def outF (h : HdT) (p : PtT) : FlowT := if p.err then ⟨p.inner.proto, p.inner.src, p.sp⟩ else ⟨h.proto, h.dst, p.dp⟩
def frP (l : List UInt8) : PtT := partP (headH l) l
def whoF (out : Bool) (l : List UInt8) : FlowT := if out then inF (headH l) (frP l) else outF (headH l) (frP l)
/-- Whose a frame is: the error. -/
def whoE (o : Nat) (out : Bool) (l : List UInt8) : Nat :=
  if readE l ≠ 0 then readE l else if out = false ∧ ((headH l).dst ≠ o ∨ (whoF out l).addr ≠ o) then 7 else 0
def whoT (o : Nat) (out : Bool) (l : List UInt8) : FlowT := if whoE o out l = 0 then whoF out l else fl0
def begF (out : Bool) (l : List UInt8) : Bool := out && decide (readE l = 0) && !(frP l).err && beginsT (frP l).proto (frP l).kind (frP l).flags
def placeB (c : Cfg) (b : BindT) : Int := placeN c b.flow.proto b.port
def isB (out : Bool) (w : FlowT) (b : BindT) : Bool := if out then decide (b.flow = w) else decide (b.flow.proto = w.proto ∧ b.port = w.port)
def seenB (x : CallT) (p : PtT) (b : BindT) : BindT :=
  if p.err then b else { b with track := nextT b.flow.proto b.track x.out p.flags, seen := if renewsT b.flow.proto x.out then max b.seen x.tick.toNat else b.seen }
def insB (c : Cfg) (b : BindT) : List BindT → List BindT
  | [] => [b]
  | a :: l => if placeB c a > placeB c b then b :: a :: l else a :: insB c b l
def hasB (L : List BindT) (proto : Nat) (port : Int) : Bool := L.any fun b => decide (b.flow.proto = proto ∧ (b.port : Int) = port)
structure AnsT where
  L : List BindT
  err : Nat
  frame : List UInt8
def stepT (c : Cfg) (L : List BindT) (x : CallT) : AnsT :=
  if x.tick < 0 ∨ x.tick > 4294967295 then ⟨L, 1, []⟩
  else if whoE c.o.toNat x.out x.frame ≠ 0 then ⟨L, whoE c.o.toNat x.out x.frame, []⟩
  else match L.findIdx? (isB x.out (whoF x.out x.frame)) with
    | some i => ⟨L.modify i (seenB x (frP x.frame)), 0, if x.out then rwT x.frame true c.o.toNat (L.getD i ⟨fl0, 0, 0, 0⟩).port else rwT x.frame false (L.getD i ⟨fl0, 0, 0, 0⟩).flow.addr (L.getD i ⟨fl0, 0, 0, 0⟩).flow.port⟩
    | none =>
      if begF x.out x.frame = false then ⟨L, 7, []⟩
      else if x.port = -1 then ⟨L, 8, []⟩
      else if x.port = -2 then ⟨L, 9, []⟩
      else if placeN c (whoF x.out x.frame).proto x.port < 0 ∨ hasB L (whoF x.out x.frame).proto x.port = true then ⟨L, 1, []⟩
      else ⟨insB c ⟨whoF x.out x.frame, x.port.toNat, nextT (whoF x.out x.frame).proto 0 true (frP x.frame).flags, x.tick.toNat⟩ L, 0, rwT x.frame true c.o.toNat x.port.toNat⟩
def endsB (proto port tick : Int) (b : BindT) : Bool := decide ((b.flow.proto : Int) = proto ∧ (b.port : Int) = port ∧ 0 ≤ tick ∧ tick ≤ 4294967295 ∧ ((b.seen + lifeT b.flow.proto b.track : Nat) : Int) ≤ tick)
def expT (L : List BindT) (proto port tick : Int) : List BindT × Bool :=
  match L.findIdx? (endsB proto port tick) with
  | some i => (L.eraseIdx i, true)
  | none => (L, false)

/-! ### What is kept -/
structure BindT.Ok (b : BindT) : Prop where
  proto : b.flow.proto < 256
  addr : b.flow.addr < 4294967296
  fport : b.flow.port < 65536
  port : b.port < 65536
  track : b.track ≤ 4
  seen : b.seen ≤ 4294967295
structure NatOk (c : Cfg) (L : List BindT) : Prop where
  place : ∀ b ∈ L, 0 ≤ placeB c b
  sorted : L.Pairwise fun a b => placeB c a < placeB c b
  flows : (L.map (·.flow)).Nodup
  ok : ∀ b ∈ L, b.Ok
theorem NatOk.nil (c : Cfg) : NatOk c [] := ⟨by simp, List.Pairwise.nil, List.nodup_nil, by simp⟩
theorem place_at {c : Cfg} {b : BindT} {proto port : Int} (h0 : 0 ≤ placeN c proto port) : placeB c b = placeN c proto port ↔ (b.flow.proto : Int) = proto ∧ (b.port : Int) = port := by
  constructor
  · intro h
    unfold placeB at h
    have h1 := port_of_place h0
    have h2 := port_of_place (c := c) (proto := b.flow.proto) (port := b.port) (by rw [h]; exact h0)
    rw [h, h1] at h2
    simp only [Prod.mk.injEq] at h2
    omega
  · rintro ⟨h1, h2⟩
    unfold placeB
    rw [h1, h2]
theorem place_le (c : Cfg) (proto port : Int) (hp : 0 ≤ placeN c proto port) : c.lo ≤ port ∧ port ≤ c.hi ∧ 0 ≤ kindN proto := by
  unfold placeN at hp
  split at hp
  · omega
  · omega
theorem seenB_flow (x : CallT) (p : PtT) (b : BindT) : (seenB x p b).flow = b.flow ∧ (seenB x p b).port = b.port := by
  unfold seenB
  split <;> exact ⟨rfl, rfl⟩
theorem seenB_place (c : Cfg) (x : CallT) (p : PtT) (b : BindT) : placeB c (seenB x p b) = placeB c b := by
  unfold placeB
  rw [(seenB_flow x p b).1, (seenB_flow x p b).2]
theorem seenB_ok {x : CallT} {p : PtT} {b : BindT} (h : b.Ok) (ht : x.tick ≤ 4294967295) : (seenB x p b).Ok := by
  obtain ⟨h1, h2, h3, h4, h5, h6⟩ := h
  unfold seenB
  split
  · exact ⟨h1, h2, h3, h4, h5, h6⟩
  · refine ⟨h1, h2, h3, h4, nextT_le h5, ?_⟩
    dsimp only
    split
    · exact Nat.max_le.2 ⟨h6, by omega⟩
    · exact h6
theorem modify_map {α β : Type} (f : α → β) (g : α → α) (h : ∀ a, f (g a) = f a) : ∀ (l : List α) (i : Nat), (l.modify i g).map f = l.map f
  | [], i => by cases i <;> rfl
  | a :: l, 0 => by simp [h]
  | a :: l, i + 1 => by simp [modify_map f g h l i]
theorem mem_modify {α : Type} (g : α → α) : ∀ (l : List α) (i : Nat) (a : α), a ∈ l.modify i g → a ∈ l ∨ ∃ b ∈ l, a = g b
  | [], i, a, h => by cases i <;> simp at h
  | b :: l, 0, a, h => by
    simp only [List.modify_zero_cons, List.mem_cons] at h
    rcases h with rfl | h
    · exact .inr ⟨b, List.mem_cons_self, rfl⟩
    · exact .inl (List.mem_cons_of_mem _ h)
  | b :: l, i + 1, a, h => by
    simp only [List.modify_succ_cons, List.mem_cons] at h
    rcases h with rfl | h
    · exact .inl List.mem_cons_self
    · rcases mem_modify g l i a h with h | ⟨y, h1, h2⟩
      · exact .inl (List.mem_cons_of_mem _ h)
      · exact .inr ⟨y, List.mem_cons_of_mem _ h1, h2⟩
theorem NatOk.modify {c : Cfg} {L : List BindT} (h : NatOk c L) (x : CallT) (p : PtT) (ht : x.tick ≤ 4294967295) (i : Nat) : NatOk c (L.modify i (seenB x p)) := by
  refine ⟨fun b hb => ?_, ?_, ?_, fun b hb => ?_⟩
  · rcases mem_modify _ _ _ _ hb with hb | ⟨y, hy, rfl⟩
    · exact h.place b hb
    · rw [seenB_place]; exact h.place y hy
  · have := h.sorted
    rw [← List.pairwise_map (f := placeB c) (R := fun a b => a < b)] at this ⊢
    rwa [modify_map (placeB c) _ (seenB_place c x p)]
  · rw [modify_map (·.flow) _ fun b => (seenB_flow x p b).1]
    exact h.flows
  · rcases mem_modify _ _ _ _ hb with hb | ⟨y, hy, rfl⟩
    · exact h.ok b hb
    · exact seenB_ok (h.ok y hy) ht
theorem mem_insB {c : Cfg} {b : BindT} : ∀ {L : List BindT} {a : BindT}, a ∈ insB c b L ↔ a = b ∨ a ∈ L
  | [], a => by simp [insB]
  | d :: L, a => by
    unfold insB
    split
    · simp
    · rw [List.mem_cons, mem_insB, List.mem_cons]
      constructor
      · rintro (h | h | h)
        · exact .inr (.inl h)
        · exact .inl h
        · exact .inr (.inr h)
      · rintro (h | h | h)
        · exact .inr (.inl h)
        · exact .inl h
        · exact .inr (.inr h)
theorem insB_perm (c : Cfg) (b : BindT) : ∀ L : List BindT, (insB c b L).Perm (b :: L)
  | [] => List.Perm.refl _
  | d :: L => by
    unfold insB
    split
    · exact List.Perm.refl _
    · exact ((insB_perm c b L).cons d).trans (List.Perm.swap b d L)
theorem insB_sorted {c : Cfg} {b : BindT} : ∀ {L : List BindT}, L.Pairwise (fun a b => placeB c a < placeB c b) → (∀ a ∈ L, placeB c a ≠ placeB c b) → (insB c b L).Pairwise fun a b => placeB c a < placeB c b
  | [], _, _ => List.pairwise_singleton _ _
  | d :: L, h, hn => by
    rw [List.pairwise_cons] at h
    unfold insB
    split
    · rename_i hg
      rw [List.pairwise_cons, List.pairwise_cons]
      refine ⟨fun a ha => ?_, h⟩
      rcases List.mem_cons.1 ha with rfl | ha
      · exact hg
      · have := h.1 a ha
        omega
    · rename_i hg
      rw [List.pairwise_cons]
      refine ⟨fun a ha => ?_, insB_sorted h.2 fun a ha => hn a (List.mem_cons_of_mem _ ha)⟩
      rcases mem_insB.1 ha with rfl | ha
      · have := hn d List.mem_cons_self
        omega
      · exact h.1 a ha
theorem NatOk.ins {c : Cfg} {L : List BindT} {b : BindT} (h : NatOk c L) (hp : 0 ≤ placeB c b) (hn : ∀ a ∈ L, placeB c a ≠ placeB c b) (hf : ∀ a ∈ L, a.flow ≠ b.flow) (hb : b.Ok) : NatOk c (insB c b L) := by
  refine ⟨fun a ha => ?_, insB_sorted h.sorted hn, ?_, fun a ha => ?_⟩
  · rcases mem_insB.1 ha with rfl | ha
    · exact hp
    · exact h.place a ha
  · rw [((insB_perm c b L).map (·.flow)).nodup_iff, List.map_cons, List.nodup_cons]
    refine ⟨fun g => ?_, h.flows⟩
    obtain ⟨a, ha, e⟩ := List.mem_map.1 g
    exact hf a ha e
  · rcases mem_insB.1 ha with rfl | ha
    · exact hb
    · exact h.ok a ha
theorem NatOk.erase {c : Cfg} {L : List BindT} (h : NatOk c L) (i : Nat) : NatOk c (L.eraseIdx i) := by
  have hs := List.eraseIdx_sublist L i
  exact ⟨fun b hb => h.place b (hs.subset hb), h.sorted.sublist hs, h.flows.sublist (hs.map _), fun b hb => h.ok b (hs.subset hb)⟩
structure PtRng (p : PtT) : Prop where
  sp : p.sp < 65536
  dp : p.dp < 65536
  flags : p.flags < 256
  kind : p.kind < 256
  iproto : p.inner.proto < 256
  isrc : p.inner.src < 4294967296
  idst : p.inner.dst < 4294967296
  proto : p.proto < 256
theorem PtRng.of (h : HdT) (l : List UInt8) : PtRng (partP h l) := by
  have z : (0 : Nat) < 256 := by decide
  have z2 : (0 : Nat) < 65536 := by decide
  have z4 : (0 : Nat) < 4294967296 := by decide
  unfold partP
  split
  · exact ⟨w2_lt _ _, w2_lt _ _, z, z, z, z4, z4, by show 17 < 256; decide⟩
  split
  · exact ⟨w2_lt _ _, w2_lt _ _, b1_lt _ _, z, z, z4, z4, by show 6 < 256; decide⟩
  unfold icmpP
  split
  · exact ⟨w2_lt _ _, w2_lt _ _, z, b1_lt _ _, z, z4, z4, by show 1 < 256; decide⟩
  · refine ⟨?_, ?_, z, b1_lt _ _, b1_lt _ _, w4_lt _ _, w4_lt _ _, by show 1 < 256; decide⟩
    · unfold faultP
      dsimp only
      split <;> exact w2_lt _ _
    · unfold faultP
      dsimp only
      split <;> exact w2_lt _ _
theorem whoF_ok (out : Bool) (l : List UInt8) : (whoF out l).proto < 256 ∧ (whoF out l).addr < 4294967296 ∧ (whoF out l).port < 65536 := by
  have r : PtRng (frP l) := PtRng.of (headH l) l
  have h1 : (headH l).proto < 256 := b1_lt l 9
  have h2 : (headH l).src < 4294967296 := w4_lt l 12
  have h3 : (headH l).dst < 4294967296 := w4_lt l 16
  unfold whoF inF outF
  split <;> split
  · exact ⟨r.iproto, r.idst, r.dp⟩
  · exact ⟨h1, h2, r.sp⟩
  · exact ⟨r.iproto, r.isrc, r.sp⟩
  · exact ⟨h1, h3, r.dp⟩
theorem findIdx_some {α : Type} {p : α → Bool} {l : List α} {i : Nat} (h : l.findIdx? p = some i) : ∃ a, l[i]? = some a ∧ p a = true := by
  rw [List.findIdx?_eq_some_iff_getElem] at h
  obtain ⟨h1, h2, _⟩ := h
  exact ⟨l[i], by simp [h1], h2⟩
theorem findIdx_none {α : Type} {p : α → Bool} {l : List α} (h : l.findIdx? p = none) : ∀ a ∈ l, p a = false := by
  rw [List.findIdx?_eq_none_iff] at h
  exact h
theorem NatOk.step {c : Cfg} {L : List BindT} (h : NatOk c L) (hc : c.Good) (x : CallT) : NatOk c (stepT c L x).L := by
  unfold stepT
  split
  · exact h
  rename_i ht
  split
  · exact h
  split
  · exact h.modify x _ (by omega) _
  · rename_i hn
    split
    · exact h
    split
    · exact h
    split
    · exact h
    split
    · exact h
    rename_i _ _ _ hp
    have hn := findIdx_none hn
    obtain ⟨w1, w2', w3⟩ := whoF_ok x.out x.frame
    have hout : x.out = true := by
      rename_i hb _ _
      cases ho : x.out with
      | true => rfl
      | false => simp [begF, ho] at hb
    have p0 : 0 ≤ placeN c (whoF x.out x.frame).proto x.port := by omega
    obtain ⟨q1, q2, _⟩ := place_le c _ _ p0
    have hpo := hc.p
    have eport : ((x.port.toNat : Nat) : Int) = x.port := by omega
    have ePl : placeB c ⟨whoF x.out x.frame, x.port.toNat, nextT (whoF x.out x.frame).proto 0 true (frP x.frame).flags, x.tick.toNat⟩ = placeN c (whoF x.out x.frame).proto x.port := by
      unfold placeB
      dsimp only
      rw [eport]
    refine h.ins (by rw [ePl]; exact p0) (fun a ha e => ?_) (fun a ha e => ?_) ⟨w1, w2', w3, by dsimp only; omega, nextT_le (by decide), by dsimp only; omega⟩
    · rw [ePl] at e
      have := (place_at p0).1 e
      have hb : hasB L (whoF x.out x.frame).proto x.port = true := by
        unfold hasB
        rw [List.any_eq_true]
        exact ⟨a, ha, by simp; omega⟩
      exact hp (.inr hb)
    · have := hn a ha
      unfold isB at this
      rw [hout] at this
      simp only [if_true, decide_eq_false_iff_not] at this
      rw [hout] at e
      exact this e
theorem NatOk.exp {c : Cfg} {L : List BindT} (h : NatOk c L) (proto port tick : Int) : NatOk c (expT L proto port tick).1 := by
  unfold expT
  split
  · exact h.erase _
  · exact h
end Go.Proofs.YtianbkbehjppoaaGreatDoor

namespace Go.Proofs.YtianbkbehjppoaaGreatDoor
open Go.RowKit
variable {X : Cx} {σ : Env}
theorem run_eqSlice {P : Program} {t e : TypeId} {sz by' : Nat} {z : List Value} [h : TSlice P t e sz by' z] (p : Option Addr) (n c : Nat) (w : World) : (Op.equal t (.slice p n c) (.slice none 0 0)).run P w = .ok (decide (p = none)) w := by
  unfold Op.equal
  obtain ⟨d, hd⟩ : ∃ d, Op.maxDepth = d + 1 := ⟨9999, rfl⟩
  rw [hd]
  clear hd
  simp only [Op.equalIn]
  cases p <;> simp [run_underlying h.under, go_sem]
theorem OpVal_sliceNil {H : SL} {o : Oper} {x : Operand} {t u e : TypeId} {sz by' : Nat} {z : List Value} {p : Option Addr} {n c : Nat} (ho : o.op = .binOp .eql t x (.const (.slice none 0 0)) u) (hx : ev σ x = some (.slice p n c)) [h : TSlice X.P t e sz by' z] : OpVal X σ H o (.bool (decide (p = none))) := by
  intro a' w ha _
  simp only [execOp, ho, ha.eval hx]
  have hg : ∀ p' q', (eqGuard .eql t p' q' (.slice p n c) (.slice none 0 0)).run X.P w = .ok () w := fun _ _ => rfl
  simp [Act.eval, Sem.run_bind, hg, binOp, run_eqSlice p n c w, go_sem]
/-! ### A part of a row, to be read -/
theorem Src.hi {W : World} {H : SL} {p : Option Addr} {n : Nat} {xs : List Value} (s : Src W H p n xs) (sz j : Nat) (hj : j ≤ n) : Src W H p j (xs.take (j * sz)) where
  cells := fun w hs i v hv => by
    rw [List.getElem?_take] at hv
    split at hv
    · exact s.cells w hs i v hv
    · cases hv
  nn := fun w hs h => s.nn w hs (by omega)
theorem off_off (p : Option Addr) (i j : Nat) : off (off p i) j = off p (i + j) := by
  cases p with
  | none => rfl
  | some a =>
    simp only [off, Option.map_some, Addr.add]
    by_cases hi : i = 0 <;> by_cases hj : j = 0 <;> simp [hi, hj, Nat.add_assoc]
theorem Src.lo {W : World} {H F : SL} {e sz n cap : Nat} {p : Option Addr} {xs : List Value} (r : AtP H p (RowC e sz p n cap xs) F) (i : Nat) (hi : i ≤ n) : Src W H (dropP p i cap sz) (n - i) (xs.drop (i * sz)) where
  cells := fun w hs k v hv => by
    have hr := r.eq ▸ hs
    obtain ⟨hl, hc, _⟩ := RowC.len hr
    rw [List.getElem?_drop] at hv
    have hk := (List.getElem?_eq_some_iff.1 hv).1
    obtain ⟨a, h1, h2⟩ := RowC.cell hr hv
    refine ⟨a, ?_, h2⟩
    unfold dropP
    split
    · have : n = i := by omega
      subst this
      omega
    · rw [off_off]; exact h1
  nn := fun w hs h => by
    have hr := r.eq ▸ hs
    have hp := RowC.nn hr (by omega)
    obtain ⟨_, hc, _⟩ := RowC.len hr
    unfold dropP
    rw [if_neg (by omega)]
    cases p with
    | none => exact absurd rfl hp
    | some a => simp [off]
end Go.Proofs.YtianbkbehjppoaaGreatDoor

namespace Go.Proofs.YtianbkbehjppoaaGreatDoor
open Go.RowKit
variable {X : Cx} {k : List KI} {σ : Env} {H S : SL} {ops : List Oper} {fuel L : Nat} {listed : Array Bool}

/-- Does a guard allow it? -/
def guardV (ops : List Oper) (σ : Env) : Option (Nat × Bool) → Option Bool
  | none => some true
  | some (gj, w) => match (ops[gj]?).bind (·.dst) with
    | some t => match σ.get t with
      | some (.bool b) => some (b == w)
      | _ => none
    | none => none
theorem guardV_spec {a : Act} (ha : Fits X.N a σ) {d : Option Nat} {op : Op} {ty : TypeId} {pos : String} {aft : Array Edge} {g : Option (Nat × Bool)} {b : Bool} (h : guardV ops σ g = some b) :
    Region.wanted (⟨d, op, ty, pos, aft, g⟩ : Oper) (yielded ops.toArray a.tmps) = b := by
  cases g with
  | none =>
    simp only [guardV, Option.some.injEq] at h
    subst h
    rfl
  | some q =>
    obtain ⟨gj, w⟩ := q
    simp only [guardV] at h
    split at h
    · rename_i t hj
      split at h
      · rename_i b' ht
        simp only [Option.some.injEq] at h
        rw [wanted_of ha hj ht rfl, h]
      · cases h
    · cases h
theorem EG_takeQ (n : Nat) {d : Nat} {v : Value} {op : Op} {ty : TypeId} {pos : String} {aft : Array Edge} {g : Option (Nat × Bool)} {i : Nat} (hn : nthF listed.toList n 0 = some i) (hi : ops.toArray[i]? = some ⟨some d, op, ty, pos, aft, g⟩) (hd : Nat.blt d X.N = true)
    (hg : guardV ops σ g = some true) (hv : OpVal X σ S ⟨some d, op, ty, pos, aft, none⟩ v)
    (hb : (Region.noSelect ops.toArray && Region.free .any ops.toArray listed i && (Region.ready .any ops.toArray listed).contains i && closedB .any ops.toArray listed && lastB .any ops.toArray L i) = true) (hS : Ent H S) {ls : Array Bool} (hl : listed.setIfInBounds i true = ls)
    (h : EG X k ops S L fuel ls ((d, v) :: σ) H) : EG X k ops S L (fuel + 1) listed σ H := by
  subst hl
  simp only [Bool.and_eq_true] at hb
  obtain ⟨⟨⟨⟨hs, hf⟩, hr⟩, hc⟩, hla⟩ := hb
  obtain ⟨h1, h2⟩ := lastB_spec hla
  intro a w ha hw
  exact wpAnyL_first hi (Region.noSelect_spec hs) (fun _ _ _ h => h.elim) h2 h1 fuel listed a w (Region.free_spec hi hf) (by simpa using hr) (closedB_spec hc) (.inl ⟨guardV_spec ha hg, fun w hs => hv a w ha hs⟩) (hS.sat _ hw) (h _ _ (ha.put hd v) hw)
/-- What a guard bars. -/
theorem EG_takeN (n : Nat) {d : Nat} {op : Op} {ty : TypeId} {pos : String} {aft : Array Edge} {gj t : Nat} {want : Bool} {i : Nat} (hn : nthF listed.toList n 0 = some i) (hi : ops.toArray[i]? = some ⟨some d, op, ty, pos, aft, some (gj, want)⟩) (hd : Nat.blt d X.N = true)
    (hj : (ops[gj]?).bind (·.dst) = some t) (ht : σ.get t = some (.bool !want) ∨ σ.get t = some undef)
    (hb : (Region.noSelect ops.toArray && Region.free .any ops.toArray listed i && (Region.ready .any ops.toArray listed).contains i && closedB .any ops.toArray listed && lastB .any ops.toArray L i) = true) (hS : Ent H S) {ls : Array Bool} (hl : listed.setIfInBounds i true = ls)
    (h : EG X k ops S L fuel ls ((d, undef) :: σ) H) : EG X k ops S L (fuel + 1) listed σ H := by
  subst hl
  simp only [Bool.and_eq_true] at hb
  obtain ⟨⟨⟨⟨hs, hf⟩, hr⟩, hc⟩, hla⟩ := hb
  obtain ⟨h1, h2⟩ := lastB_spec hla
  intro a w ha hw
  refine wpAnyL_first hi (Region.noSelect_spec hs) (fun _ _ _ h => h.elim) h2 h1 fuel listed a w (Region.free_spec hi hf) (by simpa using hr) (closedB_spec hc) (.inr ⟨?_, rfl⟩) (hS.sat _ hw) (h _ _ (ha.put hd undef) hw)
  rcases ht with ht | ht
  · rw [wanted_of (o := ⟨some d, op, ty, pos, aft, some (gj, want)⟩) ha hj ht rfl]
    cases want <;> rfl
  · simp only [Region.wanted, yielded, List.getElem?_toArray, hj, Option.bind_some, ha.vals t _ ht]
    rfl
theorem EG_callQ {α : Type} {r : α → Value} {H' : α → SL} {f : FuncId} [IsFn X.P f] {args : Array Operand} {ats : Array TypeId} {vs : List Value} {d : Nat} {ty : TypeId} {pos : String} {aft : Array Edge} {g : Option (Nat × Bool)} {i : Nat} {ls : Array Bool} (hn : nthF listed.toList 0 0 = some i)
    (hi : ops.toArray[i]? = some ⟨some d, .call { callee := .value (.func f), args := args, argTypes := ats }, ty, pos, aft, g⟩) (hargs : evs σ args.toList = some vs) (hg : guardV ops σ g = some true) (hl : listed.setIfInBounds i true = ls) (hc : Spec X.P f vs X.W H r H') (hS : ∀ x, Ent (H' x) S)
    (h : ∀ x, EG X k ops S L fuel ls ((d, r x) :: σ) (H' x)) (hr : Region.ready .any ops.toArray listed = [i] := by decide +kernel) (hd : Nat.blt d X.N = true := by rfl) : EG X k ops S L (fuel + 1) listed σ H := by
  subst hl
  intro a w ha hw
  refine EG_all hr ?_
  unfold wpOp
  rw [hi]
  simp only [guardV_spec ha hg, Oper.wp, if_true]
  refine .inl ?_
  have hrun := run_call (d := some d) (ty := ty) (pos := pos) (aft := aft) (ats := ats) (f := f) (w := w) ha hargs
  have hrun' : (execOp a.eval ⟨some d, .call { callee := .value (.func f), args := args, argTypes := ats }, ty, pos, aft, g⟩).run X.P w = .ok (.enter f vs.toArray) w := hrun
  rw [hrun', Oper.upon_enter]
  refine (hc w hw).mono ?_
  rintro e w' ⟨x, rfl, hs'⟩
  exact ⟨fun _ => (hS x).sat _ hs', h x _ _ (ha.put hd _) hs'⟩
end Go.Proofs.YtianbkbehjppoaaGreatDoor

namespace Go.Proofs.YtianbkbehjppoaaGreatDoor
open Go.RowKit

/-- What only reads is taken first, guarded or not. -/
theorem goQ {G G' : Prop} (k : G') (h : Left_ G' → G := by intro h; (first | (apply EG_takeQ 0; rfl; rfl; rfl; rfl; (first | (apply v_move; exact OpVal_quick rfl) | (apply v_assign; exact OpVal_quick rfl) | (apply v_extract; exact OpVal_quick rfl) | (apply v_load; first | exact OpVal_load rfl rfl rfl | exact OpVal_loadAgg rfl rfl rfl | exact OpVal_loadR rfl rfl (by omega) | exact OpVal_loadAggR rfl rfl (by omega) (by omega) | exact OpVal_loadO rfl rfl (by omega)) | (apply v_fieldAddr; exact OpVal_fieldAddr rfl rfl) | (apply v_nilCheck; exact OpVal_nilCheck rfl rfl) | (apply v_eql; first | exact OpVal_decT rfl (by omega) | exact OpVal_decF rfl (by omega) | exact OpVal_pure rfl | exact OpVal_isNil rfl rfl | exact OpVal_ptrEq rfl rfl rfl (by first | exact .inl rfl | exact .inr rfl) | exact OpVal_strEq rfl rfl rfl | exact OpVal_aggEq rfl rfl rfl rfl rfl | exact OpVal_boolEq rfl rfl rfl) | (apply v_neq; first | exact OpVal_ndecT rfl (by omega) | exact OpVal_ndecF rfl (by omega) | exact OpVal_pure rfl | exact OpVal_notNil rfl rfl | exact OpVal_ptrNe rfl rfl rfl (by first | exact .inl rfl | exact .inr rfl) | exact OpVal_strNe rfl rfl rfl | exact OpVal_aggNe rfl rfl rfl rfl rfl | exact OpVal_boolNe rfl rfl rfl) | (apply v_lss; first | exact OpVal_decT rfl (by omega) | exact OpVal_decF rfl (by omega) | exact OpVal_pure rfl) | (apply v_leq; first | exact OpVal_decT rfl (by omega) | exact OpVal_decF rfl (by omega) | exact OpVal_pure rfl) | (apply v_gtr; first | exact OpVal_decT rfl (by omega) | exact OpVal_decF rfl (by omega) | exact OpVal_pure rfl) | (apply v_geq; first | exact OpVal_decT rfl (by omega) | exact OpVal_decF rfl (by omega) | exact OpVal_pure rfl) | (apply v_add; first | exact OpVal_add rfl rfl rfl (by simp only [InK]; omega) | exact OpVal_pure rfl | exact OpVal_strAdd rfl rfl rfl (by first | omega | ((try simp only [List.length_cons, List.length_nil, List.length_append, List.length_take, List.length_drop]); omega))) | (apply v_sub; first | exact OpVal_sub rfl rfl rfl (by simp only [InK]; omega) | exact OpVal_pure rfl) | (apply v_mul; first | exact OpVal_mul rfl rfl rfl (by simp only [InK]; omega) | exact OpVal_pure rfl) | (apply v_and; exact OpVal_quick rfl) | (apply v_or; exact OpVal_quick rfl) | (apply v_xor; exact OpVal_quick rfl) | (apply v_andNot; exact OpVal_quick rfl) | (apply v_quo; exact OpVal_quo rfl rfl rfl (by omega) (by omega) (by simp only [InK]; omega)) | (apply v_rem; first | exact OpVal_rem rfl rfl rfl (by omega) (by omega) | exact OpVal_remT rfl rfl rfl (by decide)) | (apply v_shr; exact OpVal_shr rfl rfl rfl (by first | decide | omega | (simp only [IntKind.bits]; omega)) (by first | decide | omega | (simp only [IntKind.bits]; omega))) | (apply v_shl; exact OpVal_shl rfl rfl rfl (by first | decide | omega | (simp only [IntKind.bits]; omega)) (by first | decide | omega | (simp only [IntKind.bits]; omega))) | (apply v_indexAddr; first | exact OpVal_indexAddr rfl rfl rfl (by omega) (by omega) | exact OpVal_indexArrAddr rfl rfl rfl (by omega)) | (apply v_index; first | exact OpVal_indexStr rfl rfl rfl (by first | omega | ((try simp only [List.length_cons, List.length_nil, List.length_append, List.length_take, List.length_drop]); omega)) | exact OpVal_indexArr rfl rfl rfl (by omega) (by omega)) | (apply v_convert; first | exact OpVal_convertIn rfl rfl (by simp only [InK]; omega) | exact OpVal_convert rfl rfl | exact OpVal_bytesStr rfl rfl (by first | omega | (refine ⟨?_, ?_⟩ <;> omega)) rfl) | (apply v_build; first | exact OpVal_build rfl rfl | exact OpVal_buildArr rfl rfl) | (apply v_field; first | exact OpVal_field rfl rfl rfl | exact OpVal_fieldA rfl rfl rfl) | (apply v_slice; first | exact OpVal_sliceLo rfl rfl rfl (by first | omega | ((try simp only [List.length_cons, List.length_nil, List.length_append, List.length_take, List.length_drop]); omega)) | exact OpVal_sliceHi rfl rfl rfl (by first | omega | ((try simp only [List.length_cons, List.length_nil, List.length_append, List.length_take, List.length_drop]); omega)) | exact OpVal_rowLo rfl rfl rfl (by omega) | exact OpVal_rowHi rfl rfl rfl (by omega) | exact OpVal_rowNil rfl rfl | exact OpVal_rowBoth rfl rfl rfl rfl (by omega) (by omega)) | (apply v_makeFunc; exact OpVal_makeFunc rfl rfl rfl) | (apply v_pick; exact OpVal_quick rfl) | (apply v_unOp; first | exact OpVal_quick rfl | exact OpVal_compl16 rfl rfl (by omega) | exact OpVal_compl rfl rfl) | (apply v_len; first | exact OpVal_len rfl rfl | exact OpVal_lenStr rfl rfl) | (apply v_min; exact OpVal_min rfl rfl rfl) | (apply v_max; exact OpVal_max rfl rfl rfl) | (apply v_fun; first | exact OpVal_aload rfl rfl (by omega) | exact OpVal_acas rfl rfl rfl rfl (by omega) (by omega))); decide +kernel; (first | exact Ent.refl _ | exact Ent.last | exact Ent.drop | (repeat (first | refine Ent.cons ?_ | refine Ent.objX ?_ | refine Ent.rowX ?_ | exact Ent.any | exact Ent.last))); rfl) | (apply EG_takeN 0; rfl; rfl; rfl; rfl; (first | exact .inl rfl | exact .inr rfl); decide +kernel; (first | exact Ent.refl _ | exact Ent.last | exact Ent.drop | (repeat (first | refine Ent.cons ?_ | refine Ent.objX ?_ | refine Ent.rowX ?_ | exact Ent.any | exact Ent.last))); rfl) | (apply EG_takeQ 1; rfl; rfl; rfl; rfl; (first | (apply v_move; exact OpVal_quick rfl) | (apply v_assign; exact OpVal_quick rfl) | (apply v_extract; exact OpVal_quick rfl) | (apply v_load; first | exact OpVal_load rfl rfl rfl | exact OpVal_loadAgg rfl rfl rfl | exact OpVal_loadR rfl rfl (by omega) | exact OpVal_loadAggR rfl rfl (by omega) (by omega) | exact OpVal_loadO rfl rfl (by omega)) | (apply v_fieldAddr; exact OpVal_fieldAddr rfl rfl) | (apply v_nilCheck; exact OpVal_nilCheck rfl rfl) | (apply v_eql; first | exact OpVal_decT rfl (by omega) | exact OpVal_decF rfl (by omega) | exact OpVal_pure rfl | exact OpVal_isNil rfl rfl | exact OpVal_ptrEq rfl rfl rfl (by first | exact .inl rfl | exact .inr rfl) | exact OpVal_strEq rfl rfl rfl | exact OpVal_aggEq rfl rfl rfl rfl rfl | exact OpVal_boolEq rfl rfl rfl) | (apply v_neq; first | exact OpVal_ndecT rfl (by omega) | exact OpVal_ndecF rfl (by omega) | exact OpVal_pure rfl | exact OpVal_notNil rfl rfl | exact OpVal_ptrNe rfl rfl rfl (by first | exact .inl rfl | exact .inr rfl) | exact OpVal_strNe rfl rfl rfl | exact OpVal_aggNe rfl rfl rfl rfl rfl | exact OpVal_boolNe rfl rfl rfl) | (apply v_lss; first | exact OpVal_decT rfl (by omega) | exact OpVal_decF rfl (by omega) | exact OpVal_pure rfl) | (apply v_leq; first | exact OpVal_decT rfl (by omega) | exact OpVal_decF rfl (by omega) | exact OpVal_pure rfl) | (apply v_gtr; first | exact OpVal_decT rfl (by omega) | exact OpVal_decF rfl (by omega) | exact OpVal_pure rfl) | (apply v_geq; first | exact OpVal_decT rfl (by omega) | exact OpVal_decF rfl (by omega) | exact OpVal_pure rfl) | (apply v_add; first | exact OpVal_add rfl rfl rfl (by simp only [InK]; omega) | exact OpVal_pure rfl | exact OpVal_strAdd rfl rfl rfl (by first | omega | ((try simp only [List.length_cons, List.length_nil, List.length_append, List.length_take, List.length_drop]); omega))) | (apply v_sub; first | exact OpVal_sub rfl rfl rfl (by simp only [InK]; omega) | exact OpVal_pure rfl) | (apply v_mul; first | exact OpVal_mul rfl rfl rfl (by simp only [InK]; omega) | exact OpVal_pure rfl) | (apply v_and; exact OpVal_quick rfl) | (apply v_or; exact OpVal_quick rfl) | (apply v_xor; exact OpVal_quick rfl) | (apply v_andNot; exact OpVal_quick rfl) | (apply v_quo; exact OpVal_quo rfl rfl rfl (by omega) (by omega) (by simp only [InK]; omega)) | (apply v_rem; first | exact OpVal_rem rfl rfl rfl (by omega) (by omega) | exact OpVal_remT rfl rfl rfl (by decide)) | (apply v_shr; exact OpVal_shr rfl rfl rfl (by first | decide | omega | (simp only [IntKind.bits]; omega)) (by first | decide | omega | (simp only [IntKind.bits]; omega))) | (apply v_shl; exact OpVal_shl rfl rfl rfl (by first | decide | omega | (simp only [IntKind.bits]; omega)) (by first | decide | omega | (simp only [IntKind.bits]; omega))) | (apply v_indexAddr; first | exact OpVal_indexAddr rfl rfl rfl (by omega) (by omega) | exact OpVal_indexArrAddr rfl rfl rfl (by omega)) | (apply v_index; first | exact OpVal_indexStr rfl rfl rfl (by first | omega | ((try simp only [List.length_cons, List.length_nil, List.length_append, List.length_take, List.length_drop]); omega)) | exact OpVal_indexArr rfl rfl rfl (by omega) (by omega)) | (apply v_convert; first | exact OpVal_convertIn rfl rfl (by simp only [InK]; omega) | exact OpVal_convert rfl rfl | exact OpVal_bytesStr rfl rfl (by first | omega | (refine ⟨?_, ?_⟩ <;> omega)) rfl) | (apply v_build; first | exact OpVal_build rfl rfl | exact OpVal_buildArr rfl rfl) | (apply v_field; first | exact OpVal_field rfl rfl rfl | exact OpVal_fieldA rfl rfl rfl) | (apply v_slice; first | exact OpVal_sliceLo rfl rfl rfl (by first | omega | ((try simp only [List.length_cons, List.length_nil, List.length_append, List.length_take, List.length_drop]); omega)) | exact OpVal_sliceHi rfl rfl rfl (by first | omega | ((try simp only [List.length_cons, List.length_nil, List.length_append, List.length_take, List.length_drop]); omega)) | exact OpVal_rowLo rfl rfl rfl (by omega) | exact OpVal_rowHi rfl rfl rfl (by omega) | exact OpVal_rowNil rfl rfl | exact OpVal_rowBoth rfl rfl rfl rfl (by omega) (by omega)) | (apply v_makeFunc; exact OpVal_makeFunc rfl rfl rfl) | (apply v_pick; exact OpVal_quick rfl) | (apply v_unOp; first | exact OpVal_quick rfl | exact OpVal_compl16 rfl rfl (by omega) | exact OpVal_compl rfl rfl) | (apply v_len; first | exact OpVal_len rfl rfl | exact OpVal_lenStr rfl rfl) | (apply v_min; exact OpVal_min rfl rfl rfl) | (apply v_max; exact OpVal_max rfl rfl rfl) | (apply v_fun; first | exact OpVal_aload rfl rfl (by omega) | exact OpVal_acas rfl rfl rfl rfl (by omega) (by omega))); decide +kernel; (first | exact Ent.refl _ | exact Ent.last | exact Ent.drop | (repeat (first | refine Ent.cons ?_ | refine Ent.objX ?_ | refine Ent.rowX ?_ | exact Ent.any | exact Ent.last))); rfl) | (apply EG_takeN 1; rfl; rfl; rfl; rfl; (first | exact .inl rfl | exact .inr rfl); decide +kernel; (first | exact Ent.refl _ | exact Ent.last | exact Ent.drop | (repeat (first | refine Ent.cons ?_ | refine Ent.objX ?_ | refine Ent.rowX ?_ | exact Ent.any | exact Ent.last))); rfl) | (apply EG_takeQ 2; rfl; rfl; rfl; rfl; (first | (apply v_move; exact OpVal_quick rfl) | (apply v_assign; exact OpVal_quick rfl) | (apply v_extract; exact OpVal_quick rfl) | (apply v_load; first | exact OpVal_load rfl rfl rfl | exact OpVal_loadAgg rfl rfl rfl | exact OpVal_loadR rfl rfl (by omega) | exact OpVal_loadAggR rfl rfl (by omega) (by omega) | exact OpVal_loadO rfl rfl (by omega)) | (apply v_fieldAddr; exact OpVal_fieldAddr rfl rfl) | (apply v_nilCheck; exact OpVal_nilCheck rfl rfl) | (apply v_eql; first | exact OpVal_decT rfl (by omega) | exact OpVal_decF rfl (by omega) | exact OpVal_pure rfl | exact OpVal_isNil rfl rfl | exact OpVal_ptrEq rfl rfl rfl (by first | exact .inl rfl | exact .inr rfl) | exact OpVal_strEq rfl rfl rfl | exact OpVal_aggEq rfl rfl rfl rfl rfl | exact OpVal_boolEq rfl rfl rfl) | (apply v_neq; first | exact OpVal_ndecT rfl (by omega) | exact OpVal_ndecF rfl (by omega) | exact OpVal_pure rfl | exact OpVal_notNil rfl rfl | exact OpVal_ptrNe rfl rfl rfl (by first | exact .inl rfl | exact .inr rfl) | exact OpVal_strNe rfl rfl rfl | exact OpVal_aggNe rfl rfl rfl rfl rfl | exact OpVal_boolNe rfl rfl rfl) | (apply v_lss; first | exact OpVal_decT rfl (by omega) | exact OpVal_decF rfl (by omega) | exact OpVal_pure rfl) | (apply v_leq; first | exact OpVal_decT rfl (by omega) | exact OpVal_decF rfl (by omega) | exact OpVal_pure rfl) | (apply v_gtr; first | exact OpVal_decT rfl (by omega) | exact OpVal_decF rfl (by omega) | exact OpVal_pure rfl) | (apply v_geq; first | exact OpVal_decT rfl (by omega) | exact OpVal_decF rfl (by omega) | exact OpVal_pure rfl) | (apply v_add; first | exact OpVal_add rfl rfl rfl (by simp only [InK]; omega) | exact OpVal_pure rfl | exact OpVal_strAdd rfl rfl rfl (by first | omega | ((try simp only [List.length_cons, List.length_nil, List.length_append, List.length_take, List.length_drop]); omega))) | (apply v_sub; first | exact OpVal_sub rfl rfl rfl (by simp only [InK]; omega) | exact OpVal_pure rfl) | (apply v_mul; first | exact OpVal_mul rfl rfl rfl (by simp only [InK]; omega) | exact OpVal_pure rfl) | (apply v_and; exact OpVal_quick rfl) | (apply v_or; exact OpVal_quick rfl) | (apply v_xor; exact OpVal_quick rfl) | (apply v_andNot; exact OpVal_quick rfl) | (apply v_quo; exact OpVal_quo rfl rfl rfl (by omega) (by omega) (by simp only [InK]; omega)) | (apply v_rem; first | exact OpVal_rem rfl rfl rfl (by omega) (by omega) | exact OpVal_remT rfl rfl rfl (by decide)) | (apply v_shr; exact OpVal_shr rfl rfl rfl (by first | decide | omega | (simp only [IntKind.bits]; omega)) (by first | decide | omega | (simp only [IntKind.bits]; omega))) | (apply v_shl; exact OpVal_shl rfl rfl rfl (by first | decide | omega | (simp only [IntKind.bits]; omega)) (by first | decide | omega | (simp only [IntKind.bits]; omega))) | (apply v_indexAddr; first | exact OpVal_indexAddr rfl rfl rfl (by omega) (by omega) | exact OpVal_indexArrAddr rfl rfl rfl (by omega)) | (apply v_index; first | exact OpVal_indexStr rfl rfl rfl (by first | omega | ((try simp only [List.length_cons, List.length_nil, List.length_append, List.length_take, List.length_drop]); omega)) | exact OpVal_indexArr rfl rfl rfl (by omega) (by omega)) | (apply v_convert; first | exact OpVal_convertIn rfl rfl (by simp only [InK]; omega) | exact OpVal_convert rfl rfl | exact OpVal_bytesStr rfl rfl (by first | omega | (refine ⟨?_, ?_⟩ <;> omega)) rfl) | (apply v_build; first | exact OpVal_build rfl rfl | exact OpVal_buildArr rfl rfl) | (apply v_field; first | exact OpVal_field rfl rfl rfl | exact OpVal_fieldA rfl rfl rfl) | (apply v_slice; first | exact OpVal_sliceLo rfl rfl rfl (by first | omega | ((try simp only [List.length_cons, List.length_nil, List.length_append, List.length_take, List.length_drop]); omega)) | exact OpVal_sliceHi rfl rfl rfl (by first | omega | ((try simp only [List.length_cons, List.length_nil, List.length_append, List.length_take, List.length_drop]); omega)) | exact OpVal_rowLo rfl rfl rfl (by omega) | exact OpVal_rowHi rfl rfl rfl (by omega) | exact OpVal_rowNil rfl rfl | exact OpVal_rowBoth rfl rfl rfl rfl (by omega) (by omega)) | (apply v_makeFunc; exact OpVal_makeFunc rfl rfl rfl) | (apply v_pick; exact OpVal_quick rfl) | (apply v_unOp; first | exact OpVal_quick rfl | exact OpVal_compl16 rfl rfl (by omega) | exact OpVal_compl rfl rfl) | (apply v_len; first | exact OpVal_len rfl rfl | exact OpVal_lenStr rfl rfl) | (apply v_min; exact OpVal_min rfl rfl rfl) | (apply v_max; exact OpVal_max rfl rfl rfl) | (apply v_fun; first | exact OpVal_aload rfl rfl (by omega) | exact OpVal_acas rfl rfl rfl rfl (by omega) (by omega))); decide +kernel; (first | exact Ent.refl _ | exact Ent.last | exact Ent.drop | (repeat (first | refine Ent.cons ?_ | refine Ent.objX ?_ | refine Ent.rowX ?_ | exact Ent.any | exact Ent.last))); rfl) | (apply EG_takeN 2; rfl; rfl; rfl; rfl; (first | exact .inl rfl | exact .inr rfl); decide +kernel; (first | exact Ent.refl _ | exact Ent.last | exact Ent.drop | (repeat (first | refine Ent.cons ?_ | refine Ent.objX ?_ | refine Ent.rowX ?_ | exact Ent.any | exact Ent.last))); rfl) | (apply EG_takeQ 3; rfl; rfl; rfl; rfl; (first | (apply v_move; exact OpVal_quick rfl) | (apply v_assign; exact OpVal_quick rfl) | (apply v_extract; exact OpVal_quick rfl) | (apply v_load; first | exact OpVal_load rfl rfl rfl | exact OpVal_loadAgg rfl rfl rfl | exact OpVal_loadR rfl rfl (by omega) | exact OpVal_loadAggR rfl rfl (by omega) (by omega) | exact OpVal_loadO rfl rfl (by omega)) | (apply v_fieldAddr; exact OpVal_fieldAddr rfl rfl) | (apply v_nilCheck; exact OpVal_nilCheck rfl rfl) | (apply v_eql; first | exact OpVal_decT rfl (by omega) | exact OpVal_decF rfl (by omega) | exact OpVal_pure rfl | exact OpVal_isNil rfl rfl | exact OpVal_ptrEq rfl rfl rfl (by first | exact .inl rfl | exact .inr rfl) | exact OpVal_strEq rfl rfl rfl | exact OpVal_aggEq rfl rfl rfl rfl rfl | exact OpVal_boolEq rfl rfl rfl) | (apply v_neq; first | exact OpVal_ndecT rfl (by omega) | exact OpVal_ndecF rfl (by omega) | exact OpVal_pure rfl | exact OpVal_notNil rfl rfl | exact OpVal_ptrNe rfl rfl rfl (by first | exact .inl rfl | exact .inr rfl) | exact OpVal_strNe rfl rfl rfl | exact OpVal_aggNe rfl rfl rfl rfl rfl | exact OpVal_boolNe rfl rfl rfl) | (apply v_lss; first | exact OpVal_decT rfl (by omega) | exact OpVal_decF rfl (by omega) | exact OpVal_pure rfl) | (apply v_leq; first | exact OpVal_decT rfl (by omega) | exact OpVal_decF rfl (by omega) | exact OpVal_pure rfl) | (apply v_gtr; first | exact OpVal_decT rfl (by omega) | exact OpVal_decF rfl (by omega) | exact OpVal_pure rfl) | (apply v_geq; first | exact OpVal_decT rfl (by omega) | exact OpVal_decF rfl (by omega) | exact OpVal_pure rfl) | (apply v_add; first | exact OpVal_add rfl rfl rfl (by simp only [InK]; omega) | exact OpVal_pure rfl | exact OpVal_strAdd rfl rfl rfl (by first | omega | ((try simp only [List.length_cons, List.length_nil, List.length_append, List.length_take, List.length_drop]); omega))) | (apply v_sub; first | exact OpVal_sub rfl rfl rfl (by simp only [InK]; omega) | exact OpVal_pure rfl) | (apply v_mul; first | exact OpVal_mul rfl rfl rfl (by simp only [InK]; omega) | exact OpVal_pure rfl) | (apply v_and; exact OpVal_quick rfl) | (apply v_or; exact OpVal_quick rfl) | (apply v_xor; exact OpVal_quick rfl) | (apply v_andNot; exact OpVal_quick rfl) | (apply v_quo; exact OpVal_quo rfl rfl rfl (by omega) (by omega) (by simp only [InK]; omega)) | (apply v_rem; first | exact OpVal_rem rfl rfl rfl (by omega) (by omega) | exact OpVal_remT rfl rfl rfl (by decide)) | (apply v_shr; exact OpVal_shr rfl rfl rfl (by first | decide | omega | (simp only [IntKind.bits]; omega)) (by first | decide | omega | (simp only [IntKind.bits]; omega))) | (apply v_shl; exact OpVal_shl rfl rfl rfl (by first | decide | omega | (simp only [IntKind.bits]; omega)) (by first | decide | omega | (simp only [IntKind.bits]; omega))) | (apply v_indexAddr; first | exact OpVal_indexAddr rfl rfl rfl (by omega) (by omega) | exact OpVal_indexArrAddr rfl rfl rfl (by omega)) | (apply v_index; first | exact OpVal_indexStr rfl rfl rfl (by first | omega | ((try simp only [List.length_cons, List.length_nil, List.length_append, List.length_take, List.length_drop]); omega)) | exact OpVal_indexArr rfl rfl rfl (by omega) (by omega)) | (apply v_convert; first | exact OpVal_convertIn rfl rfl (by simp only [InK]; omega) | exact OpVal_convert rfl rfl | exact OpVal_bytesStr rfl rfl (by first | omega | (refine ⟨?_, ?_⟩ <;> omega)) rfl) | (apply v_build; first | exact OpVal_build rfl rfl | exact OpVal_buildArr rfl rfl) | (apply v_field; first | exact OpVal_field rfl rfl rfl | exact OpVal_fieldA rfl rfl rfl) | (apply v_slice; first | exact OpVal_sliceLo rfl rfl rfl (by first | omega | ((try simp only [List.length_cons, List.length_nil, List.length_append, List.length_take, List.length_drop]); omega)) | exact OpVal_sliceHi rfl rfl rfl (by first | omega | ((try simp only [List.length_cons, List.length_nil, List.length_append, List.length_take, List.length_drop]); omega)) | exact OpVal_rowLo rfl rfl rfl (by omega) | exact OpVal_rowHi rfl rfl rfl (by omega) | exact OpVal_rowNil rfl rfl | exact OpVal_rowBoth rfl rfl rfl rfl (by omega) (by omega)) | (apply v_makeFunc; exact OpVal_makeFunc rfl rfl rfl) | (apply v_pick; exact OpVal_quick rfl) | (apply v_unOp; first | exact OpVal_quick rfl | exact OpVal_compl16 rfl rfl (by omega) | exact OpVal_compl rfl rfl) | (apply v_len; first | exact OpVal_len rfl rfl | exact OpVal_lenStr rfl rfl) | (apply v_min; exact OpVal_min rfl rfl rfl) | (apply v_max; exact OpVal_max rfl rfl rfl) | (apply v_fun; first | exact OpVal_aload rfl rfl (by omega) | exact OpVal_acas rfl rfl rfl rfl (by omega) (by omega))); decide +kernel; (first | exact Ent.refl _ | exact Ent.last | exact Ent.drop | (repeat (first | refine Ent.cons ?_ | refine Ent.objX ?_ | refine Ent.rowX ?_ | exact Ent.any | exact Ent.last))); rfl) | (apply EG_takeN 3; rfl; rfl; rfl; rfl; (first | exact .inl rfl | exact .inr rfl); decide +kernel; (first | exact Ent.refl _ | exact Ent.last | exact Ent.drop | (repeat (first | refine Ent.cons ?_ | refine Ent.objX ?_ | refine Ent.rowX ?_ | exact Ent.any | exact Ent.last))); rfl) | (apply EG_takeQ 4; rfl; rfl; rfl; rfl; (first | (apply v_move; exact OpVal_quick rfl) | (apply v_assign; exact OpVal_quick rfl) | (apply v_extract; exact OpVal_quick rfl) | (apply v_load; first | exact OpVal_load rfl rfl rfl | exact OpVal_loadAgg rfl rfl rfl | exact OpVal_loadR rfl rfl (by omega) | exact OpVal_loadAggR rfl rfl (by omega) (by omega) | exact OpVal_loadO rfl rfl (by omega)) | (apply v_fieldAddr; exact OpVal_fieldAddr rfl rfl) | (apply v_nilCheck; exact OpVal_nilCheck rfl rfl) | (apply v_eql; first | exact OpVal_decT rfl (by omega) | exact OpVal_decF rfl (by omega) | exact OpVal_pure rfl | exact OpVal_isNil rfl rfl | exact OpVal_ptrEq rfl rfl rfl (by first | exact .inl rfl | exact .inr rfl) | exact OpVal_strEq rfl rfl rfl | exact OpVal_aggEq rfl rfl rfl rfl rfl | exact OpVal_boolEq rfl rfl rfl) | (apply v_neq; first | exact OpVal_ndecT rfl (by omega) | exact OpVal_ndecF rfl (by omega) | exact OpVal_pure rfl | exact OpVal_notNil rfl rfl | exact OpVal_ptrNe rfl rfl rfl (by first | exact .inl rfl | exact .inr rfl) | exact OpVal_strNe rfl rfl rfl | exact OpVal_aggNe rfl rfl rfl rfl rfl | exact OpVal_boolNe rfl rfl rfl) | (apply v_lss; first | exact OpVal_decT rfl (by omega) | exact OpVal_decF rfl (by omega) | exact OpVal_pure rfl) | (apply v_leq; first | exact OpVal_decT rfl (by omega) | exact OpVal_decF rfl (by omega) | exact OpVal_pure rfl) | (apply v_gtr; first | exact OpVal_decT rfl (by omega) | exact OpVal_decF rfl (by omega) | exact OpVal_pure rfl) | (apply v_geq; first | exact OpVal_decT rfl (by omega) | exact OpVal_decF rfl (by omega) | exact OpVal_pure rfl) | (apply v_add; first | exact OpVal_add rfl rfl rfl (by simp only [InK]; omega) | exact OpVal_pure rfl | exact OpVal_strAdd rfl rfl rfl (by first | omega | ((try simp only [List.length_cons, List.length_nil, List.length_append, List.length_take, List.length_drop]); omega))) | (apply v_sub; first | exact OpVal_sub rfl rfl rfl (by simp only [InK]; omega) | exact OpVal_pure rfl) | (apply v_mul; first | exact OpVal_mul rfl rfl rfl (by simp only [InK]; omega) | exact OpVal_pure rfl) | (apply v_and; exact OpVal_quick rfl) | (apply v_or; exact OpVal_quick rfl) | (apply v_xor; exact OpVal_quick rfl) | (apply v_andNot; exact OpVal_quick rfl) | (apply v_quo; exact OpVal_quo rfl rfl rfl (by omega) (by omega) (by simp only [InK]; omega)) | (apply v_rem; first | exact OpVal_rem rfl rfl rfl (by omega) (by omega) | exact OpVal_remT rfl rfl rfl (by decide)) | (apply v_shr; exact OpVal_shr rfl rfl rfl (by first | decide | omega | (simp only [IntKind.bits]; omega)) (by first | decide | omega | (simp only [IntKind.bits]; omega))) | (apply v_shl; exact OpVal_shl rfl rfl rfl (by first | decide | omega | (simp only [IntKind.bits]; omega)) (by first | decide | omega | (simp only [IntKind.bits]; omega))) | (apply v_indexAddr; first | exact OpVal_indexAddr rfl rfl rfl (by omega) (by omega) | exact OpVal_indexArrAddr rfl rfl rfl (by omega)) | (apply v_index; first | exact OpVal_indexStr rfl rfl rfl (by first | omega | ((try simp only [List.length_cons, List.length_nil, List.length_append, List.length_take, List.length_drop]); omega)) | exact OpVal_indexArr rfl rfl rfl (by omega) (by omega)) | (apply v_convert; first | exact OpVal_convertIn rfl rfl (by simp only [InK]; omega) | exact OpVal_convert rfl rfl | exact OpVal_bytesStr rfl rfl (by first | omega | (refine ⟨?_, ?_⟩ <;> omega)) rfl) | (apply v_build; first | exact OpVal_build rfl rfl | exact OpVal_buildArr rfl rfl) | (apply v_field; first | exact OpVal_field rfl rfl rfl | exact OpVal_fieldA rfl rfl rfl) | (apply v_slice; first | exact OpVal_sliceLo rfl rfl rfl (by first | omega | ((try simp only [List.length_cons, List.length_nil, List.length_append, List.length_take, List.length_drop]); omega)) | exact OpVal_sliceHi rfl rfl rfl (by first | omega | ((try simp only [List.length_cons, List.length_nil, List.length_append, List.length_take, List.length_drop]); omega)) | exact OpVal_rowLo rfl rfl rfl (by omega) | exact OpVal_rowHi rfl rfl rfl (by omega) | exact OpVal_rowNil rfl rfl | exact OpVal_rowBoth rfl rfl rfl rfl (by omega) (by omega)) | (apply v_makeFunc; exact OpVal_makeFunc rfl rfl rfl) | (apply v_pick; exact OpVal_quick rfl) | (apply v_unOp; first | exact OpVal_quick rfl | exact OpVal_compl16 rfl rfl (by omega) | exact OpVal_compl rfl rfl) | (apply v_len; first | exact OpVal_len rfl rfl | exact OpVal_lenStr rfl rfl) | (apply v_min; exact OpVal_min rfl rfl rfl) | (apply v_max; exact OpVal_max rfl rfl rfl) | (apply v_fun; first | exact OpVal_aload rfl rfl (by omega) | exact OpVal_acas rfl rfl rfl rfl (by omega) (by omega))); decide +kernel; (first | exact Ent.refl _ | exact Ent.last | exact Ent.drop | (repeat (first | refine Ent.cons ?_ | refine Ent.objX ?_ | refine Ent.rowX ?_ | exact Ent.any | exact Ent.last))); rfl) | (apply EG_takeN 4; rfl; rfl; rfl; rfl; (first | exact .inl rfl | exact .inr rfl); decide +kernel; (first | exact Ent.refl _ | exact Ent.last | exact Ent.drop | (repeat (first | refine Ent.cons ?_ | refine Ent.objX ?_ | refine Ent.rowX ?_ | exact Ent.any | exact Ent.last))); rfl) | (apply EG_takeQ 5; rfl; rfl; rfl; rfl; (first | (apply v_move; exact OpVal_quick rfl) | (apply v_assign; exact OpVal_quick rfl) | (apply v_extract; exact OpVal_quick rfl) | (apply v_load; first | exact OpVal_load rfl rfl rfl | exact OpVal_loadAgg rfl rfl rfl | exact OpVal_loadR rfl rfl (by omega) | exact OpVal_loadAggR rfl rfl (by omega) (by omega) | exact OpVal_loadO rfl rfl (by omega)) | (apply v_fieldAddr; exact OpVal_fieldAddr rfl rfl) | (apply v_nilCheck; exact OpVal_nilCheck rfl rfl) | (apply v_eql; first | exact OpVal_decT rfl (by omega) | exact OpVal_decF rfl (by omega) | exact OpVal_pure rfl | exact OpVal_isNil rfl rfl | exact OpVal_ptrEq rfl rfl rfl (by first | exact .inl rfl | exact .inr rfl) | exact OpVal_strEq rfl rfl rfl | exact OpVal_aggEq rfl rfl rfl rfl rfl | exact OpVal_boolEq rfl rfl rfl) | (apply v_neq; first | exact OpVal_ndecT rfl (by omega) | exact OpVal_ndecF rfl (by omega) | exact OpVal_pure rfl | exact OpVal_notNil rfl rfl | exact OpVal_ptrNe rfl rfl rfl (by first | exact .inl rfl | exact .inr rfl) | exact OpVal_strNe rfl rfl rfl | exact OpVal_aggNe rfl rfl rfl rfl rfl | exact OpVal_boolNe rfl rfl rfl) | (apply v_lss; first | exact OpVal_decT rfl (by omega) | exact OpVal_decF rfl (by omega) | exact OpVal_pure rfl) | (apply v_leq; first | exact OpVal_decT rfl (by omega) | exact OpVal_decF rfl (by omega) | exact OpVal_pure rfl) | (apply v_gtr; first | exact OpVal_decT rfl (by omega) | exact OpVal_decF rfl (by omega) | exact OpVal_pure rfl) | (apply v_geq; first | exact OpVal_decT rfl (by omega) | exact OpVal_decF rfl (by omega) | exact OpVal_pure rfl) | (apply v_add; first | exact OpVal_add rfl rfl rfl (by simp only [InK]; omega) | exact OpVal_pure rfl | exact OpVal_strAdd rfl rfl rfl (by first | omega | ((try simp only [List.length_cons, List.length_nil, List.length_append, List.length_take, List.length_drop]); omega))) | (apply v_sub; first | exact OpVal_sub rfl rfl rfl (by simp only [InK]; omega) | exact OpVal_pure rfl) | (apply v_mul; first | exact OpVal_mul rfl rfl rfl (by simp only [InK]; omega) | exact OpVal_pure rfl) | (apply v_and; exact OpVal_quick rfl) | (apply v_or; exact OpVal_quick rfl) | (apply v_xor; exact OpVal_quick rfl) | (apply v_andNot; exact OpVal_quick rfl) | (apply v_quo; exact OpVal_quo rfl rfl rfl (by omega) (by omega) (by simp only [InK]; omega)) | (apply v_rem; first | exact OpVal_rem rfl rfl rfl (by omega) (by omega) | exact OpVal_remT rfl rfl rfl (by decide)) | (apply v_shr; exact OpVal_shr rfl rfl rfl (by first | decide | omega | (simp only [IntKind.bits]; omega)) (by first | decide | omega | (simp only [IntKind.bits]; omega))) | (apply v_shl; exact OpVal_shl rfl rfl rfl (by first | decide | omega | (simp only [IntKind.bits]; omega)) (by first | decide | omega | (simp only [IntKind.bits]; omega))) | (apply v_indexAddr; first | exact OpVal_indexAddr rfl rfl rfl (by omega) (by omega) | exact OpVal_indexArrAddr rfl rfl rfl (by omega)) | (apply v_index; first | exact OpVal_indexStr rfl rfl rfl (by first | omega | ((try simp only [List.length_cons, List.length_nil, List.length_append, List.length_take, List.length_drop]); omega)) | exact OpVal_indexArr rfl rfl rfl (by omega) (by omega)) | (apply v_convert; first | exact OpVal_convertIn rfl rfl (by simp only [InK]; omega) | exact OpVal_convert rfl rfl | exact OpVal_bytesStr rfl rfl (by first | omega | (refine ⟨?_, ?_⟩ <;> omega)) rfl) | (apply v_build; first | exact OpVal_build rfl rfl | exact OpVal_buildArr rfl rfl) | (apply v_field; first | exact OpVal_field rfl rfl rfl | exact OpVal_fieldA rfl rfl rfl) | (apply v_slice; first | exact OpVal_sliceLo rfl rfl rfl (by first | omega | ((try simp only [List.length_cons, List.length_nil, List.length_append, List.length_take, List.length_drop]); omega)) | exact OpVal_sliceHi rfl rfl rfl (by first | omega | ((try simp only [List.length_cons, List.length_nil, List.length_append, List.length_take, List.length_drop]); omega)) | exact OpVal_rowLo rfl rfl rfl (by omega) | exact OpVal_rowHi rfl rfl rfl (by omega) | exact OpVal_rowNil rfl rfl | exact OpVal_rowBoth rfl rfl rfl rfl (by omega) (by omega)) | (apply v_makeFunc; exact OpVal_makeFunc rfl rfl rfl) | (apply v_pick; exact OpVal_quick rfl) | (apply v_unOp; first | exact OpVal_quick rfl | exact OpVal_compl16 rfl rfl (by omega) | exact OpVal_compl rfl rfl) | (apply v_len; first | exact OpVal_len rfl rfl | exact OpVal_lenStr rfl rfl) | (apply v_min; exact OpVal_min rfl rfl rfl) | (apply v_max; exact OpVal_max rfl rfl rfl) | (apply v_fun; first | exact OpVal_aload rfl rfl (by omega) | exact OpVal_acas rfl rfl rfl rfl (by omega) (by omega))); decide +kernel; (first | exact Ent.refl _ | exact Ent.last | exact Ent.drop | (repeat (first | refine Ent.cons ?_ | refine Ent.objX ?_ | refine Ent.rowX ?_ | exact Ent.any | exact Ent.last))); rfl) | (apply EG_takeN 5; rfl; rfl; rfl; rfl; (first | exact .inl rfl | exact .inr rfl); decide +kernel; (first | exact Ent.refl _ | exact Ent.last | exact Ent.drop | (repeat (first | refine Ent.cons ?_ | refine Ent.objX ?_ | refine Ent.rowX ?_ | exact Ent.any | exact Ent.last))); rfl) | (apply EG_takeQ 6; rfl; rfl; rfl; rfl; (first | (apply v_move; exact OpVal_quick rfl) | (apply v_assign; exact OpVal_quick rfl) | (apply v_extract; exact OpVal_quick rfl) | (apply v_load; first | exact OpVal_load rfl rfl rfl | exact OpVal_loadAgg rfl rfl rfl | exact OpVal_loadR rfl rfl (by omega) | exact OpVal_loadAggR rfl rfl (by omega) (by omega) | exact OpVal_loadO rfl rfl (by omega)) | (apply v_fieldAddr; exact OpVal_fieldAddr rfl rfl) | (apply v_nilCheck; exact OpVal_nilCheck rfl rfl) | (apply v_eql; first | exact OpVal_decT rfl (by omega) | exact OpVal_decF rfl (by omega) | exact OpVal_pure rfl | exact OpVal_isNil rfl rfl | exact OpVal_ptrEq rfl rfl rfl (by first | exact .inl rfl | exact .inr rfl) | exact OpVal_strEq rfl rfl rfl | exact OpVal_aggEq rfl rfl rfl rfl rfl | exact OpVal_boolEq rfl rfl rfl) | (apply v_neq; first | exact OpVal_ndecT rfl (by omega) | exact OpVal_ndecF rfl (by omega) | exact OpVal_pure rfl | exact OpVal_notNil rfl rfl | exact OpVal_ptrNe rfl rfl rfl (by first | exact .inl rfl | exact .inr rfl) | exact OpVal_strNe rfl rfl rfl | exact OpVal_aggNe rfl rfl rfl rfl rfl | exact OpVal_boolNe rfl rfl rfl) | (apply v_lss; first | exact OpVal_decT rfl (by omega) | exact OpVal_decF rfl (by omega) | exact OpVal_pure rfl) | (apply v_leq; first | exact OpVal_decT rfl (by omega) | exact OpVal_decF rfl (by omega) | exact OpVal_pure rfl) | (apply v_gtr; first | exact OpVal_decT rfl (by omega) | exact OpVal_decF rfl (by omega) | exact OpVal_pure rfl) | (apply v_geq; first | exact OpVal_decT rfl (by omega) | exact OpVal_decF rfl (by omega) | exact OpVal_pure rfl) | (apply v_add; first | exact OpVal_add rfl rfl rfl (by simp only [InK]; omega) | exact OpVal_pure rfl | exact OpVal_strAdd rfl rfl rfl (by first | omega | ((try simp only [List.length_cons, List.length_nil, List.length_append, List.length_take, List.length_drop]); omega))) | (apply v_sub; first | exact OpVal_sub rfl rfl rfl (by simp only [InK]; omega) | exact OpVal_pure rfl) | (apply v_mul; first | exact OpVal_mul rfl rfl rfl (by simp only [InK]; omega) | exact OpVal_pure rfl) | (apply v_and; exact OpVal_quick rfl) | (apply v_or; exact OpVal_quick rfl) | (apply v_xor; exact OpVal_quick rfl) | (apply v_andNot; exact OpVal_quick rfl) | (apply v_quo; exact OpVal_quo rfl rfl rfl (by omega) (by omega) (by simp only [InK]; omega)) | (apply v_rem; first | exact OpVal_rem rfl rfl rfl (by omega) (by omega) | exact OpVal_remT rfl rfl rfl (by decide)) | (apply v_shr; exact OpVal_shr rfl rfl rfl (by first | decide | omega | (simp only [IntKind.bits]; omega)) (by first | decide | omega | (simp only [IntKind.bits]; omega))) | (apply v_shl; exact OpVal_shl rfl rfl rfl (by first | decide | omega | (simp only [IntKind.bits]; omega)) (by first | decide | omega | (simp only [IntKind.bits]; omega))) | (apply v_indexAddr; first | exact OpVal_indexAddr rfl rfl rfl (by omega) (by omega) | exact OpVal_indexArrAddr rfl rfl rfl (by omega)) | (apply v_index; first | exact OpVal_indexStr rfl rfl rfl (by first | omega | ((try simp only [List.length_cons, List.length_nil, List.length_append, List.length_take, List.length_drop]); omega)) | exact OpVal_indexArr rfl rfl rfl (by omega) (by omega)) | (apply v_convert; first | exact OpVal_convertIn rfl rfl (by simp only [InK]; omega) | exact OpVal_convert rfl rfl | exact OpVal_bytesStr rfl rfl (by first | omega | (refine ⟨?_, ?_⟩ <;> omega)) rfl) | (apply v_build; first | exact OpVal_build rfl rfl | exact OpVal_buildArr rfl rfl) | (apply v_field; first | exact OpVal_field rfl rfl rfl | exact OpVal_fieldA rfl rfl rfl) | (apply v_slice; first | exact OpVal_sliceLo rfl rfl rfl (by first | omega | ((try simp only [List.length_cons, List.length_nil, List.length_append, List.length_take, List.length_drop]); omega)) | exact OpVal_sliceHi rfl rfl rfl (by first | omega | ((try simp only [List.length_cons, List.length_nil, List.length_append, List.length_take, List.length_drop]); omega)) | exact OpVal_rowLo rfl rfl rfl (by omega) | exact OpVal_rowHi rfl rfl rfl (by omega) | exact OpVal_rowNil rfl rfl | exact OpVal_rowBoth rfl rfl rfl rfl (by omega) (by omega)) | (apply v_makeFunc; exact OpVal_makeFunc rfl rfl rfl) | (apply v_pick; exact OpVal_quick rfl) | (apply v_unOp; first | exact OpVal_quick rfl | exact OpVal_compl16 rfl rfl (by omega) | exact OpVal_compl rfl rfl) | (apply v_len; first | exact OpVal_len rfl rfl | exact OpVal_lenStr rfl rfl) | (apply v_min; exact OpVal_min rfl rfl rfl) | (apply v_max; exact OpVal_max rfl rfl rfl) | (apply v_fun; first | exact OpVal_aload rfl rfl (by omega) | exact OpVal_acas rfl rfl rfl rfl (by omega) (by omega))); decide +kernel; (first | exact Ent.refl _ | exact Ent.last | exact Ent.drop | (repeat (first | refine Ent.cons ?_ | refine Ent.objX ?_ | refine Ent.rowX ?_ | exact Ent.any | exact Ent.last))); rfl) | (apply EG_takeN 6; rfl; rfl; rfl; rfl; (first | exact .inl rfl | exact .inr rfl); decide +kernel; (first | exact Ent.refl _ | exact Ent.last | exact Ent.drop | (repeat (first | refine Ent.cons ?_ | refine Ent.objX ?_ | refine Ent.rowX ?_ | exact Ent.any | exact Ent.last))); rfl) | (apply EG_takeQ 7; rfl; rfl; rfl; rfl; (first | (apply v_move; exact OpVal_quick rfl) | (apply v_assign; exact OpVal_quick rfl) | (apply v_extract; exact OpVal_quick rfl) | (apply v_load; first | exact OpVal_load rfl rfl rfl | exact OpVal_loadAgg rfl rfl rfl | exact OpVal_loadR rfl rfl (by omega) | exact OpVal_loadAggR rfl rfl (by omega) (by omega) | exact OpVal_loadO rfl rfl (by omega)) | (apply v_fieldAddr; exact OpVal_fieldAddr rfl rfl) | (apply v_nilCheck; exact OpVal_nilCheck rfl rfl) | (apply v_eql; first | exact OpVal_decT rfl (by omega) | exact OpVal_decF rfl (by omega) | exact OpVal_pure rfl | exact OpVal_isNil rfl rfl | exact OpVal_ptrEq rfl rfl rfl (by first | exact .inl rfl | exact .inr rfl) | exact OpVal_strEq rfl rfl rfl | exact OpVal_aggEq rfl rfl rfl rfl rfl | exact OpVal_boolEq rfl rfl rfl) | (apply v_neq; first | exact OpVal_ndecT rfl (by omega) | exact OpVal_ndecF rfl (by omega) | exact OpVal_pure rfl | exact OpVal_notNil rfl rfl | exact OpVal_ptrNe rfl rfl rfl (by first | exact .inl rfl | exact .inr rfl) | exact OpVal_strNe rfl rfl rfl | exact OpVal_aggNe rfl rfl rfl rfl rfl | exact OpVal_boolNe rfl rfl rfl) | (apply v_lss; first | exact OpVal_decT rfl (by omega) | exact OpVal_decF rfl (by omega) | exact OpVal_pure rfl) | (apply v_leq; first | exact OpVal_decT rfl (by omega) | exact OpVal_decF rfl (by omega) | exact OpVal_pure rfl) | (apply v_gtr; first | exact OpVal_decT rfl (by omega) | exact OpVal_decF rfl (by omega) | exact OpVal_pure rfl) | (apply v_geq; first | exact OpVal_decT rfl (by omega) | exact OpVal_decF rfl (by omega) | exact OpVal_pure rfl) | (apply v_add; first | exact OpVal_add rfl rfl rfl (by simp only [InK]; omega) | exact OpVal_pure rfl | exact OpVal_strAdd rfl rfl rfl (by first | omega | ((try simp only [List.length_cons, List.length_nil, List.length_append, List.length_take, List.length_drop]); omega))) | (apply v_sub; first | exact OpVal_sub rfl rfl rfl (by simp only [InK]; omega) | exact OpVal_pure rfl) | (apply v_mul; first | exact OpVal_mul rfl rfl rfl (by simp only [InK]; omega) | exact OpVal_pure rfl) | (apply v_and; exact OpVal_quick rfl) | (apply v_or; exact OpVal_quick rfl) | (apply v_xor; exact OpVal_quick rfl) | (apply v_andNot; exact OpVal_quick rfl) | (apply v_quo; exact OpVal_quo rfl rfl rfl (by omega) (by omega) (by simp only [InK]; omega)) | (apply v_rem; first | exact OpVal_rem rfl rfl rfl (by omega) (by omega) | exact OpVal_remT rfl rfl rfl (by decide)) | (apply v_shr; exact OpVal_shr rfl rfl rfl (by first | decide | omega | (simp only [IntKind.bits]; omega)) (by first | decide | omega | (simp only [IntKind.bits]; omega))) | (apply v_shl; exact OpVal_shl rfl rfl rfl (by first | decide | omega | (simp only [IntKind.bits]; omega)) (by first | decide | omega | (simp only [IntKind.bits]; omega))) | (apply v_indexAddr; first | exact OpVal_indexAddr rfl rfl rfl (by omega) (by omega) | exact OpVal_indexArrAddr rfl rfl rfl (by omega)) | (apply v_index; first | exact OpVal_indexStr rfl rfl rfl (by first | omega | ((try simp only [List.length_cons, List.length_nil, List.length_append, List.length_take, List.length_drop]); omega)) | exact OpVal_indexArr rfl rfl rfl (by omega) (by omega)) | (apply v_convert; first | exact OpVal_convertIn rfl rfl (by simp only [InK]; omega) | exact OpVal_convert rfl rfl | exact OpVal_bytesStr rfl rfl (by first | omega | (refine ⟨?_, ?_⟩ <;> omega)) rfl) | (apply v_build; first | exact OpVal_build rfl rfl | exact OpVal_buildArr rfl rfl) | (apply v_field; first | exact OpVal_field rfl rfl rfl | exact OpVal_fieldA rfl rfl rfl) | (apply v_slice; first | exact OpVal_sliceLo rfl rfl rfl (by first | omega | ((try simp only [List.length_cons, List.length_nil, List.length_append, List.length_take, List.length_drop]); omega)) | exact OpVal_sliceHi rfl rfl rfl (by first | omega | ((try simp only [List.length_cons, List.length_nil, List.length_append, List.length_take, List.length_drop]); omega)) | exact OpVal_rowLo rfl rfl rfl (by omega) | exact OpVal_rowHi rfl rfl rfl (by omega) | exact OpVal_rowNil rfl rfl | exact OpVal_rowBoth rfl rfl rfl rfl (by omega) (by omega)) | (apply v_makeFunc; exact OpVal_makeFunc rfl rfl rfl) | (apply v_pick; exact OpVal_quick rfl) | (apply v_unOp; first | exact OpVal_quick rfl | exact OpVal_compl16 rfl rfl (by omega) | exact OpVal_compl rfl rfl) | (apply v_len; first | exact OpVal_len rfl rfl | exact OpVal_lenStr rfl rfl) | (apply v_min; exact OpVal_min rfl rfl rfl) | (apply v_max; exact OpVal_max rfl rfl rfl) | (apply v_fun; first | exact OpVal_aload rfl rfl (by omega) | exact OpVal_acas rfl rfl rfl rfl (by omega) (by omega))); decide +kernel; (first | exact Ent.refl _ | exact Ent.last | exact Ent.drop | (repeat (first | refine Ent.cons ?_ | refine Ent.objX ?_ | refine Ent.rowX ?_ | exact Ent.any | exact Ent.last))); rfl) | (apply EG_takeN 7; rfl; rfl; rfl; rfl; (first | exact .inl rfl | exact .inr rfl); decide +kernel; (first | exact Ent.refl _ | exact Ent.last | exact Ent.drop | (repeat (first | refine Ent.cons ?_ | refine Ent.objX ?_ | refine Ent.rowX ?_ | exact Ent.any | exact Ent.last))); rfl)); exact h.out) : G := h ⟨k⟩

end Go.Proofs.YtianbkbehjppoaaGreatDoor

namespace Go.Proofs.YtianbkbehjppoaaGreatDoor
open Go.RowKit
variable {X : Cx} {k : List KI} {σ : Env} {H S : SL} {ops : List Oper} {fuel L : Nat} {listed : Array Bool}
theorem EG_callL {α : Type} {r : α → Value} {H' : α → SL} {f : FuncId} [IsFn X.P f] {args : Array Operand} {ats : Array TypeId} {vs : List Value} {d : Nat} {ty : TypeId} {pos : String} {aft : Array Edge} {g : Option (Nat × Bool)} {ls : Array Bool}
    (hi : ops.toArray[L]? = some ⟨some d, .call { callee := .value (.func f), args := args, argTypes := ats }, ty, pos, aft, g⟩) (hargs : evs σ args.toList = some vs) (hg : guardV ops σ g = some true) (hl : listed.setIfInBounds L true = ls) (hc : Spec X.P f vs X.W H r H')
    (h : ∀ x, EG X k ops S L fuel ls ((d, r x) :: σ) (H' x)) (hr : Region.ready .any ops.toArray listed = [L] := by decide +kernel) (hd : Nat.blt d X.N = true := by rfl) : EG X k ops S L (fuel + 1) listed σ H := by
  subst hl
  intro a w ha hw
  refine EG_all hr ?_
  unfold wpOp
  rw [hi]
  simp only [guardV_spec ha hg, Oper.wp, if_true]
  refine .inl ?_
  have hrun := run_call (d := some d) (ty := ty) (pos := pos) (aft := aft) (ats := ats) (f := f) (w := w) ha hargs
  have hrun' : (execOp a.eval ⟨some d, .call { callee := .value (.func f), args := args, argTypes := ats }, ty, pos, aft, g⟩).run X.P w = .ok (.enter f vs.toArray) w := hrun
  rw [hrun', Oper.upon_enter]
  refine (hc w hw).mono ?_
  rintro e w' ⟨x, rfl, hs'⟩
  exact ⟨fun e => absurd rfl e.1, h x _ _ (ha.put hd _) hs'⟩
/-- Operation i, whatever else could come. -/
def EI (X : Cx) (k : List KI) (ops : List Oper) (S : SL) (L fuel : Nat) (listed : Array Bool) (i : Nat) (σ : Env) (H : SL) : Prop :=
  ∀ a w, Fits X.N a σ → Sat X.W w H → wpOp X.P ops.toArray (onlyQ (run X.P X.R k .normal)) i (fun a' w' => (i ≠ L ∧ ¬ didL ops.toArray listed L → Sat X.W w' S) ∧ wpAnyL X.P .any ops.toArray (onlyQ (run X.P X.R k .normal)) (fun w => Sat X.W w S) L fuel (listed.setIfInBounds i true) a' w') a w
theorem EG_two {i j : Nat} (h1 : EI X k ops S L fuel listed i σ H) (h2 : EI X k ops S L fuel listed j σ H) (hr : Region.ready .any ops.toArray listed = [i, j] := by decide +kernel) : EG X k ops S L (fuel + 1) listed σ H := fun a w ha hw =>
  ⟨fun h0 => (by rw [hr] at h0; cases h0), fun l hl => by
    rw [hr] at hl
    rcases List.mem_cons.1 hl with rfl | hl
    · exact h1 a w ha hw
    · rw [List.mem_singleton] at hl
      subst hl
      exact h2 a w ha hw⟩
theorem EI_does {α : Type} {r : α → Value} {H' : α → SL} {d : Nat} {op : Op} {ty : TypeId} {pos : String} {aft : Array Edge} {i : Nat} (hi : ops.toArray[i]? = some ⟨some d, op, ty, pos, aft, none⟩) (hd : Nat.blt d X.N = true)
    (hv : OpDoes X σ H ⟨some d, op, ty, pos, aft, none⟩ r H') {ls : Array Bool} (hl : listed.setIfInBounds i true = ls)
    (hS : ∀ x, Ent (H' x) S) (h : ∀ x, EG X k ops S L fuel ls ((d, r x) :: σ) (H' x)) : EI X k ops S L fuel listed i σ H := by
  subst hl
  intro a w ha hw
  obtain ⟨x, w', h1, h2⟩ := hv a w ha hw
  unfold wpOp
  rw [hi]
  simp only [Region.wanted, Oper.wp, h1, Oper.upon, if_true]
  exact .inl ⟨fun _ => (hS x).sat _ h2, h x _ _ (ha.put hd _) h2⟩
theorem EI_callQ {α : Type} {r : α → Value} {H' : α → SL} {f : FuncId} [IsFn X.P f] {args : Array Operand} {ats : Array TypeId} {vs : List Value} {d : Nat} {ty : TypeId} {pos : String} {aft : Array Edge} {g : Option (Nat × Bool)} {i : Nat} {ls : Array Bool}
    (hi : ops.toArray[i]? = some ⟨some d, .call { callee := .value (.func f), args := args, argTypes := ats }, ty, pos, aft, g⟩) (hargs : evs σ args.toList = some vs) (hg : guardV ops σ g = some true) (hl : listed.setIfInBounds i true = ls) (hc : Spec X.P f vs X.W H r H') (hS : ∀ x, Ent (H' x) S)
    (h : ∀ x, EG X k ops S L fuel ls ((d, r x) :: σ) (H' x)) (hd : Nat.blt d X.N = true := by rfl) : EI X k ops S L fuel listed i σ H := by
  subst hl
  intro a w ha hw
  unfold wpOp
  rw [hi]
  simp only [guardV_spec ha hg, Oper.wp, if_true]
  refine .inl ?_
  have hrun := run_call (d := some d) (ty := ty) (pos := pos) (aft := aft) (ats := ats) (f := f) (w := w) ha hargs
  have hrun' : (execOp a.eval ⟨some d, .call { callee := .value (.func f), args := args, argTypes := ats }, ty, pos, aft, g⟩).run X.P w = .ok (.enter f vs.toArray) w := hrun
  rw [hrun', Oper.upon_enter]
  refine (hc w hw).mono ?_
  rintro e w' ⟨x, rfl, hs'⟩
  exact ⟨fun _ => (hS x).sat _ hs', h x _ _ (ha.put hd _) hs'⟩
end Go.Proofs.YtianbkbehjppoaaGreatDoor

namespace Go.Proofs.YtianbkbehjppoaaGreatDoor
open Go.RowKit
set_option maxRecDepth 10000
attribute [local irreducible] EK EX ER EN EL ES EG OpVal OpDoes OpSkip
variable {W : World} {F : SL} {X : Cx} {k : List KI} {σ : Env}
theorem and_low {a : Nat} (k : Nat) : a &&& (2 ^ k - 1) = a % 2 ^ k := Nat.and_two_pow_sub_one_eq_mod a k
theorem u64_m16 {m : Nat} (h : m < 18446744073709551616) : bits .and .u64 (m : Int) 65535 = ((m % 65536 : Nat) : Int) := by
  rw [show (65535 : Int) = ((65535 : Nat) : Int) from rfl, u64_and_nat m 65535 h (by decide)]
  exact congrArg _ (and_low 16)
theorem shr_n (m k : Nat) : (m : Int) / 2 ^ Int.toNat (k : Int) = ((m / 2 ^ k : Nat) : Int) := by
  rw [Int.toNat_natCast]
  simp
theorem w16 {a : Nat} (h : a < 65536) : IntKind.u16.wrap (a : Int) = (a : Int) := InK.wrap (by simp only [InK]; omega)
theorem w16m (a : Nat) : IntKind.u16.wrap (a : Int) = ((a % 65536 : Nat) : Int) := by
  rw [IntKind.wrap_u16]
  omega
theorem raw_next {l : List UInt8} {i : Nat} (hi : i < l.length) : rawS true (l.take (i + 1)) = rawS true (l.take i) + b1 l i * (if i % 2 = 0 then 256 else 1) := by
  rw [List.take_succ_eq_append_getElem hi, rawS_snoc, List.length_take, Nat.min_eq_left (Nat.le_of_lt hi)]
  congr 2
  unfold b1
  rw [List.getD_eq_getElem?_getD, List.getElem?_eq_getElem hi, Option.getD_some]
theorem raw_step {l : List UInt8} {i n : Nat} (hi : i < l.length) (hl : l.length ≤ 1000000) (hn : n < 4294967296) : IntKind.u64.wrap (((n + rawS true (l.take i) : Nat) : Int) + IntKind.u64.wrap ((b1 l i : Int) * 2 ^ (8 * (1 - (i : Int) % 2)).toNat)) = ((n + rawS true (l.take (i + 1)) : Nat) : Int) := by
  have hb := b1_lt l i
  have hr := rawS_le true (l.take i)
  have hr2 : 65280 * (l.take i).length ≤ 65280 * 1000000 := Nat.mul_le_mul_left _ (by rw [List.length_take]; omega)
  rw [raw_next hi]
  by_cases h : i % 2 = 0
  · rw [if_pos h, show (8 * (1 - (i : Int) % 2)).toNat = 8 by omega, InK.wrap (k := .u64) (z := (b1 l i : Int) * 2 ^ 8) (by simp only [InK]; omega), InK.wrap (k := .u64) (by simp only [InK]; omega)]
    omega
  · rw [if_neg h, show (8 * (1 - (i : Int) % 2)).toNat = 0 by omega, InK.wrap (k := .u64) (z := (b1 l i : Int) * 2 ^ 0) (by simp only [InK]; omega), InK.wrap (k := .u64) (by simp only [InK]; omega)]
    omega
theorem fold_spec {n : Nat} (hn : n < 18446744073709551616) : Spec Tryz.prog 166 [.int .u64 (n : Int)] W F (fun _ : Unit => .int .u32 (foldN n : Int)) (fun _ => F) := by
  refine Spec.of Tryz.func166 rfl Tryz.ntmps166 rfl ?_
  repeat (first | refine go ?_ | (refine goX ?_; intro))
  refine EK_loop (γ := Nat) (fun m => m < 18446744073709551616 ∧ foldN m = foldN n) (fun m => [(0, .int .u64 (m : Int))]) (fun _ => F) (fun m => m) n ⟨hn, rfl⟩ ⟨rfl, trivial⟩ (Ent.sat (Ent.refl _)) ?_
  intro m ⟨h1, h2⟩
  by_cases h : m ≤ 65535
  · rw [foldN_small h] at h2
    repeat (first | refine go ?_ | (refine goX ?_; intro))
    exact EK_ret (ER_1 rfl rfl () (by rw [h2]) (Ent.sat (by first | exact Ent.refl _ | exact Ent.last | (repeat (first | refine Ent.cons ?_ | exact Ent.any | exact Ent.last)))))
  · repeat (first | refine go ?_ | (refine goX ?_; intro))
    rw [u64_m16 h1, show (m : Int) / 2 ^ Int.toNat 16 = ((m / 65536 : Nat) : Int) from shr_n m 16, InK.wrap (k := .u64) (z := ((m / 65536 : Nat) : Int) + ((m % 65536 : Nat) : Int)) (by simp only [InK]; omega)]
    exact EK_round (m / 65536 + m % 65536) ⟨by omega, by rw [foldN_step (by omega), h2]⟩ (by omega) ⟨rfl, trivial⟩ (Ent.sat (by first | exact Ent.refl _ | exact Ent.last | (repeat (first | refine Ent.cons ?_ | exact Ent.any | exact Ent.last))))
theorem done_spec {n : Nat} (hn : n < 4294967296) : Spec Tryz.prog 138 [.int .u32 (n : Int)] W F (fun _ : Unit => .int .u16 ((65535 - foldN n : Nat) : Int)) (fun _ => F) := by
  refine Spec.of Tryz.func138 rfl Tryz.ntmps138 rfl ?_
  repeat (first | refine go ?_ | (refine goX ?_; intro))
  refine EL_call rfl (fold_spec (by omega)) ?_
  intro _
  have hf := foldN_le n
  repeat (first | refine go ?_ | (refine goX ?_; intro))
  exact EK_ret (ER_1 rfl rfl () (by rw [show (65535 : Int) - (foldN n : Int) = ((65535 - foldN n : Nat) : Int) by omega]) (Ent.sat (by first | exact Ent.refl _ | exact Ent.last | (repeat (first | refine Ent.cons ?_ | exact Ent.any | exact Ent.last)))))
theorem Fix_spec {s old now : Nat} (h1 : s < 65536) (h2 : old < 65536) (h3 : now < 65536) : Spec Tryz.prog 149 [.int .u16 (s : Int), .int .u16 (old : Int), .int .u16 (now : Int)] W F (fun _ : Unit => .int .u16 (fixN s old now : Int)) (fun _ => F) := by
  refine Spec.of Tryz.func149 rfl Tryz.ntmps149 rfl ?_
  repeat (first | refine go ?_ | (refine goX ?_; intro))
  rw [show (65535 : Int) - (s : Int) + (65535 - (old : Int)) + (now : Int) = ((65535 - s + (65535 - old) + now : Nat) : Int) by omega]
  refine EL_call rfl (done_spec (n := 65535 - s + (65535 - old) + now) (by omega)) ?_
  intro _
  repeat (first | refine go ?_ | (refine goX ?_; intro))
  exact EK_ret (ER_1 rfl rfl () rfl (Ent.sat (by first | exact Ent.refl _ | exact Ent.last | (repeat (first | refine Ent.cons ?_ | exact Ent.any | exact Ent.last)))))
theorem FixWide_spec {s old now : Nat} (h1 : s < 65536) (h2 : old < 4294967296) (h3 : now < 4294967296) : Spec Tryz.prog 169 [.int .u16 (s : Int), .int .u32 (old : Int), .int .u32 (now : Int)] W F (fun _ : Unit => .int .u16 (fixW s old now : Int)) (fun _ => F) := by
  refine Spec.of Tryz.func169 rfl Tryz.ntmps169 rfl ?_
  repeat (first | refine go ?_ | (refine goX ?_; intro))
  rw [show (old : Int) / 2 ^ Int.toNat 16 = ((old / 65536 : Nat) : Int) from shr_n old 16, show (now : Int) / 2 ^ Int.toNat 16 = ((now / 65536 : Nat) : Int) from shr_n now 16]
  rw [w16 (a := old / 65536) (by omega), w16 (a := now / 65536) (by omega)]
  refine EL_call rfl (Fix_spec h1 (by omega) (by omega)) ?_
  intro _
  have hf := fixN_lt s (old / 65536) (now / 65536)
  repeat (first | refine go ?_ | (refine goX ?_; intro))
  rw [w16m old, w16m now]
  refine EL_call rfl (Fix_spec hf (by omega) (by omega)) ?_
  intro _
  repeat (first | refine go ?_ | (refine goX ?_; intro))
  exact EK_ret (ER_1 rfl rfl () rfl (Ent.sat (by first | exact Ent.refl _ | exact Ent.last | (repeat (first | refine Ent.cons ?_ | exact Ent.any | exact Ent.last)))))
theorem More_spec {n : Nat} (hn : n < 4294967296) (p : Option Addr) (c : Nat) (l : List UInt8) (hl : l.length ≤ 1000000) [Src W F p l.length (bytesR l)] : Spec Tryz.prog 139 [.int .u32 (n : Int), .slice p l.length c] W F (fun _ : Unit => .int .u32 (foldN (n + rawS true l) : Int)) (fun _ => F) := by
  refine Spec.of Tryz.func139 rfl Tryz.ntmps139 rfl ?_
  repeat (first | refine go ?_ | (refine goX ?_; intro))
  refine EK_loop (γ := Nat) (fun i => i ≤ l.length) (fun i => [(0, .int .u32 (n : Int)), (5, .int .u64 ((n + rawS true (l.take i) : Nat) : Int)), (11, .slice p l.length c), (12, .int .i64 (l.length : Int)), (13, .int .i64 (i : Int))]) (fun _ => F) (fun i => l.length - i) 0 (Nat.zero_le _) ⟨rfl, rfl, rfl, rfl, rfl, trivial⟩ (Ent.sat (Ent.refl _)) ?_
  intro i h1
  by_cases hi : i < l.length
  · have hb : (l.getD i 0).toNat < 256 := b1_lt l i
    repeat (first | refine go ?_ | (refine goX ?_; intro))
    refine EK_round (i + 1) hi (by omega) ⟨rfl, ?_, rfl, rfl, rfl, trivial⟩ (Ent.sat (by first | exact Ent.refl _ | exact Ent.last | (repeat (first | refine Ent.cons ?_ | exact Ent.any | exact Ent.last))))
    rw [← raw_step hi hl hn]
    rfl
  · have e : i = l.length := by omega
    subst e
    rw [List.take_length]
    have hr := rawS_le true l
    have hr2 : 65280 * l.length ≤ 65280 * 1000000 := Nat.mul_le_mul_left _ hl
    repeat (first | refine go ?_ | (refine goX ?_; intro))
    refine EL_call rfl (fold_spec (by omega)) ?_
    intro _
    repeat (first | refine go ?_ | (refine goX ?_; intro))
    exact EK_ret (ER_1 rfl rfl () rfl (Ent.sat (by first | exact Ent.refl _ | exact Ent.last | (repeat (first | refine Ent.cons ?_ | exact Ent.any | exact Ent.last)))))
theorem Of_spec (p : Option Addr) (c : Nat) (l : List UInt8) (hl : l.length ≤ 1000000) [Src W F p l.length (bytesR l)] : Spec Tryz.prog 118 [.slice p l.length c] W F (fun _ : Unit => .int .u16 (csum l : Int)) (fun _ => F) := by
  refine Spec.of Tryz.func118 rfl Tryz.ntmps118 rfl ?_
  repeat (first | refine go ?_ | (refine goX ?_; intro))
  refine EL_call rfl (More_spec (n := 0) (by decide) p c l hl) ?_
  intro _
  have hf := foldN_le (0 + rawS true l)
  refine EL_call rfl (done_spec (n := foldN (0 + rawS true l)) (by omega)) ?_
  intro _
  repeat (first | refine go ?_ | (refine goX ?_; intro))
  refine EK_ret (ER_1 rfl rfl () ?_ (Ent.sat (by first | exact Ent.refl _ | exact Ent.last | (repeat (first | refine Ent.cons ?_ | exact Ent.any | exact Ent.last)))))
  rw [foldN_small hf, Nat.zero_add]
  rfl
theorem rFold_spec {n : Nat} (hn : n < 9223372036854775808) : Spec Tryz.prog 116 [.int .i64 (n : Int)] W F (fun _ : Unit => .int .i64 (foldN n : Int)) (fun _ => F) := by
  refine Spec.of Tryz.func116 rfl Tryz.ntmps116 rfl ?_
  repeat (first | refine go ?_ | (refine goX ?_; intro))
  refine EK_loop (γ := Nat) (fun m => m < 9223372036854775808 ∧ foldN m = foldN n) (fun m => [(0, .int .i64 (m : Int))]) (fun _ => F) (fun m => m) n ⟨hn, rfl⟩ ⟨rfl, trivial⟩ (Ent.sat (Ent.refl _)) ?_
  intro m ⟨h1, h2⟩
  by_cases h : m ≤ 65535
  · rw [foldN_small h] at h2
    repeat (first | refine go ?_ | (refine goX ?_; intro))
    exact EK_ret (ER_1 rfl rfl () (by rw [h2]) (Ent.sat (by first | exact Ent.refl _ | exact Ent.last | (repeat (first | refine Ent.cons ?_ | exact Ent.any | exact Ent.last)))))
  · repeat (first | refine go ?_ | (refine goX ?_; intro))
    exact EK_round (m / 65536 + m % 65536) ⟨by omega, by rw [foldN_step (by omega), h2]⟩ (by omega) ⟨rfl, trivial⟩ (Ent.sat (by first | exact Ent.refl _ | exact Ent.last | (repeat (first | refine Ent.cons ?_ | exact Ent.any | exact Ent.last))))
theorem rSum_spec {n : Nat} (hn : n ≤ 65535) (p : Option Addr) (c : Nat) (l : List UInt8) (hl : l.length ≤ 1000000) [Src W F p l.length (bytesR l)] : Spec Tryz.prog 93 [.int .i64 (n : Int), .slice p l.length c] W F (fun _ : Unit => .int .i64 (foldN (n + rawS true l) : Int)) (fun _ => F) := by
  refine Spec.of Tryz.func93 rfl Tryz.ntmps93 rfl ?_
  repeat (first | refine go ?_ | (refine goX ?_; intro))
  refine EL_call rfl (rFold_spec (n := n) (by omega)) ?_
  intro _
  repeat (first | refine go ?_ | (refine goX ?_; intro))
  refine EK_loop (γ := Nat) (fun i => i % 2 = 0 ∧ i ≤ l.length + 1) (fun i => [(0, .int .i64 (foldN (n + rawS true (l.take i)) : Int)), (1, .slice p l.length c), (5, .int .i64 (i : Int))]) (fun _ => F) (fun i => l.length - i) 0 ⟨rfl, Nat.zero_le _⟩ ⟨rfl, rfl, rfl, trivial⟩ (Ent.sat (Ent.refl _)) ?_
  intro i ⟨h0, h1⟩
  have hf := foldN_le (n + rawS true (l.take i))
  by_cases hi : i < l.length
  · have hb : (l.getD i 0).toNat < 256 := b1_lt l i
    have r1 := raw_next hi
    rw [if_pos h0] at r1
    by_cases h2 : i + 1 < l.length
    · have hb2 : (l.getD (i + 1) 0).toNat < 256 := b1_lt l (i + 1)
      have r2 := raw_next h2
      rw [if_neg (by omega), r1] at r2
      repeat (first | refine go ?_ | (refine goX ?_; intro))
      refine EL_call rfl (rFold_spec (n := foldN (n + rawS true (l.take i)) + ((l.getD i 0).toNat * 256 + (l.getD (i + 1) 0).toNat)) (by omega)) ?_
      intro _
      rw [foldN_fold]
      repeat (first | refine go ?_ | (refine goX ?_; intro))
      refine EK_round (i + 2) ⟨by omega, by omega⟩ (by omega) ⟨?_, rfl, rfl, trivial⟩ (Ent.sat (by first | exact Ent.refl _ | exact Ent.last | (repeat (first | refine Ent.cons ?_ | exact Ent.any | exact Ent.last))))
      rw [r2, show n + (rawS true (l.take i) + b1 l i * 256 + b1 l (i + 1) * 1) = n + rawS true (l.take i) + ((l.getD i 0).toNat * 256 + (l.getD (i + 1) 0).toNat) by unfold b1; omega]
      rfl
    · have e : l.take (i + 2) = l.take (i + 1) := by rw [List.take_of_length_le (by omega), List.take_of_length_le (by omega)]
      repeat (first | refine go ?_ | (refine goX ?_; intro))
      refine EL_call rfl (rFold_spec (n := foldN (n + rawS true (l.take i)) + (l.getD i 0).toNat * 256) (by omega)) ?_
      intro _
      rw [foldN_fold]
      repeat (first | refine go ?_ | (refine goX ?_; intro))
      refine EK_round (i + 2) ⟨by omega, by omega⟩ (by omega) ⟨?_, rfl, rfl, trivial⟩ (Ent.sat (by first | exact Ent.refl _ | exact Ent.last | (repeat (first | refine Ent.cons ?_ | exact Ent.any | exact Ent.last))))
      rw [e, r1, show n + (rawS true (l.take i) + b1 l i * 256) = n + rawS true (l.take i) + (l.getD i 0).toNat * 256 by unfold b1; omega]
      rfl
  · rw [List.take_of_length_le (by omega)]
    repeat (first | refine go ?_ | (refine goX ?_; intro))
    exact EK_ret (ER_1 rfl rfl () rfl (Ent.sat (by first | exact Ent.refl _ | exact Ent.last | (repeat (first | refine Ent.cons ?_ | exact Ent.any | exact Ent.last)))))
theorem rOf_spec (p : Option Addr) (c : Nat) (l : List UInt8) (hl : l.length ≤ 1000000) [Src W F p l.length (bytesR l)] : Spec Tryz.prog 60 [.slice p l.length c] W F (fun _ : Unit => .int .u16 (csum l : Int)) (fun _ => F) := by
  refine Spec.of Tryz.func60 rfl Tryz.ntmps60 rfl ?_
  repeat (first | refine go ?_ | (refine goX ?_; intro))
  refine EL_call rfl (rSum_spec (n := 0) (by decide) p c l hl) ?_
  intro _
  have hf := foldN_le (0 + rawS true l)
  repeat (first | refine go ?_ | (refine goX ?_; intro))
  refine EK_ret (ER_1 rfl rfl () ?_ (Ent.sat (by first | exact Ent.refl _ | exact Ent.last | (repeat (first | refine Ent.cons ?_ | exact Ent.any | exact Ent.last)))))
  unfold csum
  rw [Nat.zero_add] at hf ⊢
  congr 1
  omega
theorem rFix_spec {s old now : Nat} (h1 : s < 65536) (h2 : old < 65536) (h3 : now < 65536) : Spec Tryz.prog 99 [.int .u16 (s : Int), .int .u16 (old : Int), .int .u16 (now : Int)] W F (fun _ : Unit => .int .u16 (fixN s old now : Int)) (fun _ => F) := by
  refine Spec.of Tryz.func99 rfl Tryz.ntmps99 rfl ?_
  repeat (first | refine go ?_ | (refine goX ?_; intro))
  rw [show (65535 : Int) - (s : Int) + 65535 - (old : Int) + (now : Int) = ((65535 - s + (65535 - old) + now : Nat) : Int) by omega]
  refine EL_call rfl (rFold_spec (n := 65535 - s + (65535 - old) + now) (by omega)) ?_
  intro _
  have hf := foldN_le (65535 - s + (65535 - old) + now)
  repeat (first | refine go ?_ | (refine goX ?_; intro))
  refine EK_ret (ER_1 rfl rfl () ?_ (Ent.sat (by first | exact Ent.refl _ | exact Ent.last | (repeat (first | refine Ent.cons ?_ | exact Ent.any | exact Ent.last)))))
  unfold fixN
  congr 1
  omega
end Go.Proofs.YtianbkbehjppoaaGreatDoor

namespace Go.Proofs.YtianbkbehjppoaaGreatDoor
open Go.RowKit
/-- The bytes from i to j. -/
def cutB (l : List UInt8) (i j : Nat) : List UInt8 := (l.take j).drop i
theorem cutB_len (l : List UInt8) {i j : Nat} (h : j ≤ l.length) : (cutB l i j).length = j - i := by
  unfold cutB
  rw [List.length_drop, List.length_take, Nat.min_eq_left h]
theorem b1_cut (l : List UInt8) {i j k : Nat} (h : i + k < j) : b1 (cutB l i j) k = b1 l (i + k) := by
  unfold b1 cutB
  rw [List.getD_eq_getElem?_getD, List.getD_eq_getElem?_getD, List.getElem?_drop, List.getElem?_take, if_pos h]
theorem w2_cut (l : List UInt8) {i j k : Nat} (h : i + k + 1 < j) : w2 (cutB l i j) k = w2 l (i + k) := by
  unfold w2
  rw [b1_cut l (by omega), b1_cut l (by omega), Nat.add_assoc]
theorem w4_cut (l : List UInt8) {i j k : Nat} (h : i + k + 3 < j) : w4 (cutB l i j) k = w4 l (i + k) := by
  unfold w4
  rw [w2_cut l (by omega), w2_cut l (by omega), Nat.add_assoc]
section
variable {W : World} {H : SL} {p : Option Addr} {c i j : Nat} {l : List UInt8}
theorem Src.cut (s : Src W H p l.length (bytesR l)) (r : Room W H p l.length c) (h : i ≤ j) (hj : j ≤ l.length) : Src W H (dropP p i c 1) (cutB l i j).length (bytesR (cutB l i j)) where
  cells := fun w hs k v hv => by
    have hl := r.le w hs
    have hk : k < j - i := by
      have := (List.getElem?_eq_some_iff.1 hv).1
      rwa [bytesR_len, cutB_len l hj] at this
    unfold dropP
    rw [if_neg (by omega), off_off, Nat.mul_one]
    refine s.cells w hs (i + k) v ?_
    rw [← hv]
    unfold bytesR cutB
    rw [List.getElem?_map, List.getElem?_map, List.getElem?_drop, List.getElem?_take, if_pos (by omega)]
  nn := fun w hs h0 => by
    have hl := r.le w hs
    rw [cutB_len l hj] at h0
    have := s.nn w hs (by omega)
    unfold dropP
    rw [if_neg (by omega)]
    cases p with
    | none => exact absurd rfl this
    | some a => simp [off]
theorem Room.cut (r : Room W H p l.length c) (hj : j ≤ l.length) : Room W H (dropP p i c 1) (cutB l i j).length (c - i) := ⟨fun w hs => by
  have := r.le w hs
  rw [cutB_len l hj]
  omega⟩
theorem Src.pre (s : Src W H p l.length (bytesR l)) (hj : j ≤ l.length) : Src W H p (l.take j).length (bytesR (l.take j)) where
  cells := fun w hs k v hv => by
    have hk : k < j := by
      have := (List.getElem?_eq_some_iff.1 hv).1
      rw [bytesR_len, List.length_take] at this
      omega
    refine s.cells w hs k v ?_
    rw [← hv]
    unfold bytesR
    rw [List.getElem?_map, List.getElem?_map, List.getElem?_take, if_pos hk]
  nn := fun w hs h0 => s.nn w hs (by rw [List.length_take] at h0; omega)
theorem Room.pre (r : Room W H p l.length c) : Room W H p (l.take j).length c := ⟨fun w hs => by
  have := r.le w hs
  rw [List.length_take]
  omega⟩
end
instance (priority := 300) Room.there (W : World) (Q R : SL) (p : Option Addr) (n c : Nat) [r : Room W R p n c] : Room W (Q * R) p n c := ⟨fun w hs => r.le w hs.drop⟩
instance (priority := 3000) RowGet.b1 (l : List UInt8) (i : Nat) : RowGet (bytesR l) i 1 0 (.int .u8 ((Go.Proofs.YtianbkbehjppoaaGreatDoor.b1 l i : Nat) : Int)) (i < l.length) := ⟨(RowGet.bytes l i).get⟩
/-- A number of bytes, the highest one first. -/
def numN : List UInt8 → Nat → Nat
  | _, 0 => 0
  | l, n + 1 => numN l n * 256 + b1 l n
theorem numN_lt (l : List UInt8) : ∀ n, numN l n < 256 ^ n
  | 0 => by simp [numN]
  | n + 1 => by
    have h1 := numN_lt l n
    have h2 := b1_lt l n
    rw [numN, Nat.pow_succ]
    omega
theorem numN_2 (l : List UInt8) : numN l 2 = w2 l 0 := by simp [numN, w2]
theorem numN_4 (l : List UInt8) : numN l 4 = w4 l 0 := by
  simp only [numN, w4, w2, Nat.zero_add, Nat.reduceAdd]
  omega
end Go.Proofs.YtianbkbehjppoaaGreatDoor

namespace Go.Proofs.YtianbkbehjppoaaGreatDoor
open Go.RowKit
theorem cutB_drop (l : List UInt8) (i : Nat) : cutB l i l.length = l.drop i := by unfold cutB; rw [List.take_length]
theorem b1_drop (l : List UInt8) (i k : Nat) : b1 (l.drop i) k = b1 l (i + k) := by
  unfold b1
  rw [List.getD_eq_getElem?_getD, List.getD_eq_getElem?_getD, List.getElem?_drop]
theorem w2_drop (l : List UInt8) (i k : Nat) : w2 (l.drop i) k = w2 l (i + k) := by
  unfold w2
  rw [b1_drop, b1_drop, Nat.add_assoc]
section
variable {W : World} {H : SL} {p : Option Addr} {c i : Nat} {l : List UInt8}
theorem Src.low (s : Src W H p l.length (bytesR l)) (r : Room W H p l.length c) (h : i ≤ l.length) : Src W H (dropP p i c 1) (l.drop i).length (bytesR (l.drop i)) := by
  have := Src.cut s r h (Nat.le_refl _)
  rwa [cutB_drop] at this
theorem Room.low (r : Room W H p l.length c) : Room W H (dropP p i c 1) (l.drop i).length (c - i) := by
  have := Room.cut (i := i) r (Nat.le_refl _)
  rwa [cutB_drop] at this
end
/-- The bytes of a number, so many. -/
def beN (n : Nat) : Nat → List UInt8
  | 0 => []
  | k + 1 => u8 (n / 256 ^ k) :: beN n k
theorem beN_len (n : Nat) : ∀ k, (beN n k).length = k
  | 0 => rfl
  | k + 1 => by rw [beN, List.length_cons, beN_len n k]
theorem beN_2 (n : Nat) : beN n 2 = be2 n := by simp [beN, be2]
theorem beN_4 (n : Nat) : beN n 4 = be4 n := by simp [beN, be4]
theorem u8_shr {n i : Nat} : IntKind.u8.wrap ((n : Int) / 2 ^ (8 * (i : Int)).toNat) = (((u8 (n / 256 ^ i)).toNat : Nat) : Int) := by
  rw [show (8 * (i : Int)).toNat = 8 * i by omega, u8_toNat, IntKind.wrap_u8]
  have : (n : Int) / 2 ^ (8 * i) = ((n / 256 ^ i : Nat) : Int) := by
    rw [show (256 : Nat) ^ i = 2 ^ (8 * i) by rw [Nat.pow_mul]]
    simp
  rw [this]
  omega
theorem bytesR_snoc (l : List UInt8) (b : UInt8) : bytesR (l ++ [b]) = bytesR l ++ [.int .u8 ((b.toNat : Nat) : Int)] := by simp [bytesR]
theorem bytesR_append (l m : List UInt8) : bytesR (l ++ m) = bytesR l ++ bytesR m := by simp [bytesR]
theorem or8 {a b : Nat} (ha : a < 256) (hb : b < 256) : bits .or .u16 (IntKind.u16.wrap ((a : Int) * 2 ^ Int.toNat 8)) (b : Int) = ((a * 256 + b : Nat) : Int) := by
  rw [show (a : Int) * 2 ^ Int.toNat 8 = ((a * 2 ^ 8 : Nat) : Int) by rw [show Int.toNat 8 = 8 from rfl]; omega, InK.wrap (k := .u16) (z := ((a * 2 ^ 8 : Nat) : Int)) (by simp only [InK]; omega), u16_or_nat _ _ (by omega) (by omega)]
  rw [Nat.mul_comm, ← Nat.two_pow_add_eq_or_of_lt (show b < 2 ^ 8 by omega) a]
def ahead (src dst proto n : Nat) : List UInt8 := beN src 4 ++ beN dst 4 ++ [0, u8 proto] ++ beN n 2
theorem ahead_len (src dst proto n : Nat) : (ahead src dst proto n).length = 12 := by simp [ahead, beN_len]
theorem pseT_eq (src dst proto : Nat) (l : List UInt8) : pseT src dst proto l = 65535 - foldN (foldN (foldN (0 + rawS true (ahead src dst proto l.length)) + rawS true l)) := by
  unfold pseT csum
  rw [← beN_4, ← beN_4, ← beN_2, Nat.zero_add]
  show 65535 - foldN (rawS true (ahead src dst proto l.length ++ l)) = _
  rw [rawS_append, ahead_len, if_pos (by decide), foldN_fold, foldN_small (foldN_le _)]
theorem pseT_lt (src dst proto : Nat) (l : List UInt8) : pseT src dst proto l < 65536 := csum_lt _
end Go.Proofs.YtianbkbehjppoaaGreatDoor

namespace Go.Proofs.YtianbkbehjppoaaGreatDoor
open Go.RowKit
theorem ofInt_64 (a : Nat) (ha : a < 18446744073709551616) : (BitVec.ofInt 64 (a : Int)).toNat = a := by
  rw [BitVec.ofInt_natCast, BitVec.toNat_ofNat]; exact Nat.mod_eq_of_lt (by omega)
theorem i64_and_nat (a b : Nat) (ha : a < 9223372036854775808) (hb : b < 9223372036854775808) : bits .and .i64 (a : Int) (b : Int) = ((a &&& b : Nat) : Int) := by
  have hx : a &&& b < 2 ^ 63 := Nat.and_lt_two_pow _ (by omega)
  show IntKind.i64.wrap ((BitVec.ofInt 64 (a : Int) &&& BitVec.ofInt 64 (b : Int)).toNat : Int) = _
  rw [BitVec.toNat_and, ofInt_64 a (by omega), ofInt_64 b (by omega)]
  exact InK.wrap (by simp only [InK]; omega)
/-- The low bits. -/
theorem i64_low (a n : Nat) (ha : a < 9223372036854775808) (hn : n ≤ 62) : bits .and .i64 (a : Int) (((2 ^ n - 1 : Nat)) : Int) = ((a % 2 ^ n : Nat) : Int) := by
  have h : 2 ^ n - 1 < 9223372036854775808 := by
    have : 2 ^ n ≤ 2 ^ 62 := Nat.pow_le_pow_right (by decide) hn
    omega
  rw [i64_and_nat a _ ha h, Nat.and_two_pow_sub_one_eq_mod]
end Go.Proofs.YtianbkbehjppoaaGreatDoor

namespace Go.Proofs.YtianbkbehjppoaaGreatDoor
open Go.RowKit
set_option maxRecDepth 10000
attribute [local irreducible] EK EX ER EN EL ES EG OpVal OpDoes OpSkip
variable {W : World} {F : SL} {X : Cx} {k : List KI} {σ : Env}
theorem shl8_or {a n : Nat} (ha : a < 16777216) (hn : n < 256) : bits BinOp.or IntKind.u32 (IntKind.u32.wrap ((a : Int) * 2 ^ Int.toNat 8)) (n : Int) = ((a * 256 + n : Nat) : Int) := by
  rw [show (a : Int) * 2 ^ Int.toNat 8 = ((a * 2 ^ 8 : Nat) : Int) by rw [show Int.toNat 8 = 8 from rfl]; omega, InK.wrap (k := .u32) (z := ((a * 2 ^ 8 : Nat) : Int)) (by simp only [InK]; omega), u32_or_nat _ _ (by omega) (by omega)]
  rw [Nat.mul_comm, ← Nat.two_pow_add_eq_or_of_lt (show n < 2 ^ 8 by omega) a]
theorem hnum_spec (p : Option Addr) (c : Nat) (l : List UInt8) (hl : l.length ≤ 4) [Src W F p l.length (bytesR l)] : Spec Tryz.prog 137 [.slice p l.length c] W F (fun _ : Unit => .int .u32 (numN l l.length : Int)) (fun _ => F) := by
  refine Spec.of Tryz.func137 rfl Tryz.ntmps137 rfl ?_
  repeat (first | refine go ?_ | (refine goX ?_; intro))
  refine EK_loop (γ := Nat) (fun i => i ≤ l.length) (fun i => [(3, .int .u32 (numN l i : Int)), (6, .slice p l.length c), (7, .int .i64 (l.length : Int)), (8, .int .i64 (i : Int))]) (fun _ => F) (fun i => l.length - i) 0 (Nat.zero_le _) ⟨rfl, rfl, rfl, rfl, trivial⟩ (Ent.sat (Ent.refl _)) ?_
  intro i h1
  have hn := numN_lt l i
  by_cases hi : i < l.length
  · have hb := b1_lt l i
    have h3 : 256 ^ i ≤ 256 ^ 3 := Nat.pow_le_pow_right (by decide) (by omega)
    repeat (first | refine go ?_ | (refine goX ?_; intro))
    rw [shl8_or (by omega) hb]
    exact EK_round (i + 1) hi (by omega) ⟨rfl, rfl, rfl, rfl, trivial⟩ (Ent.sat (by first | exact Ent.refl _ | exact Ent.last | (repeat (first | refine Ent.cons ?_ | refine Ent.objX ?_ | exact Ent.any | exact Ent.last))))
  · have e : i = l.length := by omega
    subst e
    repeat (first | refine go ?_ | (refine goX ?_; intro))
    exact EK_ret (ER_1 rfl rfl () rfl (Ent.sat (by first | exact Ent.refl _ | exact Ent.last | (repeat (first | refine Ent.cons ?_ | refine Ent.objX ?_ | exact Ent.any | exact Ent.last)))))
theorem rNum_spec (p : Option Addr) (c : Nat) (l : List UInt8) (hl : l.length ≤ 4) [Src W F p l.length (bytesR l)] : Spec Tryz.prog 59 [.slice p l.length c] W F (fun _ : Unit => .int .i64 (numN l l.length : Int)) (fun _ => F) := by
  refine Spec.of Tryz.func59 rfl Tryz.ntmps59 rfl ?_
  repeat (first | refine go ?_ | (refine goX ?_; intro))
  refine EK_loop (γ := Nat) (fun i => i ≤ l.length) (fun i => [(3, .int .i64 (numN l i : Int)), (0, .slice p l.length c), (4, .int .i64 (i : Int))]) (fun _ => F) (fun i => l.length - i) 0 (Nat.zero_le _) ⟨rfl, rfl, rfl, trivial⟩ (Ent.sat (Ent.refl _)) ?_
  intro i h1
  have hn := numN_lt l i
  by_cases hi : i < l.length
  · have hb := b1_lt l i
    have h3 : 256 ^ i ≤ 256 ^ 3 := Nat.pow_le_pow_right (by decide) (by omega)
    repeat (first | refine go ?_ | (refine goX ?_; intro))
    exact EK_round (i + 1) hi (by omega) ⟨rfl, rfl, rfl, trivial⟩ (Ent.sat (by first | exact Ent.refl _ | exact Ent.last | (repeat (first | refine Ent.cons ?_ | refine Ent.objX ?_ | exact Ent.any | exact Ent.last))))
  · have e : i = l.length := by omega
    subst e
    repeat (first | refine go ?_ | (refine goX ?_; intro))
    exact EK_ret (ER_1 rfl rfl () rfl (Ent.sat (by first | exact Ent.refl _ | exact Ent.last | (repeat (first | refine Ent.cons ?_ | refine Ent.objX ?_ | exact Ent.any | exact Ent.last)))))
section
variable {p : Option Addr} {c i j : Nat} {l : List UInt8}
theorem hnum2 (s : Src W F p l.length (bytesR l)) (r : Room W F p l.length c) (hj : j = i + 2) (h : j ≤ l.length) (n m : Nat) (hn : n = j - i) : Spec Tryz.prog 137 [.slice (dropP p i c 1) n m] W F (fun _ : Unit => .int .u32 (w2 l i : Int)) (fun _ => F) := by
  haveI := Src.cut s r (i := i) (by omega) h
  have hl := cutB_len l (i := i) h
  have := hnum_spec (W := W) (F := F) (dropP p i c 1) m (cutB l i j) (by omega)
  rw [hl, show j - i = 2 by omega, numN_2, w2_cut l (by omega)] at this
  rw [show n = 2 by omega]
  exact this
theorem hnum4 (s : Src W F p l.length (bytesR l)) (r : Room W F p l.length c) (hj : j = i + 4) (h : j ≤ l.length) (n m : Nat) (hn : n = j - i) : Spec Tryz.prog 137 [.slice (dropP p i c 1) n m] W F (fun _ : Unit => .int .u32 (w4 l i : Int)) (fun _ => F) := by
  haveI := Src.cut s r (i := i) (by omega) h
  have hl := cutB_len l (i := i) h
  have := hnum_spec (W := W) (F := F) (dropP p i c 1) m (cutB l i j) (by omega)
  rw [hl, show j - i = 4 by omega, numN_4, w4_cut l (by omega)] at this
  rw [show n = 4 by omega]
  exact this
theorem rNum2 (s : Src W F p l.length (bytesR l)) (r : Room W F p l.length c) (hj : j = i + 2) (h : j ≤ l.length) (n m : Nat) (hn : n = j - i) : Spec Tryz.prog 59 [.slice (dropP p i c 1) n m] W F (fun _ : Unit => .int .i64 (w2 l i : Int)) (fun _ => F) := by
  haveI := Src.cut s r (i := i) (by omega) h
  have hl := cutB_len l (i := i) h
  have := rNum_spec (W := W) (F := F) (dropP p i c 1) m (cutB l i j) (by omega)
  rw [hl, show j - i = 2 by omega, numN_2, w2_cut l (by omega)] at this
  rw [show n = 2 by omega]
  exact this
theorem rNum4 (s : Src W F p l.length (bytesR l)) (r : Room W F p l.length c) (hj : j = i + 4) (h : j ≤ l.length) (n m : Nat) (hn : n = j - i) : Spec Tryz.prog 59 [.slice (dropP p i c 1) n m] W F (fun _ : Unit => .int .i64 (w4 l i : Int)) (fun _ => F) := by
  haveI := Src.cut s r (i := i) (by omega) h
  have hl := cutB_len l (i := i) h
  have := rNum_spec (W := W) (F := F) (dropP p i c 1) m (cutB l i j) (by omega)
  rw [hl, show j - i = 4 by omega, numN_4, w4_cut l (by omega)] at this
  rw [show n = 4 by omega]
  exact this
theorem u32_m14 {n : Nat} (h : n < 4294967296) : bits .and .u32 (n : Int) 16383 = ((n % 16384 : Nat) : Int) := by
  rw [show (16383 : Int) = ((16383 : Nat) : Int) from rfl, u32_and_nat n 16383 h (by decide)]
  exact congrArg _ (and_low 14)
theorem i64_m14 {n : Nat} (h : n < 4294967296) : bits .and .i64 (n : Int) 16383 = ((n % 16384 : Nat) : Int) := i64_low n 14 (by omega) (by decide)
theorem u8_m4 {n : Nat} (h : n < 256) : bits .and .u8 (n : Int) 15 = ((n % 16 : Nat) : Int) := by
  rw [show (15 : Int) = ((15 : Nat) : Int) from rfl, u8_and_nat n 15 h (by decide)]
  exact congrArg _ (and_low 4)
def whE (l : List UInt8) : Nat := if w2 l 6 % 16384 ≠ 0 then 5 else 0
abbrev resH (h : HdT) (e : Nat) : Value := .tuple #[.agg (hdV h).toArray, .int .i64 (e : Int)]
theorem Of_pre (s : Src W F p l.length (bytesR l)) (hj : j ≤ l.length) (h6 : j ≤ 1000000) : Spec Tryz.prog 118 [.slice p j c] W F (fun _ : Unit => .int .u16 (csum (l.take j) : Int)) (fun _ => F) := by
  haveI := Src.pre s hj
  have hpl : (l.take j).length = j := by rw [List.length_take, Nat.min_eq_left hj]
  have := Of_spec (W := W) (F := F) p c (l.take j) (by omega)
  rwa [hpl] at this
theorem rOf_pre (s : Src W F p l.length (bytesR l)) (hj : j ≤ l.length) (h6 : j ≤ 1000000) : Spec Tryz.prog 60 [.slice p j c] W F (fun _ : Unit => .int .u16 (csum (l.take j) : Int)) (fun _ => F) := by
  haveI := Src.pre s hj
  have hpl : (l.take j).length = j := by rw [List.length_take, Nat.min_eq_left hj]
  have := rOf_spec (W := W) (F := F) p c (l.take j) (by omega)
  rwa [hpl] at this
theorem whole_spec [s : Src W F p l.length (bytesR l)] [r : Room W F p l.length c] (h : 20 ≤ l.length) (hd : HdT) : Spec Tryz.prog 119 [.agg (hdV hd).toArray, .slice p l.length c] W F (fun _ : Unit => resH (if whE l = 0 then hd else hd0) (whE l)) (fun _ => F) := by
  refine Spec.of Tryz.func119 rfl Tryz.ntmps119 rfl ?_
  have hw := w2_lt l 6
  repeat (first | refine go ?_ | (refine goX ?_; intro))
  refine EL_call rfl (hnum2 (j := 8) inferInstance inferInstance rfl (by omega) _ _ rfl) ?_
  intro _
  repeat (first | refine go ?_ | (refine goX ?_; intro))
  rw [u32_m14 (by omega)]
  by_cases h6 : w2 l 6 % 16384 = 0
  · rw [show whE l = 0 from if_neg (by omega), if_pos rfl, decide_eq_true (show ((w2 l 6 % 16384 : Nat) : Int) = 0 by omega)]
    repeat (first | refine go ?_ | (refine goX ?_; intro))
    exact EK_ret (ER_cn (rs := [.cell 4 155, .tmp 5]) (v := .agg (hdV hd).toArray) (u := .int .i64 ((0 : Nat) : Int)) (vs := []) rfl ⟨⟨_, rfl, LoadsV.agg rfl⟩, rfl, trivial⟩ () rfl (Ent.sat (by first | exact Ent.refl _ | exact Ent.last | (repeat (first | refine Ent.cons ?_ | refine Ent.objX ?_ | exact Ent.any | exact Ent.last)))))
  · rw [show whE l = 5 from if_pos h6, if_neg (by decide), decide_eq_false (show ¬ ((w2 l 6 % 16384 : Nat) : Int) = 0 by omega)]
    repeat (first | refine go ?_ | (refine goX ?_; intro))
    exact EK_ret (ER_cn (rs := [.cell 4 155, .tmp 5]) (v := .agg (hdV hd0).toArray) (u := .int .i64 ((5 : Nat) : Int)) (vs := []) rfl ⟨⟨_, rfl, LoadsV.agg rfl⟩, rfl, trivial⟩ () rfl (Ent.sat (by first | exact Ent.refl _ | exact Ent.last | (repeat (first | refine Ent.cons ?_ | refine Ent.objX ?_ | exact Ent.any | exact Ent.last)))))
def shE (most : Nat) (l : List UInt8) : Nat :=
  if l.length < 20 then 2
  else if b1 l 0 / 16 ≠ 4 ∨ b1 l 0 % 16 * 4 < 20 then 3
  else if l.length < b1 l 0 % 16 * 4 then 2
  else if w2 l 2 < b1 l 0 % 16 * 4 ∨ w2 l 2 > most then 3
  else 0
theorem shaped_spec (most : Nat) (hm : most ≤ 65535) (hl : l.length ≤ 140737488355328) [s : Src W F p l.length (bytesR l)] [r : Room W F p l.length c] : Spec Tryz.prog 117 [.slice p l.length c, .int .i64 (most : Int)] W F (fun _ : Unit => resH (if shE most l = 0 then headH l else hd0) (shE most l)) (fun _ => F) := by
  refine Spec.of Tryz.func117 rfl Tryz.ntmps117 rfl ?_
  by_cases h1 : l.length < 20
  · rw [show shE most l = 2 from if_pos h1, if_neg (by decide)]
    repeat (first | refine go ?_ | (refine goX ?_; intro))
    exact EK_ret (ER_cn (rs := [.cell 4 155, .tmp 5]) (v := .agg (hdV hd0).toArray) (u := .int .i64 ((2 : Nat) : Int)) (vs := []) rfl ⟨⟨_, rfl, LoadsV.agg rfl⟩, rfl, trivial⟩ () rfl (Ent.sat (by first | exact Ent.refl _ | exact Ent.last | (repeat (first | refine Ent.cons ?_ | refine Ent.objX ?_ | exact Ent.any | exact Ent.last)))))
  have hb := b1_lt l 0
  have hw := w2_lt l 2
  have e4 : IntKind.i64.wrap (4 * IntKind.i64.wrap (bits BinOp.and IntKind.u8 (b1 l 0 : Int) 15)) = ((b1 l 0 % 16 * 4 : Nat) : Int) := by
    rw [u8_m4 hb, InK.wrap (k := .i64) (z := ((b1 l 0 % 16 : Nat) : Int)) (by simp only [InK]; omega), InK.wrap (k := .i64) (by simp only [InK]; omega)]
    omega
  repeat (first | refine go ?_ | (refine goX ?_; intro))
  refine EK_join (γ := Option Addr × Option Addr) (fun _ => True) (fun x => [(0, .slice p l.length c), (1, .int .i64 (most : Int)), (4, .pointer x.1), (6, .pointer x.2), (5, .int .i64 0)])
    (fun x => Obj x.2 155 [.int .i64 ((b1 l 0 % 16 * 4 : Nat) : Int), .int .i64 (w2 l 2 : Int), .int .i64 0, .int .i64 0, .int .u32 0, .int .u32 0] * (Obj x.1 155 (hdV hd0) * F)) ?_ ?_
  · rename_i x4
    refine EK_sink 12 F rfl rfl rfl ?_
    repeat (first | refine goQ ?_ | refine EG_done (by decide +kernel) ?_)
    refine EG_two (i := 8) (j := 11) (EI_callQ rfl rfl rfl rfl (hnum2 (j := 4) inferInstance inferInstance rfl (by omega) _ _ rfl) (fun _ => by first | exact Ent.refl _ | exact Ent.last | (repeat (first | refine Ent.cons ?_ | refine Ent.objX ?_ | exact Ent.any | exact Ent.last))) ?_) (EI_does rfl rfl (OpDoes_alloc rfl) rfl (fun _ => by first | exact Ent.refl _ | exact Ent.last | (repeat (first | refine Ent.cons ?_ | refine Ent.objX ?_ | exact Ent.any | exact Ent.last))) ?_)
    · intro _
      repeat (first | refine goQ ?_ | refine EG_done (by decide +kernel) ?_)
      repeat (first | refine goG ?_ | (refine goGX ?_; intro) | refine goGL ?_ | refine goGS ?_ | refine goGV ?_ | refine EG_done (by decide +kernel) ?_)
      rename_i x
      rw [e4]
      exact EK_meet (x4, x) trivial ⟨rfl, rfl, rfl, rfl, rfl, trivial⟩ (Ent.sat (by first | exact Ent.refl _ | exact Ent.last | (repeat (first | refine Ent.cons ?_ | refine Ent.objX ?_ | exact Ent.any | exact Ent.last))))
    · intro x
      refine EG_callQ rfl rfl rfl rfl rfl (hnum2 (j := 4) inferInstance inferInstance rfl (by omega) _ _ rfl) (fun _ => by first | exact Ent.refl _ | exact Ent.last | (repeat (first | refine Ent.cons ?_ | refine Ent.objX ?_ | exact Ent.any | exact Ent.last))) ?_
      intro _
      repeat (first | refine goQ ?_ | refine EG_done (by decide +kernel) ?_)
      repeat (first | refine goG ?_ | (refine goGX ?_; intro) | refine goGL ?_ | refine goGS ?_ | refine goGV ?_ | refine EG_done (by decide +kernel) ?_)
      rw [e4]
      exact EK_meet (x4, x) trivial ⟨rfl, rfl, rfl, rfl, rfl, trivial⟩ (Ent.sat (by first | exact Ent.refl _ | exact Ent.last | (repeat (first | refine Ent.cons ?_ | refine Ent.objX ?_ | exact Ent.any | exact Ent.last))))
  intro ⟨x4, x⟩ _; dsimp only
  repeat (first | refine go ?_ | (refine goX ?_; intro))
  rw [show (b1 l 0 : Int) / 2 ^ Int.toNat 4 = ((b1 l 0 / 16 : Nat) : Int) from shr_n _ 4]
  by_cases h2 : b1 l 0 / 16 ≠ 4 ∨ b1 l 0 % 16 * 4 < 20
  · rw [show shE most l = 3 by unfold shE; rw [if_neg h1, if_pos h2], if_neg (by decide)]
    refine EL_le (Ent.sat (Ent.refl _)) ?_
    by_cases h2' : b1 l 0 / 16 = 4
    · rw [decide_eq_true (show ((b1 l 0 / 16 : Nat) : Int) = 4 by omega)]
      repeat (first | refine go ?_ | (refine goX ?_; intro))
      exact EK_ret (ER_cn (rs := [.cell 4 155, .tmp 5]) (v := .agg (hdV hd0).toArray) (u := .int .i64 ((3 : Nat) : Int)) (vs := []) rfl ⟨⟨_, rfl, LoadsV.agg rfl⟩, rfl, trivial⟩ () rfl (Ent.sat (by first | exact Ent.refl _ | exact Ent.last | (repeat (first | refine Ent.cons ?_ | refine Ent.objX ?_ | exact Ent.any | exact Ent.last)))))
    · rw [decide_eq_false (show ¬ ((b1 l 0 / 16 : Nat) : Int) = 4 by omega)]
      repeat (first | refine go ?_ | (refine goX ?_; intro))
      exact EK_ret (ER_cn (rs := [.cell 4 155, .tmp 5]) (v := .agg (hdV hd0).toArray) (u := .int .i64 ((3 : Nat) : Int)) (vs := []) rfl ⟨⟨_, rfl, LoadsV.agg rfl⟩, rfl, trivial⟩ () rfl (Ent.sat (by first | exact Ent.refl _ | exact Ent.last | (repeat (first | refine Ent.cons ?_ | refine Ent.objX ?_ | exact Ent.any | exact Ent.last)))))
  rw [decide_eq_true (show ((b1 l 0 / 16 : Nat) : Int) = 4 by omega)]
  by_cases h3 : l.length < b1 l 0 % 16 * 4
  · rw [show shE most l = 2 by unfold shE; rw [if_neg h1, if_neg h2, if_pos h3], if_neg (by decide)]
    repeat (first | refine go ?_ | (refine goX ?_; intro))
    exact EK_ret (ER_cn (rs := [.cell 4 155, .tmp 5]) (v := .agg (hdV hd0).toArray) (u := .int .i64 ((2 : Nat) : Int)) (vs := []) rfl ⟨⟨_, rfl, LoadsV.agg rfl⟩, rfl, trivial⟩ () rfl (Ent.sat (by first | exact Ent.refl _ | exact Ent.last | (repeat (first | refine Ent.cons ?_ | refine Ent.objX ?_ | exact Ent.any | exact Ent.last)))))
  by_cases h4 : w2 l 2 < b1 l 0 % 16 * 4
  · rw [show shE most l = 3 by unfold shE; rw [if_neg h1, if_neg h2, if_neg h3, if_pos (.inl h4)], if_neg (by decide)]
    repeat (first | refine go ?_ | (refine goX ?_; intro))
    exact EK_ret (ER_cn (rs := [.cell 4 155, .tmp 5]) (v := .agg (hdV hd0).toArray) (u := .int .i64 ((3 : Nat) : Int)) (vs := []) rfl ⟨⟨_, rfl, LoadsV.agg rfl⟩, rfl, trivial⟩ () rfl (Ent.sat (by first | exact Ent.refl _ | exact Ent.last | (repeat (first | refine Ent.cons ?_ | refine Ent.objX ?_ | exact Ent.any | exact Ent.last)))))
  by_cases h5 : w2 l 2 > most
  · rw [show shE most l = 3 by unfold shE; rw [if_neg h1, if_neg h2, if_neg h3, if_pos (.inr h5)], if_neg (by decide)]
    repeat (first | refine go ?_ | (refine goX ?_; intro))
    exact EK_ret (ER_cn (rs := [.cell 4 155, .tmp 5]) (v := .agg (hdV hd0).toArray) (u := .int .i64 ((3 : Nat) : Int)) (vs := []) rfl ⟨⟨_, rfl, LoadsV.agg rfl⟩, rfl, trivial⟩ () rfl (Ent.sat (by first | exact Ent.refl _ | exact Ent.last | (repeat (first | refine Ent.cons ?_ | refine Ent.objX ?_ | exact Ent.any | exact Ent.last)))))
  rw [show shE most l = 0 by unfold shE; rw [if_neg h1, if_neg h2, if_neg h3, if_neg (by omega)], if_pos rfl]
  have hb8 := b1_lt l 8
  have hb9 := b1_lt l 9
  repeat (first | refine go ?_ | (refine goX ?_; intro))
  refine EK_sink 11 (ObjX x 155 * F) rfl rfl rfl ?_
  repeat (first | refine goQ ?_ | refine EG_done (by decide +kernel) ?_)
  repeat (first | refine goG ?_ | (refine goGX ?_; intro) | refine goGL ?_ | refine goGS ?_ | refine goGV ?_ | refine EG_done (by decide +kernel) ?_)
  repeat (first | refine go ?_ | (refine goX ?_; intro))
  refine EK_sink 9 (ObjX x 155 * F) rfl rfl rfl ?_
  repeat (first | refine goQ ?_ | refine EG_done (by decide +kernel) ?_)
  refine EG_callQ rfl rfl rfl rfl rfl (hnum4 (j := 16) inferInstance inferInstance rfl (by omega) _ _ rfl) (fun _ => by first | exact Ent.refl _ | exact Ent.last | (repeat (first | refine Ent.cons ?_ | refine Ent.objX ?_ | exact Ent.any | exact Ent.last))) ?_
  intro _
  repeat (first | refine goQ ?_ | refine EG_done (by decide +kernel) ?_)
  refine EG_callQ rfl rfl rfl rfl rfl (hnum4 (j := 20) inferInstance inferInstance rfl (by omega) _ _ rfl) (fun _ => by first | exact Ent.refl _ | exact Ent.last | (repeat (first | refine Ent.cons ?_ | refine Ent.objX ?_ | exact Ent.any | exact Ent.last))) ?_
  intro _
  repeat (first | refine goQ ?_ | refine EG_done (by decide +kernel) ?_)
  repeat (first | refine goG ?_ | (refine goGX ?_; intro) | refine goGL ?_ | refine goGS ?_ | refine goGV ?_ | refine EG_done (by decide +kernel) ?_)
  repeat (first | refine go ?_ | (refine goX ?_; intro))
  exact EK_ret (ER_cn (rs := [.cell 4 155, .tmp 5]) (v := .agg (hdV (headH l)).toArray) (u := .int .i64 ((0 : Nat) : Int)) (vs := []) rfl ⟨⟨_, rfl, LoadsV.agg rfl⟩, rfl, trivial⟩ () rfl (Ent.sat (by first | exact Ent.refl _ | exact Ent.last | (repeat (first | refine Ent.cons ?_ | refine Ent.objX ?_ | exact Ent.any | exact Ent.last)))))
theorem headE_true (l : List UInt8) : headE true l = if shE 65535 l ≠ 0 then shE 65535 l else whE l := by
  have hw := w2_lt l 2
  unfold headE shE whE
  by_cases h1 : l.length < 20
  · rw [if_pos h1, if_pos h1, if_pos (by decide)]
  by_cases h2 : b1 l 0 / 16 ≠ 4 ∨ b1 l 0 % 16 * 4 < 20
  · rw [if_neg h1, if_pos h2, if_neg h1, if_pos h2, if_pos (by decide)]
  by_cases h3 : l.length < b1 l 0 % 16 * 4
  · rw [if_neg h1, if_neg h2, if_pos h3, if_neg h1, if_neg h2, if_pos h3, if_pos (by decide)]
  by_cases h4 : w2 l 2 < b1 l 0 % 16 * 4
  · rw [if_neg h1, if_neg h2, if_neg h3, if_pos (Or.inl h4), if_neg h1, if_neg h2, if_neg h3, if_pos (Or.inl h4), if_pos (by decide)]
  have g4 : ¬ (w2 l 2 < b1 l 0 % 16 * 4 ∨ w2 l 2 > 1500 ∧ true = false) := fun g => g.elim h4 fun g => by cases g.2
  have g5 : ¬ (w2 l 2 < b1 l 0 % 16 * 4 ∨ w2 l 2 > 65535) := by omega
  rw [if_neg h1, if_neg h2, if_neg h3, if_neg g4, if_neg (fun g => by cases g.2), if_neg (fun g => by cases g.1), if_neg h1, if_neg h2, if_neg h3, if_neg g5, if_neg (show ¬ (0 : Nat) ≠ 0 by decide)]
theorem headE_false (l : List UInt8) : headE false l = if shE 1500 l ≠ 0 then shE 1500 l else if l.length < w2 l 2 then 2 else if csum (l.take (b1 l 0 % 16 * 4)) ≠ 0 then 4 else whE l := by
  unfold headE shE whE
  by_cases h1 : l.length < 20
  · rw [if_pos h1, if_pos h1, if_pos (by decide)]
  by_cases h2 : b1 l 0 / 16 ≠ 4 ∨ b1 l 0 % 16 * 4 < 20
  · rw [if_neg h1, if_pos h2, if_neg h1, if_pos h2, if_pos (by decide)]
  by_cases h3 : l.length < b1 l 0 % 16 * 4
  · rw [if_neg h1, if_neg h2, if_pos h3, if_neg h1, if_neg h2, if_pos h3, if_pos (by decide)]
  by_cases h4 : w2 l 2 < b1 l 0 % 16 * 4 ∨ w2 l 2 > 1500
  · rw [if_neg h1, if_neg h2, if_neg h3, if_pos (h4.imp id fun g => ⟨g, rfl⟩), if_neg h1, if_neg h2, if_neg h3, if_pos h4, if_pos (by decide)]
  rw [if_neg h1, if_neg h2, if_neg h3, if_neg (fun g => h4 (g.imp id fun g => g.1)), if_neg h1, if_neg h2, if_neg h3, if_neg h4, if_neg (show ¬ (0 : Nat) ≠ 0 by decide)]
  by_cases h5 : l.length < w2 l 2
  · rw [if_pos ⟨h5, rfl⟩, if_pos h5]
  rw [if_neg (fun g => h5 g.1), if_neg h5]
  by_cases h6 : csum (l.take (b1 l 0 % 16 * 4)) ≠ 0
  · rw [if_pos ⟨rfl, h6⟩, if_pos h6]
  rw [if_neg (fun g => h6 g.2), if_neg h6]
theorem shE_ok {most : Nat} {l : List UInt8} (h : shE most l = 0) : 20 ≤ l.length ∧ 20 ≤ b1 l 0 % 16 * 4 ∧ b1 l 0 % 16 * 4 ≤ l.length ∧ b1 l 0 % 16 * 4 ≤ w2 l 2 ∧ w2 l 2 ≤ most := by
  unfold shE at h
  repeat' split at h
  all_goals first | (exact absurd h (by decide)) | skip
  refine ⟨by omega, by omega, by omega, by omega, by omega⟩
theorem headT_of {part : Bool} {l : List UInt8} {e : Nat} (h : headE part l = e) : headT part l = if e = 0 then headH l else hd0 := by
  unfold headT; rw [h]
theorem hPart_spec (hl : l.length ≤ 140737488355328) [s : Src W F p l.length (bytesR l)] [r : Room W F p l.length c] : Spec Tryz.prog 168 [.slice p l.length c] W F (fun _ : Unit => resH (headT true l) (headE true l)) (fun _ => F) := by
  refine Spec.of Tryz.func168 rfl Tryz.ntmps168 rfl ?_
  repeat (first | refine go ?_ | (refine goX ?_; intro))
  refine EL_call rfl (shaped_spec 65535 (Nat.le_refl _) hl) ?_
  intro _
  have e0 := headE_true l
  by_cases h : shE 65535 l = 0
  · rw [h] at e0 ⊢
    rw [if_pos rfl]
    obtain ⟨h1, _⟩ := shE_ok h
    repeat (first | refine go ?_ | (refine goX ?_; intro))
    refine EL_call rfl (whole_spec h1 (headH l)) ?_
    intro _
    rw [if_neg (by decide)] at e0
    rw [e0, headT_of e0]
    repeat (first | refine go ?_ | (refine goX ?_; intro))
    exact EK_ret (ER_cn (rs := [.cell 2 155, .tmp 3]) (v := .agg (hdV _).toArray) (u := .int .i64 (whE l : Int)) (vs := []) rfl ⟨⟨_, rfl, LoadsV.agg rfl⟩, rfl, trivial⟩ () rfl (Ent.sat (by first | exact Ent.refl _ | exact Ent.last | (repeat (first | refine Ent.cons ?_ | refine Ent.objX ?_ | exact Ent.any | exact Ent.last)))))
  · rw [if_pos h] at e0
    rw [if_neg h, headT_of e0, e0, if_neg h]
    repeat (first | refine go ?_ | (refine goX ?_; intro))
    exact EK_ret (ER_cn (rs := [.cell 2 155, .tmp 3]) (v := .agg (hdV hd0).toArray) (u := .int .i64 (shE 65535 l : Int)) (vs := []) rfl ⟨⟨_, rfl, LoadsV.agg rfl⟩, rfl, trivial⟩ () rfl (Ent.sat (by first | exact Ent.refl _ | exact Ent.last | (repeat (first | refine Ent.cons ?_ | refine Ent.objX ?_ | exact Ent.any | exact Ent.last)))))
theorem hGet_spec (hl : l.length ≤ 140737488355328) [s : Src W F p l.length (bytesR l)] [r : Room W F p l.length c] : Spec Tryz.prog 104 [.slice p l.length c] W F (fun _ : Unit => resH (headT false l) (headE false l)) (fun _ => F) := by
  refine Spec.of Tryz.func104 rfl Tryz.ntmps104 rfl ?_
  repeat (first | refine go ?_ | (refine goX ?_; intro))
  refine EL_call rfl (shaped_spec 1500 (by decide) hl) ?_
  intro _
  have e0 := headE_false l
  by_cases h : shE 1500 l = 0
  · rw [h] at e0 ⊢
    rw [if_pos rfl]
    rw [if_neg (by decide)] at e0
    obtain ⟨h1, h2, h3, h4, h5⟩ := shE_ok h
    have f1 : (headH l).size = b1 l 0 % 16 * 4 := rfl
    have f2 : (headH l).len = w2 l 2 := rfl
    rw [← f2] at h4 h5 e0
    rw [← f1] at h2 h3 h4 e0
    obtain ⟨hd, f0⟩ : ∃ x, headH l = x := ⟨_, rfl⟩
    rw [f0] at h2 h3 h4 h5 e0 f1 f2 ⊢
    by_cases h6 : l.length < hd.len
    · rw [if_pos h6] at e0
      unfold headT
      rw [e0]
      repeat (first | refine go ?_ | (refine goX ?_; intro))
      exact EK_ret (ER_cn (rs := [.cell 2 155, .tmp 3]) (v := .agg (hdV hd0).toArray) (u := .int .i64 ((2 : Nat) : Int)) (vs := []) rfl ⟨⟨_, rfl, LoadsV.agg rfl⟩, rfl, trivial⟩ () rfl (Ent.sat (by first | exact Ent.refl _ | exact Ent.last | (repeat (first | refine Ent.cons ?_ | refine Ent.objX ?_ | exact Ent.any | exact Ent.last)))))
    rw [if_neg h6] at e0
    have hc := csum_lt (l.take hd.size)
    repeat (first | refine go ?_ | (refine goX ?_; intro))
    refine EL_call rfl (Of_pre inferInstance h3 (by omega)) ?_
    intro _
    by_cases h7 : csum (l.take hd.size) = 0
    · rw [if_neg (show ¬ csum (l.take hd.size) ≠ 0 by omega)] at e0
      repeat (first | refine go ?_ | (refine goX ?_; intro))
      refine EL_call rfl (whole_spec h1 hd) ?_
      intro _
      unfold headT
      rw [e0, f0]
      repeat (first | refine go ?_ | (refine goX ?_; intro))
      exact EK_ret (ER_cn (rs := [.cell 2 155, .tmp 3]) (v := .agg (hdV _).toArray) (u := .int .i64 (whE l : Int)) (vs := []) rfl ⟨⟨_, rfl, LoadsV.agg rfl⟩, rfl, trivial⟩ () rfl (Ent.sat (by first | exact Ent.refl _ | exact Ent.last | (repeat (first | refine Ent.cons ?_ | refine Ent.objX ?_ | exact Ent.any | exact Ent.last)))))
    · rw [if_pos h7] at e0
      unfold headT
      rw [e0]
      repeat (first | refine go ?_ | (refine goX ?_; intro))
      exact EK_ret (ER_cn (rs := [.cell 2 155, .tmp 3]) (v := .agg (hdV hd0).toArray) (u := .int .i64 ((4 : Nat) : Int)) (vs := []) rfl ⟨⟨_, rfl, LoadsV.agg rfl⟩, rfl, trivial⟩ () rfl (Ent.sat (by first | exact Ent.refl _ | exact Ent.last | (repeat (first | refine Ent.cons ?_ | refine Ent.objX ?_ | exact Ent.any | exact Ent.last)))))
  · rw [if_pos h] at e0
    rw [if_neg h, headT_of e0, e0, if_neg h]
    repeat (first | refine go ?_ | (refine goX ?_; intro))
    exact EK_ret (ER_cn (rs := [.cell 2 155, .tmp 3]) (v := .agg (hdV hd0).toArray) (u := .int .i64 (shE 1500 l : Int)) (vs := []) rfl ⟨⟨_, rfl, LoadsV.agg rfl⟩, rfl, trivial⟩ () rfl (Ent.sat (by first | exact Ent.refl _ | exact Ent.last | (repeat (first | refine Ent.cons ?_ | refine Ent.objX ?_ | exact Ent.any | exact Ent.last)))))
theorem headT_err {part : Bool} {l : List UInt8} {e : Nat} (h : headE part l = e) (h0 : e ≠ 0) : resH (headT part l) (headE part l) = resH hd0 e := by
  rw [headT_of h, h, if_neg h0]
set_option maxHeartbeats 1000000 in
theorem r2Get_spec (part : Bool) (hl : l.length ≤ 140737488355328) [s : Src W F p l.length (bytesR l)] [r : Room W F p l.length c] : Spec Tryz.prog 34 [.slice p l.length c, .bool part] W F (fun _ : Unit => resH (headT part l) (headE part l)) (fun _ => F) := by
  refine Spec.of Tryz.func34 rfl Tryz.ntmps34 rfl ?_
  have e0 : headE part l = _ := rfl
  conv at e0 => rhs; unfold headE
  by_cases h1 : l.length < 20
  · rw [if_pos h1] at e0
    rw [headT_err e0 (by decide)]
    repeat (first | refine go ?_ | (refine goX ?_; intro))
    exact EK_ret (ER_cn (rs := [.cell 4 96, .tmp 5]) (v := .agg (hdV hd0).toArray) (u := .int .i64 ((2 : Nat) : Int)) (vs := []) rfl ⟨⟨_, rfl, LoadsV.agg rfl⟩, rfl, trivial⟩ () rfl (Ent.sat (by first | exact Ent.refl _ | exact Ent.last | (repeat (first | refine Ent.cons ?_ | refine Ent.objX ?_ | exact Ent.any | exact Ent.last)))))
  rw [if_neg h1] at e0
  have hb := b1_lt l 0
  have hw := w2_lt l 2
  have hw6 := w2_lt l 6
  repeat (first | refine go ?_ | (refine goX ?_; intro))
  refine EK_sink 99 F rfl rfl rfl ?_
  repeat (first | refine goQ ?_ | refine EG_done (by decide +kernel) ?_)
  refine EG_callQ rfl rfl rfl rfl rfl (rNum2 (j := 4) inferInstance inferInstance rfl (by omega) _ _ rfl) (fun _ => by first | exact Ent.refl _ | exact Ent.last | (repeat (first | refine Ent.cons ?_ | refine Ent.objX ?_ | exact Ent.any | exact Ent.last))) ?_
  intro _
  repeat (first | refine goQ ?_ | refine EG_done (by decide +kernel) ?_)
  repeat (first | refine go ?_ | (refine goX ?_; intro))
  by_cases h2 : ¬ b1 l 0 / 16 = 4
  · rw [if_pos (Or.inl h2)] at e0
    rw [headT_err e0 (by decide), decide_eq_false (show ¬ (b1 l 0 : Int) / 16 = 4 by omega)]
    repeat (first | refine go ?_ | (refine goX ?_; intro))
    exact EK_ret (ER_cn (rs := [.cell 4 96, .tmp 5]) (v := .agg (hdV hd0).toArray) (u := .int .i64 ((3 : Nat) : Int)) (vs := []) rfl ⟨⟨_, rfl, LoadsV.agg rfl⟩, rfl, trivial⟩ () rfl (Ent.sat (by first | exact Ent.refl _ | exact Ent.last | (repeat (first | refine Ent.cons ?_ | refine Ent.objX ?_ | exact Ent.any | exact Ent.last)))))
  rw [decide_eq_true (show (b1 l 0 : Int) / 16 = 4 by omega)]
  by_cases h3 : b1 l 0 % 16 * 4 < 20
  · rw [if_pos (Or.inr h3)] at e0
    rw [headT_err e0 (by decide)]
    repeat (first | refine go ?_ | (refine goX ?_; intro))
    exact EK_ret (ER_cn (rs := [.cell 4 96, .tmp 5]) (v := .agg (hdV hd0).toArray) (u := .int .i64 ((3 : Nat) : Int)) (vs := []) rfl ⟨⟨_, rfl, LoadsV.agg rfl⟩, rfl, trivial⟩ () rfl (Ent.sat (by first | exact Ent.refl _ | exact Ent.last | (repeat (first | refine Ent.cons ?_ | refine Ent.objX ?_ | exact Ent.any | exact Ent.last)))))
  rw [if_neg (fun g => g.elim h2 h3)] at e0
  by_cases h4 : l.length < b1 l 0 % 16 * 4
  · rw [if_pos h4] at e0
    rw [headT_err e0 (by decide)]
    repeat (first | refine go ?_ | (refine goX ?_; intro))
    exact EK_ret (ER_cn (rs := [.cell 4 96, .tmp 5]) (v := .agg (hdV hd0).toArray) (u := .int .i64 ((2 : Nat) : Int)) (vs := []) rfl ⟨⟨_, rfl, LoadsV.agg rfl⟩, rfl, trivial⟩ () rfl (Ent.sat (by first | exact Ent.refl _ | exact Ent.last | (repeat (first | refine Ent.cons ?_ | refine Ent.objX ?_ | exact Ent.any | exact Ent.last)))))
  rw [if_neg h4] at e0
  by_cases h5 : w2 l 2 < b1 l 0 % 16 * 4
  · rw [if_pos (Or.inl h5)] at e0
    rw [headT_err e0 (by decide)]
    repeat (first | refine go ?_ | (refine goX ?_; intro))
    exact EK_ret (ER_cn (rs := [.cell 4 96, .tmp 5]) (v := .agg (hdV hd0).toArray) (u := .int .i64 ((3 : Nat) : Int)) (vs := []) rfl ⟨⟨_, rfl, LoadsV.agg rfl⟩, rfl, trivial⟩ () rfl (Ent.sat (by first | exact Ent.refl _ | exact Ent.last | (repeat (first | refine Ent.cons ?_ | refine Ent.objX ?_ | exact Ent.any | exact Ent.last)))))
  cases hp : part
  case' true =>
    subst hp
    rw [if_neg (fun g => g.elim h5 fun g => by cases g.2), if_neg (fun g => by cases g.2), if_neg (fun g => by cases g.1)] at e0
    by_cases h6 : w2 l 2 > 1500 <;> by_cases h7 : l.length < w2 l 2
    all_goals repeat (first | refine go ?_ | (refine goX ?_; intro))
  case' false =>
    subst hp
    by_cases h6 : w2 l 2 > 1500
    · rw [if_pos (Or.inr ⟨h6, rfl⟩)] at e0
      rw [headT_err e0 (by decide)]
      repeat (first | refine go ?_ | (refine goX ?_; intro))
      exact EK_ret (ER_cn (rs := [.cell 4 96, .tmp 5]) (v := .agg (hdV hd0).toArray) (u := .int .i64 ((3 : Nat) : Int)) (vs := []) rfl ⟨⟨_, rfl, LoadsV.agg rfl⟩, rfl, trivial⟩ () rfl (Ent.sat (by first | exact Ent.refl _ | exact Ent.last | (repeat (first | refine Ent.cons ?_ | refine Ent.objX ?_ | exact Ent.any | exact Ent.last)))))
    rw [if_neg (fun g => g.elim h5 fun g => h6 g.1)] at e0
    by_cases h7 : l.length < w2 l 2
    · rw [if_pos ⟨h7, rfl⟩] at e0
      rw [headT_err e0 (by decide)]
      repeat (first | refine go ?_ | (refine goX ?_; intro))
      exact EK_ret (ER_cn (rs := [.cell 4 96, .tmp 5]) (v := .agg (hdV hd0).toArray) (u := .int .i64 ((2 : Nat) : Int)) (vs := []) rfl ⟨⟨_, rfl, LoadsV.agg rfl⟩, rfl, trivial⟩ () rfl (Ent.sat (by first | exact Ent.refl _ | exact Ent.last | (repeat (first | refine Ent.cons ?_ | refine Ent.objX ?_ | exact Ent.any | exact Ent.last)))))
    rw [if_neg (fun g => h7 g.1)] at e0
    have hc := csum_lt (l.take (b1 l 0 % 16 * 4))
    repeat (first | refine go ?_ | (refine goX ?_; intro))
    refine EL_call rfl (rOf_pre inferInstance (by omega) (by omega)) ?_
    intro _
    by_cases h8 : ¬ csum (l.take (b1 l 0 % 16 * 4)) = 0
    · rw [if_pos ⟨rfl, h8⟩] at e0
      rw [headT_err e0 (by decide)]
      repeat (first | refine go ?_ | (refine goX ?_; intro))
      exact EK_ret (ER_cn (rs := [.cell 4 96, .tmp 5]) (v := .agg (hdV hd0).toArray) (u := .int .i64 ((4 : Nat) : Int)) (vs := []) rfl ⟨⟨_, rfl, LoadsV.agg rfl⟩, rfl, trivial⟩ () rfl (Ent.sat (by first | exact Ent.refl _ | exact Ent.last | (repeat (first | refine Ent.cons ?_ | refine Ent.objX ?_ | exact Ent.any | exact Ent.last)))))
    rw [if_neg (fun g => h8 g.2)] at e0
    repeat (first | refine go ?_ | (refine goX ?_; intro))
  all_goals
    refine EL_call rfl (rNum2 (j := 8) inferInstance inferInstance rfl (by omega) _ _ rfl) ?_
    intro _
    repeat (first | refine go ?_ | (refine goX ?_; intro))
    rw [i64_m14 (by omega)]
    by_cases h9 : ¬ w2 l 6 % 16384 = 0
    · rw [if_pos h9] at e0
      rw [headT_err e0 (by decide), decide_eq_false (show ¬ ((w2 l 6 % 16384 : Nat) : Int) = 0 by omega)]
      repeat (first | refine go ?_ | (refine goX ?_; intro))
      exact EK_ret (ER_cn (rs := [.cell 4 96, .tmp 5]) (v := .agg (hdV hd0).toArray) (u := .int .i64 ((5 : Nat) : Int)) (vs := []) rfl ⟨⟨_, rfl, LoadsV.agg rfl⟩, rfl, trivial⟩ () rfl (Ent.sat (by first | exact Ent.refl _ | exact Ent.last | (repeat (first | refine Ent.cons ?_ | refine Ent.objX ?_ | exact Ent.any | exact Ent.last)))))
    rw [if_neg (by omega)] at e0
    rw [headT_of e0, e0, if_pos rfl, decide_eq_true (show ((w2 l 6 % 16384 : Nat) : Int) = 0 by omega)]
    have hb8 := b1_lt l 8
    have hb9 := b1_lt l 9
    have hw12 := w4_lt l 12
    have hw16 := w4_lt l 16
    repeat (first | refine go ?_ | (refine goX ?_; intro))
    refine EK_sink 19 F rfl rfl rfl ?_
    repeat (first | refine goQ ?_ | refine EG_done (by decide +kernel) ?_)
    refine EG_callQ rfl rfl rfl rfl rfl (rNum4 (j := 16) inferInstance inferInstance rfl (by omega) _ _ rfl) (fun _ => by first | exact Ent.refl _ | exact Ent.last | (repeat (first | refine Ent.cons ?_ | refine Ent.objX ?_ | exact Ent.any | exact Ent.last))) ?_
    intro _
    repeat (first | refine goQ ?_ | refine EG_done (by decide +kernel) ?_)
    refine EG_callQ rfl rfl rfl rfl rfl (rNum4 (j := 20) inferInstance inferInstance rfl (by omega) _ _ rfl) (fun _ => by first | exact Ent.refl _ | exact Ent.last | (repeat (first | refine Ent.cons ?_ | refine Ent.objX ?_ | exact Ent.any | exact Ent.last))) ?_
    intro _
    repeat (first | refine goQ ?_ | refine EG_done (by decide +kernel) ?_)
    repeat (first | refine goG ?_ | (refine goGX ?_; intro) | refine goGL ?_ | refine goGS ?_ | refine goGV ?_ | refine EG_done (by decide +kernel) ?_)
    repeat (first | refine go ?_ | (refine goX ?_; intro))
    exact EK_ret (ER_cn (rs := [.cell 4 96, .tmp 5]) (v := .agg (hdV (headH l)).toArray) (u := .int .i64 ((0 : Nat) : Int)) (vs := []) rfl ⟨⟨_, rfl, LoadsV.agg rfl⟩, rfl, trivial⟩ () rfl (Ent.sat (by first | exact Ent.refl _ | exact Ent.last | (repeat (first | refine Ent.cons ?_ | refine Ent.objX ?_ | exact Ent.any | exact Ent.last)))))
end
end Go.Proofs.YtianbkbehjppoaaGreatDoor
