/-
  CacheNone: the walk.
-/
import Derived.Test.YtdmmahhnfnefoaaDoorCcL
import Derived.Test.YtdmmahhnfnefoaaDoorCcQ
import Derived.Test.YtdmmahhnfnefoaaDoorCc4
import Derived.Test.YtdmmahhnfnefoaaDoorRd
namespace Go.Proofs.YtdmmahhnfnefoaaDoor
open Go.RowKit
set_option maxRecDepth 10000
attribute [local irreducible] EK EX ER EN EL ES EG OpVal OpDoes OpSkip
variable {W : World} {F : SL} {X : Cx} {k : List KI} {σ : Env} {n m h : Nat} {ws l : List Nat} {s t : PStep} {pa pb pp pown pag po : Option Addr}

def AM (pc pp : Option Addr) (h : Nat) (pown pag : Option Addr) (a : ARun) : SL := match a with
  | .idle => SL.pure (pown = none ∧ pag = none) * CacheC pc pp h [] none
  | .own t => SL.pure (pag = none) * SL.ex fun q : Option Addr => CStO pown 0 q false * (StepC q t * CacheC pc pp h [] none)
  | .again t s => SL.ex fun g : Option Addr × Option Addr => CStO pown 0 g.1 true * (StepC g.1 t * (CStO pag 1 g.2 false * (StepC g.2 s * CacheC pc pp h [] none)))
theorem AM.ent_idle : Ent (CacheC pa pp h [] none * F) (AM pa pp h none none .idle * F) := by
  unfold AM; exact Ent.assoc (Ent.pure ⟨rfl, rfl⟩ (Ent.refl _))
theorem AM.ent_own {q : Option Addr} : Ent (CStO pown 0 q false * (StepC q t * (CacheC pa pp h [] none * F))) (AM pa pp h pown none (.own t) * F) := by
  unfold AM; exact Ent.assoc (Ent.pure rfl (Ent.ex q (Ent.assoc (Ent.of_eq (by rw [SL.sep_assoc])))))
theorem AM.ent_again {q z : Option Addr} : Ent (CStO pown 0 q true * (StepC q t * (CStO pag 1 z false * (StepC z s * (CacheC pa pp h [] none * F))))) (AM pa pp h pown pag (.again t s) * F) := by
  unfold AM; exact Ent.ex (q, z) (Ent.assoc (Ent.of_eq (by rw [SL.sep_assoc, SL.sep_assoc, SL.sep_assoc])))
theorem EK_aidle (H : pown = none → pag = none → EK X k σ (CacheC pa pp h [] none * F)) : EK X k σ (AM pa pp h pown pag .idle * F) := by
  unfold EK at H ⊢
  intro a w ha hs
  unfold AM at hs
  rw [SL.sep_assoc] at hs
  obtain ⟨⟨e1, e2⟩, hs⟩ := hs.out
  exact H e1 e2 a w ha hs
theorem EK_aown (H : pag = none → ∀ q, EK X k σ (CStO pown 0 q false * (StepC q t * (CacheC pa pp h [] none * F)))) : EK X k σ (AM pa pp h pown pag (.own t) * F) := by
  unfold EK at H ⊢
  intro a w ha hs
  unfold AM at hs
  rw [SL.sep_assoc] at hs
  obtain ⟨e1, hs⟩ := hs.out
  obtain ⟨q, hs⟩ := hs.ex_out
  exact H e1 q a w ha (by rwa [SL.sep_assoc, SL.sep_assoc] at hs)
theorem EK_aagain (H : ∀ q z, EK X k σ (CStO pown 0 q true * (StepC q t * (CStO pag 1 z false * (StepC z s * (CacheC pa pp h [] none * F)))))) : EK X k σ (AM pa pp h pown pag (.again t s) * F) := by
  unfold EK at H ⊢
  intro a w ha hs
  unfold AM at hs
  obtain ⟨q, hs⟩ := hs.ex_out
  exact H q.1 q.2 a w ha (by rwa [SL.sep_assoc, SL.sep_assoc, SL.sep_assoc, SL.sep_assoc] at hs)
instance (priority := 2000) (pc pp : Option Addr) (h : Nat) (pown pag : Option Addr) (a : ARun) (F : SL) : AtP (AM pc pp h pown pag a * F) pc (AM pc pp h pown pag a) F := ⟨rfl⟩
structure NG where
  i : Nat
  T : Nat
  ws : List Nat
  ha : Nat
  a : ARun
  pown : Option Addr
  pag : Option Addr
  po : Option Addr
  c : CSt
  held : List Nat
  q : Slab
  full : Bool
  on : Bool
def NSt (pa pb pp : Option Addr) (r : Nat) (g : NG) (F : SL) : SL := AM pa pp g.ha g.pown g.pag g.a * (CA pb pp g.po g.c * (PoolC pp r g.ws * (RowC 3 1 g.q.1 g.held.length g.q.2 (natsR .i64 g.held) * F)))
structure NH where
  i : Nat
  ws : List Nat
  h : Nat
  held : List Nat
  q : Slab
structure NP where
  l : List Nat
  held : List Nat
  q : Slab
structure NB where
  ws : List Nat
  po : Option Addr
  c : CSt
  held : List Nat
  q : Slab
attribute [local simp] natsR_len
theorem CNone_walk (hT : Tab W) (p : Option Addr) (n c : Nat) (f : Nat → Nat → Int) [Ro W p n (tabR 3 n f)] (z : Int) :
    Spec Tryd.prog 3 [.int .i64 z, .slice p n c] W F (fun _ : Unit => .bool true) (fun _ => F) := by
  refine Spec.of Tryd.func3 rfl Tryd.ntmps3 rfl ?_
  have hz0 : 0 ≤ IntKind.u64.wrap z := by rw [IntKind.wrap_u64]; omega
  repeat (first | refine go ?_ | (refine goX ?_; intro))
  obtain ⟨r, hr, er⟩ : ∃ r : Nat, (1 ≤ r ∧ r ≤ 40) ∧ 1 + IntKind.u64.wrap z % 40 = (r : Int) := ⟨(1 + IntKind.u64.wrap z % 40).toNat, by omega, by omega⟩
  rw [er]
  refine EL_call rfl (New_spec (n := r) (by omega) (by omega)) ?_
  intro pp
  repeat (first | refine go ?_ | (refine goX ?_; intro))
  refine EL_call rfl (fills_spec hT) ?_
  intro _
  repeat (first | refine go ?_ | (refine goX ?_; intro))
  refine EL_call rfl (CaNew_spec 0) ?_
  intro pa
  repeat (first | refine go ?_ | (refine goX ?_; intro))
  refine EL_call rfl (Spec.at1 pp (CaNew_spec 1)) ?_
  intro pb
  repeat (first | refine go ?_ | (refine goX ?_; intro))
  have hm2 : (r + 31) / 32 ≤ 2 := by omega
  refine EK_exits (γ := NH) (fun g => WordsOk ((r + 31) / 32) g.ws ∧ Low 2400 g.ws ∧ g.held.length ≤ 64) (fun g => [(1, .slice p n c), (6, .pointer pp), (8, .pointer pa), (10, .pointer pb), (12, .slice g.q.1 g.held.length g.q.2)])
    (fun g => CacheC pa pp 0 [] none * (CacheC pb pp g.h [] none * (PoolC pp r g.ws * (RowC 3 1 g.q.1 g.held.length g.q.2 (natsR .i64 g.held) * F)))) ?_ ?_
  · refine EK_loop (γ := NH) (fun g => g.i ≤ 8 ∧ WordsOk ((r + 31) / 32) g.ws ∧ Low (300 * g.i) g.ws ∧ g.held.length ≤ 8 * g.i) (fun g => [(1, .slice p n c), (6, .pointer pp), (8, .pointer pa), (10, .pointer pb), (12, .slice g.q.1 g.held.length g.q.2), (13, .int .i64 (g.i : Int))])
      (fun g => CacheC pa pp 0 [] none * (CacheC pb pp g.h [] none * (PoolC pp r g.ws * (RowC 3 1 g.q.1 g.held.length g.q.2 (natsR .i64 g.held) * F)))) (fun g => 8 - g.i) ⟨0, newWords r, 1, [], (none, 0)⟩ ⟨Nat.zero_le _, newWords_ok (by omega) (by omega), low_new r, by simp⟩ ⟨rfl, rfl, rfl, rfl, rfl, rfl, trivial⟩ (Ent.sat ?_) ?_
    · dsimp only
      refine Ent.at pa rfl (Ent.cons (Ent.cons (Ent.none (Ent.refl _))))
    intro ⟨i, ws, h, held, q⟩ ⟨hi, hw, hlo, hhe⟩; dsimp only at hi hw hlo hhe ⊢
    by_cases hi8 : i < 8
    · repeat (first | refine go ?_ | (refine goX ?_; intro))
      refine EL_call rfl (Spec.pre (Fill_take hw (n := r) (pp := pp) (pc := pb) (h := h) (F := CacheC pa pp 0 [] none * (RowC 3 1 q.1 held.length q.2 (natsR .i64 held) * F))) (by first | exact Ent.refl _ | exact Ent.last | (repeat (first | refine Ent.cons ?_ | exact Ent.any | exact Ent.last)))) ?_
      intro g
      have hso := takeNew_ok (h : Int) 8 (m := (r + 31) / 32) (by omega)
      have hend : 0 < (runS 299 1 ws (takeNew (h : Int) 8 ((r + 31) / 32))).2 := take_ends _ 299 1 _ rfl rfl rfl rfl (by show (r + 31) / 32 + 2 ≤ 299; omega) (by omega)
      have hmo := (take_most (ws := ws) (s := takeNew (h : Int) 8 ((r + 31) / 32)) rfl (by simp [takeNew]) 299 1).1
      rw [show (takeNew (h : Int) 8 ((r + 31) / 32)).most = 8 from rfl] at hmo
      obtain ⟨hw2, hs2⟩ := runS_ok hw hso 299 1
      obtain ⟨hr1, hr2⟩ := run_rises 299 1 (300 * i) ws _ hw hso hlo (by omega)
      repeat (first | refine go ?_ | (refine goX ?_; intro))
      refine EL_call rfl (Spec.pre (CRun_fill hT hw hso (by simp) hend (n := r) (pp := pp) (pc := pb) (ps := g.1) (h := h) (l := []) (qo := none) (sp := g.2) (F := CacheC pa pp 0 [] none * (RowC 3 1 q.1 held.length q.2 (natsR .i64 held) * F))) (by first | exact Ent.refl _ | exact Ent.last | (repeat (first | refine Ent.cons ?_ | exact Ent.any | exact Ent.last)))) ?_
      intro _
      generalize runS 299 1 ws (takeNew (h : Int) 8 ((r + 31) / 32)) = D at *
      generalize hm : ([] ++ D.1.2.ports.reverse : List Nat) = mn at *
      have hmn : mn.length = D.1.2.ports.length := by rw [← hm, List.nil_append, List.length_reverse]
      repeat (first | refine go ?_ | (refine goX ?_; intro))
      refine EL_call rfl (Spec.at1 pb (Pop_spec (by omega))) ?_
      intro _
      unfold topV
      repeat (first | refine go ?_ | (refine goX ?_; intro))
      refine EK_exits (γ := NP) (fun g => g.held.length ≤ held.length + 8) (fun g => [(1, .slice p n c), (6, .pointer pp), (8, .pointer pa), (10, .pointer pb), (12, .slice g.q.1 g.held.length g.q.2), (13, .int .i64 (i : Int))])
        (fun g => CacheC pa pp 0 [] none * (CacheC pb pp (cameH h D.1.2) [] none * (PoolC pp r D.1.1 * (RowC 3 1 g.q.1 g.held.length g.q.2 (natsR .i64 g.held) * F)))) ?_ ?_
      · refine EK_loop (γ := NP) (fun g => g.l.length + g.held.length ≤ held.length + 8) (fun g => [(1, .slice p n c), (6, .pointer pp), (8, .pointer pa), (10, .pointer pb), (12, .slice g.q.1 g.held.length g.q.2), (13, .int .i64 (i : Int)), (14, .int .i64 ((g.l.getD (g.l.length - 1) 0 : Nat) : Int)), (15, .bool (decide (0 < g.l.length)))])
          (fun g => CacheC pa pp 0 [] none * (CacheC pb pp (cameH h D.1.2) (g.l.take (g.l.length - 1)) none * (PoolC pp r D.1.1 * (RowC 3 1 g.q.1 g.held.length g.q.2 (natsR .i64 g.held) * F)))) (fun g => g.l.length) ⟨mn, held, q⟩ (by dsimp only; omega) ⟨rfl, rfl, rfl, rfl, rfl, rfl, rfl, rfl, trivial⟩ (Ent.sat (by first | exact Ent.refl _ | exact Ent.last | (repeat (first | refine Ent.cons ?_ | exact Ent.any | exact Ent.last)))) ?_
        intro ⟨l, held', q'⟩ hl; dsimp only at hl ⊢
        by_cases hl0 : 0 < l.length
        · rw [decide_eq_true hl0]
          repeat (first | refine go ?_ | (refine goX ?_; intro))
          rename_i y o
          refine EL_call rfl (Spec.at1 pb (Pop_spec (by rw [List.length_take]; omega))) ?_
          intro _
          unfold topV
          repeat (first | refine go ?_ | (refine goX ?_; intro))
          refine EK_round ⟨l.take (l.length - 1), held' ++ [l.getD (l.length - 1) 0], o⟩ (by dsimp only; rw [len_snoc, List.length_take]; omega) (by dsimp only; rw [List.length_take]; omega) ⟨rfl, rfl, rfl, rfl, by dsimp only; rw [len_snoc]; rfl, rfl, rfl, rfl, trivial⟩ (Ent.sat ?_)
          dsimp only
          refine Ent.at pa rfl (Ent.at pb rfl (Ent.at pp rfl (Ent.row o.1 (by rw [len_snoc]) (by simp [natsR]) ?_)))
          first | exact Ent.refl _ | exact Ent.last | (repeat (first | refine Ent.cons ?_ | exact Ent.any | exact Ent.last))
        · rw [decide_eq_false hl0]
          repeat (first | refine go ?_ | (refine goX ?_; intro))
          have hle : l = [] := List.eq_nil_of_length_eq_zero (by omega)
          subst hle
          refine EK_meet ⟨[], held', q'⟩ (by dsimp only; simpa using hl) ⟨rfl, rfl, rfl, rfl, rfl, rfl, trivial⟩ (Ent.sat (by first | exact Ent.refl _ | exact Ent.last | (repeat (first | refine Ent.cons ?_ | exact Ent.any | exact Ent.last))))
      intro ⟨l, held', q'⟩ hl; dsimp only at hl ⊢
      repeat (first | refine go ?_ | (refine goX ?_; intro))
      refine EK_round ⟨i + 1, D.1.1, cameH h D.1.2, held', q'⟩ ⟨by dsimp only; omega, hw2, hr2.mono (by dsimp only; omega), by dsimp only; omega⟩ (by dsimp only; omega) ⟨rfl, rfl, rfl, rfl, rfl, rfl, trivial⟩ (Ent.sat (by first | exact Ent.refl _ | exact Ent.last | (repeat (first | refine Ent.cons ?_ | exact Ent.any | exact Ent.last))))
    · repeat (first | refine go ?_ | (refine goX ?_; intro))
      exact EK_meet ⟨i, ws, h, held, q⟩ ⟨hw, hlo.mono (by omega), by dsimp only; omega⟩ ⟨rfl, rfl, rfl, rfl, rfl, trivial⟩ (Ent.sat (Ent.refl _))
  intro ⟨_, ws, h, held, q⟩ ⟨hw, hlo, hhe⟩; dsimp only at hw hlo hhe ⊢
  repeat (first | refine go ?_ | (refine goX ?_; intro))
  refine EK_loop (γ := NG) (fun g => g.i ≤ n ∧ g.i ≤ 200 ∧ NoneI ((r + 31) / 32) g.T g.ws g.a g.c g.held g.full g.on g.i) (fun g => [(1, .slice p n c), (6, .pointer pp), (8, .pointer pa), (10, .pointer pb), (12, .slice g.q.1 g.held.length g.q.2), (16, .pointer g.pown), (17, .pointer g.pag), (18, .pointer g.po), (19, .bool g.full), (20, .bool g.on), (21, .int .i64 (g.i : Int))])
    (fun g => NSt pa pb pp r g F) (fun g => n - g.i) ⟨0, 2400, ws, 0, .idle, none, none, none, ⟨h, [], .idle⟩, held, q, true, false⟩ ⟨Nat.zero_le _, Nat.zero_le _, ⟨hw, hlo, by show 2400 ≤ 3000 + 0; omega, ⟨by simp, trivial⟩, trivial, by show held.length ≤ 100 + 32 * 0; omega⟩⟩ ⟨rfl, rfl, rfl, rfl, rfl, rfl, rfl, rfl, rfl, rfl, rfl, trivial⟩ (Ent.sat ?_) ?_
  · unfold NSt; dsimp only
    refine Ent.trans ?_ AM.ent_idle
    refine Ent.cons (Ent.trans ?_ (CA.ent_idle (c := ⟨h, [], .idle⟩) rfl))
    first | exact Ent.refl _ | exact Ent.last | (repeat (first | refine Ent.cons ?_ | exact Ent.any | exact Ent.last))
  intro ⟨i, T, ws, ha, a, pown, pag, po, cc, held, q, full, on⟩ ⟨hi, hi2, hI⟩; dsimp only at hi hi2 hI ⊢
  unfold NSt; dsimp only
  have hw := hI.words
  have hlo := hI.low
  have hsm := hI.small
  have hhl := hI.held
  have hbI := hI.b
  have hbl := hbI.len
  have haI := hI.a
  by_cases hin : i < n
  · by_cases hi3 : i < 200
    · refine EK_seq ?_
      refine EK_join (γ := Unit) (fun _ => True) (fun _ => [(1, .slice p n c), (6, .pointer pp), (8, .pointer pa), (10, .pointer pb), (12, .slice q.1 held.length q.2), (16, .pointer pown), (17, .pointer pag), (18, .pointer po), (19, .bool full), (20, .bool on), (21, .int .i64 (i : Int))]) (fun _ => AM pa pp ha pown pag a * (CA pb pp po cc * (PoolC pp r ws * (RowC 3 1 q.1 held.length q.2 (natsR .i64 held) * F)))) ?_ ?_
      · repeat (first | refine go ?_ | (refine goX ?_; intro))
        exact EK_meet () trivial ⟨rfl, rfl, rfl, rfl, rfl, rfl, rfl, rfl, rfl, rfl, rfl, trivial⟩ (Ent.sat (Ent.refl _))
      intro _ _
      refine EK_seq (EK_block (EK_seq ?_))
      refine EK_join (γ := Option Addr) (fun _ => True) (fun px => [(22, .pointer px), (1, .slice p n c), (6, .pointer pp), (8, .pointer pa), (10, .pointer pb), (12, .slice q.1 held.length q.2), (16, .pointer pown), (17, .pointer pag), (18, .pointer po), (19, .bool full), (20, .bool on), (21, .int .i64 (i : Int))]) (fun px => AM pa pp ha pown pag a * (CA pb pp po cc * ((Obj px 39 [.int .i64 (f i 0), .int .i64 (f i 1), .int .i64 (f i 2)]) * (PoolC pp r ws * (RowC 3 1 q.1 held.length q.2 (natsR .i64 held) * F))))) ?_ ?_
      · repeat (first | refine go ?_ | (refine goX ?_; intro))
        rename_i px
        exact EK_meet px trivial ⟨rfl, rfl, rfl, rfl, rfl, rfl, rfl, rfl, rfl, rfl, rfl, rfl, trivial⟩ (Ent.sat (by first | exact Ent.refl _ | exact Ent.last | (repeat (first | refine Ent.cons ?_ | exact Ent.any | exact Ent.last))))
      intro px _
      repeat (first | refine go ?_ | (refine goX ?_; intro))
      refine EK_cond_dec rfl (fun e0 => ?_) (fun e0 => ?_)
      · refine EK_seq ?_
        refine EK_join (γ := NB) (fun g => WordsOk ((r + 31) / 32) g.ws ∧ Rws ws g.ws ∧ Low (T + 1) g.ws ∧ BOk ((r + 31) / 32) g.c ∧ g.held.length ≤ held.length + 1) (fun g => [(1, .slice p n c), (6, .pointer pp), (8, .pointer pa), (10, .pointer pb), (12, .slice g.q.1 g.held.length g.q.2), (16, .pointer pown), (17, .pointer pag), (18, .pointer g.po), (19, .bool full), (20, .bool on), (21, .int .i64 (i : Int))])
          (fun g => AM pa pp ha pown pag a * (CA pb pp g.po g.c * (PoolC pp r g.ws * (RowC 3 1 g.q.1 g.held.length g.q.2 (natsR .i64 g.held) * F)))) ?_ ?_
        · refine EK_at pb ?_
          have hrun := hbI.run
          cases hr : cc.run with
          | still =>
            refine EK_still hr (EK_nonnil (q := po) fun hnn => ?_)
            repeat (first | refine go ?_ | (refine goX ?_; intro))
            refine EL_call rfl (Spec.at2 pb po Do_still) ?_
            intro _
            repeat (first | refine go ?_ | (refine goX ?_; intro))
            refine EK_meet ⟨ws, none, ⟨cc.home, cc.l, .idle⟩, held, q⟩ ⟨hw, Rws.refl _, hlo.mono (Nat.le_succ _), hbI.idle, by dsimp only; omega⟩ ⟨rfl, rfl, rfl, rfl, rfl, rfl, rfl, rfl, rfl, rfl, rfl, trivial⟩ (Ent.sat ?_)
            dsimp only
            refine Ent.at pa rfl (Ent.trans ?_ (CA.ent_idle (c := ⟨cc.home, cc.l, .idle⟩) rfl))
            first | exact Ent.refl _ | exact Ent.last | (repeat (first | refine Ent.cons ?_ | exact Ent.any | exact Ent.last))
          | back s =>
            rw [hr] at hrun
            refine EK_back hr fun sq => EK_nonnil (q := po) fun hnn => ?_
            repeat (first | refine go ?_ | (refine goX ?_; intro))
            refine EL_call rfl (Spec.pre (Do_back hT hw hrun (n := r) (pp := pp) (pc := pb) (ps := po) (h := cc.home) (l := cc.l) (qo := sq) (sp := sq) (F := AM pa pp ha pown pag a * ((Obj px 39 [.int .i64 (f i 0), .int .i64 (f i 1), .int .i64 (f i 2)]) * (RowC 3 1 q.1 held.length q.2 (natsR .i64 held) * F)))) (by first | exact Ent.refl _ | exact Ent.last | (repeat (first | refine Ent.cons ?_ | exact Ent.any | exact Ent.last)))) ?_
            intro _
            have hb2 := hbI.backs hr hw
            obtain ⟨hw2, _⟩ := doS_ok hw hrun
            obtain ⟨hr2, hl2⟩ := do_rises hw hrun hlo (by omega)
            cases hdn : (doS ws s).2.done with
            | true =>
              rw [if_pos rfl]
              repeat (first | refine go ?_ | (refine goX ?_; intro))
              refine EK_meet ⟨(doS ws s).1, none, ⟨cc.home, cc.l, .idle⟩, held, q⟩ ⟨hw2, hr2, hl2, hbI.idle, by dsimp only; omega⟩ ⟨rfl, rfl, rfl, rfl, rfl, rfl, rfl, rfl, rfl, rfl, rfl, trivial⟩ (Ent.sat ?_)
              dsimp only
              refine Ent.at pa rfl (Ent.trans ?_ (CA.ent_idle (c := ⟨cc.home, cc.l, .idle⟩) rfl))
              first | exact Ent.refl _ | exact Ent.last | (repeat (first | refine Ent.cons ?_ | exact Ent.any | exact Ent.last))
            | false =>
              rw [if_neg (by decide)]
              repeat (first | refine go ?_ | (refine goX ?_; intro))
              refine EK_meet ⟨(doS ws s).1, po, ⟨cc.home, cc.l, .back (doS ws s).2⟩, held, q⟩ ⟨hw2, hr2, hl2, hb2, by dsimp only; omega⟩ ⟨rfl, rfl, rfl, rfl, rfl, rfl, rfl, rfl, rfl, rfl, rfl, trivial⟩ (Ent.sat ?_)
              dsimp only
              refine Ent.at pa rfl (Ent.trans ?_ (CA.ent_back (q := sq) (c := ⟨cc.home, cc.l, .back (doS ws s).2⟩) rfl))
              first | exact Ent.refl _ | exact Ent.last | (repeat (first | refine Ent.cons ?_ | exact Ent.any | exact Ent.last))
          | fill s =>
            rw [hr] at hrun
            refine EK_fill hr fun sq => EK_nonnil (q := po) fun hnn => ?_
            repeat (first | refine go ?_ | (refine goX ?_; intro))
            refine EL_call rfl (Spec.pre (Do_fill hT hw hrun.2.1 (by omega) (n := r) (pp := pp) (pc := pb) (ps := po) (h := cc.home) (l := cc.l) (qo := none) (sp := sq) (F := AM pa pp ha pown pag a * ((Obj px 39 [.int .i64 (f i 0), .int .i64 (f i 1), .int .i64 (f i 2)]) * (RowC 3 1 q.1 held.length q.2 (natsR .i64 held) * F)))) (by first | exact Ent.refl _ | exact Ent.last | (repeat (first | refine Ent.cons ?_ | exact Ent.any | exact Ent.last)))) ?_
            intro _
            obtain ⟨hb3, hb2⟩ := hbI.fills hr hw
            obtain ⟨hw2, _⟩ := doS_ok hw hrun.2.1
            obtain ⟨hr2, hl2⟩ := do_rises hw hrun.2.1 hlo (by omega)
            cases hdn : (doS ws s).2.done with
            | true =>
              rw [if_pos rfl]
              repeat (first | refine go ?_ | (refine goX ?_; intro))
              refine EK_meet ⟨(doS ws s).1, none, ⟨cameH cc.home (doS ws s).2, cc.l ++ (doS ws s).2.ports.reverse, .idle⟩, held, q⟩ ⟨hw2, hr2, hl2, hb3 _, by dsimp only; omega⟩ ⟨rfl, rfl, rfl, rfl, rfl, rfl, rfl, rfl, rfl, rfl, rfl, trivial⟩ (Ent.sat ?_)
              dsimp only
              refine Ent.at pa rfl (Ent.trans ?_ (CA.ent_idle (c := ⟨cameH cc.home (doS ws s).2, cc.l ++ (doS ws s).2.ports.reverse, .idle⟩) rfl))
              first | exact Ent.refl _ | exact Ent.last | (repeat (first | refine Ent.cons ?_ | exact Ent.any | exact Ent.last))
            | false =>
              rw [if_neg (by decide)]
              repeat (first | refine go ?_ | (refine goX ?_; intro))
              refine EK_meet ⟨(doS ws s).1, po, ⟨cc.home, cc.l, .fill (doS ws s).2⟩, held, q⟩ ⟨hw2, hr2, hl2, hb2, by dsimp only; omega⟩ ⟨rfl, rfl, rfl, rfl, rfl, rfl, rfl, rfl, rfl, rfl, rfl, trivial⟩ (Ent.sat ?_)
              dsimp only
              refine Ent.at pa rfl (Ent.trans ?_ (CA.ent_fill (q := sq) (c := ⟨cc.home, cc.l, .fill (doS ws s).2⟩) rfl))
              first | exact Ent.refl _ | exact Ent.last | (repeat (first | refine Ent.cons ?_ | exact Ent.any | exact Ent.last))
          | idle =>
            refine EK_idle hr fun hnn => ?_
            subst hnn
            by_cases e1 : (f i 0).tmod 3 = 0 ∧ 0 < held.length
            · obtain ⟨e1, e2⟩ := e1
              haveI : Pos held.length := ⟨e2⟩
              repeat (first | refine go ?_ | (refine goX ?_; intro))
              rw [show (!decide ((none : Option Addr) = none)) = false from rfl]
              repeat (first | refine go ?_ | (refine goX ?_; intro))
              refine EL_call rfl (Spec.at1 pb (Put_still (held.getD 0 0) (by omega))) ?_
              intro g
              repeat (first | refine go ?_ | (refine goX ?_; intro))
              refine EL_call rfl (Spec.pre (Flush_spec (l := cc.l ++ [held.getD 0 0]) (by rw [len_snoc]; omega) (by omega) (n := r) (ws := ws) (pp := pp) (pc := pb) (h := cc.home) (F := AM pa pp ha pown pag a * ((Obj px 39 [.int .i64 (f i 0), .int .i64 (f i 1), .int .i64 (f i 2)]) * (RowC 3 1 q.1 held.length q.2 (natsR .i64 held) * F)))) (by first | exact Ent.refl _ | exact Ent.last | (repeat (first | refine Ent.cons ?_ | exact Ent.any | exact Ent.last)))) ?_
              intro g2
              repeat (first | refine go ?_ | (refine goX ?_; intro))
              have hdl : (held.drop 1).length = held.length - 1 := List.length_drop
              refine EK_meet ⟨ws, g2.1, ⟨cc.home, [], .back (backNew r ((cc.l ++ [held.getD 0 0]).map fun (x : Nat) => (x : Int)))⟩, held.drop 1, (dropP q.1 1 q.2 1, q.2 - 1)⟩ ⟨hw, Rws.refl _, hlo.mono (Nat.le_succ _), ⟨by simp, backNew_ok (by omega) _⟩, by dsimp only; omega⟩ ⟨rfl, rfl, rfl, rfl, by dsimp only; rw [hdl]; rfl, rfl, rfl, rfl, rfl, rfl, rfl, trivial⟩ (Ent.sat ?_)
              dsimp only
              refine Ent.at pa rfl (Ent.trans ?_ (CA.ent_back (q := g2.2) (c := ⟨cc.home, [], .back (backNew r ((cc.l ++ [held.getD 0 0]).map fun (x : Nat) => (x : Int)))⟩) rfl))
              refine Ent.at g2.1 rfl (Ent.at g2.2 rfl (Ent.at pb rfl (Ent.at pp rfl (Ent.rowLo q.1 1 (by omega) (Ent.row _ hdl.symm (by simp [natsR, List.map_drop]) ?_)))))
              first | exact Ent.refl _ | exact Ent.last | (repeat (first | refine Ent.cons ?_ | exact Ent.any | exact Ent.last))
            · have hcase : ((f i 0).tmod 3 = 1) ∨ ((f i 0).tmod 3 ≠ 1 ∧ ((f i 0).tmod 3 ≠ 0 ∨ ((f i 0).tmod 3 = 0 ∧ held.length = 0))) := by omega
              rcases hcase with e2 | ⟨e2, e3⟩
              · repeat (first | refine go ?_ | (refine goX ?_; intro))
                rw [show (!decide ((none : Option Addr) = none)) = false from rfl]
                repeat (first | refine go ?_ | (refine goX ?_; intro))
                by_cases hl0 : cc.l.length = 0
                · have hl : cc.l = [] := List.eq_nil_of_length_eq_zero hl0
                  rw [hl]
                  refine EL_call rfl (Spec.pre (Fill_take hw (n := r) (pp := pp) (pc := pb) (h := cc.home) (F := AM pa pp ha pown pag a * ((Obj px 39 [.int .i64 (f i 0), .int .i64 (f i 1), .int .i64 (f i 2)]) * (RowC 3 1 q.1 held.length q.2 (natsR .i64 held) * F)))) (by first | exact Ent.refl _ | exact Ent.last | (repeat (first | refine Ent.cons ?_ | exact Ent.any | exact Ent.last)))) ?_
                  intro g
                  repeat (first | refine go ?_ | (refine goX ?_; intro))
                  refine EK_meet ⟨ws, g.1, ⟨cc.home, [], .fill (takeNew (cc.home : Int) 8 ((r + 31) / 32))⟩, held, q⟩ ⟨hw, Rws.refl _, hlo.mono (Nat.le_succ _), ⟨by simp, rfl, takeNew_ok _ _ (by omega), rfl, by simp [takeNew], rfl⟩, by dsimp only; omega⟩ ⟨rfl, rfl, rfl, rfl, rfl, rfl, rfl, rfl, rfl, rfl, rfl, trivial⟩ (Ent.sat ?_)
                  dsimp only
                  refine Ent.at pa rfl (Ent.trans ?_ (CA.ent_fill (q := g.2) (c := ⟨cc.home, [], .fill (takeNew (cc.home : Int) 8 ((r + 31) / 32))⟩) rfl))
                  first | exact Ent.refl _ | exact Ent.last | (repeat (first | refine Ent.cons ?_ | exact Ent.any | exact Ent.last))
                · refine EL_call rfl (Spec.at1 pb (Fill_still (by omega))) ?_
                  intro g
                  repeat (first | refine go ?_ | (refine goX ?_; intro))
                  refine EK_meet ⟨ws, g, ⟨cc.home, cc.l, .still⟩, held, q⟩ ⟨hw, Rws.refl _, hlo.mono (Nat.le_succ _), ⟨hbl, trivial⟩, by dsimp only; omega⟩ ⟨rfl, rfl, rfl, rfl, rfl, rfl, rfl, rfl, rfl, rfl, rfl, trivial⟩ (Ent.sat ?_)
                  dsimp only
                  refine Ent.at pa rfl (Ent.trans ?_ (CA.ent_still (c := ⟨cc.home, cc.l, .still⟩) rfl))
                  first | exact Ent.refl _ | exact Ent.last | (repeat (first | refine Ent.cons ?_ | exact Ent.any | exact Ent.last))
              · rcases e3 with e3 | ⟨e3, e4⟩ <;> (
                  repeat (first | refine go ?_ | (refine goX ?_; intro))
                  rw [show (!decide ((none : Option Addr) = none)) = false from rfl]
                  repeat (first | refine go ?_ | (refine goX ?_; intro))
                  refine EL_call rfl (Spec.at1 pb (Pop_spec (by omega))) ?_
                  intro _
                  unfold topV
                  by_cases hl : 0 < cc.l.length
                  · rw [decide_eq_true hl]
                    repeat (first | refine go ?_ | (refine goX ?_; intro))
                    rename_i y o
                    refine EK_meet ⟨ws, none, ⟨cc.home, cc.l.take (cc.l.length - 1), .idle⟩, held ++ [cc.l.getD (cc.l.length - 1) 0], o⟩ ⟨hw, Rws.refl _, hlo.mono (Nat.le_succ _), ⟨by dsimp only; rw [List.length_take]; omega, trivial⟩, by dsimp only; rw [len_snoc]; omega⟩ ⟨rfl, rfl, rfl, rfl, by dsimp only; rw [len_snoc]; rfl, rfl, rfl, rfl, rfl, rfl, rfl, trivial⟩ (Ent.sat ?_)
                    dsimp only
                    refine Ent.at pa rfl (Ent.trans ?_ (CA.ent_idle (c := ⟨cc.home, cc.l.take (cc.l.length - 1), .idle⟩) rfl))
                    refine Ent.at pb rfl (Ent.at pp rfl (Ent.row o.1 (by rw [len_snoc]) (by simp [natsR]) ?_))
                    first | exact Ent.refl _ | exact Ent.last | (repeat (first | refine Ent.cons ?_ | exact Ent.any | exact Ent.last))
                  · rw [decide_eq_false hl]
                    repeat (first | refine go ?_ | (refine goX ?_; intro))
                    have htk : cc.l.take (cc.l.length - 1) = cc.l := by rw [List.eq_nil_of_length_eq_zero (show cc.l.length = 0 by omega)]; rfl
                    rw [htk]
                    refine EK_meet ⟨ws, none, ⟨cc.home, cc.l, .idle⟩, held, q⟩ ⟨hw, Rws.refl _, hlo.mono (Nat.le_succ _), hbI.idle, by dsimp only; omega⟩ ⟨rfl, rfl, rfl, rfl, rfl, rfl, rfl, rfl, rfl, rfl, rfl, trivial⟩ (Ent.sat ?_)
                    dsimp only
                    refine Ent.at pa rfl (Ent.trans ?_ (CA.ent_idle (c := ⟨cc.home, cc.l, .idle⟩) rfl))
                    first | exact Ent.refl _ | exact Ent.last | (repeat (first | refine Ent.cons ?_ | exact Ent.any | exact Ent.last)))
        intro ⟨ws', po', c', held', q'⟩ ⟨hw', hr', hl', hb', hh'⟩; dsimp only at hw' hr' hl' hb' hh' ⊢
        have hN := hI.other hr' hw' hl' hb' hh'
        cases a with
        | idle =>
          refine EK_aidle fun e1 e2 => ?_
          subst e1 e2
          cases full <;> (
            repeat (first | refine go ?_ | (refine goX ?_; intro))
            refine EK_round ⟨i + 1, T + 1, ws', ha, .idle, none, none, po', c', held', q', _, on⟩ ⟨by dsimp only; omega, by dsimp only; omega, hN⟩ (by dsimp only; omega) ⟨rfl, rfl, rfl, rfl, rfl, rfl, rfl, rfl, rfl, rfl, rfl, trivial⟩ (Ent.sat ?_)
            dsimp only
            refine Ent.trans ?_ (AM.ent_idle)
            first | exact Ent.refl _ | exact Ent.last | (repeat (first | refine Ent.cons ?_ | exact Ent.any | exact Ent.last)))
        | own t =>
          refine EK_aown fun e2 sq => ?_
          subst e2
          cases full <;> (
            repeat (first | refine go ?_ | (refine goX ?_; intro))
            refine EK_round ⟨i + 1, T + 1, ws', ha, .own t, pown, none, po', c', held', q', _, on⟩ ⟨by dsimp only; omega, by dsimp only; omega, hN⟩ (by dsimp only; omega) ⟨rfl, rfl, rfl, rfl, rfl, rfl, rfl, rfl, rfl, rfl, rfl, trivial⟩ (Ent.sat ?_)
            dsimp only
            refine Ent.trans ?_ (AM.ent_own (q := sq))
            first | exact Ent.refl _ | exact Ent.last | (repeat (first | refine Ent.cons ?_ | exact Ent.any | exact Ent.last)))
        | again t s =>
          refine EK_aagain fun sq sz => EK_nonnil (q := pag) fun hnn => ?_
          by_cases hfo : full = true ∧ on = false
          · obtain ⟨rfl, rfl⟩ := hfo
            repeat (first | refine go ?_ | (refine goX ?_; intro))
            refine EL_call rfl (Spec.at1 pp (Free_spec hw')) ?_
            intro o
            repeat (first | refine go ?_ | (refine goX ?_; intro))
            have hfe : fullN (.again t s) true false ws' ((r + 31) / 32 * 32) = decide (((freeN ws' ((r + 31) / 32 * 32)).length : Int) = 0) := by
              unfold fullN
              rw [Bool.true_and, Bool.false_or]
              exact decide_eq_decide.2 ⟨fun h => by rw [h]; rfl, fun h => List.eq_nil_of_length_eq_zero (by omega)⟩
            rw [hfe] at hN
            refine EK_round ⟨i + 1, T + 1, ws', ha, .again t s, pown, pag, po', c', held', q', decide (((freeN ws' ((r + 31) / 32 * 32)).length : Int) = 0), false⟩ ⟨by dsimp only; omega, by dsimp only; omega, hN⟩ (by dsimp only; omega) ⟨rfl, rfl, rfl, rfl, rfl, rfl, rfl, rfl, rfl, rfl, rfl, trivial⟩ (Ent.sat ?_)
            dsimp only
            refine Ent.trans ?_ (AM.ent_again (q := sq) (z := sz))
            first | exact Ent.refl _ | exact Ent.last | (repeat (first | refine Ent.cons ?_ | exact Ent.any | exact Ent.last))
          · have hcase : (full = false) ∨ (full = true ∧ on = true) := by cases full <;> cases on <;> simp_all
            rcases hcase with e | ⟨e, e2⟩ <;> (
              subst e
              try subst e2
              repeat (first | refine go ?_ | (refine goX ?_; intro))
              refine EK_round ⟨i + 1, T + 1, ws', ha, .again t s, pown, pag, po', c', held', q', _, _⟩ ⟨by dsimp only; omega, by dsimp only; omega, hN⟩ (by dsimp only; omega) ⟨rfl, rfl, rfl, rfl, rfl, rfl, rfl, rfl, rfl, rfl, rfl, trivial⟩ (Ent.sat ?_)
              dsimp only
              refine Ent.trans ?_ (AM.ent_again (q := sq) (z := sz))
              first | exact Ent.refl _ | exact Ent.last | (repeat (first | refine Ent.cons ?_ | exact Ent.any | exact Ent.last)))
      · cases a with
        | idle =>
          refine EK_aidle fun e1 e2 => ?_
          subst e1 e2
          repeat (first | refine go ?_ | (refine goX ?_; intro))
          refine EL_call rfl (Spec.pre (Fill_take hw (n := r) (pp := pp) (pc := pa) (h := ha) (F := (CA pb pp po cc * ((Obj px 39 [.int .i64 (f i 0), .int .i64 (f i 1), .int .i64 (f i 2)]) * (RowC 3 1 q.1 held.length q.2 (natsR .i64 held) * F))))) (by first | exact Ent.refl _ | exact Ent.last | (repeat (first | refine Ent.cons ?_ | exact Ent.any | exact Ent.last)))) ?_
          intro g
          repeat (first | refine go ?_ | (refine goX ?_; intro))
          refine EK_round ⟨i + 1, T + 1, ws, ha, .own (takeNew (ha : Int) 8 ((r + 31) / 32)), g.1, none, po, cc, held, q, full, on⟩ ⟨by dsimp only; omega, by dsimp only; omega, hI.alone hw (hlo.mono (Nat.le_succ _)) ⟨takeNew_live _ _ (by omega), rfl⟩ (by dsimp only; omega)⟩ (by dsimp only; omega) ⟨rfl, rfl, rfl, rfl, rfl, rfl, rfl, rfl, rfl, rfl, rfl, trivial⟩ (Ent.sat ?_)
          dsimp only
          refine Ent.trans ?_ (AM.ent_own (q := g.2))
          first | exact Ent.refl _ | exact Ent.last | (repeat (first | refine Ent.cons ?_ | exact Ent.any | exact Ent.last))
        | own t =>
          refine EK_aown fun e2 sq => EK_nonnil (q := pown) fun hnn => ?_
          subst e2
          repeat (first | refine go ?_ | (refine goX ?_; intro))
          refine EL_call rfl (Spec.pre (Do_fill hT hw haI.1.ok (by simp) (n := r) (pp := pp) (pc := pa) (ps := pown) (h := ha) (l := []) (qo := none) (sp := sq) (F := (CA pb pp po cc * ((Obj px 39 [.int .i64 (f i 0), .int .i64 (f i 1), .int .i64 (f i 2)]) * (RowC 3 1 q.1 held.length q.2 (natsR .i64 held) * F))))) (by first | exact Ent.refl _ | exact Ent.last | (repeat (first | refine Ent.cons ?_ | exact Ent.any | exact Ent.last)))) ?_
          intro _
          obtain ⟨o1, o2, o3, o4, o5⟩ := own_step (full := full) (on := on) hw haI.1 haI.2
          have o6 := do_rises hw haI.1.ok hlo (by omega)
          have o7 := (doS_ok hw haI.1.ok).1
          cases hdn : (doS ws t).2.done with
          | false =>
            obtain ⟨e1, hA⟩ := o1 hdn
            rw [if_neg (by decide)]
            repeat (first | refine go ?_ | (refine goX ?_; intro))
            refine EK_round ⟨i + 1, T + 1, (doS ws t).1, ha, .own (doS ws t).2, pown, none, po, cc, held, q, full, on⟩ ⟨by dsimp only; omega, by dsimp only; omega, by rw [e1]; exact hI.alone hw (hlo.mono (Nat.le_succ _)) hA (by dsimp only; omega)⟩ (by dsimp only; omega) ⟨rfl, rfl, rfl, rfl, rfl, rfl, rfl, rfl, rfl, rfl, rfl, trivial⟩ (Ent.sat ?_)
            dsimp only
            refine Ent.trans ?_ (AM.ent_own (q := sq))
            first | exact Ent.refl _ | exact Ent.last | (repeat (first | refine Ent.cons ?_ | exact Ent.any | exact Ent.last))
          | true =>
            rw [if_pos rfl]
            repeat (first | refine go ?_ | (refine goX ?_; intro))
            refine EL_call rfl (Spec.at2 pown sq CNone_spec) ?_
            intro _
            cases hn : noneS (doS ws t).2 with
            | true =>
              obtain ⟨e1, hA⟩ := o2 hn
              have hn2 := hn
              unfold noneS at hn2
              simp only [Bool.and_eq_true, decide_eq_true_eq] at hn2
              have e5 : cameH ha (doS ws t).2 = ha := by unfold cameH; rw [if_pos hn2.2]
              have e6 : ([] ++ (doS ws t).2.ports.reverse : List Nat) = [] := by rw [hn2.2]; rfl
              rw [e5, e6]
              repeat (first | refine go ?_ | (refine goX ?_; intro))
              refine EL_call rfl (Spec.pre (Again_spec hn (by have := (o4.takes hn2.1.1).1; omega) (n := r) (ws := (doS ws t).1) (pp := pp) (pc := pa) (ps := pown) (q := sq) (h := ha) (l := []) (qo := none) (F := (CA pb pp po cc * ((Obj px 39 [.int .i64 (f i 0), .int .i64 (f i 1), .int .i64 (f i 2)]) * (RowC 3 1 q.1 held.length q.2 (natsR .i64 held) * F))))) (by first | exact Ent.refl _ | exact Ent.last | (repeat (first | refine Ent.cons ?_ | exact Ent.any | exact Ent.last)))) ?_
              intro g
              repeat (first | refine go ?_ | (refine goX ?_; intro))
              refine EL_call rfl (Spec.at1 pp (Free_spec o7)) ?_
              intro o
              repeat (first | refine go ?_ | (refine goX ?_; intro))
              have hfe : decide (freeN ws ((r + 31) / 32 * 32) = []) = decide (((freeN (doS ws t).1 ((r + 31) / 32 * 32)).length : Int) = 0) := by
                rw [e1]
                exact decide_eq_decide.2 ⟨fun h => by rw [h]; rfl, fun h => List.eq_nil_of_length_eq_zero (by omega)⟩
              rw [hfe] at hA
              refine EK_round ⟨i + 1, T + 1, (doS ws t).1, ha, .again (doS ws t).2 (sameNew (doS ws t).2), pown, g.1, po, cc, held, q, decide (((freeN (doS ws t).1 ((r + 31) / 32 * 32)).length : Int) = 0), false⟩ ⟨by dsimp only; omega, by dsimp only; omega, hI.alone o7 o6.2 (by rw [e1] at hA ⊢; exact hA) (by dsimp only; omega)⟩ (by dsimp only; omega) ⟨rfl, rfl, rfl, rfl, rfl, rfl, rfl, rfl, rfl, rfl, rfl, trivial⟩ (Ent.sat ?_)
              dsimp only
              refine Ent.trans ?_ (AM.ent_again (q := sq) (z := g.2))
              first | exact Ent.refl _ | exact Ent.last | (repeat (first | refine Ent.cons ?_ | exact Ent.any | exact Ent.last))
            | false =>
              repeat (first | refine go ?_ | (refine goX ?_; intro))
              generalize hm : ([] ++ (doS ws t).2.ports.reverse : List Nat) = mn at *
              have hmn : mn.length = (doS ws t).2.ports.length := by rw [← hm, List.nil_append, List.length_reverse]
              refine EL_call rfl (Spec.at1 pa (Pop_spec (by omega))) ?_
              intro _
              unfold topV
              repeat (first | refine go ?_ | (refine goX ?_; intro))
              refine EK_exits (γ := NP) (fun g => g.held.length ≤ held.length + 8) (fun g => [(1, .slice p n c), (6, .pointer pp), (8, .pointer pa), (10, .pointer pb), (12, .slice g.q.1 g.held.length g.q.2), (17, .pointer none), (18, .pointer po), (19, .bool full), (20, .bool on), (21, .int .i64 (i : Int))])
                (fun g => CacheC pa pp (cameH ha (doS ws t).2) [] none * (CA pb pp po cc * (PoolC pp r (doS ws t).1 * (RowC 3 1 g.q.1 g.held.length g.q.2 (natsR .i64 g.held) * F)))) ?_ ?_
              · refine EK_loop (γ := NP) (fun g => g.l.length + g.held.length ≤ held.length + 8) (fun g => [(1, .slice p n c), (6, .pointer pp), (8, .pointer pa), (10, .pointer pb), (12, .slice g.q.1 g.held.length g.q.2), (17, .pointer none), (18, .pointer po), (19, .bool full), (20, .bool on), (21, .int .i64 (i : Int)), (25, .int .i64 ((g.l.getD (g.l.length - 1) 0 : Nat) : Int)), (26, .bool (decide (0 < g.l.length)))])
                  (fun g => CacheC pa pp (cameH ha (doS ws t).2) (g.l.take (g.l.length - 1)) none * (CA pb pp po cc * (PoolC pp r (doS ws t).1 * (RowC 3 1 g.q.1 g.held.length g.q.2 (natsR .i64 g.held) * F)))) (fun g => g.l.length) ⟨mn, held, q⟩ (by dsimp only; omega) ⟨rfl, rfl, rfl, rfl, rfl, rfl, rfl, rfl, rfl, rfl, rfl, rfl, trivial⟩ (Ent.sat (by first | exact Ent.refl _ | exact Ent.last | (repeat (first | refine Ent.cons ?_ | exact Ent.any | exact Ent.last)))) ?_
                intro ⟨l, held', q'⟩ hl; dsimp only at hl ⊢
                by_cases hl0 : 0 < l.length
                · rw [decide_eq_true hl0]
                  repeat (first | refine go ?_ | (refine goX ?_; intro))
                  rename_i y o
                  refine EL_call rfl (Spec.at1 pa (Pop_spec (by rw [List.length_take]; omega))) ?_
                  intro _
                  unfold topV
                  repeat (first | refine go ?_ | (refine goX ?_; intro))
                  refine EK_round ⟨l.take (l.length - 1), held' ++ [l.getD (l.length - 1) 0], o⟩ (by dsimp only; rw [len_snoc, List.length_take]; omega) (by dsimp only; rw [List.length_take]; omega) ⟨rfl, rfl, rfl, rfl, by dsimp only; rw [len_snoc]; rfl, rfl, rfl, rfl, rfl, rfl, rfl, rfl, trivial⟩ (Ent.sat ?_)
                  dsimp only
                  refine Ent.at pa rfl (Ent.at pb rfl (Ent.at pp rfl (Ent.row o.1 (by rw [len_snoc]) (by simp [natsR]) ?_)))
                  first | exact Ent.refl _ | exact Ent.last | (repeat (first | refine Ent.cons ?_ | exact Ent.any | exact Ent.last))
                · rw [decide_eq_false hl0]
                  repeat (first | refine go ?_ | (refine goX ?_; intro))
                  have hle : l = [] := List.eq_nil_of_length_eq_zero (by omega)
                  subst hle
                  refine EK_meet ⟨[], held', q'⟩ (by dsimp only; simpa using hl) ⟨rfl, rfl, rfl, rfl, rfl, rfl, rfl, rfl, rfl, rfl, trivial⟩ (Ent.sat (by first | exact Ent.refl _ | exact Ent.last | (repeat (first | refine Ent.cons ?_ | exact Ent.any | exact Ent.last))))
              intro ⟨l, held', q'⟩ hl; dsimp only at hl ⊢
              repeat (first | refine go ?_ | (refine goX ?_; intro))
              refine EK_round ⟨i + 1, T + 1, (doS ws t).1, (cameH ha (doS ws t).2), .idle, none, none, po, cc, held', q', full, on⟩ ⟨by dsimp only; omega, by dsimp only; omega, hI.alone o7 o6.2 trivial (by dsimp only; omega)⟩ (by dsimp only; omega) ⟨rfl, rfl, rfl, rfl, rfl, rfl, rfl, rfl, rfl, rfl, rfl, trivial⟩ (Ent.sat ?_)
              dsimp only
              refine Ent.trans ?_ (AM.ent_idle)
              first | exact Ent.refl _ | exact Ent.last | (repeat (first | refine Ent.cons ?_ | exact Ent.any | exact Ent.last))
        | again t s =>
          refine EK_aagain fun sq sz => EK_nonnil (q := pag) fun hnn => ?_
          by_cases hq : on = false ∧ (f i 0).tmod 2 = 0
          · obtain ⟨rfl, e1⟩ := hq
            repeat (first | refine go ?_ | (refine goX ?_; intro))
            refine EK_round ⟨i + 1, T + 1, ws, ha, .again t s, pown, pag, po, cc, held, q, full, (decide ((f i 2).tmod 2 = 0))⟩ ⟨by dsimp only; omega, by dsimp only; omega, hI.alone hw (hlo.mono (Nat.le_succ _)) ⟨haI.1, haI.2.1, haI.2.2.pass⟩ (by dsimp only; omega)⟩ (by dsimp only; omega) ⟨rfl, rfl, rfl, rfl, rfl, rfl, rfl, rfl, rfl, rfl, rfl, trivial⟩ (Ent.sat ?_)
            dsimp only
            refine Ent.trans ?_ (AM.ent_again (q := sq) (z := sz))
            first | exact Ent.refl _ | exact Ent.last | (repeat (first | refine Ent.cons ?_ | exact Ent.any | exact Ent.last))
          · have hcase : on = true ∨ (on = false ∧ ¬ (f i 0).tmod 2 = 0) := by cases on <;> simp_all
            obtain ⟨h1, h2, h3⟩ := again_step hw haI.2.2
            have o6 := do_rises hw haI.2.2.ok hlo (by omega)
            have o7 := (doS_ok hw haI.2.2.ok).1
            rcases hcase with e | ⟨e, e1⟩ <;> (
              subst e
              repeat (first | refine go ?_ | (refine goX ?_; intro))
              refine EL_call rfl (Spec.pre (Do_again hT hw haI.2.2.ok (n := r) (pp := pp) (pc := pa) (ps := pag) (h := ha) (l := []) (qo := none) (sp := sz) (F := CStO pown 0 sq true * (StepC sq t * (CA pb pp po cc * ((Obj px 39 [.int .i64 (f i 0), .int .i64 (f i 1), .int .i64 (f i 2)]) * (RowC 3 1 q.1 held.length q.2 (natsR .i64 held) * F)))))) (by first | exact Ent.refl _ | exact Ent.last | (repeat (first | refine Ent.cons ?_ | exact Ent.any | exact Ent.last)))) ?_
              intro _
              cases hdn : (doS ws s).2.done with
              | false =>
                repeat (first | refine go ?_ | (refine goX ?_; intro))
                refine EK_round ⟨i + 1, T + 1, (doS ws s).1, ha, .again t (doS ws s).2, pown, pag, po, cc, held, q, full, true⟩ ⟨by dsimp only; omega, by dsimp only; omega, hI.alone o7 o6.2 ⟨haI.1, haI.2.1, by rw [h1]; exact h2 hdn⟩ (by dsimp only; omega)⟩ (by dsimp only; omega) ⟨rfl, rfl, rfl, rfl, rfl, rfl, rfl, rfl, rfl, rfl, rfl, trivial⟩ (Ent.sat ?_)
                dsimp only
                refine Ent.trans ?_ (AM.ent_again (q := sq) (z := sz))
                first | exact Ent.refl _ | exact Ent.last | (repeat (first | refine Ent.cons ?_ | exact Ent.any | exact Ent.last))
              | true =>
                repeat (first | refine go ?_ | (refine goX ?_; intro))
                refine EL_call rfl (Spec.at2 pag sz CSame_spec) ?_
                intro _
                cases hal : (doS ws s).2.alike with
                | true =>
                  have hf := h3 hdn hal
                  subst hf
                  repeat (first | refine go ?_ | (refine goX ?_; intro))
                  refine EK_round ⟨i + 1, T + 1, (doS ws s).1, ha, .idle, none, none, po, cc, held, q, true, true⟩ ⟨by dsimp only; omega, by dsimp only; omega, hI.alone o7 o6.2 trivial (by dsimp only; omega)⟩ (by dsimp only; omega) ⟨rfl, rfl, rfl, rfl, rfl, rfl, rfl, rfl, rfl, rfl, rfl, trivial⟩ (Ent.sat ?_)
                  dsimp only
                  refine Ent.trans ?_ (AM.ent_idle)
                  first | exact Ent.refl _ | exact Ent.last | (repeat (first | refine Ent.cons ?_ | exact Ent.any | exact Ent.last))
                | false =>
                  repeat (first | refine go ?_ | (refine goX ?_; intro))
                  refine EK_round ⟨i + 1, T + 1, (doS ws s).1, ha, .idle, none, none, po, cc, held, q, full, true⟩ ⟨by dsimp only; omega, by dsimp only; omega, hI.alone o7 o6.2 trivial (by dsimp only; omega)⟩ (by dsimp only; omega) ⟨rfl, rfl, rfl, rfl, rfl, rfl, rfl, rfl, rfl, rfl, rfl, trivial⟩ (Ent.sat ?_)
                  dsimp only
                  refine Ent.trans ?_ (AM.ent_idle)
                  first | exact Ent.refl _ | exact Ent.last | (repeat (first | refine Ent.cons ?_ | exact Ent.any | exact Ent.last)))
    · repeat (first | refine go ?_ | (refine goX ?_; intro))
      exact EK_ret (ER_1 rfl rfl () rfl (Ent.sat Ent.last))
  · repeat (first | refine go ?_ | (refine goX ?_; intro))
    exact EK_ret (ER_1 rfl rfl () rfl (Ent.sat Ent.last))
end Go.Proofs.YtdmmahhnfnefoaaDoor
