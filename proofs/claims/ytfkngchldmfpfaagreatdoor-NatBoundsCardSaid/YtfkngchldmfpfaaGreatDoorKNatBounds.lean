/-
  The walk of NatBounds: what a step of a translator's worker changes of all cells, and how many Dos a frame takes.
-/
import Derived.Test.YtfkngchldmfpfaaGreatDoorCards
import Derived.Test.YtfkngchldmfpfaaGreatDoorTie
import Derived.Lib.LaidTab
import Derived.Test.YtfkngchldmfpfaaGreatDoorG13
import Derived.Test.YtfkngchldmfpfaaGreatDoorG22
set_option linter.unusedVariables false
set_option linter.unusedSimpArgs false
/-
  NatBounds: the row and the card (printed by wip/genN.py).
-/
namespace Go.Proofs.YtfkngchldmfpfaaGreatDoor
open Go.ChangeShapes Go.WideShapes Go.ChangeAt Go.RowKit Go.Deep
namespace fnNatBounds
theorem own_knob:ownKnob Tryz.prog.godebug=none:=by kernel_rfl
theorem gTab:Tryz.prog.globalNamed "math/bits.deBruijn64tab" =some 0:=by kernel_rfl
theorem laidOut:laidOutB Tryz.prog=true:=by kernel_rfl
theorem tab_of {W:World}{rest:List (String×DataW Unit)}(h:laidMet Tryz.prog (("math/bits.deBruijn64tab",Rows.laid_math_bits_deBruijn64tab)::rest) W):gC W:=by
 have gT:(Tryz.prog.globals[0]?).map (·.type)=some 372:=by kernel_rfl
 have c1:Tryz.prog.cellsOf 5=1:=by kernel_rfl
 have c2:Tryz.prog.cellsOf 372=64:=by kernel_rfl
 have ht:Lib.TabIs Tryz.prog W "math/bits.deBruijn64tab" .u8 (Lib.deBruijn64tab.map fun(x:Nat)=>(x:Int)):=
  Lib.tabIs_of_head (rest:=rest) gTab gT Tryz.underlying372 Tryz.underlying5 c1 c2 h
 intro j hj
 have:=ht.cell gTab j (by simpa using hj)
 rw[this]
 simp[List.getD_eq_getElem?_getD,hj]
set_option maxRecDepth 100000 in
theorem contract (H:Type)(enc:TypeId×Value→H)(W:World)(base:Nat)(args:Array Value)(ds gs:List (DataW H))(before:List MemPlace)
  (vY:∀(j:Nat) t v,Tryz.f4.params[j]? =some t→args[j]? =some v→Value.okWide Tryz.prog W .any base t v)
  (hW:DataW.Whole enc Tryz.prog Tryz.f4.params.toList Rows.natBoundsSpec.vars false W args.toList ds gs before) (hL:gC W) (hR:(DataW.weightsEach Tryz.prog (Tryz.f4.params.toList++(OpenSpec.ofChange Rows.natBoundsSpec).bare.plain.varTypes Tryz.prog) (ds++gs)).all (· ≤reachBytes)=true):
  Calls Tryz.prog 4 args W fun e W'=>∃v,e= .returned v∧Rows.natBoundsSpec.post enc Tryz.prog Tryz.f4 false true false false W args v W':=by
 have Tk:=hW
 obtain⟨p,q,Tc,hV,rfl,hfz,hnd⟩:=hW
 have hA:DataW.TrodAll enc Tryz.prog W 0 (fun _=>true) true Tryz.f4.params.toList args.toList ds p:=Tc
 rw[Tryz.params4]at hA vY hR
 obtain⟨v0,vs0,d0,ds0,p0,q0,iH,rfl,rfl,h0,r0⟩:=trodAll_cons hA
 obtain⟨v1,vs1,d1,ds1,p1,q1,rfl,rfl,rfl,h1,r1⟩:=trodAll_cons r0
 obtain⟨v2,vs2,d2,ds2,p2,q2,rfl,rfl,rfl,h2,r2⟩:=trodAll_cons r1
 obtain⟨rfl,rfl,rfl⟩:=trodAll_nil r2
 obtain rfl:args= #[v0,v1,v2]:=by cases args;simp_all
 obtain⟨rfl,rfl⟩:=trodVars_none hV
 obtain⟨x0,y0,z0,rfl⟩:=Qk Tryz.underlying29 (by kernel_rfl) (by kernel_rfl) Tryz.underlying3 (vY 0 29 v0 rfl rfl)
 obtain⟨Z4,l1_,k1_,rfl⟩:=okWide_slice Tryz.underlying22 (vY 1 22 v1 rfl rfl)
 obtain⟨ad6,vQ⟩:=h1
 simp only[Value.cells]at vQ
 obtain⟨p1_,n1,c1,f1,RJ,mX,Ji,Tg,yy⟩:=XF (m:=6) (ls:=Bl) Tryz.underlying22 (by kernel_rfl) (by kernel_rfl) rfl (by decide) (Nat.le_of_ble_eq_true (by kernel_rfl)) (Sf hR (j:=1) rfl rfl) vQ
 cases RJ
 obtain⟨Z5,l2_,k2_,rfl⟩:=okWide_slice Tryz.underlying36 (vY 2 36 v2 rfl rfl)
 obtain⟨ad7,mR⟩:=h2
 simp only[Value.cells]at mR
 obtain⟨p2_,c2,l2,RK,s6⟩:=UR Tryz.underlying36 Tryz.underlying3 (by kernel_rfl) mR
 cases RK
 refine Calls.mono ((Ot hL x0 y0 z0 mX Tg yy s6) W (Sat.start W)) fun e W' ⟨_,he,hs⟩=> ?_
 subst he
 exact⟨_,rfl,Xf rfl laidOut (by rw[Tryz.params4];intro t ht;simp at ht;rcases ht with rfl|rfl|rfl<;>exact⟨by kernel_rfl,of_decide_eq_true (by kernel_rfl)⟩) Tk (fun _ _ _=>trodAll_cons_mk (shut_bool Tryz.underlying4 _) trodAll_mk0) rfl rfl hs.below
  (ok_one (by kernel_rfl) rfl (okWide_bool_mk Tryz.underlying4 _))⟩
noncomputable def laidWorld (os:Os):World:=
 {World.holding Tryz.prog os ⟨#[], #[],[]⟩with heap:=(World.holding Tryz.prog os ⟨#[], #[],[]⟩).heap.modify 0 fun
   | .cells _ t frozen=> .cells (Lib.deBruijn64tab.map fun(x:Nat)=>Value.int .u8 (x:Int)).toArray t frozen
   |o=>o}
theorem laid_met (os:Os):laidMet Tryz.prog Rows.natBoundsRow.laid ((laidWorld os).forCall (fun _ _=>0) ⟨#[], #[.agg #[.int .i64 0,.int .i64 0,.int .i64 0],.slice none 0 0,.slice none 0 0],[]⟩).memory:=
 laidMet_of_run' 8 (by kernel_rfl) (by kernel_rfl)
theorem reads (os:Os){H:Type}(enc:TypeId×Value→H):∃places,DataW.whole enc Tryz.prog ((laidWorld os).forCall (fun _ _=>0) ⟨#[], #[.agg #[.int .i64 0,.int .i64 0,.int .i64 0],.slice none 0 0,.slice none 0 0],[]⟩).memory Tryz.f4.params.toList Rows.natBoundsSpec.vars false (#[.agg #[.int .i64 0,.int .i64 0,.int .i64 0],.slice none 0 0,.slice none 0 0]:Array Value).toList 8=some ([.agg [.lit (.int .i64 0),.lit (.int .i64 0),.lit (.int .i64 0)],.nil,.nil],[],places):=
 ⟨[],by kernel_rfl⟩
set_option maxRecDepth 100000 in
theorem lifted (os:Os)(started:os.Started)(H:Type)(enc:TypeId×Value→H)(F:Stop.Interp):
  ReturnsInHanded {} Tryz.checked os 4 .any ((OpenSpec.ofChange Rows.natBoundsSpec).preRow enc Tryz.prog Tryz.f4 Rows.natBoundsRow.domain false Rows.natBoundsRow.laid) (((OpenSpec.ofChange Rows.natBoundsSpec).at F).post enc Tryz.prog Tryz.f4 false true false false):=by
 obtain⟨places,hx⟩:=reads os enc
 refine returnsInHanded_of_row (C:=Tryz.checked) (s:=OpenSpec.ofChange Rows.natBoundsSpec) own_knob started (by kernel_rfl) Tryz.func4
  (witness_row_at (enc:=enc) (C:=Tryz.checked) false (laidWorld os) #[.agg #[.int .i64 0,.int .i64 0,.int .i64 0],.slice none 0 0,.slice none 0 0] rfl (by kernel_rfl) (by kernel_rfl) (by kernel_rfl)
   (OpenSpec.preRow_of_cond 8 hx (by kernel_rfl) (fun k hk=>by cases hk) (by kernel_rfl) (laid_met os))) ?_
 intro W base args ds gs before vY hW _ _ hR hL _ _
 exact contract H enc W base args ds gs before vY hW (tab_of hL) hR
theorem and_mk {a b:Bool}(h:a=true)(g:b=true):(a&&b)=true:=by rw[h,g];rfl
set_option maxHeartbeats 8000000 in
theorem facts:joinedFacts Tryz.pinned.checked.prog 4 Tryz.f4 (OpenSpec.ofChange Rows.natBoundsSpec).bare Rows.natBoundsRow=true:=by
 unfold joinedFacts
 refine and_mk (and_mk (and_mk (and_mk (and_mk (and_mk (and_mk (and_mk (and_mk (and_mk (and_mk (and_mk (and_mk (and_mk (and_mk (and_mk (and_mk (and_mk (and_mk (and_mk (and_mk (and_mk (and_mk (and_mk (and_mk (and_mk (and_mk (and_mk (and_mk (and_mk (and_mk ?_ ?_) ?_) ?_) ?_) ?_) ?_) ?_) ?_) ?_) ?_) ?_) ?_) ?_) ?_) ?_) ?_) ?_) ?_) ?_) ?_) ?_) ?_) ?_) ?_) ?_) ?_) ?_) ?_) ?_) ?_) ?_
 all_goals as_aux_lemma=>kernel_rfl
theorem said:Rows.NatBoundsSaid:=
 OpenClaim.holds_of_cond 4 Tryz.f4 rfl rfl rfl rfl rfl rfl rfl ⟨rfl,rfl,rfl,rfl,rfl⟩ rfl rfl rfl rfl rfl (by as_aux_lemma=>kernel_rfl) Tryz.func4 facts
  (of_decide_eq_true (by as_aux_lemma=>kernel_rfl)) (by unfold Func.isWrapper;first|(rw[if_pos (by decide+kernel)];kernel_rfl)|(rw[if_neg (by decide+kernel)];exact⟨rfl,rfl⟩))
  (fun os started H enc _ F=>by rw[OpenClaim.pre_eq_preRow];exact lifted os started H enc F)
theorem plain (f:FuncId)(fn:Func)(hf:Tryz.pinned.checked.prog.funcNamed "fanlight/fanlightlaw16.NatBounds" =some f)(TM:Tryz.pinned.checked.prog.funcs[f]? =some fn):
  false=Tryz.pinned.checked.prog.looks []∧∀(j:Nat) t,fn.params[j]? =some t→Tryz.pinned.checked.prog.wantsStandIn t=false:=by
 obtain rfl:f=4:=Option.some.inj ((show Tryz.prog.funcNamed "fanlight/fanlightlaw16.NatBounds" =some 4 by kernel_rfl).symm.trans hf) |>.symm
 obtain rfl:fn=Tryz.f4:=(Option.some.inj (Tryz.func4.symm.trans TM)).symm
 refine⟨by kernel_rfl,fun j t ht=> ?_⟩
 rw[Tryz.params4]at ht
 have hm:t∈ [29,22,36]:=by simpa using Array.mem_of_getElem? ht
 have lC:([29,22,36].all fun u=> !Tryz.prog.wantsStandIn u)=true:=by kernel_rfl
 exact(show Tryz.prog.wantsStandIn t=false by simpa using List.all_eq_true.1 lC t hm)
theorem card:Rows.NatBoundsCardSaid:=
 Claim7.holds_tied_plain_at .later [] _ _ _ _ said (fun _ h=>by cases h) (by as_aux_lemma=>kernel_rfl) (fun _ h=>by cases h) natBounds_row_tie rfl ⟨rfl,rfl⟩ (by as_aux_lemma=>kernel_rfl) rfl plain (by as_aux_lemma=>kernel_rfl)
#print axioms card
end fnNatBounds
end Go.Proofs.YtfkngchldmfpfaaGreatDoor
