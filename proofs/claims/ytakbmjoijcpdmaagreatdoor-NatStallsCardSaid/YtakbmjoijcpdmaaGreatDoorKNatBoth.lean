/-
  Proved here: the statements NatRaces and NatStalls of the seat, as they are given, for every input. Conditions: none beyond the statements' own. (Joined by a program, wip/bundle3.py.)
-/
import Derived.Test.YtakbmjoijcpdmaaGreatDoorCards
import Derived.Test.YtakbmjoijcpdmaaGreatDoorTie
import Derived.Lib.LaidTab
import Derived.Test.YtakbmjoijcpdmaaGreatDoorG14
import Derived.Test.YtakbmjoijcpdmaaGreatDoorG21
import Derived.Test.YtakbmjoijcpdmaaGreatDoorG22
set_option linter.unusedVariables false
set_option linter.unusedSimpArgs false
/-
  NatRaces, NatStalls: the rows and the cards (printed by wip/genN.py).
-/
namespace Go.Proofs.YtakbmjoijcpdmaaGreatDoor
open Go.ChangeShapes Go.WideShapes Go.ChangeAt Go.RowKit Go.Deep
namespace fnNatRaces
theorem own_knob:ownKnob Tryz.prog.godebug=none:=by kernel_rfl
theorem gTab:Tryz.prog.globalNamed "math/bits.deBruijn64tab" =some 0:=by kernel_rfl
theorem laidOut:laidOutB Tryz.prog=true:=by kernel_rfl
theorem tab_of {W:World}{rest:List (String×DataW Unit)}(h:laidMet Tryz.prog (("math/bits.deBruijn64tab",Rows.laid_math_bits_deBruijn64tab)::rest) W):gE W:=by
 have gT:(Tryz.prog.globals[0]?).map (·.type)=some 364:=by kernel_rfl
 have c1:Tryz.prog.cellsOf 5=1:=by kernel_rfl
 have c2:Tryz.prog.cellsOf 364=64:=by kernel_rfl
 have ht:Lib.TabIs Tryz.prog W "math/bits.deBruijn64tab" .u8 (Lib.deBruijn64tab.map fun(x:Nat)=>(x:Int)):=
  Lib.tabIs_of_head (rest:=rest) gTab gT Tryz.underlying364 Tryz.underlying5 c1 c2 h
 intro j hj
 have:=ht.cell gTab j (by simpa using hj)
 rw[this]
 simp[List.getD_eq_getElem?_getD,hj]
set_option maxRecDepth 100000 in
theorem contract (H:Type)(enc:TypeId×Value→H)(W:World)(base:Nat)(args:Array Value)(ds gs:List (DataW H))(before:List MemPlace)
  (ni:∀(j:Nat) t v,Tryz.f3.params[j]? =some t→args[j]? =some v→Value.okWide Tryz.prog W .any base t v)
  (hW:DataW.Whole enc Tryz.prog Tryz.f3.params.toList Rows.natRacesSpec.vars false W args.toList ds gs before) (hL:gE W) (hR:(DataW.weightsEach Tryz.prog (Tryz.f3.params.toList++(OpenSpec.ofChange Rows.natRacesSpec).bare.plain.varTypes Tryz.prog) (ds++gs)).all (· ≤reachBytes)=true):
  Calls Tryz.prog 3 args W fun e W'=>∃v,e= .returned v∧Rows.natRacesSpec.post enc Tryz.prog Tryz.f3 false true false false W args v W':=by
 have nE:=hW
 obtain⟨p,q,Da,hV,rfl,SV,Tr⟩:=hW
 have hA:DataW.TrodAll enc Tryz.prog W 0 (fun _=>true) true Tryz.f3.params.toList args.toList ds p:=Da
 rw[Tryz.params3]at hA ni hR
 obtain⟨v0,Zs,d0,Q7,p0,q0,kx,rfl,rfl,h0,r0⟩:=trodAll_cons hA
 obtain⟨v1,Zt,d1,Q8,p1,q1,rfl,rfl,rfl,h1,r1⟩:=trodAll_cons r0
 obtain⟨v2,Zu,d2,Q9,p2,q2,rfl,rfl,rfl,h2,r2⟩:=trodAll_cons r1
 obtain⟨rfl,rfl,rfl⟩:=trodAll_nil r2
 obtain rfl:args= #[v0,v1,v2]:=by cases args;simp_all
 obtain⟨rfl,rfl⟩:=trodVars_none hV
 obtain⟨x0,y0,z0,rfl⟩:=Ha Tryz.underlying22 (by kernel_rfl) (by kernel_rfl) Tryz.underlying3 (ni 0 22 v0 rfl rfl)
 obtain⟨Qy,rfl,_,_⟩:=Co (ts:=[4,3,3,3,3,23,3,5,3]) (.inl ⟨_,Tryz.underlying25⟩) (by kernel_rfl) (by kernel_rfl) (ni 1 25 v1 rfl rfl)
 obtain⟨R7,s5⟩:=h1
 simp only[Value.cells]at s5
 obtain⟨o1,FM,FF,EP,CU,Cs,Fw,Cr,X4,XX,XI,CK,Fm,Fi,Fj⟩:=LN (Ej 5 25 Fg _ _ _ (by kernel_rfl) s5 (H4 hR (j:=1) rfl rfl))
 subst CK
 obtain⟨a2_,l2_,k2_,rfl⟩:=okWide_slice Tryz.underlying26 (ni 2 26 v2 rfl rfl)
 obtain⟨adI,o5⟩:=h2
 simp only[Value.cells]at o5
 obtain⟨p2_,c2,l2,Re,rM⟩:=Uf Tryz.underlying26 Tryz.underlying3 (by kernel_rfl) o5
 cases Re
 refine Calls.mono ((O1 hL x0 y0 z0 o1 FM FF EP CU Cs Fw Cr Fm Fi Fj rM) W (Sat.start W)) fun e W' ⟨_,he,hs⟩=> ?_
 subst he
 exact⟨_,rfl,Lb rfl laidOut (by rw[Tryz.params3];intro t ht;simp at ht;rcases ht with rfl|rfl|rfl<;>exact⟨by kernel_rfl,of_decide_eq_true (by kernel_rfl)⟩) nE (fun _ _ _=>trodAll_cons_mk (shut_bool Tryz.underlying4 _) trodAll_mk0) rfl rfl hs.below
  (ok_one (by kernel_rfl) rfl (okWide_bool_mk Tryz.underlying4 _))⟩
noncomputable def laidWorld (os:Os):World:=
 {World.holding Tryz.prog os ⟨#[], #[],[]⟩with heap:=(World.holding Tryz.prog os ⟨#[], #[],[]⟩).heap.modify 0 fun
   | .cells _ t frozen=> .cells (Lib.deBruijn64tab.map fun(x:Nat)=>Value.int .u8 (x:Int)).toArray t frozen
   |o=>o}
theorem laid_met (os:Os):laidMet Tryz.prog Rows.natRacesRow.laid ((laidWorld os).forCall (fun _ _=>0) ⟨#[], #[.agg #[.int .i64 0,.int .i64 0,.int .i64 0],.agg #[.bool false,.int .i64 0,.int .i64 0,.int .i64 0,.int .i64 0,.slice none 0 0,.int .i64 0,.int .u8 0,.int .i64 0],.slice none 0 0],[]⟩).memory:=
 laidMet_of_run' 8 (by kernel_rfl) (by kernel_rfl)
theorem reads (os:Os){H:Type}(enc:TypeId×Value→H):∃places,DataW.whole enc Tryz.prog ((laidWorld os).forCall (fun _ _=>0) ⟨#[], #[.agg #[.int .i64 0,.int .i64 0,.int .i64 0],.agg #[.bool false,.int .i64 0,.int .i64 0,.int .i64 0,.int .i64 0,.slice none 0 0,.int .i64 0,.int .u8 0,.int .i64 0],.slice none 0 0],[]⟩).memory Tryz.f3.params.toList Rows.natRacesSpec.vars false (#[.agg #[.int .i64 0,.int .i64 0,.int .i64 0],.agg #[.bool false,.int .i64 0,.int .i64 0,.int .i64 0,.int .i64 0,.slice none 0 0,.int .i64 0,.int .u8 0,.int .i64 0],.slice none 0 0]:Array Value).toList 8=some ([.agg [.lit (.int .i64 0),.lit (.int .i64 0),.lit (.int .i64 0)],.agg [.lit (.bool false),.lit (.int .i64 0),.lit (.int .i64 0),.lit (.int .i64 0),.lit (.int .i64 0),.nil,.lit (.int .i64 0),.lit (.int .u8 0),.lit (.int .i64 0)],.nil],[],places):=
 ⟨[],by kernel_rfl⟩
set_option maxRecDepth 100000 in
theorem lifted (os:Os)(started:os.Started)(H:Type)(enc:TypeId×Value→H)(F:Stop.Interp):
  ReturnsInHanded {} Tryz.checked os 3 .any ((OpenSpec.ofChange Rows.natRacesSpec).preRow enc Tryz.prog Tryz.f3 Rows.natRacesRow.domain false Rows.natRacesRow.laid) (((OpenSpec.ofChange Rows.natRacesSpec).at F).post enc Tryz.prog Tryz.f3 false true false false):=by
 obtain⟨places,hx⟩:=reads os enc
 refine returnsInHanded_of_row (C:=Tryz.checked) (s:=OpenSpec.ofChange Rows.natRacesSpec) own_knob started (by kernel_rfl) Tryz.func3
  (witness_row_at (enc:=enc) (C:=Tryz.checked) false (laidWorld os) #[.agg #[.int .i64 0,.int .i64 0,.int .i64 0],.agg #[.bool false,.int .i64 0,.int .i64 0,.int .i64 0,.int .i64 0,.slice none 0 0,.int .i64 0,.int .u8 0,.int .i64 0],.slice none 0 0] rfl (by kernel_rfl) (by kernel_rfl) (by kernel_rfl)
   (OpenSpec.preRow_of_cond 8 hx (by kernel_rfl) (fun k hk=>by cases hk) (by kernel_rfl) (laid_met os))) ?_
 intro W base args ds gs before ni hW _ _ hR hL _ _
 exact contract H enc W base args ds gs before ni hW (tab_of hL) hR
theorem and_mk {a b:Bool}(h:a=true)(g:b=true):(a&&b)=true:=by rw[h,g];rfl
set_option maxHeartbeats 8000000 in
theorem facts:joinedFacts Tryz.pinned.checked.prog 3 Tryz.f3 (OpenSpec.ofChange Rows.natRacesSpec).bare Rows.natRacesRow=true:=by
 unfold joinedFacts
 refine and_mk (and_mk (and_mk (and_mk (and_mk (and_mk (and_mk (and_mk (and_mk (and_mk (and_mk (and_mk (and_mk (and_mk (and_mk (and_mk (and_mk (and_mk (and_mk (and_mk (and_mk (and_mk (and_mk (and_mk (and_mk (and_mk (and_mk (and_mk (and_mk (and_mk (and_mk ?_ ?_) ?_) ?_) ?_) ?_) ?_) ?_) ?_) ?_) ?_) ?_) ?_) ?_) ?_) ?_) ?_) ?_) ?_) ?_) ?_) ?_) ?_) ?_) ?_) ?_) ?_) ?_) ?_) ?_) ?_) ?_
 all_goals as_aux_lemma=>kernel_rfl
theorem said:Rows.NatRacesSaid:=
 OpenClaim.holds_of_cond 3 Tryz.f3 rfl rfl rfl rfl rfl rfl rfl ⟨rfl,rfl,rfl,rfl,rfl⟩ rfl rfl rfl rfl rfl (by as_aux_lemma=>kernel_rfl) Tryz.func3 facts
  (of_decide_eq_true (by as_aux_lemma=>kernel_rfl)) (by unfold Func.isWrapper;first|(rw[if_pos (by decide+kernel)];kernel_rfl)|(rw[if_neg (by decide+kernel)];exact⟨rfl,rfl⟩))
  (fun os started H enc _ F=>by rw[OpenClaim.pre_eq_preRow];exact lifted os started H enc F)
theorem plain (f:FuncId)(fn:Func)(hf:Tryz.pinned.checked.prog.funcNamed "fanlight/fanlightlaw16.NatRaces" =some f)(Dr:Tryz.pinned.checked.prog.funcs[f]? =some fn):
  false=Tryz.pinned.checked.prog.looks []∧∀(j:Nat) t,fn.params[j]? =some t→Tryz.pinned.checked.prog.wantsStandIn t=false:=by
 obtain rfl:f=3:=Option.some.inj ((show Tryz.prog.funcNamed "fanlight/fanlightlaw16.NatRaces" =some 3 by kernel_rfl).symm.trans hf) |>.symm
 obtain rfl:fn=Tryz.f3:=(Option.some.inj (Tryz.func3.symm.trans Dr)).symm
 refine⟨by kernel_rfl,fun j t ht=> ?_⟩
 rw[Tryz.params3]at ht
 have hm:t∈ [22,25,26]:=by simpa using Array.mem_of_getElem? ht
 have iC:([22,25,26].all fun u=> !Tryz.prog.wantsStandIn u)=true:=by kernel_rfl
 exact(show Tryz.prog.wantsStandIn t=false by simpa using List.all_eq_true.1 iC t hm)
theorem card:Rows.NatRacesCardSaid:=
 Claim7.holds_tied_plain_at .later [] _ _ _ _ said (fun _ h=>by cases h) (by as_aux_lemma=>kernel_rfl) (fun _ h=>by cases h) natRaces_row_tie rfl ⟨rfl,rfl⟩ (by as_aux_lemma=>kernel_rfl) rfl plain (by as_aux_lemma=>kernel_rfl)
#print axioms card
end fnNatRaces
namespace fnNatStalls
theorem own_knob:ownKnob Tryz.prog.godebug=none:=by kernel_rfl
theorem gTab:Tryz.prog.globalNamed "math/bits.deBruijn64tab" =some 0:=by kernel_rfl
theorem laidOut:laidOutB Tryz.prog=true:=by kernel_rfl
theorem tab_of {W:World}{rest:List (String×DataW Unit)}(h:laidMet Tryz.prog (("math/bits.deBruijn64tab",Rows.laid_math_bits_deBruijn64tab)::rest) W):gE W:=by
 have gT:(Tryz.prog.globals[0]?).map (·.type)=some 364:=by kernel_rfl
 have c1:Tryz.prog.cellsOf 5=1:=by kernel_rfl
 have c2:Tryz.prog.cellsOf 364=64:=by kernel_rfl
 have ht:Lib.TabIs Tryz.prog W "math/bits.deBruijn64tab" .u8 (Lib.deBruijn64tab.map fun(x:Nat)=>(x:Int)):=
  Lib.tabIs_of_head (rest:=rest) gTab gT Tryz.underlying364 Tryz.underlying5 c1 c2 h
 intro j hj
 have:=ht.cell gTab j (by simpa using hj)
 rw[this]
 simp[List.getD_eq_getElem?_getD,hj]
set_option maxRecDepth 100000 in
theorem contract (H:Type)(enc:TypeId×Value→H)(W:World)(base:Nat)(args:Array Value)(ds gs:List (DataW H))(before:List MemPlace)
  (ni:∀(j:Nat) t v,Tryz.f4.params[j]? =some t→args[j]? =some v→Value.okWide Tryz.prog W .any base t v)
  (hW:DataW.Whole enc Tryz.prog Tryz.f4.params.toList Rows.natStallsSpec.vars false W args.toList ds gs before) (hL:gE W) (hR:(DataW.weightsEach Tryz.prog (Tryz.f4.params.toList++(OpenSpec.ofChange Rows.natStallsSpec).bare.plain.varTypes Tryz.prog) (ds++gs)).all (· ≤reachBytes)=true):
  Calls Tryz.prog 4 args W fun e W'=>∃v,e= .returned v∧Rows.natStallsSpec.post enc Tryz.prog Tryz.f4 false true false false W args v W':=by
 have nE:=hW
 obtain⟨p,q,Da,hV,rfl,SV,Tr⟩:=hW
 have hA:DataW.TrodAll enc Tryz.prog W 0 (fun _=>true) true Tryz.f4.params.toList args.toList ds p:=Da
 rw[Tryz.params4]at hA ni hR
 obtain⟨v0,Zs,d0,Q7,p0,q0,kx,rfl,rfl,h0,r0⟩:=trodAll_cons hA
 obtain⟨v1,Zt,d1,Q8,p1,q1,rfl,rfl,rfl,h1,r1⟩:=trodAll_cons r0
 obtain⟨v2,Zu,d2,Q9,p2,q2,rfl,rfl,rfl,h2,r2⟩:=trodAll_cons r1
 obtain⟨rfl,rfl,rfl⟩:=trodAll_nil r2
 obtain rfl:args= #[v0,v1,v2]:=by cases args;simp_all
 obtain⟨rfl,rfl⟩:=trodVars_none hV
 obtain⟨x0,y0,z0,rfl⟩:=Ha Tryz.underlying22 (by kernel_rfl) (by kernel_rfl) Tryz.underlying3 (ni 0 22 v0 rfl rfl)
 obtain⟨Qy,rfl,_,_⟩:=Co (ts:=[4,3,3,3,3,23,3,5,3]) (.inl ⟨_,Tryz.underlying25⟩) (by kernel_rfl) (by kernel_rfl) (ni 1 25 v1 rfl rfl)
 obtain⟨R7,s5⟩:=h1
 simp only[Value.cells]at s5
 obtain⟨o1,FM,FF,EP,CU,Cs,Fw,Cr,X4,XX,XI,CK,Fm,Fi,Fj⟩:=LN (Ej 5 25 Fg _ _ _ (by kernel_rfl) s5 (H4 hR (j:=1) rfl rfl))
 subst CK
 obtain⟨z2,rfl,rfl,rfl,w2⟩:=open_int Tryz.underlying3 (ni 2 3 v2 rfl rfl) h2
 refine Calls.mono ((O2 hL x0 y0 z0 o1 FM FF EP CU Cs Fw Cr Fm Fi Fj z2) W (Sat.start W)) fun e W' ⟨_,he,hs⟩=> ?_
 subst he
 exact⟨_,rfl,Lb rfl laidOut (by rw[Tryz.params4];intro t ht;simp at ht;rcases ht with rfl|rfl|rfl<;>exact⟨by kernel_rfl,of_decide_eq_true (by kernel_rfl)⟩) nE (fun _ _ _=>trodAll_cons_mk (shut_bool Tryz.underlying4 _) trodAll_mk0) rfl rfl hs.below
  (ok_one (by kernel_rfl) rfl (okWide_bool_mk Tryz.underlying4 _))⟩
noncomputable def laidWorld (os:Os):World:=
 {World.holding Tryz.prog os ⟨#[], #[],[]⟩with heap:=(World.holding Tryz.prog os ⟨#[], #[],[]⟩).heap.modify 0 fun
   | .cells _ t frozen=> .cells (Lib.deBruijn64tab.map fun(x:Nat)=>Value.int .u8 (x:Int)).toArray t frozen
   |o=>o}
theorem laid_met (os:Os):laidMet Tryz.prog Rows.natStallsRow.laid ((laidWorld os).forCall (fun _ _=>0) ⟨#[], #[.agg #[.int .i64 0,.int .i64 0,.int .i64 0],.agg #[.bool false,.int .i64 0,.int .i64 0,.int .i64 0,.int .i64 0,.slice none 0 0,.int .i64 0,.int .u8 0,.int .i64 0],.int .i64 0],[]⟩).memory:=
 laidMet_of_run' 8 (by kernel_rfl) (by kernel_rfl)
theorem reads (os:Os){H:Type}(enc:TypeId×Value→H):∃places,DataW.whole enc Tryz.prog ((laidWorld os).forCall (fun _ _=>0) ⟨#[], #[.agg #[.int .i64 0,.int .i64 0,.int .i64 0],.agg #[.bool false,.int .i64 0,.int .i64 0,.int .i64 0,.int .i64 0,.slice none 0 0,.int .i64 0,.int .u8 0,.int .i64 0],.int .i64 0],[]⟩).memory Tryz.f4.params.toList Rows.natStallsSpec.vars false (#[.agg #[.int .i64 0,.int .i64 0,.int .i64 0],.agg #[.bool false,.int .i64 0,.int .i64 0,.int .i64 0,.int .i64 0,.slice none 0 0,.int .i64 0,.int .u8 0,.int .i64 0],.int .i64 0]:Array Value).toList 8=some ([.agg [.lit (.int .i64 0),.lit (.int .i64 0),.lit (.int .i64 0)],.agg [.lit (.bool false),.lit (.int .i64 0),.lit (.int .i64 0),.lit (.int .i64 0),.lit (.int .i64 0),.nil,.lit (.int .i64 0),.lit (.int .u8 0),.lit (.int .i64 0)],.lit (.int .i64 0)],[],places):=
 ⟨[],by kernel_rfl⟩
set_option maxRecDepth 100000 in
theorem lifted (os:Os)(started:os.Started)(H:Type)(enc:TypeId×Value→H)(F:Stop.Interp):
  ReturnsInHanded {} Tryz.checked os 4 .any ((OpenSpec.ofChange Rows.natStallsSpec).preRow enc Tryz.prog Tryz.f4 Rows.natStallsRow.domain false Rows.natStallsRow.laid) (((OpenSpec.ofChange Rows.natStallsSpec).at F).post enc Tryz.prog Tryz.f4 false true false false):=by
 obtain⟨places,hx⟩:=reads os enc
 refine returnsInHanded_of_row (C:=Tryz.checked) (s:=OpenSpec.ofChange Rows.natStallsSpec) own_knob started (by kernel_rfl) Tryz.func4
  (witness_row_at (enc:=enc) (C:=Tryz.checked) false (laidWorld os) #[.agg #[.int .i64 0,.int .i64 0,.int .i64 0],.agg #[.bool false,.int .i64 0,.int .i64 0,.int .i64 0,.int .i64 0,.slice none 0 0,.int .i64 0,.int .u8 0,.int .i64 0],.int .i64 0] rfl (by kernel_rfl) (by kernel_rfl) (by kernel_rfl)
   (OpenSpec.preRow_of_cond 8 hx (by kernel_rfl) (fun k hk=>by cases hk) (by kernel_rfl) (laid_met os))) ?_
 intro W base args ds gs before ni hW _ _ hR hL _ _
 exact contract H enc W base args ds gs before ni hW (tab_of hL) hR
theorem and_mk {a b:Bool}(h:a=true)(g:b=true):(a&&b)=true:=by rw[h,g];rfl
set_option maxHeartbeats 8000000 in
theorem facts:joinedFacts Tryz.pinned.checked.prog 4 Tryz.f4 (OpenSpec.ofChange Rows.natStallsSpec).bare Rows.natStallsRow=true:=by
 unfold joinedFacts
 refine and_mk (and_mk (and_mk (and_mk (and_mk (and_mk (and_mk (and_mk (and_mk (and_mk (and_mk (and_mk (and_mk (and_mk (and_mk (and_mk (and_mk (and_mk (and_mk (and_mk (and_mk (and_mk (and_mk (and_mk (and_mk (and_mk (and_mk (and_mk (and_mk (and_mk (and_mk ?_ ?_) ?_) ?_) ?_) ?_) ?_) ?_) ?_) ?_) ?_) ?_) ?_) ?_) ?_) ?_) ?_) ?_) ?_) ?_) ?_) ?_) ?_) ?_) ?_) ?_) ?_) ?_) ?_) ?_) ?_) ?_
 all_goals as_aux_lemma=>kernel_rfl
theorem said:Rows.NatStallsSaid:=
 OpenClaim.holds_of_cond 4 Tryz.f4 rfl rfl rfl rfl rfl rfl rfl ⟨rfl,rfl,rfl,rfl,rfl⟩ rfl rfl rfl rfl rfl (by as_aux_lemma=>kernel_rfl) Tryz.func4 facts
  (of_decide_eq_true (by as_aux_lemma=>kernel_rfl)) (by unfold Func.isWrapper;first|(rw[if_pos (by decide+kernel)];kernel_rfl)|(rw[if_neg (by decide+kernel)];exact⟨rfl,rfl⟩))
  (fun os started H enc _ F=>by rw[OpenClaim.pre_eq_preRow];exact lifted os started H enc F)
theorem plain (f:FuncId)(fn:Func)(hf:Tryz.pinned.checked.prog.funcNamed "fanlight/fanlightlaw16.NatStalls" =some f)(Dr:Tryz.pinned.checked.prog.funcs[f]? =some fn):
  false=Tryz.pinned.checked.prog.looks []∧∀(j:Nat) t,fn.params[j]? =some t→Tryz.pinned.checked.prog.wantsStandIn t=false:=by
 obtain rfl:f=4:=Option.some.inj ((show Tryz.prog.funcNamed "fanlight/fanlightlaw16.NatStalls" =some 4 by kernel_rfl).symm.trans hf) |>.symm
 obtain rfl:fn=Tryz.f4:=(Option.some.inj (Tryz.func4.symm.trans Dr)).symm
 refine⟨by kernel_rfl,fun j t ht=> ?_⟩
 rw[Tryz.params4]at ht
 have hm:t∈ [22,25,3]:=by simpa using Array.mem_of_getElem? ht
 have iC:([22,25,3].all fun u=> !Tryz.prog.wantsStandIn u)=true:=by kernel_rfl
 exact(show Tryz.prog.wantsStandIn t=false by simpa using List.all_eq_true.1 iC t hm)
theorem card:Rows.NatStallsCardSaid:=
 Claim7.holds_tied_plain_at .later [] _ _ _ _ said (fun _ h=>by cases h) (by as_aux_lemma=>kernel_rfl) (fun _ h=>by cases h) natStalls_row_tie rfl ⟨rfl,rfl⟩ (by as_aux_lemma=>kernel_rfl) rfl plain (by as_aux_lemma=>kernel_rfl)
#print axioms card
end fnNatStalls
end Go.Proofs.YtakbmjoijcpdmaaGreatDoor
