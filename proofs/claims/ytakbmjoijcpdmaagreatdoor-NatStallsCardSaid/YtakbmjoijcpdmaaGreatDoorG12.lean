/-
  A part of a proof, joined by a program (wip/bundle3.py).
-/
import Derived.WalkKit
import Derived.Shelf.Spec.TrailingZeros
import Derived.Laws.BitsAllLaws
import Derived.Test.YtakbmjoijcpdmaaGreatDoorG2
import Derived.Test.YtakbmjoijcpdmaaGreatDoorG5
import Derived.Test.YtakbmjoijcpdmaaGreatDoorG6
import Derived.Test.YtakbmjoijcpdmaaGreatDoorG8
import Derived.Test.YtakbmjoijcpdmaaGreatDoorG9
import Derived.Test.YtakbmjoijcpdmaaGreatDoorG11
set_option linter.unusedVariables false
set_option linter.unusedSimpArgs false
namespace Go.Proofs.YtakbmjoijcpdmaaGreatDoor
section
open Go.RowKit
set_option maxRecDepth 10000
attribute [local irreducible] EK EX ER EN EL ES EG az ba bf
variable {W:World} {F:SL} {X:Cx} {k:List KI} {σ:Env} {p pp g q:Option Addr} {ws cs pl:List Nat} {n np:Nat} {s:aU} {m:eM}
set_option maxHeartbeats 2000000 in
theorem QT (hf:fH (n:Int)=true)(hc:dD n np cs)(hp:cK np pl)(h:bt n np s)(hd:s.done=false)(e:s.next=10):Spec Tryz.prog 149 [.pointer p,.pointer q] W (ay q s*(aK p pp n cs*(aM pp pl*F))) (fun _:Unit=> .tuple #[])
  (fun _=>ay q (cx pl n cs s).2*(aK p pp n (cx pl n cs s).1*(aM pp pl*F))):=by
 refine Spec.of Tryz.func149 rfl Tryz.ntmps149 rfl ?_
 have iD:=hc.len
 have ka:=hc.n2
 have ju:=hc.jw
 have ha:=h.a
 have cJ:=h.still
 have gx:=hc.w n
 have lY:=h.first
 have ng:=h.gL (by omega) (by omega)
 have lX:=js.1 ng
 obtain⟨hv,gX⟩:=h.vu hd
 refine cW p (aK.open fun g=> ?_)
 simp only[kS]
 refine cW q (ay.open ?_)
 have o5:=h.kX (.inl e)
 rcases four hv with ev|ev|ev|ev
 ·obtain⟨gw,c5⟩:=h.dV 0 (by decide)
  have ja:=js.1 (o5 0 (by decide)) s.u gX
  have c5:=c5 s.u gX
  have eg:s.dV 0=s.g0:=rfl
  rw[eg]at gw ja c5
  have es:cx pl n cs s=(cs,{s with cA:=jy pl n (bM s.g0 s.u) s.o0,next:=11}):=by
   unfold cx
   rw[if_neg (by omega),if_neg (by omega),if_neg (by omega),if_neg (by omega),if_pos e,(nM s).1 ev,(ru s).1 ev]
  rw[es,ev]
  repeat first|refine aa ?_ |intro
  refine aL 28 (dq p pp g n*(Obj q 267 (Value.int .i64 (s.kind:Int)::Value.int .i64 (s.f1:Int)::Value.int .u32 (s.f2:Int)::Value.int .u16 (s.f3:Int)::Value.int .i64 s.id::Value.int .i64 (s.a:Int)::Value.int .i64 (s.b:Int)::Value.int .i64 (s.next:Int)::Value.int .u64 (s.first:Int)::Value.int .u64 (s.word:Int)::Value.int .i64 (s.at_:Int)::Value.bool s.half::Value.int .i64 (s.seen.st:Int)::Value.int .i64 (s.seen.gen:Int)::Value.int .i64 (s.seen.tr:Int)::Value.int .i64 (s.seen.sn:Int)::Value.int .u64 (s.still:Int)::Value.int .i64 (s.m.phase:Int)::Value.int .i64 (s.m.id:Int)::Value.int .i64 (s.m.fr:Int)::Value.int .i64 (s.m.to:Int)::Value.int .i64 (s.m.version:Int)::Value.int .i64 (s.m.aS:Int)::Value.int .i64 ((0:Nat):Int)::Value.int .i64 (s.u:Int)::Value.int .i64 (s.o0:Int)::Value.int .i64 (s.o1:Int)::Value.int .i64 (s.o2:Int)::Value.int .i64 (s.o3:Int)::Value.int .u64 (s.g0:Int)::Value.int .u64 (s.g1:Int)::Value.int .u64 (s.g2:Int)::Value.int .u64 (s.g3:Int)::Value.int .i64 (s.cA:Int)::Value.bool s.second::Value.int .i64 s.found::Value.int .i64 (s.aQ.st:Int)::Value.int .i64 (s.aQ.gen:Int)::Value.int .i64 (s.aQ.tr:Int)::Value.int .i64 (s.aQ.sn:Int)::Value.int .i64 (s.end_:Int)::Value.bool s.done::[])*1)) rfl rfl rfl ?_
  repeat(first|refine aq ?_ |refine eD ?_)
  refine aI rfl rfl rfl rfl rfl (iJ gw gX) (fun _=>ad) ?_
  intro _
  repeat(first|refine aq ?_ |refine eD ?_)
  refine aI rfl rfl rfl rfl rfl (Spec.fE p pp (rQ hf hp ju ja c5)) (fun _=>ad) ?_
  intro _
  repeat(first|refine aq ?_ |refine eD ?_)
  repeat(first|refine bQ ?_ |(refine bU ?_;intro)|refine bR ?_ |refine bS ?_ |refine bT ?_ |refine eD ?_)
  repeat first|refine aa ?_ |intro
  exact aN (aO rfl () rfl (U.sat (ay.du (by rfl) (U.trans (ad) (aK.shut (g:=g))))))
 ·obtain⟨gw,c5⟩:=h.dV 1 (by decide)
  have ja:=js.1 (o5 1 (by decide)) s.u gX
  have c5:=c5 s.u gX
  have eg:s.dV 1=s.g1:=rfl
  rw[eg]at gw ja c5
  have es:cx pl n cs s=(cs,{s with cA:=jy pl n (bM s.g1 s.u) s.o1,next:=11}):=by
   unfold cx
   rw[if_neg (by omega),if_neg (by omega),if_neg (by omega),if_neg (by omega),if_pos e,(nM s).2.1 ev,(ru s).2.1 ev]
  rw[es,ev]
  repeat first|refine aa ?_ |intro
  refine aL 28 (dq p pp g n*(Obj q 267 (Value.int .i64 (s.kind:Int)::Value.int .i64 (s.f1:Int)::Value.int .u32 (s.f2:Int)::Value.int .u16 (s.f3:Int)::Value.int .i64 s.id::Value.int .i64 (s.a:Int)::Value.int .i64 (s.b:Int)::Value.int .i64 (s.next:Int)::Value.int .u64 (s.first:Int)::Value.int .u64 (s.word:Int)::Value.int .i64 (s.at_:Int)::Value.bool s.half::Value.int .i64 (s.seen.st:Int)::Value.int .i64 (s.seen.gen:Int)::Value.int .i64 (s.seen.tr:Int)::Value.int .i64 (s.seen.sn:Int)::Value.int .u64 (s.still:Int)::Value.int .i64 (s.m.phase:Int)::Value.int .i64 (s.m.id:Int)::Value.int .i64 (s.m.fr:Int)::Value.int .i64 (s.m.to:Int)::Value.int .i64 (s.m.version:Int)::Value.int .i64 (s.m.aS:Int)::Value.int .i64 ((1:Nat):Int)::Value.int .i64 (s.u:Int)::Value.int .i64 (s.o0:Int)::Value.int .i64 (s.o1:Int)::Value.int .i64 (s.o2:Int)::Value.int .i64 (s.o3:Int)::Value.int .u64 (s.g0:Int)::Value.int .u64 (s.g1:Int)::Value.int .u64 (s.g2:Int)::Value.int .u64 (s.g3:Int)::Value.int .i64 (s.cA:Int)::Value.bool s.second::Value.int .i64 s.found::Value.int .i64 (s.aQ.st:Int)::Value.int .i64 (s.aQ.gen:Int)::Value.int .i64 (s.aQ.tr:Int)::Value.int .i64 (s.aQ.sn:Int)::Value.int .i64 (s.end_:Int)::Value.bool s.done::[])*1)) rfl rfl rfl ?_
  repeat(first|refine aq ?_ |refine eD ?_)
  refine aI rfl rfl rfl rfl rfl (iJ gw gX) (fun _=>ad) ?_
  intro _
  repeat(first|refine aq ?_ |refine eD ?_)
  refine aI rfl rfl rfl rfl rfl (Spec.fE p pp (rQ hf hp ju ja c5)) (fun _=>ad) ?_
  intro _
  repeat(first|refine aq ?_ |refine eD ?_)
  repeat(first|refine bQ ?_ |(refine bU ?_;intro)|refine bR ?_ |refine bS ?_ |refine bT ?_ |refine eD ?_)
  repeat first|refine aa ?_ |intro
  exact aN (aO rfl () rfl (U.sat (ay.du (by rfl) (U.trans (ad) (aK.shut (g:=g))))))
 ·obtain⟨gw,c5⟩:=h.dV 2 (by decide)
  have ja:=js.1 (o5 2 (by decide)) s.u gX
  have c5:=c5 s.u gX
  have eg:s.dV 2=s.g2:=rfl
  rw[eg]at gw ja c5
  have es:cx pl n cs s=(cs,{s with cA:=jy pl n (bM s.g2 s.u) s.o2,next:=11}):=by
   unfold cx
   rw[if_neg (by omega),if_neg (by omega),if_neg (by omega),if_neg (by omega),if_pos e,(nM s).2.2.1 ev,(ru s).2.2.1 ev]
  rw[es,ev]
  repeat first|refine aa ?_ |intro
  refine aL 28 (dq p pp g n*(Obj q 267 (Value.int .i64 (s.kind:Int)::Value.int .i64 (s.f1:Int)::Value.int .u32 (s.f2:Int)::Value.int .u16 (s.f3:Int)::Value.int .i64 s.id::Value.int .i64 (s.a:Int)::Value.int .i64 (s.b:Int)::Value.int .i64 (s.next:Int)::Value.int .u64 (s.first:Int)::Value.int .u64 (s.word:Int)::Value.int .i64 (s.at_:Int)::Value.bool s.half::Value.int .i64 (s.seen.st:Int)::Value.int .i64 (s.seen.gen:Int)::Value.int .i64 (s.seen.tr:Int)::Value.int .i64 (s.seen.sn:Int)::Value.int .u64 (s.still:Int)::Value.int .i64 (s.m.phase:Int)::Value.int .i64 (s.m.id:Int)::Value.int .i64 (s.m.fr:Int)::Value.int .i64 (s.m.to:Int)::Value.int .i64 (s.m.version:Int)::Value.int .i64 (s.m.aS:Int)::Value.int .i64 ((2:Nat):Int)::Value.int .i64 (s.u:Int)::Value.int .i64 (s.o0:Int)::Value.int .i64 (s.o1:Int)::Value.int .i64 (s.o2:Int)::Value.int .i64 (s.o3:Int)::Value.int .u64 (s.g0:Int)::Value.int .u64 (s.g1:Int)::Value.int .u64 (s.g2:Int)::Value.int .u64 (s.g3:Int)::Value.int .i64 (s.cA:Int)::Value.bool s.second::Value.int .i64 s.found::Value.int .i64 (s.aQ.st:Int)::Value.int .i64 (s.aQ.gen:Int)::Value.int .i64 (s.aQ.tr:Int)::Value.int .i64 (s.aQ.sn:Int)::Value.int .i64 (s.end_:Int)::Value.bool s.done::[])*1)) rfl rfl rfl ?_
  repeat(first|refine aq ?_ |refine eD ?_)
  refine aI rfl rfl rfl rfl rfl (iJ gw gX) (fun _=>ad) ?_
  intro _
  repeat(first|refine aq ?_ |refine eD ?_)
  refine aI rfl rfl rfl rfl rfl (Spec.fE p pp (rQ hf hp ju ja c5)) (fun _=>ad) ?_
  intro _
  repeat(first|refine aq ?_ |refine eD ?_)
  repeat(first|refine bQ ?_ |(refine bU ?_;intro)|refine bR ?_ |refine bS ?_ |refine bT ?_ |refine eD ?_)
  repeat first|refine aa ?_ |intro
  exact aN (aO rfl () rfl (U.sat (ay.du (by rfl) (U.trans (ad) (aK.shut (g:=g))))))
 ·obtain⟨gw,c5⟩:=h.dV 3 (by decide)
  have ja:=js.1 (o5 3 (by decide)) s.u gX
  have c5:=c5 s.u gX
  have eg:s.dV 3=s.g3:=rfl
  rw[eg]at gw ja c5
  have es:cx pl n cs s=(cs,{s with cA:=jy pl n (bM s.g3 s.u) s.o3,next:=11}):=by
   unfold cx
   rw[if_neg (by omega),if_neg (by omega),if_neg (by omega),if_neg (by omega),if_pos e,(nM s).2.2.2 ev,(ru s).2.2.2 ev]
  rw[es,ev]
  repeat first|refine aa ?_ |intro
  refine aL 28 (dq p pp g n*(Obj q 267 (Value.int .i64 (s.kind:Int)::Value.int .i64 (s.f1:Int)::Value.int .u32 (s.f2:Int)::Value.int .u16 (s.f3:Int)::Value.int .i64 s.id::Value.int .i64 (s.a:Int)::Value.int .i64 (s.b:Int)::Value.int .i64 (s.next:Int)::Value.int .u64 (s.first:Int)::Value.int .u64 (s.word:Int)::Value.int .i64 (s.at_:Int)::Value.bool s.half::Value.int .i64 (s.seen.st:Int)::Value.int .i64 (s.seen.gen:Int)::Value.int .i64 (s.seen.tr:Int)::Value.int .i64 (s.seen.sn:Int)::Value.int .u64 (s.still:Int)::Value.int .i64 (s.m.phase:Int)::Value.int .i64 (s.m.id:Int)::Value.int .i64 (s.m.fr:Int)::Value.int .i64 (s.m.to:Int)::Value.int .i64 (s.m.version:Int)::Value.int .i64 (s.m.aS:Int)::Value.int .i64 ((3:Nat):Int)::Value.int .i64 (s.u:Int)::Value.int .i64 (s.o0:Int)::Value.int .i64 (s.o1:Int)::Value.int .i64 (s.o2:Int)::Value.int .i64 (s.o3:Int)::Value.int .u64 (s.g0:Int)::Value.int .u64 (s.g1:Int)::Value.int .u64 (s.g2:Int)::Value.int .u64 (s.g3:Int)::Value.int .i64 (s.cA:Int)::Value.bool s.second::Value.int .i64 s.found::Value.int .i64 (s.aQ.st:Int)::Value.int .i64 (s.aQ.gen:Int)::Value.int .i64 (s.aQ.tr:Int)::Value.int .i64 (s.aQ.sn:Int)::Value.int .i64 (s.end_:Int)::Value.bool s.done::[])*1)) rfl rfl rfl ?_
  repeat(first|refine aq ?_ |refine eD ?_)
  refine aI rfl rfl rfl rfl rfl (iJ gw gX) (fun _=>ad) ?_
  intro _
  repeat(first|refine aq ?_ |refine eD ?_)
  refine aI rfl rfl rfl rfl rfl (Spec.fE p pp (rQ hf hp ju ja c5)) (fun _=>ad) ?_
  intro _
  repeat(first|refine aq ?_ |refine eD ?_)
  repeat(first|refine bQ ?_ |(refine bU ?_;intro)|refine bR ?_ |refine bS ?_ |refine bT ?_ |refine eD ?_)
  repeat first|refine aa ?_ |intro
  exact aN (aO rfl () rfl (U.sat (ay.du (by rfl) (U.trans (ad) (aK.shut (g:=g))))))
set_option maxHeartbeats 2000000 in
theorem QU (hf:fH (n:Int)=true)(hc:dD n np cs)(hp:cK np pl)(h:bt n np s)(hd:s.done=false)(e:s.next=11):Spec Tryz.prog 149 [.pointer p,.pointer q] W (ay q s*(aK p pp n cs*(aM pp pl*F))) (fun _:Unit=> .tuple #[])
  (fun _=>ay q (cx pl n cs s).2*(aK p pp n (cx pl n cs s).1*(aM pp pl*F))):=by
 refine Spec.of Tryz.func149 rfl Tryz.ntmps149 rfl ?_
 have iD:=hc.len
 have ka:=hc.n2
 have ju:=hc.jw
 have ha:=h.a
 have cJ:=h.still
 have gx:=hc.w n
 have lY:=h.first
 have ng:=h.gL (by omega) (by omega)
 have lX:=js.1 ng
 obtain⟨hv,gX⟩:=h.vu hd
 refine cW p (aK.open fun g=> ?_)
 simp only[kS]
 refine cW q (ay.open ?_)
 repeat first|refine aa ?_ |intro
 refine ag rfl (Spec.pre (RH (pl:=pl) (p:=p) (q:=q) (g:=g) (pp:=pp) (F:=aM pp pl*F) hc h hd e) (ay.du (by rfl) (ad))) ?_
 intro _
 have es:(cx pl n cs s).1=cs:=by
  unfold cx
  rw[if_neg (by omega),if_neg (by omega),if_neg (by omega),if_neg (by omega),if_neg (by omega),if_pos e]
 rw[es]
 repeat first|refine aa ?_ |intro
 exact aN (aO rfl () rfl (U.sat (U.cons (U.trans (ad) (aK.shut (g:=g))))))
set_option maxHeartbeats 2000000 in
theorem QV (hf:fH (n:Int)=true)(hc:dD n np cs)(hp:cK np pl)(h:bt n np s)(hd:s.done=false)(e:s.next=12):Spec Tryz.prog 149 [.pointer p,.pointer q] W (ay q s*(aK p pp n cs*(aM pp pl*F))) (fun _:Unit=> .tuple #[])
  (fun _=>ay q (cx pl n cs s).2*(aK p pp n (cx pl n cs s).1*(aM pp pl*F))):=by
 refine Spec.of Tryz.func149 rfl Tryz.ntmps149 rfl ?_
 have iD:=hc.len
 have ka:=hc.n2
 have ju:=hc.jw
 have ha:=h.a
 have cJ:=h.still
 have gx:=hc.w n
 have lY:=h.first
 have ng:=h.gL (by omega) (by omega)
 have lX:=js.1 ng
 obtain⟨hv,gX⟩:=h.vu hd
 refine cW p (aK.open fun g=> ?_)
 simp only[kS]
 refine cW q (ay.open ?_)
 have hm:=h.m
 have Jr:eM.Ok s.m:=hm.tm ka ju
 have es:cx pl n cs s=if cs.getD n 0=s.still then(cs.set n (jW s.m),{s with next:=13})else(cs,{s with next:=6}):=by
  unfold cx
  rw[if_neg (by omega),if_neg (by omega),if_neg (by omega),if_neg (by omega),if_neg (by omega),if_neg (by omega)]
  rfl
 rw[es]
 repeat first|refine aa ?_ |intro
 obtain⟨t,ht⟩:∃t:aU,t={s with next:=6}:=⟨_,rfl⟩
 have TU:t.still=s.still:=by rw[ht]
 have Js:t.m=s.m:=by rw[ht]
 have ex:({s with next:=13}:aU)={t with next:=13}:=by rw[ht]
 rw[ex,←ht,←TU,←Js]
 refine jE (G:=Obj q 267 (eE t)*(dq p pp g n*(cz g cs*(aM pp pl*F)))) (by rw[ht];exact ad) ?_
 refine aL 99 (dq p pp g n*(Obj q 267 (eE t)*1)) rfl rfl rfl ?_
 repeat(first|refine aq ?_ |refine eD ?_)
 refine aI rfl rfl rfl rfl rfl (xt (m:=t.m) (by rw[Js];exact Jr)) (fun _=>ad) ?_
 intro _
 repeat(first|refine aq ?_ |refine eD ?_)
 refine aI rfl rfl rfl rfl rfl (Spec.aV g (mw g cs n t.still (jW t.m) (by omega) (by omega))) (fun _=>ad) ?_
 intro _
 repeat(first|refine aq ?_ |refine eD ?_)
 by_cases hu:cs.getD n 0=t.still
 ·rw[if_pos hu,if_pos hu,decide_eq_true hu]
  repeat first|refine aa ?_ |intro
  exact aN (aO rfl () rfl (U.sat (ay.du (by rfl) (U.trans (ad) (aK.shut (g:=g))))))
 ·rw[if_neg hu,if_neg hu,decide_eq_false hu]
  repeat first|refine aa ?_ |intro
  exact aN (aO rfl () rfl (U.sat (ay.du (by rfl) (U.trans (ad) (aK.shut (g:=g))))))
end
section
open Go.RowKit
set_option maxRecDepth 10000
attribute [local irreducible] EK EX ER EN EL ES EG az ba bf
variable {W:World} {F:SL} {X:Cx} {k:List KI} {σ:Env} {p pp g q:Option Addr} {ws cs pl:List Nat} {n np:Nat} {s:aU} {m:eM}
theorem Q1 (hf:fH (n:Int)=true)(hc:dD n np cs)(hp:cK np pl)(h:bt n np s)(hd:s.done=false)(h6:6≤s.next)(qe:s.next≤12):Spec Tryz.prog 149 [.pointer p,.pointer q] W (ay q s*(aK p pp n cs*(aM pp pl*F))) (fun _:Unit=> .tuple #[])
  (fun _=>ay q (cx pl n cs s).2*(aK p pp n (cx pl n cs s).1*(aM pp pl*F))):=by
 have jt:s.next=6∨s.next=7∨s.next=8∨s.next=9∨s.next=10∨s.next=11∨s.next=12:=by omega
 rcases jt with e|e|e|e|e|e|e
 ·exact QW hf hc hp h hd e
 ·exact QX hf hc hp h hd e
 ·exact QY hf hc hp h hd e
 ·exact QZ hf hc hp h hd e
 ·exact QT hf hc hp h hd e
 ·exact QU hf hc hp h hd e
 ·exact QV hf hc hp h hd e
theorem Ci (hf:fH (n:Int)=true)(hc:dD n np cs)(hp:cK np pl)(h:bt n np s)(hd:s.done=false):Spec Tryz.prog 88 [.pointer p,.pointer q] W (ay q s*(aK p pp n cs*(aM pp pl*F))) (fun _:Unit=> .bool (bA pl n cs s).2.done)
  (fun _=>ay q (bA pl n cs s).2*(aK p pp n (bA pl n cs s).1*(aM pp pl*F))):=by
 refine Spec.of Tryz.func88 rfl Tryz.ntmps88 rfl ?_
 have zE:=h.next
 refine cW q (ay.open ?_)
 by_cases sX:23≤s.next
 ·have es:bA pl n cs s=ri cs s:=by unfold bA;rw[if_neg (by rw[hd];decide),if_pos sX]
  rw[es]
  repeat first|refine aa ?_ |intro
  rw[hd]
  repeat first|refine aa ?_ |intro
  refine ag rfl (Spec.pre (Q4 (p:=p) (q:=q) (pp:=pp) (s:=s) (F:=aM pp pl*F) ⟨hc.len,hc.n2,hc.w,h.a,h.b,by omega,h.word,h.out,hd⟩) (ay.bX (by unfold j0;rw[hd]) (U.refl _))) ?_
  intro _
  rw[drop_eq]
  generalize ri cs s=D at*
  refine ay.jx ?_
  repeat first|refine aa ?_ |intro
  exact ae (aw rfl rfl () rfl (U.sat (ay.bX (by rfl) (U.refl _))))
 by_cases oX:13≤s.next
 ·have es:bA pl n cs s=gF pl n cs s:=by unfold bA;rw[if_neg (by rw[hd];decide),if_neg sX,if_pos oX]
  rw[es]
  repeat first|refine aa ?_ |intro
  rw[hd]
  repeat first|refine aa ?_ |intro
  refine ag rfl (Spec.pre (SQ (p:=p) (q:=q) (pp:=pp) (s:=s) (F:=F) hc hp h oX (by omega)) (ay.bX (by unfold j0;rw[hd]) (U.refl _))) ?_
  intro _
  generalize gF pl n cs s=D at*
  refine ay.jx ?_
  repeat first|refine aa ?_ |intro
  exact ae (aw rfl rfl () rfl (U.sat (ay.bX (by rfl) (U.refl _))))
 by_cases h6:6≤s.next
 ·have es:bA pl n cs s=cx pl n cs s:=by unfold bA;rw[if_neg (by rw[hd];decide),if_neg sX,if_neg oX,if_pos h6]
  rw[es]
  repeat first|refine aa ?_ |intro
  rw[hd]
  repeat first|refine aa ?_ |intro
  refine ag rfl (Spec.pre (Q1 (p:=p) (q:=q) (pp:=pp) (s:=s) (F:=F) hf hc hp h hd h6 (by omega)) (ay.bX (by unfold j0;rw[hd]) (U.refl _))) ?_
  intro _
  generalize cx pl n cs s=D at*
  refine ay.jx ?_
  repeat first|refine aa ?_ |intro
  exact ae (aw rfl rfl () rfl (U.sat (ay.bX (by rfl) (U.refl _))))
 ·have es:bA pl n cs s=ib cs pl s:=by unfold bA;rw[if_neg (by rw[hd];decide),if_neg sX,if_neg oX,if_neg h6]
  rw[es]
  repeat first|refine aa ?_ |intro
  rw[hd]
  repeat first|refine aa ?_ |intro
  refine ag rfl (Spec.pre (XL (p:=p) (q:=q) (pp:=pp) (s:=s) (F:=F) ⟨hc.len,hc.n2,hp.len,hc.jw,hc.w,hp.w,h.a,h.b,by omega,h.nY,h.refs,h.word,h.first,h.Eb,h.uL,h.f1,h.f2,h.f3,h.kind,hd,fun e5=>⟨h.zT (h.link e5).1,(h.link e5).2⟩⟩) (ay.bX (by unfold j0;rw[hd]) (U.refl _))) ?_
  intro _
  generalize ib cs pl s=D at*
  refine ay.jx ?_
  repeat first|refine aa ?_ |intro
  exact ae (aw rfl rfl () rfl (U.sat (ay.bX (by rfl) (U.refl _))))
end
section
open Go.RowKit
set_option maxRecDepth 10000
attribute [local irreducible] EK EX ER EN EL ES EG az ba bf
variable {W:World} {F:SL} {X:Cx} {k:List KI} {σ:Env}
def tD (x:Nat×Nat):List Value:=[.int .i64 (x.1:Int),.int .u64 (x.2:Int)]
def tE (l:List (Nat×Nat)):List Value:=l.flatMap tD
theorem K7:∀ {l:List (Nat×Nat)} {i j:Nat} {v:Value},i<l.length→(tD (l.getD i (0,0)))[j]? =some v→(tE l)[i*2+j]? =some v
 |[],_,_,_,h,_=>by simp at h
 |x::l,0,j,v,_,h=>by
  have hj:j<2:=by
   have:=(List.getElem?_eq_some_iff.1 h).1
   simpa[tD]using this
  simp only[tE,List.flatMap_cons,Nat.zero_mul,Nat.zero_add]
  rw[List.getElem?_append_left (by simpa[tD]using hj)]
  simpa using h
 |x::l,i+1,j,v,hi,h=>by
  have ih:=K7 (l:=l) (i:=i) (j:=j) (v:=v) (by simpa using hi) (by simpa using h)
  simp only[tE,List.flatMap_cons]at ih ⊢
  rw[List.getElem?_append_right (by simp[tD];omega),show(i+1)*2+j-(tD x).length=i*2+j by simp[tD];omega]
  exact ih
instance sJ.part (l:List (Nat×Nat))(i:Nat):sJ (tE l) i 2 [.int .i64 ((l.getD i (0,0)).1:Int),.int .u64 ((l.getD i (0,0)).2:Int)] (i<l.length):=⟨fun h=>⟨rfl,fun _ _ hv=>K7 h hv⟩⟩
def GP (p:Option Addr)(n:Nat)(ws:List Nat)(c:Option Addr):SL:=Obj p 164 [.pointer c,.int .i64 (n:Int)]*cz c ws
def bD (p:Option Addr)(n:Nat)(ws:List Nat):SL:=SL.ex (GP p n ws)
abbrev ki (p:Option Addr)(n:Nat)(ws:List Nat)(c:Option Addr)(F:SL):SL:=Obj p 164 [.pointer c,.int .i64 (n:Int)]*(cz c ws*F)
variable {p:Option Addr} {n:Nat} {ws:List Nat} {s:bL}
theorem bD.open (h:∀c,EK X k σ (ki p n ws c F)):EK X k σ (bD p n ws*F):=nT fun c=>by
 have:=h c
 unfold ki at this
 unfold GP
 rw[SL.cb]
 exact this
theorem bD.shut {c:Option Addr}:U (ki p n ws c F) (bD p n ws*F):=U.ex c (U.assoc (U.refl _))
instance (priority:=2000)(p:Option Addr)(n:Nat)(ws:List Nat)(F:SL):bO (bD p n ws*F) p (bD p n ws) F:=⟨rfl⟩
instance (p:Option Addr)(n:Nat)(ws:List Nat):kR (bD p n ws) p:=⟨fun W w F h=>by
 obtain⟨g,h⟩:=h.iX
 exact(Obj.root p _ _).nn W w _ (h.ac (SL.cb _ _ _))⟩
abbrev fx (s:bL)(q:aP×aP×aP):List Value:=
 [.int .i64 (s.kind:Int),.int .i64 (s.word:Int),.int .i64 (s.left:Int),.int .i64 (s.most:Int),.bool s.read,.int .u64 (s.seen:Int),.slice q.1.1 s.words.length q.1.2,.slice q.2.1.1 s.parts.length q.2.1.2,.slice q.2.2.1 s.ports.length q.2.2.2,.bool s.done,.bool s.alike]
abbrev fV (p:Option Addr)(s:bL)(q:aP×aP×aP)(F:SL):SL:=
 Obj p 295 (fx s q)*(ao 43 1 q.1.1 s.words.length q.1.2 (bB .u64 s.words)*(ao 297 2 q.2.1.1 s.parts.length q.2.1.2 (tE s.parts)*(ao 3 1 q.2.2.1 s.ports.length q.2.2.2 (bB .i64 s.ports)*F)))
def qZ (p:Option Addr)(s:bL)(q:aP×aP×aP):SL:=Obj p 295 (fx s q)*(ao 43 1 q.1.1 s.words.length q.1.2 (bB .u64 s.words)*(ao 297 2 q.2.1.1 s.parts.length q.2.1.2 (tE s.parts)*ao 3 1 q.2.2.1 s.ports.length q.2.2.2 (bB .i64 s.ports)))
def bn (p:Option Addr)(s:bL):SL:=SL.ex (qZ p s)
theorem qZ.eq (p:Option Addr)(s:bL)(q:aP×aP×aP)(F:SL):qZ p s q*F=fV p s q F:=by
 unfold qZ fV
 rw[SL.cb,SL.cb,SL.cb]
theorem bn.open (h:∀q,EK X k σ (fV p s q F)):EK X k σ (bn p s*F):=nT fun q=>by
 rw[qZ.eq]
 exact h q
theorem bn.shut {q:aP×aP×aP}:U (fV p s q F) (bn p s*F):=U.ex q (by rw[qZ.eq];exact U.refl _)
instance (priority:=2000)(p:Option Addr)(s:bL)(F:SL):bO (bn p s*F) p (bn p s) F:=⟨rfl⟩
instance (p:Option Addr)(s:bL):kR (bn p s) p:=⟨fun W w F h=>by
 obtain⟨g,h⟩:=h.iX
 rw[qZ.eq]at h
 exact(Obj.root p _ _).nn W w _ h⟩
theorem Qu {u low:Nat}(hu:u<18446744073709551616)(hl:low<4294967296):
  bits .or .u64 (IntKind.u64.wrap (IntKind.u64.wrap ((u:Int)/2^(32:Int).toNat+1)*2^(32:Int).toNat)) (low:Int)=((lO u low:Nat):Int):=by
 have e:IntKind.u64.wrap (IntKind.u64.wrap ((u:Int)/2^(32:Int).toNat+1)*2^(32:Int).toNat)=(((u/4294967296+1)*4294967296%18446744073709551616:Nat):Int):=by
  rw[IntKind.wrap_u64,IntKind.wrap_u64,show(32:Int).toNat=32 from rfl]
  omega
 rw[e,u64_or_nat _ _ (Nat.mod_lt _ (by decide)) (by omega),Qs hu hl]
theorem Hz (u low:Nat)(hu:u<18446744073709551616)(hl:low<4294967296):Spec Tryz.prog 237 [.int .u64 (u:Int),.int .u64 (low:Int)] W F (fun _:Unit=> .int .u64 ((lO u low:Nat):Int)) (fun _=>F):=by
 refine Spec.of Tryz.func237 rfl Tryz.ntmps237 rfl ?_
 repeat first|refine aa ?_ |intro
 refine ae (aw rfl rfl () ?_ (U.sat U.last))
 rw[Qu hu hl]
end
section
open Go.RowKit
variable {W w:World} {F:SL}
def gE (W:World):Prop:=TabAt 0 Lib.deBruijn64tab W
theorem gE.at (hT:gE W)(h:Sat W w F):gE w:=fun j hj=>by
 have:=hT j hj
 rw[h.below.cell (World.block_lt_of_cell? _ _ this)]
 exact this
set_option maxHeartbeats 400000 in
theorem YB (x k idx:Nat)(w:World)(ou:((x:Int)==0)=false)
  (key:IntKind.u64.wrap (bits BinOp.and IntKind.u64 (x:Int) (IntKind.u64.wrap (-(x:Int)))*285870213051353865)/288230376151711744=(idx:Int))
  (hi:idx<64) (hk:k<64) (sZ:w.cell? ⟨0,idx,none⟩=some (.int .u8 k)):
  Calls Tryz.prog 265 #[.int .u64 x] w fun e w'=>e= .returned (.int .i64 k)∧w=w':=by
 go_enter Tryz.func265,Tryz.ntmps265
 go_wp2_with (simp only[key])
 go_ret
 exact⟨rfl,rfl⟩
theorem YA (x:Nat)(hx:x<18446744073709551616)(ou:¬x=0)(w:World)(hT:gE w):
  Calls Tryz.prog 265 #[.int .u64 x] w fun e w'=>e= .returned (.int .i64 (Lib.ctz 64 x:Nat))∧w=w':=by
 obtain⟨wF,hk⟩:=Lib.lowest_bit 64 x ou hx
 obtain⟨hi,TT⟩:=Lib.deBruijn64_at _ hk
 have sZ:=hT _ hi
 rw[TT]at sZ
 exact YB x _ _ w (by simp;omega) (tz64_key x _ hx ou wF) hi hk sZ
theorem YC (hT:gE W)(x:Nat)(hx:x<18446744073709551616)(ou:¬x=0):Spec Tryz.prog 265 [.int .u64 (x:Int)] W F (fun _:Unit=> .int .i64 ((Lib.ctz 64 x:Nat):Int)) (fun _=>F):=by
 intro w h
 refine(YA x hx ou w (hT.at h)).mono ?_
 rintro e w' ⟨rfl,rfl⟩
 exact⟨(),rfl,h⟩
end
section
open Go.RowKit
set_option maxRecDepth 10000
attribute [local irreducible] EK EX ER EN EL ES EG az ba bf
variable {W:World} {F:SL} {X:Cx} {k:List KI} {σ:Env} {p sp:Option Addr} {n m:Nat} {ws:List Nat} {s:bL}
theorem nw {H:SL}{c:Option Addr}{q:aP×aP×aP}(h:U H (ki p n ws c (fV sp s q F))):U H (bD p n ws*(bn sp s*F)):=
 h.trans ((bD.shut (c:=c)).trans (U.cons bn.shut))
theorem Si (hT:gE W)(hw:hJ m ws)(hs:s.Ok m)(hk:s.kind=0):
  Spec Tryz.prog 236 [.pointer p,.pointer sp] W (bD p n ws*(bn sp s*F)) (fun _:Unit=> .tuple #[]) (fun _=>bD p n (uB ws s).1*(bn sp (uB ws s).2*F)):=by
 obtain⟨Jy,wZ,hl,Th,DG,wC⟩:=hs.lu hk
 have DH:=hw.most
 have hu:=hs.seen
 have UB:=RY hu
 have hlen:=hw.len
 refine Spec.of Tryz.func236 rfl Tryz.ntmps236 rfl ?_
 refine bD.open fun c=> ?_
 refine cW sp (bn.open fun q=> ?_)
 simp only[fV,fx]
 have UC:bits .and .u64 (bits .xor .u64 (if IntKind.u64.signed=true then-1 else IntKind.u64.max) (s.seen:Int)) 4294967295=((ofBits (cE s.seen):Nat):Int):=UB
 have zV:=Eo hu
 have Sv:=K8 s.seen s.most
 repeat first|refine aa ?_ |intro
 try refine cg (vx rfl rfl) rfl ?_
 repeat first|refine aa ?_ |intro
 rw[UC,zV]
 refine yl (γ:=aP) (fun _=>True) (fun g=>[(0,.pointer p),(1,.pointer sp),(4,.slice g.1 (eA s.seen s.most).length g.2),(6,.int .u64 ((s.seen%4294967296|||ofBits (eA s.seen s.most):Nat):Int))])
  (fun g=>ao 3 1 g.1 (eA s.seen s.most).length g.2 (bB .i64 ((eA s.seen s.most).map (s.word*32+ ·)))*fV sp s q (ki p n ws c F)) ?_ ?_
 ·refine ff (γ:=Nat×aP) (fun g=>g.1≤(eA s.seen s.most).length) (fun g=>[(0,.pointer p),(1,.pointer sp),(4,.slice g.2.1 g.1 g.2.2),(5,.int .u64 ((ofBits ((cE s.seen).drop g.1):Nat):Int)),(6,.int .u64 ((s.seen%4294967296|||ofBits ((cE s.seen).take g.1):Nat):Int))])
   (fun g=>ao 3 1 g.2.1 g.1 g.2.2 (bB .i64 (((cE s.seen).take g.1).map (s.word*32+ ·)))*fV sp s q (ki p n ws c F)) (fun g=>32-g.1) (0,(none,0)) (Nat.zero_le _) ⟨rfl,rfl,rfl,rfl,by simp[ofBits];rfl,trivial⟩ (U.sat (U.none (U.refl _))) ?_
  intro ⟨k,o⟩ zv;dsimp only at zv ⊢
  simp only[fV,fx,ki]
  by_cases hkP:k<(eA s.seen s.most).length
  ·have S8:k<s.most:=by omega
   have DA:k<(cE s.seen).length:=by omega
   obtain⟨t1,t2,t3⟩:=Sh DA
   have Dd:¬ofBits ((cE s.seen).drop k)=0:=by rw[ED,List.drop_eq_nil_iff];omega
   have hXl:=RZ s.seen k
   have Sx:¬((ofBits ((cE s.seen).drop k):Nat):Int)=0:=by omega
   have wj:(cE s.seen).getD k 0=(cE s.seen)[k]:=by rw[List.getD_eq_getElem?_getD,List.getElem?_eq_getElem DA];rfl
   have nh:=tQ (l:=cE s.seen) (d:=0) DA
   rw[wj]at nh
   repeat first|refine aa ?_ |intro
   refine ag rfl (YC hT _ (by omega) Dd) ?_
   intro _
   rw[t1]
   generalize (cE s.seen)[k]=i at*
   have hYl:s.seen%4294967296|||ofBits ((cE s.seen).take k)<4294967296:=xC (Nat.mod_lt _ (by decide)) (Wp _ _)
   have hpi:(2:Nat)^i<4294967296:=xH t2
   have fv:IntKind.u64.wrap (1*2^(i:Int).toNat)=((2^i:Nat):Int):=by
    rw[Int.one_mul,Int.toNat_natCast];exact MG t2
   repeat first|refine aa ?_ |intro
   rename_i o2
   refine cT (k+1,o2) (by dsimp only;omega) (by dsimp only;omega) ⟨rfl,rfl,rfl,?_,?_,trivial⟩ (U.sat ?_)
   ·rw[fv,u64_andNot_nat _ _ (by omega) (by omega),t3]
    rfl
   ·rw[fv,u64_or_nat _ _ (by omega) (by omega)]
    dsimp only
    rw[←nh,Wn,←Nat.or_assoc]
    rfl
   ·dsimp only
    refine U.row o2.1 rfl ?_ ?_
    ·rw[←nh,List.map_append,List.map_cons,List.map_nil,←Ev]
     congr 3
    ·repeat(first|exact U.last|refine U.cons ?_ |refine U.assoc ?_)
  ·have I6:k=(eA s.seen s.most).length:=by omega
   have hp:(cE s.seen).take k=eA s.seen s.most:=by
    rw[I6,Sv,eA,←List.take_eq_take_min]
   rw[hp]
   subst I6
   by_cases Dd:ofBits ((cE s.seen).drop (eA s.seen s.most).length)=0
   ·rw[Dd]
    repeat first|refine aa ?_ |intro
    exact ei o trivial ⟨rfl,rfl,rfl,rfl,trivial⟩ (U.sat (U.refl _))
   ·have Sx:¬((ofBits ((cE s.seen).drop (eA s.seen s.most).length):Nat):Int)=0:=by omega
    have S8:s.most≤(eA s.seen s.most).length:=by
     have:=(not_congr (Sg (u:=s.seen) (most:=s.most) (k:=(eA s.seen s.most).length))).2 (by omega)
     omega
    repeat first|refine aa ?_ |intro
    exact ei o trivial ⟨rfl,rfl,rfl,rfl,trivial⟩ (U.sat (U.refl _))
 intro o _
 simp only[fV,fx,ki]
 have wF:s.seen%4294967296|||ofBits (eA s.seen s.most)<4294967296:=xC (Nat.mod_lt _ (by decide)) (xz _ 32 fun i hi=>(ow.1 (List.mem_of_mem_take hi)).1)
 repeat first|refine aa ?_ |intro
 refine jD 18 rfl (by kernel_rfl) rfl rfl ?_
 repeat(refine cV ?_)
 refine nr rfl (Hz s.seen _ hu wF) ?_
 repeat(refine cV ?_)
 refine ag rfl (Spec.aV c (mw c ws s.word s.seen _ (by omega) (by omega))) ?_
 intro _
 by_cases he:ws.getD s.word 0=s.seen
 ·rw[decide_eq_true he,if_pos he]
  have eg:uB ws s=(ws.set s.word (lO s.seen (s.seen%4294967296|||ofBits (eA s.seen s.most))),{s with ports:=(eA s.seen s.most).map (s.word*32+ ·),done:=true}):=if_pos he
  rw[eg]
  repeat first|refine aa ?_ |intro
  refine aN (aO rfl () rfl (U.sat (nw (c:=c) (q:=(q.1,q.2.1,o)) ?_)))
  refine U.obj p rfl (U.cons (U.obj sp (by simp) (U.row q.1.1 rfl rfl (U.row q.2.1.1 rfl rfl (U.row o.1 (by simp) rfl ?_)))))
  repeat(first|exact U.last|refine U.cons ?_ |refine U.assoc ?_)
 ·rw[decide_eq_false he,if_neg he]
  have eg:uB ws s=(ws,s):=if_neg he
  rw[eg]
  repeat first|refine aa ?_ |intro
  refine aN (aO rfl () rfl (U.sat (nw (c:=c) (q:=q) ?_)))
  repeat(first|exact U.last|refine U.cons ?_ |refine U.assoc ?_)
theorem Yo (hT:gE W)(hw:hJ m ws)(hs:s.Ok m)(hk:s.kind=0)(hd:s.done=false):
  Spec Tryz.prog 209 [.pointer p,.pointer sp] W (bD p n ws*(bn sp s*F)) (fun _:Unit=> .tuple #[]) (fun _=>bD p n (ji ws s).1*(bn sp (ji ws s).2*F)):=by
 obtain⟨Jy,wZ,hl,Th,DG,wC⟩:=hs.lu hk
 have wC:=wC hd
 have DH:=hw.most
 have hlen:=hw.len
 have ck:=(hw.get wZ).2
 refine Spec.of Tryz.func209 rfl Tryz.ntmps209 rfl ?_
 refine bD.open fun c=> ?_
 refine cW sp (bn.open fun q=> ?_)
 simp only[fV,fx,ki]
 by_cases hr:s.read=true
 ·rw[hr]
  rw[Yn hr]
  repeat first|refine aa ?_ |intro
  refine ag rfl (Spec.pre (Si (p:=p) (sp:=sp) (n:=n) (s:={s with read:=false}) hT hw ⟨hs.kind,hs.seen,hs.words,hs.lu,hs.pj,hs.parts,hs.ports⟩ hk (F:=F)) (nw (c:=c) (q:=q) (by repeat(first|exact U.last|refine U.cons ?_ |refine U.assoc ?_)))) ?_
  intro _
  repeat first|refine aa ?_ |intro
  exact ae (dB rfl () rfl (U.sat (U.refl _)))
 ·have hr:s.read=false:=by simpa using hr
  rw[hr]
  have zV:=Eo ck
  by_cases hf:cE (ws.getD s.word 0)=[]
  ·have et:ji ws s=(ws,{s with seen:=ws.getD s.word 0,words:=s.words.set s.word (ws.getD s.word 0),word:=(s.word+1)%s.words.length,left:=s.left-1,done:=decide (s.left-1=0)}):=by
    unfold ji
    rw[if_neg (by simp[hr]),if_pos hf]
   have adN:=(Is _).1 hf
   rw[et]
   repeat first|refine aa ?_ |intro
   refine jD 12 rfl (by kernel_rfl) rfl rfl ?_
   repeat(refine cV ?_)
   refine nr rfl (Spec.uN c (fC c ws s.word (by omega) (by omega))) ?_
   repeat(refine cV ?_)
   repeat first|refine aa ?_ |intro
   refine jD 13 rfl (by kernel_rfl) rfl rfl ?_
   repeat(refine cV ?_)
   repeat first|refine aa ?_ |intro
   refine jD 14 rfl (by kernel_rfl) rfl rfl ?_
   repeat(refine cV ?_)
   repeat first|refine aa ?_ |intro
   have e1:((s.word:Int)+1)%(s.words.length:Int)=(((s.word+1)%s.words.length:Nat):Int):=by rw[Int.natCast_emod,Int.natCast_add];rfl
   have e2:(s.left:Int)-1=((s.left-1:Nat):Int):=by omega
   have e3:decide ((s.left:Int)-1=0)=decide (s.left-1=0):=decide_eq_decide.2 (by omega)
   rw[e3,e1,e2]
   refine aN (aO rfl () rfl (U.sat (nw (c:=c) (q:=q) ?_)))
   refine U.at p rfl (U.at c rfl (U.obj sp (by simp only[fx,hr,List.length_set]) (U.row q.1.1 (by rw[List.length_set]) rfl ?_)))
   repeat(first|exact U.last|refine U.cons ?_ |refine U.assoc ?_)
  ·have et:ji ws s=(ws,{s with seen:=ws.getD s.word 0,read:=true}):=by
    unfold ji
    rw[if_neg (by simp[hr]),if_neg hf]
   have hnf:¬ws.getD s.word 0%4294967296=4294967295:=fun e=>hf ((Is _).2 e)
   rw[et]
   repeat first|refine aa ?_ |intro
   refine jD 12 rfl (by kernel_rfl) rfl rfl ?_
   repeat(refine cV ?_)
   refine nr rfl (Spec.uN c (fC c ws s.word (by omega) (by omega))) ?_
   repeat(refine cV ?_)
   repeat first|refine aa ?_ |intro
   refine ae (dB rfl () rfl (U.sat (nw (c:=c) (q:=q) ?_)))
   refine U.at p rfl (U.at c rfl (U.obj sp rfl ?_))
   repeat(first|exact U.last|refine U.cons ?_ |refine U.assoc ?_)
end
section
open Go.RowKit
set_option maxRecDepth 10000
attribute [local irreducible] EK EX ER EN EL ES EG az ba bf
variable {W:World} {F:SL} {X:Cx} {k:List KI} {σ:Env} {p sp:Option Addr} {n m:Nat} {ws:List Nat} {s:bL}
theorem XH (hw:hJ m ws)(hs:s.Ok m)(hk:s.kind=1)(hd:s.done=false):
  Spec Tryz.prog 210 [.pointer p,.pointer sp] W (bD p n ws*(bn sp s*F)) (fun _:Unit=> .tuple #[]) (fun _=>bD p n (qx ws s).1*(bn sp (qx ws s).2*F)):=by
 obtain⟨Jy,hwm,wZ⟩:=hs.pj hk
 have wZ:=wZ hd
 have DH:=hw.most
 have hlen:=hw.len
 refine Spec.of Tryz.func210 rfl Tryz.ntmps210 rfl ?_
 refine bD.open fun c=> ?_
 refine cW sp (bn.open fun q=> ?_)
 simp only[fV,fx,ki]
 haveI:Pos s.words.length:=⟨by omega⟩
 by_cases he:ws.getD s.word 0=s.words.getD s.word 0
 ·have et:qx ws s=(ws,{s with word:=s.word+1,done:=decide (s.word+1=s.words.length),alike:=decide (s.word+1=s.words.length)}):=if_pos he
  rw[et]
  repeat first|refine aa ?_ |intro
  refine lB rfl (by kernel_rfl) ?_
  repeat(refine cV ?_)
  refine nr rfl (Spec.uN c (fC c ws s.word (by omega) (by omega))) ?_
  repeat(refine cV ?_)
  repeat first|refine aa ?_ |intro
  refine jD 13 rfl (by kernel_rfl) rfl rfl ?_
  repeat(refine cV ?_)
  repeat first|refine aa ?_ |intro
  have e3:decide ((s.word:Int)+1=(s.words.length:Int))=decide (s.word+1=s.words.length):=decide_eq_decide.2 (by omega)
  rw[e3]
  refine aN (aO rfl () rfl (U.sat (nw (c:=c) (q:=q) ?_)))
  refine U.at p rfl (U.at c rfl (U.obj sp rfl ?_))
  repeat(first|exact U.last|refine U.cons ?_ |refine U.assoc ?_)
 ·have et:qx ws s=(ws,{s with done:=true}):=if_neg he
  rw[et]
  have IV:¬((ws.getD s.word 0:Nat):Int)=((s.words.getD s.word 0:Nat):Int):=by omega
  repeat first|refine aa ?_ |intro
  refine lB rfl (by kernel_rfl) ?_
  repeat(refine cV ?_)
  refine nr rfl (Spec.uN c (fC c ws s.word (by omega) (by omega))) ?_
  repeat(refine cV ?_)
  repeat first|refine aa ?_ |intro
  refine ae (dB rfl () rfl (U.sat (nw (c:=c) (q:=q) ?_)))
  refine U.at p rfl (U.at c rfl (U.obj sp rfl ?_))
  repeat(first|exact U.last|refine U.cons ?_ |refine U.assoc ?_)
theorem CH {α:Type}[DecidableEq α](l:List α):decide (l=[])=decide (((l.length:Nat):Int)=0):=decide_eq_decide.2 (by
 cases l with
 |nil=>simp
 |cons a l=>simp;omega)
theorem PZ (hw:hJ m ws)(hs:s.Ok m):
  Spec Tryz.prog 211 [.pointer p,.pointer sp] W (bD p n ws*(bn sp s*F)) (fun _:Unit=> .tuple #[]) (fun _=>bD p n (sO ws s).1*(bn sp (sO ws s).2*F)):=by
 have DH:=hw.most
 have hlen:=hw.len
 refine Spec.of Tryz.func211 rfl Tryz.ntmps211 rfl ?_
 refine bD.open fun c=> ?_
 refine cW sp (bn.open fun q=> ?_)
 simp only[fV,fx,ki]
 rcases hp:s.parts with _|⟨⟨j,mask⟩,rest⟩
 ·rw[Hj hp]
  repeat first|refine aa ?_ |intro
  refine ae (dB rfl () rfl (U.sat (nw (c:=c) (q:=q) ?_)))
  refine U.at p rfl (U.at c rfl (U.obj sp (by simp only[fx,hp]) (U.row q.1.1 rfl rfl (U.row q.2.1.1 (by rw[hp]) (by rw[hp]) ?_))))
  repeat(first|exact U.last|refine U.cons ?_ |refine U.assoc ?_)
 ·rw[Hi hp]
  obtain⟨hj,wG⟩:=hs.parts (j,mask) (by rw[hp];simp)
  dsimp only at hj wG
  have ck:=(hw.get hj).2
  have hu:=hs.seen
  have I3:j<ws.length:=by omega
  have iD:((j,mask)::rest).length=rest.length+1:=rfl
  by_cases hr:s.read=true
  ·rw[if_pos hr,hr]
   have key:=Eo hu
   have zV:=PK hu wG
   have DE:s.seen%4294967296&&& (18446744073709551615-mask)<4294967296:=Nat.lt_of_le_of_lt Nat.and_le_left (Nat.mod_lt _ (by decide))
   repeat first|refine aa ?_ |intro
   rename_i px
   rw[show((j,mask)::rest).getD 0 (0,0)=(j,mask)from rfl]
   dsimp only
   refine jD 23 rfl (by kernel_rfl) rfl rfl ?_
   repeat(refine cV ?_)
   have UD:bits .andNot .u64 (bits .and .u64 (s.seen:Int) 4294967295) (mask:Int)=((s.seen%4294967296&&& (18446744073709551615-mask):Nat):Int):=by
    rw[key,Int.natCast_emod];exact zV
   rw[UD]
   refine nr rfl (Hz s.seen _ hu DE) ?_
   repeat(refine cV ?_)
   refine ag rfl (Spec.aV c (mw c ws j s.seen _ (by omega) (by omega))) ?_
   intro _
   by_cases he:ws.getD j 0=s.seen
   ·rw[decide_eq_true he,if_pos he,if_pos he]
    repeat first|refine aa ?_ |intro
    rw[show((j,mask)::rest).length-1=rest.length from rfl,←CH rest]
    refine aN (aO rfl () rfl (U.sat (nw (c:=c) (q:=(q.1,(dO q.2.1.1 1 q.2.1.2 2,q.2.1.2-1),q.2.2)) ?_)))
    refine U.at p rfl (U.at c rfl (U.obj sp rfl (U.row q.1.1 rfl rfl (U.Lw q.2.1.1 1 (by omega) (U.row (dO q.2.1.1 1 q.2.1.2 2) rfl rfl ?_)))))
    repeat(first|exact U.last|refine U.cons ?_ |refine U.assoc ?_)
   ·rw[decide_eq_false he,if_neg he,if_neg he]
    repeat first|refine aa ?_ |intro
    refine ae (dB rfl () rfl (U.sat (nw (c:=c) (q:=q) ?_)))
    refine U.at p rfl (U.at c rfl (U.obj sp (by simp only[fx,hp]) (U.row q.1.1 rfl rfl (U.row q.2.1.1 (by rw[hp]) (by rw[hp]) ?_))))
    repeat(first|exact U.last|refine U.cons ?_ |refine U.assoc ?_)
  ·have hr:s.read=false:=by simpa using hr
   rw[if_neg (by simp[hr]),hr]
   have key:=PL ck wG
   by_cases hz:ws.getD j 0&&& mask=0
   ·have T3:bits .and .u64 ((ws.getD j 0:Nat):Int) (mask:Int)=0:=by rw[key,hz];rfl
    rw[if_pos hz]
    repeat first|refine aa ?_ |intro
    rename_i px
    rw[show((j,mask)::rest).getD 0 (0,0)=(j,mask)from rfl]
    dsimp only
    refine jD 10 rfl (by kernel_rfl) rfl rfl ?_
    repeat(refine cV ?_)
    refine nr rfl (Spec.uN c (fC c ws j (by omega) (by omega))) ?_
    repeat(refine cV ?_)
    repeat first|refine aa ?_ |intro
    refine jD 11 rfl (by kernel_rfl) rfl rfl ?_
    repeat(refine cV ?_)
    repeat first|refine aa ?_ |intro
    rw[show((j,mask)::rest).length-1=rest.length from rfl,←CH rest]
    refine aN (aO rfl () rfl (U.sat (nw (c:=c) (q:=(q.1,(dO q.2.1.1 1 q.2.1.2 2,q.2.1.2-1),q.2.2)) ?_)))
    refine U.at p rfl (U.at c rfl (U.obj sp rfl (U.row q.1.1 rfl rfl (U.Lw q.2.1.1 1 (by omega) (U.row (dO q.2.1.1 1 q.2.1.2 2) rfl rfl ?_)))))
    repeat(first|exact U.last|refine U.cons ?_ |refine U.assoc ?_)
   ·have T3:¬bits .and .u64 ((ws.getD j 0:Nat):Int) (mask:Int)=0:=by rw[key];omega
    rw[if_neg hz]
    repeat first|refine aa ?_ |intro
    rename_i px
    rw[show((j,mask)::rest).getD 0 (0,0)=(j,mask)from rfl]
    dsimp only
    refine jD 10 rfl (by kernel_rfl) rfl rfl ?_
    repeat(refine cV ?_)
    refine nr rfl (Spec.uN c (fC c ws j (by omega) (by omega))) ?_
    repeat(refine cV ?_)
    repeat first|refine aa ?_ |intro
    refine jD 11 rfl (by kernel_rfl) rfl rfl ?_
    repeat(refine cV ?_)
    repeat first|refine aa ?_ |intro
    refine ae (dB rfl () rfl (U.sat (nw (c:=c) (q:=q) ?_)))
    refine U.at p rfl (U.at c rfl (U.obj sp (by simp only[fx,hp]) (U.row q.1.1 rfl rfl (U.row q.2.1.1 (by rw[hp]) (by rw[hp]) ?_))))
    repeat(first|exact U.last|refine U.cons ?_ |refine U.assoc ?_)
theorem FV (hT:gE W)(hw:hJ m ws)(hs:s.Ok m):
  Spec Tryz.prog 155 [.pointer p,.pointer sp] W (bD p n ws*(bn sp s*F)) (fun _:Unit=> .bool (bh ws s).2.done) (fun _=>bD p n (bh ws s).1*(bn sp (bh ws s).2*F)):=by
 refine Spec.of Tryz.func155 rfl Tryz.ntmps155 rfl ?_
 refine cW sp (bn.open fun q=> ?_)
 simp only[fV,fx]
 by_cases hd:s.done=true
 ·have e:bh ws s=(ws,s):=if_pos hd
  rw[e,hd]
  repeat first|refine aa ?_ |intro
  refine ae (aw rfl rfl () rfl (U.sat ?_))
  refine U.cons (U.trans ?_ (bn.shut (q:=q)))
  refine U.obj sp (by simp only[fx,hd]) ?_
  repeat(first|exact U.last|refine U.cons ?_ |refine U.assoc ?_)
 have hd:s.done=false:=by simpa using hd
 have e:bh ws s=if s.kind=0 then ji ws s else if s.kind=1 then qx ws s else sO ws s:=by
  unfold bh
  rw[if_neg (by simp[hd])]
 have fv:U (Obj sp 295 (fx s q)*(ao 43 1 q.1.1 s.words.length q.1.2 (bB .u64 s.words)*(ao 297 2 q.2.1.1 s.parts.length q.2.1.2 (tE s.parts)*(ao 3 1 q.2.2.1 s.ports.length q.2.2.2 (bB .i64 s.ports)*(bD p n ws*F))))) (bD p n ws*(bn sp s*F)):=by
  refine U.at p rfl (U.trans ?_ (bn.shut (q:=q)))
  repeat(first|exact U.last|refine U.cons ?_ |refine U.assoc ?_)
 simp only[fx]at fv
 rw[hd]at fv ⊢
 rcases hs.kind with hk|hk|hk
 ·rw[if_pos hk]at e
  rw[e]
  have om:((s.kind:Nat):Int)=0:=by omega
  repeat first|refine aa ?_ |intro
  refine ag rfl (Spec.pre (Yo hT hw hs hk hd) fv) ?_
  intro _
  generalize (ji ws s)=g
  refine ym ?_
  refine cW sp (bn.open fun q=> ?_)
  simp only[fV,fx]
  repeat first|refine aa ?_ |intro
  refine ae (aw rfl rfl () rfl (U.sat ?_))
  refine U.at p rfl (U.trans ?_ (bn.shut (q:=q)))
  repeat(first|exact U.last|refine U.cons ?_ |refine U.assoc ?_)
 ·rw[if_neg (by omega),if_pos hk]at e
  rw[e]
  have om:((s.kind:Nat):Int)=1:=by omega
  repeat first|refine aa ?_ |intro
  refine ag rfl (Spec.pre (XH hw hs hk hd) fv) ?_
  intro _
  generalize (qx ws s)=g
  refine ym ?_
  refine cW sp (bn.open fun q=> ?_)
  simp only[fV,fx]
  repeat first|refine aa ?_ |intro
  refine ae (aw rfl rfl () rfl (U.sat ?_))
  refine U.at p rfl (U.trans ?_ (bn.shut (q:=q)))
  repeat(first|exact U.last|refine U.cons ?_ |refine U.assoc ?_)
 ·rw[if_neg (by omega),if_neg (by omega)]at e
  rw[e]
  have om:((s.kind:Nat):Int)=2:=by omega
  repeat first|refine aa ?_ |intro
  refine ag rfl (Spec.pre (PZ hw hs) fv) ?_
  intro _
  generalize (sO ws s)=g
  refine ym ?_
  refine cW sp (bn.open fun q=> ?_)
  simp only[fV,fx]
  repeat first|refine aa ?_ |intro
  refine ae (aw rfl rfl () rfl (U.sat ?_))
  refine U.at p rfl (U.trans ?_ (bn.shut (q:=q)))
  repeat(first|exact U.last|refine U.cons ?_ |refine U.assoc ?_)
end
section
open Go.RowKit
set_option maxRecDepth 10000
attribute [local irreducible] EK EX ER EN EL ES EG az ba bf
variable {W:World} {F:SL} {X:Cx} {k:List KI} {σ:Env} {p sp:Option Addr} {n m:Nat} {ws:List Nat} {s:bL}
theorem FU (q:Option Addr)(n c:Nat)(xs:List Value)[h1:jG xs](hl:xs.length=n)(hn:n≤1000000):
  Spec Tryz.prog 122 [.slice q n c] W (ao 3 1 q n c xs*F) (fun g:aP=> .slice g.1 n g.2)
   (fun g=>ao 3 1 g.1 n g.2 xs*(ao 3 1 q n c xs*F)):=by
 subst hl
 refine Spec.of Tryz.func122 rfl Tryz.ntmps122 rfl ?_
 repeat first|refine aa ?_ |intro
 refine cg (yv rfl rfl) rfl ?_
 repeat first|refine aa ?_ |intro
 refine mA rfl (fun hp=> ?_) (fun hp=> ?_)
 ·subst hp
  refine FY fun h0=> ?_
  obtain rfl:=List.eq_nil_of_length_eq_zero h0
  repeat first|refine aa ?_ |intro
  exact ae (aw rfl rfl ((none,0):aP) rfl (U.sat (U.none (U.refl _))))
 ·repeat first|refine aa ?_ |intro
  rename_i q0 g
  refine ae (aw rfl rfl g ?_ (U.sat (U.row g.1 ?_ ?_ ?_)))
  ·simp
  ·simp
  ·simp
  ·repeat(first|exact U.last|refine U.cons ?_ |refine U.assoc ?_)
theorem N2 (q:Option Addr)(n c:Nat)(xs:List Value)[h1:jG xs](hl:xs.length=n)(hn:n≤1000000):
  Spec Tryz.prog 215 [.slice q n c] W (ao 43 1 q n c xs*F) (fun g:aP=> .slice g.1 n g.2)
   (fun g=>ao 43 1 g.1 n g.2 xs*(ao 43 1 q n c xs*F)):=by
 subst hl
 refine Spec.of Tryz.func215 rfl Tryz.ntmps215 rfl ?_
 repeat first|refine aa ?_ |intro
 refine cg (yv rfl rfl) rfl ?_
 repeat first|refine aa ?_ |intro
 refine mA rfl (fun hp=> ?_) (fun hp=> ?_)
 ·subst hp
  refine FY fun h0=> ?_
  obtain rfl:=List.eq_nil_of_length_eq_zero h0
  repeat first|refine aa ?_ |intro
  exact ae (aw rfl rfl ((none,0):aP) rfl (U.sat (U.none (U.refl _))))
 ·repeat first|refine aa ?_ |intro
  rename_i q0 g
  refine ae (aw rfl rfl g ?_ (U.sat (U.row g.1 ?_ ?_ ?_)))
  ·simp
  ·simp
  ·simp
  ·repeat(first|exact U.last|refine U.cons ?_ |refine U.assoc ?_)
theorem GB (sp:Option Addr)(s:bL):Spec Tryz.prog 157 [.pointer sp] W (bn sp s*F) (fun _:Unit=> .bool (jd s)) (fun _=>bn sp s*F):=by
 refine Spec.of Tryz.func157 rfl Tryz.ntmps157 rfl ?_
 refine bn.open fun q=> ?_
 simp only[fV,fx]
 have hpn:=CH s.ports
 have hdn:∀b c:Bool,jd s=b→b=c→some (Value.bool c)=some (Value.bool (jd s)):=fun b c h1 h2=>by rw[h1,h2]
 by_cases hk:s.kind=0
 ·cases hd:s.done with
  |false=>
   repeat first|refine aa ?_ |intro
   refine ae (aw rfl rfl () (by unfold jd;rw[hd];simp) (U.sat (U.trans ?_ (bn.shut (q:=q)))))
   refine U.obj sp (by simp only[fx,hd]) ?_
   repeat(first|exact U.last|refine U.cons ?_ |refine U.assoc ?_)
  |true=>
   by_cases h0:s.ports=[]
   ·have v7:((s.ports.length:Nat):Int)=0:=by rw[h0];rfl
    repeat first|refine aa ?_ |intro
    refine ae (aw rfl rfl () (by unfold jd;simp[hd,hk,h0]) (U.sat (U.trans ?_ (bn.shut (q:=q)))))
    refine U.obj sp (by simp only[fx,hd]) ?_
    repeat(first|exact U.last|refine U.cons ?_ |refine U.assoc ?_)
   ·have v7:¬((s.ports.length:Nat):Int)=0:=by
     intro e
     exact h0 (List.eq_nil_of_length_eq_zero (by omega))
    repeat first|refine aa ?_ |intro
    refine ae (aw rfl rfl () (by unfold jd;simp[hd,hk,h0]) (U.sat (U.trans ?_ (bn.shut (q:=q)))))
    refine U.obj sp (by simp only[fx,hd]) ?_
    repeat(first|exact U.last|refine U.cons ?_ |refine U.assoc ?_)
 ·have wA:¬((s.kind:Nat):Int)=0:=by omega
  repeat first|refine aa ?_ |intro
  refine ae (aw rfl rfl () (by unfold jd;simp[hk]) (U.sat (U.trans ?_ (bn.shut (q:=q)))))
  repeat(first|exact U.last|refine U.cons ?_ |refine U.assoc ?_)
theorem Pl (sp:Option Addr)(s:bL):Spec Tryz.prog 159 [.pointer sp] W (bn sp s*F) (fun _:Unit=> .bool s.alike) (fun _=>bn sp s*F):=by
 refine Spec.of Tryz.func159 rfl Tryz.ntmps159 rfl ?_
 refine bn.open fun q=> ?_
 simp only[fV,fx]
 repeat first|refine aa ?_ |intro
 refine ae (aw rfl rfl () rfl (U.sat (U.trans ?_ (bn.shut (q:=q)))))
 repeat(first|exact U.last|refine U.cons ?_ |refine U.assoc ?_)
theorem Pz (sp:Option Addr)(s:bL):Spec Tryz.prog 214 [.pointer sp] W (bn sp s*F) (fun _:Unit=> .int .i64 (if s.ports=[]then-1 else(s.word:Int))) (fun _=>bn sp s*F):=by
 refine Spec.of Tryz.func214 rfl Tryz.ntmps214 rfl ?_
 refine bn.open fun q=> ?_
 simp only[fV,fx]
 by_cases h0:s.ports=[]
 ·have v7:((s.ports.length:Nat):Int)=0:=by rw[h0];rfl
  rw[if_pos h0]
  repeat first|refine aa ?_ |intro
  refine ae (aw rfl rfl () rfl (U.sat (U.trans ?_ (bn.shut (q:=q)))))
  repeat(first|exact U.last|refine U.cons ?_ |refine U.assoc ?_)
 ·have v7:¬((s.ports.length:Nat):Int)=0:=by
   intro e
   exact h0 (List.eq_nil_of_length_eq_zero (by omega))
  rw[if_neg h0]
  repeat first|refine aa ?_ |intro
  refine ae (aw rfl rfl () rfl (U.sat (U.trans ?_ (bn.shut (q:=q)))))
  repeat(first|exact U.last|refine U.cons ?_ |refine U.assoc ?_)
theorem OJ (sp:Option Addr)(s:bL)(hn:s.ports.length≤1000):Spec Tryz.prog 212 [.pointer sp] W (bn sp s*F) (fun g:aP=> .slice g.1 s.ports.length g.2)
  (fun g=>ao 3 1 g.1 s.ports.length g.2 (bB .i64 s.ports)*(bn sp s*F)):=by
 refine Spec.of Tryz.func212 rfl Tryz.ntmps212 rfl ?_
 refine bn.open fun q=> ?_
 simp only[fV,fx]
 repeat first|refine aa ?_ |intro
 refine ag rfl (Spec.aV q.2.2.1 (FU q.2.2.1 s.ports.length q.2.2.2 (bB .i64 s.ports) (pe _ _) (by omega))) ?_
 intro g
 repeat first|refine aa ?_ |intro
 refine ae (aw rfl rfl g rfl (U.sat (U.cons (U.trans ?_ (bn.shut (q:=q))))))
 repeat(first|exact U.last|refine U.cons ?_ |refine U.assoc ?_)
end
section
open Go.RowKit
set_option maxRecDepth 10000
attribute [local irreducible] EK EX ER EN EL ES EG az ba bf
variable {W:World} {F:SL} {X:Cx} {k:List KI} {σ:Env} {p sp:Option Addr} {n m:Nat} {ws:List Nat} {s:bL}
theorem F1 {α:Sort _}{ops l:List Oper}{F:SL}{P:α→SL}(h:∀a,EL X k ops l σ (P a*F)):EL X k ops l σ (SL.ex P*F):=by
 unfold EL at h ⊢
 exact fun a w ha hs=>let⟨x,hx⟩:=hs.iX;h x a w ha hx
theorem bn.jx {ops l:List Oper}(h:∀q,EL X k ops l σ (fV p s q F)):EL X k ops l σ (bn p s*F):=F1 fun q=>by
 rw[qZ.eq]
 exact h q
theorem ZD (fr:Int){m:Nat}(h1:1≤m)(h2:m≤32):IntKind.i64.wrap (IntKind.u64.wrap fr%(m:Int))=(((fr%18446744073709551616).toNat%m:Nat):Int):=by
 rw[IntKind.wrap_u64,Int.natCast_emod,Int.toNat_of_nonneg (by omega)]
 have h3:0≤fr%18446744073709551616%(m:Int):=Int.emod_nonneg _ (by omega)
 have h4:fr%18446744073709551616%(m:Int)<m:=Int.emod_lt_of_pos _ (by omega)
 generalize fr%18446744073709551616%(m:Int)=z at*
 rw[IntKind.wrap_i64];omega
theorem Pt (fr mo:Int)(hw:hJ m ws):Spec Tryz.prog 207 [.pointer p,.int .i64 fr,.int .i64 mo] W (bD p n ws*F) (fun g:Option Addr=> .pointer g) (fun g=>bn g (iL fr mo m)*(bD p n ws*F)):=by
 obtain⟨hlen,DU,Ja,ck⟩:=hw
 subst hlen
 refine Spec.of Tryz.func207 rfl Tryz.ntmps207 rfl ?_
 refine bD.open fun c=> ?_
 simp only[ki]
 repeat first|refine aa ?_ |intro
 refine ag rfl (Spec.aV c (yB c ws)) ?_
 intro _
 repeat first|refine aa ?_ |intro
 haveI:Pos ws.length:=⟨by omega⟩
 have c5:0≤IntKind.u64.wrap fr:=by rw[IntKind.wrap_u64];omega
 refine aL 99 1 rfl rfl rfl ?_
 repeat(first|refine bQ ?_ |(refine bU ?_;intro)|refine bR ?_ |refine bS ?_ |refine bT ?_ |refine eD ?_)
 rename_i t g
 refine ae (aw rfl rfl g rfl (U.sat (U.trans ?_ (bn.shut (q:=((t,ws.length),(none,0),(none,0)))))))
 refine U.obj g ?_ (U.row t ?_ ?_ (U.none (U.none (U.trans ?_ (bD.shut (c:=c))))))
 ·simp only[fx,iL,List.length_replicate,List.length_nil]
  rw[ZD fr DU Ja,Int.toNat_of_nonneg (by omega)]
  rfl
 ·simp[iL]
 ·simp only[iL];rw[Lt];simp[bB]
 ·repeat(first|exact U.last|refine U.cons ?_ |refine U.assoc ?_)
theorem Pm {t:bL}(hn:jd t=true)(ht:t.words.length≤1000):Spec Tryz.prog 158 [.pointer p,.pointer sp] W (bD p n ws*(bn sp t*F)) (fun g:Option Addr=> .pointer g) (fun g=>bn g (oC t)*(bn sp t*(bD p n ws*F))):=by
 refine Spec.of Tryz.func158 rfl Tryz.ntmps158 rfl ?_
 refine bD.open fun c=> ?_
 simp only[ki]
 repeat first|refine aa ?_ |intro
 refine ag rfl (Spec.aV sp (GB sp t)) ?_
 intro _
 rw[hn]
 repeat first|refine aa ?_ |intro
 refine bn.jx fun q=> ?_
 simp only[fV,fx]
 repeat first|refine aa ?_ |intro
 refine ag rfl (Spec.aV q.1.1 (N2 q.1.1 t.words.length q.1.2 (bB .u64 t.words) (pe _ _) (by omega))) ?_
 intro g
 repeat first|refine aa ?_ |intro
 rename_i x
 refine ae (aw rfl rfl x rfl (U.sat (U.trans ?_ (bn.shut (q:=(g,(none,0),(none,0)))))))
 refine U.obj x rfl (U.row g.1 rfl rfl (U.none (U.none (U.trans ?_ (bn.shut (q:=q))))))
 refine U.obj sp rfl (U.row q.1.1 rfl rfl (U.row q.2.1.1 rfl rfl (U.row q.2.2.1 rfl rfl (U.trans ?_ (bD.shut (c:=c))))))
 repeat(first|exact U.last|refine U.cons ?_ |refine U.assoc ?_)
theorem LU {u i:Nat}(hu:u<18446744073709551616):bits .and .u64 ((u:Int)/2^(i:Int).toNat) 1=(if u.testBit i then 1 else 0:Int):=by
 rw[Int.toNat_natCast,show(u:Int)/2^i=((u/2^i:Nat):Int)by norm_cast]
 have h1:u/2^i<18446744073709551616:=Nat.lt_of_le_of_lt (Nat.div_le_self _ _) hu
 have h2:=u64_and_nat (u/2^i) 1 h1 (by decide)
 rw[show((1:Nat):Int)=1 from rfl]at h2
 rw[h2,Nat.and_one_is_mod,Nat.testBit_eq_decide_div_mod_eq]
 by_cases h:u/2^i%2=1
 ·simp[h]
 ·have:u/2^i%2=0:=by omega
  simp[this]
theorem OG (hw:hJ m ws):Spec Tryz.prog 66 [.pointer p] W (bD p n ws*F) (fun g:aP=> .slice g.1 (gh ws (m*32)).length g.2) (fun g=>ao 3 1 g.1 (gh ws (m*32)).length g.2 (bB .i64 (gh ws (m*32)))*(bD p n ws*F)):=by
 obtain⟨hlen,DU,Ja,ck⟩:=hw
 subst hlen
 refine Spec.of Tryz.func66 rfl Tryz.ntmps66 rfl ?_
 refine bD.open fun c=> ?_
 simp only[ki]
 repeat first|refine aa ?_ |intro
 refine ag rfl (Spec.aV c (NS c ws (by omega))) ?_
 intro w
 repeat first|refine aa ?_ |intro
 refine ff (γ:=Nat×aP) (fun g=>g.1≤ws.length) (fun g=>[(3,.slice g.2.1 (gh ws (g.1*32)).length g.2.2),(13,.slice w.1 ws.length w.2),(14,.int .i64 (ws.length:Int)),(15,.int .i64 (g.1:Int))])
  (fun g=>ao 3 1 g.2.1 (gh ws (g.1*32)).length g.2.2 (bB .i64 (gh ws (g.1*32)))*(ao 43 1 w.1 ws.length w.2 (bB .u64 ws)*ki p n ws c F)) (fun g=>ws.length-g.1) (0,(none,0)) (Nat.zero_le _) ⟨rfl,rfl,rfl,rfl,trivial⟩ (U.sat (U.none ?_)) ?_
 ·refine U.row w.1 rfl rfl (U.at p rfl ?_)
  repeat(first|exact U.last|refine U.cons ?_ |refine U.assoc ?_)
 ·intro ⟨i,o⟩ hi;dsimp only at hi ⊢
  by_cases zp:i<ws.length
  ·have hu:ws.getD i 0<18446744073709551616:=getD_lt ck i
   repeat first|refine aa ?_ |intro
   refine ff (γ:=Nat×aP) (fun g=>g.1≤32) (fun g=>[(3,.slice g.2.1 (gh ws (i*32+g.1)).length g.2.2),(13,.slice w.1 ws.length w.2),(14,.int .i64 (ws.length:Int)),(15,.int .i64 (i:Int)),(4,.int .i64 (i:Int)),(5,.int .u64 ((ws.getD i 0:Nat):Int)),(20,.int .i64 (g.1:Int))])
    (fun g=>ao 3 1 g.2.1 (gh ws (i*32+g.1)).length g.2.2 (bB .i64 (gh ws (i*32+g.1)))*(ao 43 1 w.1 ws.length w.2 (bB .u64 ws)*ki p n ws c F)) (fun g=>32-g.1) (0,o) (Nat.zero_le _) ⟨rfl,rfl,rfl,rfl,rfl,rfl,rfl,trivial⟩ (U.sat (U.refl _)) ?_
   intro ⟨b,o2⟩ hb;dsimp only at hb ⊢
   by_cases oc:b<32
   ·have hk:=LU (u:=ws.getD i 0) (i:=b) hu
    have hf:=RV ws (i*32+b)
    have rI:=Ir ws (i*32+b)
    have I2:fk ws (i*32+b)= !(ws.getD i 0).testBit b:=by
     unfold fk
     rw[show(i*32+b)/32=i by omega,show(i*32+b)%32=b by omega]
    have lU:((b:Nat):Int).toNat<64:=by omega
    cases ht:(ws.getD i 0).testBit b with
    |true=>
     rw[ht,if_pos rfl]at hk
     rw[I2,ht]at hf
     repeat first|refine aa ?_ |intro
     refine cT (b+1,o2) (by dsimp only;omega) (by dsimp only;omega) ⟨?_,rfl,rfl,rfl,rfl,rfl,rfl,trivial⟩ (U.sat (U.row o2.1 ?_ ?_ (U.refl _)))
     ·show _=some (Value.slice o2.1 (gh ws (i*32+b+1)).length o2.2)
      rw[hf];simp;rfl
     ·show _=(gh ws (i*32+b+1)).length
      rw[hf];simp
     ·show _=bB _ (gh ws (i*32+b+1))
      rw[hf];simp
    |false=>
     rw[ht,if_neg (by decide)]at hk
     rw[I2,ht]at hf
     repeat first|refine aa ?_ |intro
     rename_i y o3
     have kz:gh ws (i*32+b+1)=gh ws (i*32+b)++[i*32+b]:=by rw[hf];simp
     refine cT (b+1,o3) (by dsimp only;omega) (by dsimp only;omega) ⟨?_,rfl,rfl,rfl,rfl,rfl,rfl,trivial⟩ (U.sat (U.row o3.1 ?_ ?_ (U.refl _)))
     ·show _=some (Value.slice o3.1 (gh ws (i*32+b+1)).length o3.2)
      rw[kz];simp;rfl
     ·show _=(gh ws (i*32+b+1)).length
      rw[kz];simp
     ·show _=bB _ (gh ws (i*32+b+1))
      rw[kz];simp[bB]
   ·have uC:b=32:=by omega
    repeat first|refine aa ?_ |intro
    refine cT (i+1,o2) (by dsimp only;omega) (by dsimp only;omega) ⟨?_,rfl,rfl,rfl,trivial⟩ (U.sat (U.row o2.1 ?_ ?_ (U.refl _)))
    ·rw[uC,show i*32+32=(i+1)*32 by omega];rfl
    ·rw[uC,show i*32+32=(i+1)*32 by omega]
    ·rw[uC,show i*32+32=(i+1)*32 by omega]
  ·repeat first|refine aa ?_ |intro
   have Dx:i=ws.length:=by omega
   subst Dx
   refine ae (aw rfl rfl o rfl (U.sat (U.row o.1 rfl rfl (U.trans U.drop (bD.shut (c:=c))))))
end
end Go.Proofs.YtakbmjoijcpdmaaGreatDoor
