/-
  Joined by a program (wip/bundle2.py).
-/
import Derived.WalkKit
import Derived.Shelf.Spec.TrailingZeros
import Derived.Laws.BitsAllLaws
import Derived.Test.YtimekbpkejemoaaGreatDoorG3
import Derived.Test.YtimekbpkejemoaaGreatDoorG4
import Derived.Test.YtimekbpkejemoaaGreatDoorG6
import Derived.Test.YtimekbpkejemoaaGreatDoorG7
import Derived.Test.YtimekbpkejemoaaGreatDoorG9
set_option linter.unusedVariables false
set_option linter.unusedSimpArgs false
namespace Go.Proofs.YtimekbpkejemoaaGreatDoor
section
open Go.RowKit
set_option maxRecDepth 10000
attribute [local irreducible] EK EX ER EN EL ES EG av aV aY
variable {W:World} {F:SL} {X:Cx} {k:List KI} {σ:Env} {p pp g q:Option Addr} {ws cs pl:List Nat} {n np:Nat} {s:aR} {m:dG}
set_option maxHeartbeats 2000000 in
theorem LO (hf:eK (n:Int)=true)(hc:cV n np cs)(hp:cp np pl)(h:ba n np s)(hd:s.done=false)(e:s.next=10):Spec Tryz.prog 197 [.pointer p,.pointer q] W (au q s*(aF p pp n cs*(aJ pp pl*F))) (fun _:Unit=> .tuple #[])
  (fun _=>au q (bY pl n cs s).2*(aF p pp n (bY pl n cs s).1*(aJ pp pl*F))):=by
 refine Spec.of Tryz.func197 rfl Tryz.ntmps197 rfl ?_
 have jW:=hc.len
 have jC:=hc.n2
 have hX:=hc.hZ
 have ha:=h.a
 have dS:=h.still
 have fz:=hc.w n
 have kn:=h.first
 have kU:=h.fD (by omega) (by omega)
 have km:=hR.1 kU
 obtain⟨hv,fL⟩:=h.vu hd
 refine cy p (aF.open fun g=> ?_)
 simp only[jR]
 refine cy q (au.open ?_)
 have qv:=h.jT (.inl e)
 rcases four hv with ev|ev|ev|ev
 ·obtain⟨gU,df⟩:=h.dn 0 (by decide)
  have gS:=hR.1 (qv 0 (by decide)) s.u fL
  have df:=df s.u fL
  have eg:s.dn 0=s.g0:=rfl
  rw[eg]at gU gS df
  have es:bY pl n cs s=(cs,{s with b0:=ib pl n (bE s.g0 s.u) s.o0,next:=11}):=by
   unfold bY
   rw[if_neg (by omega),if_neg (by omega),if_neg (by omega),if_neg (by omega),if_pos e,(lB s).1 ev,(o6 s).1 ev]
  rw[es,ev]
  repeat first|refine aa ?_ |intro
  refine aG 28 (cP p pp g n*(Obj q 327 (Value.int .i64 (s.kind:Int)::Value.int .i64 (s.f1:Int)::Value.int .u32 (s.f2:Int)::Value.int .u16 (s.f3:Int)::Value.int .i64 s.id::Value.int .i64 (s.a:Int)::Value.int .i64 (s.b:Int)::Value.int .i64 (s.next:Int)::Value.int .u64 (s.first:Int)::Value.int .u64 (s.word:Int)::Value.int .i64 (s.at_:Int)::Value.bool s.half::Value.int .i64 (s.seen.st:Int)::Value.int .i64 (s.seen.gen:Int)::Value.int .i64 (s.seen.tr:Int)::Value.int .i64 (s.seen.sn:Int)::Value.int .u64 (s.still:Int)::Value.int .i64 (s.m.phase:Int)::Value.int .i64 (s.m.id:Int)::Value.int .i64 (s.m.fr:Int)::Value.int .i64 (s.m.to:Int)::Value.int .i64 (s.m.version:Int)::Value.int .i64 (s.m.aK:Int)::Value.int .i64 ((0:Nat):Int)::Value.int .i64 (s.u:Int)::Value.int .i64 (s.o0:Int)::Value.int .i64 (s.o1:Int)::Value.int .i64 (s.o2:Int)::Value.int .i64 (s.o3:Int)::Value.int .u64 (s.g0:Int)::Value.int .u64 (s.g1:Int)::Value.int .u64 (s.g2:Int)::Value.int .u64 (s.g3:Int)::Value.int .i64 (s.b0:Int)::Value.bool s.second::Value.int .i64 s.found::Value.int .i64 (s.aM.st:Int)::Value.int .i64 (s.aM.gen:Int)::Value.int .i64 (s.aM.tr:Int)::Value.int .i64 (s.aM.sn:Int)::Value.int .i64 (s.end_:Int)::Value.bool s.done::[])*1)) rfl rfl rfl ?_
  repeat(first|refine ak ?_ |refine eD ?_)
  refine aC rfl rfl rfl rfl rfl (gF gU fL) (fun _=>ab) ?_
  intro _
  repeat(first|refine ak ?_ |refine eD ?_)
  refine aC rfl rfl rfl rfl rfl (Spec.eY p pp (pA hf hp hX gS df)) (fun _=>ab) ?_
  intro _
  repeat(first|refine ak ?_ |refine eD ?_)
  repeat(first|refine bJ ?_ |(refine bN ?_;intro)|refine bK ?_ |refine bL ?_ |refine bM ?_ |refine eD ?_)
  repeat first|refine aa ?_ |intro
  exact aH (aI rfl () rfl (U.sat (au.cQ (by rfl) (U.trans (ab) (aF.shut (g:=g))))))
 ·obtain⟨gU,df⟩:=h.dn 1 (by decide)
  have gS:=hR.1 (qv 1 (by decide)) s.u fL
  have df:=df s.u fL
  have eg:s.dn 1=s.g1:=rfl
  rw[eg]at gU gS df
  have es:bY pl n cs s=(cs,{s with b0:=ib pl n (bE s.g1 s.u) s.o1,next:=11}):=by
   unfold bY
   rw[if_neg (by omega),if_neg (by omega),if_neg (by omega),if_neg (by omega),if_pos e,(lB s).2.1 ev,(o6 s).2.1 ev]
  rw[es,ev]
  repeat first|refine aa ?_ |intro
  refine aG 28 (cP p pp g n*(Obj q 327 (Value.int .i64 (s.kind:Int)::Value.int .i64 (s.f1:Int)::Value.int .u32 (s.f2:Int)::Value.int .u16 (s.f3:Int)::Value.int .i64 s.id::Value.int .i64 (s.a:Int)::Value.int .i64 (s.b:Int)::Value.int .i64 (s.next:Int)::Value.int .u64 (s.first:Int)::Value.int .u64 (s.word:Int)::Value.int .i64 (s.at_:Int)::Value.bool s.half::Value.int .i64 (s.seen.st:Int)::Value.int .i64 (s.seen.gen:Int)::Value.int .i64 (s.seen.tr:Int)::Value.int .i64 (s.seen.sn:Int)::Value.int .u64 (s.still:Int)::Value.int .i64 (s.m.phase:Int)::Value.int .i64 (s.m.id:Int)::Value.int .i64 (s.m.fr:Int)::Value.int .i64 (s.m.to:Int)::Value.int .i64 (s.m.version:Int)::Value.int .i64 (s.m.aK:Int)::Value.int .i64 ((1:Nat):Int)::Value.int .i64 (s.u:Int)::Value.int .i64 (s.o0:Int)::Value.int .i64 (s.o1:Int)::Value.int .i64 (s.o2:Int)::Value.int .i64 (s.o3:Int)::Value.int .u64 (s.g0:Int)::Value.int .u64 (s.g1:Int)::Value.int .u64 (s.g2:Int)::Value.int .u64 (s.g3:Int)::Value.int .i64 (s.b0:Int)::Value.bool s.second::Value.int .i64 s.found::Value.int .i64 (s.aM.st:Int)::Value.int .i64 (s.aM.gen:Int)::Value.int .i64 (s.aM.tr:Int)::Value.int .i64 (s.aM.sn:Int)::Value.int .i64 (s.end_:Int)::Value.bool s.done::[])*1)) rfl rfl rfl ?_
  repeat(first|refine ak ?_ |refine eD ?_)
  refine aC rfl rfl rfl rfl rfl (gF gU fL) (fun _=>ab) ?_
  intro _
  repeat(first|refine ak ?_ |refine eD ?_)
  refine aC rfl rfl rfl rfl rfl (Spec.eY p pp (pA hf hp hX gS df)) (fun _=>ab) ?_
  intro _
  repeat(first|refine ak ?_ |refine eD ?_)
  repeat(first|refine bJ ?_ |(refine bN ?_;intro)|refine bK ?_ |refine bL ?_ |refine bM ?_ |refine eD ?_)
  repeat first|refine aa ?_ |intro
  exact aH (aI rfl () rfl (U.sat (au.cQ (by rfl) (U.trans (ab) (aF.shut (g:=g))))))
 ·obtain⟨gU,df⟩:=h.dn 2 (by decide)
  have gS:=hR.1 (qv 2 (by decide)) s.u fL
  have df:=df s.u fL
  have eg:s.dn 2=s.g2:=rfl
  rw[eg]at gU gS df
  have es:bY pl n cs s=(cs,{s with b0:=ib pl n (bE s.g2 s.u) s.o2,next:=11}):=by
   unfold bY
   rw[if_neg (by omega),if_neg (by omega),if_neg (by omega),if_neg (by omega),if_pos e,(lB s).2.2.1 ev,(o6 s).2.2.1 ev]
  rw[es,ev]
  repeat first|refine aa ?_ |intro
  refine aG 28 (cP p pp g n*(Obj q 327 (Value.int .i64 (s.kind:Int)::Value.int .i64 (s.f1:Int)::Value.int .u32 (s.f2:Int)::Value.int .u16 (s.f3:Int)::Value.int .i64 s.id::Value.int .i64 (s.a:Int)::Value.int .i64 (s.b:Int)::Value.int .i64 (s.next:Int)::Value.int .u64 (s.first:Int)::Value.int .u64 (s.word:Int)::Value.int .i64 (s.at_:Int)::Value.bool s.half::Value.int .i64 (s.seen.st:Int)::Value.int .i64 (s.seen.gen:Int)::Value.int .i64 (s.seen.tr:Int)::Value.int .i64 (s.seen.sn:Int)::Value.int .u64 (s.still:Int)::Value.int .i64 (s.m.phase:Int)::Value.int .i64 (s.m.id:Int)::Value.int .i64 (s.m.fr:Int)::Value.int .i64 (s.m.to:Int)::Value.int .i64 (s.m.version:Int)::Value.int .i64 (s.m.aK:Int)::Value.int .i64 ((2:Nat):Int)::Value.int .i64 (s.u:Int)::Value.int .i64 (s.o0:Int)::Value.int .i64 (s.o1:Int)::Value.int .i64 (s.o2:Int)::Value.int .i64 (s.o3:Int)::Value.int .u64 (s.g0:Int)::Value.int .u64 (s.g1:Int)::Value.int .u64 (s.g2:Int)::Value.int .u64 (s.g3:Int)::Value.int .i64 (s.b0:Int)::Value.bool s.second::Value.int .i64 s.found::Value.int .i64 (s.aM.st:Int)::Value.int .i64 (s.aM.gen:Int)::Value.int .i64 (s.aM.tr:Int)::Value.int .i64 (s.aM.sn:Int)::Value.int .i64 (s.end_:Int)::Value.bool s.done::[])*1)) rfl rfl rfl ?_
  repeat(first|refine ak ?_ |refine eD ?_)
  refine aC rfl rfl rfl rfl rfl (gF gU fL) (fun _=>ab) ?_
  intro _
  repeat(first|refine ak ?_ |refine eD ?_)
  refine aC rfl rfl rfl rfl rfl (Spec.eY p pp (pA hf hp hX gS df)) (fun _=>ab) ?_
  intro _
  repeat(first|refine ak ?_ |refine eD ?_)
  repeat(first|refine bJ ?_ |(refine bN ?_;intro)|refine bK ?_ |refine bL ?_ |refine bM ?_ |refine eD ?_)
  repeat first|refine aa ?_ |intro
  exact aH (aI rfl () rfl (U.sat (au.cQ (by rfl) (U.trans (ab) (aF.shut (g:=g))))))
 ·obtain⟨gU,df⟩:=h.dn 3 (by decide)
  have gS:=hR.1 (qv 3 (by decide)) s.u fL
  have df:=df s.u fL
  have eg:s.dn 3=s.g3:=rfl
  rw[eg]at gU gS df
  have es:bY pl n cs s=(cs,{s with b0:=ib pl n (bE s.g3 s.u) s.o3,next:=11}):=by
   unfold bY
   rw[if_neg (by omega),if_neg (by omega),if_neg (by omega),if_neg (by omega),if_pos e,(lB s).2.2.2 ev,(o6 s).2.2.2 ev]
  rw[es,ev]
  repeat first|refine aa ?_ |intro
  refine aG 28 (cP p pp g n*(Obj q 327 (Value.int .i64 (s.kind:Int)::Value.int .i64 (s.f1:Int)::Value.int .u32 (s.f2:Int)::Value.int .u16 (s.f3:Int)::Value.int .i64 s.id::Value.int .i64 (s.a:Int)::Value.int .i64 (s.b:Int)::Value.int .i64 (s.next:Int)::Value.int .u64 (s.first:Int)::Value.int .u64 (s.word:Int)::Value.int .i64 (s.at_:Int)::Value.bool s.half::Value.int .i64 (s.seen.st:Int)::Value.int .i64 (s.seen.gen:Int)::Value.int .i64 (s.seen.tr:Int)::Value.int .i64 (s.seen.sn:Int)::Value.int .u64 (s.still:Int)::Value.int .i64 (s.m.phase:Int)::Value.int .i64 (s.m.id:Int)::Value.int .i64 (s.m.fr:Int)::Value.int .i64 (s.m.to:Int)::Value.int .i64 (s.m.version:Int)::Value.int .i64 (s.m.aK:Int)::Value.int .i64 ((3:Nat):Int)::Value.int .i64 (s.u:Int)::Value.int .i64 (s.o0:Int)::Value.int .i64 (s.o1:Int)::Value.int .i64 (s.o2:Int)::Value.int .i64 (s.o3:Int)::Value.int .u64 (s.g0:Int)::Value.int .u64 (s.g1:Int)::Value.int .u64 (s.g2:Int)::Value.int .u64 (s.g3:Int)::Value.int .i64 (s.b0:Int)::Value.bool s.second::Value.int .i64 s.found::Value.int .i64 (s.aM.st:Int)::Value.int .i64 (s.aM.gen:Int)::Value.int .i64 (s.aM.tr:Int)::Value.int .i64 (s.aM.sn:Int)::Value.int .i64 (s.end_:Int)::Value.bool s.done::[])*1)) rfl rfl rfl ?_
  repeat(first|refine ak ?_ |refine eD ?_)
  refine aC rfl rfl rfl rfl rfl (gF gU fL) (fun _=>ab) ?_
  intro _
  repeat(first|refine ak ?_ |refine eD ?_)
  refine aC rfl rfl rfl rfl rfl (Spec.eY p pp (pA hf hp hX gS df)) (fun _=>ab) ?_
  intro _
  repeat(first|refine ak ?_ |refine eD ?_)
  repeat(first|refine bJ ?_ |(refine bN ?_;intro)|refine bK ?_ |refine bL ?_ |refine bM ?_ |refine eD ?_)
  repeat first|refine aa ?_ |intro
  exact aH (aI rfl () rfl (U.sat (au.cQ (by rfl) (U.trans (ab) (aF.shut (g:=g))))))
set_option maxHeartbeats 2000000 in
theorem LP (hf:eK (n:Int)=true)(hc:cV n np cs)(hp:cp np pl)(h:ba n np s)(hd:s.done=false)(e:s.next=11):Spec Tryz.prog 197 [.pointer p,.pointer q] W (au q s*(aF p pp n cs*(aJ pp pl*F))) (fun _:Unit=> .tuple #[])
  (fun _=>au q (bY pl n cs s).2*(aF p pp n (bY pl n cs s).1*(aJ pp pl*F))):=by
 refine Spec.of Tryz.func197 rfl Tryz.ntmps197 rfl ?_
 have jW:=hc.len
 have jC:=hc.n2
 have hX:=hc.hZ
 have ha:=h.a
 have dS:=h.still
 have fz:=hc.w n
 have kn:=h.first
 have kU:=h.fD (by omega) (by omega)
 have km:=hR.1 kU
 obtain⟨hv,fL⟩:=h.vu hd
 refine cy p (aF.open fun g=> ?_)
 simp only[jR]
 refine cy q (au.open ?_)
 repeat first|refine aa ?_ |intro
 refine af rfl (Spec.pre (Mu (pl:=pl) (p:=p) (q:=q) (g:=g) (pp:=pp) (F:=aJ pp pl*F) hc h hd e) (au.cQ (by rfl) (ab))) ?_
 intro _
 have es:(bY pl n cs s).1=cs:=by
  unfold bY
  rw[if_neg (by omega),if_neg (by omega),if_neg (by omega),if_neg (by omega),if_neg (by omega),if_pos e]
 rw[es]
 repeat first|refine aa ?_ |intro
 exact aH (aI rfl () rfl (U.sat (U.cons (U.trans (ab) (aF.shut (g:=g))))))
set_option maxHeartbeats 2000000 in
theorem LQ (hf:eK (n:Int)=true)(hc:cV n np cs)(hp:cp np pl)(h:ba n np s)(hd:s.done=false)(e:s.next=12):Spec Tryz.prog 197 [.pointer p,.pointer q] W (au q s*(aF p pp n cs*(aJ pp pl*F))) (fun _:Unit=> .tuple #[])
  (fun _=>au q (bY pl n cs s).2*(aF p pp n (bY pl n cs s).1*(aJ pp pl*F))):=by
 refine Spec.of Tryz.func197 rfl Tryz.ntmps197 rfl ?_
 have jW:=hc.len
 have jC:=hc.n2
 have hX:=hc.hZ
 have ha:=h.a
 have dS:=h.still
 have fz:=hc.w n
 have kn:=h.first
 have kU:=h.fD (by omega) (by omega)
 have km:=hR.1 kU
 obtain⟨hv,fL⟩:=h.vu hd
 refine cy p (aF.open fun g=> ?_)
 simp only[jR]
 refine cy q (au.open ?_)
 have hm:=h.m
 have EJ:dG.Ok s.m:=hm.tm jC hX
 have es:bY pl n cs s=if cs.getD n 0=s.still then(cs.set n (iH s.m),{s with next:=13})else(cs,{s with next:=6}):=by
  unfold bY
  rw[if_neg (by omega),if_neg (by omega),if_neg (by omega),if_neg (by omega),if_neg (by omega),if_neg (by omega)]
  rfl
 rw[es]
 repeat first|refine aa ?_ |intro
 obtain⟨t,ht⟩:∃t:aR,t={s with next:=6}:=⟨_,rfl⟩
 have Ol:t.still=s.still:=by rw[ht]
 have EM:t.m=s.m:=by rw[ht]
 have ex:({s with next:=13}:aR)={t with next:=13}:=by rw[ht]
 rw[ex,←ht,←Ol,←EM]
 refine iS (G:=Obj q 327 (dB t)*(cP p pp g n*(bZ g cs*(aJ pp pl*F)))) (by rw[ht];exact ab) ?_
 refine aG 99 (cP p pp g n*(Obj q 327 (dB t)*1)) rfl rfl rfl ?_
 repeat(first|refine ak ?_ |refine eD ?_)
 refine aC rfl rfl rfl rfl rfl (tP (m:=t.m) (by rw[EM];exact EJ)) (fun _=>ab) ?_
 intro _
 repeat(first|refine ak ?_ |refine eD ?_)
 refine aC rfl rfl rfl rfl rfl (Spec.aL g (kF g cs n t.still (iH t.m) (by omega) (by omega))) (fun _=>ab) ?_
 intro _
 repeat(first|refine ak ?_ |refine eD ?_)
 by_cases hu:cs.getD n 0=t.still
 ·rw[if_pos hu,if_pos hu,decide_eq_true hu]
  repeat first|refine aa ?_ |intro
  exact aH (aI rfl () rfl (U.sat (au.cQ (by rfl) (U.trans (ab) (aF.shut (g:=g))))))
 ·rw[if_neg hu,if_neg hu,decide_eq_false hu]
  repeat first|refine aa ?_ |intro
  exact aH (aI rfl () rfl (U.sat (au.cQ (by rfl) (U.trans (ab) (aF.shut (g:=g))))))
end
section
open Go.RowKit
set_option maxRecDepth 10000
attribute [local irreducible] EK EX ER EN EL ES EG av aV aY
variable {W:World} {F:SL} {X:Cx} {k:List KI} {σ:Env} {p pp g q:Option Addr} {ws cs pl:List Nat} {n np:Nat} {s:aR} {m:dG}
theorem LW (hf:eK (n:Int)=true)(hc:cV n np cs)(hp:cp np pl)(h:ba n np s)(hd:s.done=false)(h6:6≤s.next)(vp:s.next≤12):Spec Tryz.prog 197 [.pointer p,.pointer q] W (au q s*(aF p pp n cs*(aJ pp pl*F))) (fun _:Unit=> .tuple #[])
  (fun _=>au q (bY pl n cs s).2*(aF p pp n (bY pl n cs s).1*(aJ pp pl*F))):=by
 have hU:s.next=6∨s.next=7∨s.next=8∨s.next=9∨s.next=10∨s.next=11∨s.next=12:=by omega
 rcases hU with e|e|e|e|e|e|e
 ·exact LR hf hc hp h hd e
 ·exact LS hf hc hp h hd e
 ·exact LU hf hc hp h hd e
 ·exact LV hf hc hp h hd e
 ·exact LO hf hc hp h hd e
 ·exact LP hf hc hp h hd e
 ·exact LQ hf hc hp h hd e
theorem yN (hf:eK (n:Int)=true)(hc:cV n np cs)(hp:cp np pl)(h:ba n np s)(hd:s.done=false):Spec Tryz.prog 149 [.pointer p,.pointer q] W (au q s*(aF p pp n cs*(aJ pp pl*F))) (fun _:Unit=> .bool (bI pl n cs s).2.done)
  (fun _=>au q (bI pl n cs s).2*(aF p pp n (bI pl n cs s).1*(aJ pp pl*F))):=by
 refine Spec.of Tryz.func149 rfl Tryz.ntmps149 rfl ?_
 have vF:=h.next
 refine cy q (au.open ?_)
 by_cases qs:23≤s.next
 ·have es:bI pl n cs s=oV cs s:=by unfold bI;rw[if_neg (by rw[hd];decide),if_pos qs]
  rw[es]
  repeat first|refine aa ?_ |intro
  rw[hd]
  repeat first|refine aa ?_ |intro
  refine af rfl (Spec.pre (LZ (p:=p) (q:=q) (pp:=pp) (s:=s) (F:=aJ pp pl*F) ⟨hc.len,hc.n2,hc.w,h.a,h.b,by omega,h.word,h.out,hd⟩) (au.bD (by unfold iL;rw[hd]) (U.refl _))) ?_
  intro _
  rw[drop_eq]
  generalize oV cs s=D at*
  refine au.ia ?_
  repeat first|refine aa ?_ |intro
  exact ae (ar rfl rfl () rfl (U.sat (au.bD (by rfl) (U.refl _))))
 by_cases pb:13≤s.next
 ·have es:bI pl n cs s=fx pl n cs s:=by unfold bI;rw[if_neg (by rw[hd];decide),if_neg qs,if_pos pb]
  rw[es]
  repeat first|refine aa ?_ |intro
  rw[hd]
  repeat first|refine aa ?_ |intro
  refine af rfl (Spec.pre (Nv (p:=p) (q:=q) (pp:=pp) (s:=s) (F:=F) hc hp h pb (by omega)) (au.bD (by unfold iL;rw[hd]) (U.refl _))) ?_
  intro _
  generalize fx pl n cs s=D at*
  refine au.ia ?_
  repeat first|refine aa ?_ |intro
  exact ae (ar rfl rfl () rfl (U.sat (au.bD (by rfl) (U.refl _))))
 by_cases h6:6≤s.next
 ·have es:bI pl n cs s=bY pl n cs s:=by unfold bI;rw[if_neg (by rw[hd];decide),if_neg qs,if_neg pb,if_pos h6]
  rw[es]
  repeat first|refine aa ?_ |intro
  rw[hd]
  repeat first|refine aa ?_ |intro
  refine af rfl (Spec.pre (LW (p:=p) (q:=q) (pp:=pp) (s:=s) (F:=F) hf hc hp h hd h6 (by omega)) (au.bD (by unfold iL;rw[hd]) (U.refl _))) ?_
  intro _
  generalize bY pl n cs s=D at*
  refine au.ia ?_
  repeat first|refine aa ?_ |intro
  exact ae (ar rfl rfl () rfl (U.sat (au.bD (by rfl) (U.refl _))))
 ·have es:bI pl n cs s=gG cs pl s:=by unfold bI;rw[if_neg (by rw[hd];decide),if_neg qs,if_neg pb,if_neg h6]
  rw[es]
  repeat first|refine aa ?_ |intro
  rw[hd]
  repeat first|refine aa ?_ |intro
  refine af rfl (Spec.pre (RT (p:=p) (q:=q) (pp:=pp) (s:=s) (F:=F) ⟨hc.len,hc.n2,hp.len,hc.hZ,hc.w,hp.w,h.a,h.b,by omega,h.lQ,h.refs,h.word,h.first,h.Az,h.rJ,h.f1,h.f2,h.f3,h.kind,hd,fun e5=>⟨h.vT (h.link e5).1,(h.link e5).2⟩⟩) (au.bD (by unfold iL;rw[hd]) (U.refl _))) ?_
  intro _
  generalize gG cs pl s=D at*
  refine au.ia ?_
  repeat first|refine aa ?_ |intro
  exact ae (ar rfl rfl () rfl (U.sat (au.bD (by rfl) (U.refl _))))
end
section
open Go.RowKit
set_option maxRecDepth 10000
attribute [local irreducible] EK EX ER EN EL ES EG av aV aY
variable {W:World} {F:SL} {X:Cx} {k:List KI} {σ:Env}
def qJ (x:Nat×Nat):List Value:=[.int .i64 (x.1:Int),.int .u64 (x.2:Int)]
def qK (l:List (Nat×Nat)):List Value:=l.flatMap qJ
theorem Gq:∀ {l:List (Nat×Nat)} {i j:Nat} {v:Value},i<l.length→(qJ (l.getD i (0,0)))[j]? =some v→(qK l)[i*2+j]? =some v
 |[],_,_,_,h,_=>by simp at h
 |x::l,0,j,v,_,h=>by
  have hj:j<2:=by
   have:=(List.getElem?_eq_some_iff.1 h).1
   simpa[qJ]using this
  simp only[qK,List.flatMap_cons,Nat.zero_mul,Nat.zero_add]
  rw[List.getElem?_append_left (by simpa[qJ]using hj)]
  simpa using h
 |x::l,i+1,j,v,hi,h=>by
  have ih:=Gq (l:=l) (i:=i) (j:=j) (v:=v) (by simpa using hi) (by simpa using h)
  simp only[qK,List.flatMap_cons]at ih ⊢
  rw[List.getElem?_append_right (by simp[qJ];omega),show(i+1)*2+j-(qJ x).length=i*2+j by simp[qJ];omega]
  exact ih
instance oM.part (l:List (Nat×Nat))(i:Nat):oM (qK l) i 2 [.int .i64 ((l.getD i (0,0)).1:Int),.int .u64 ((l.getD i (0,0)).2:Int)] (i<l.length):=⟨fun h=>⟨rfl,fun _ _ hv=>Gq h hv⟩⟩
def Cl (p:Option Addr)(n:Nat)(ws:List Nat)(c:Option Addr):SL:=Obj p 194 [.pointer c,.int .i64 (n:Int)]*bZ c ws
def bp (p:Option Addr)(n:Nat)(ws:List Nat):SL:=SL.ex (Cl p n ws)
abbrev jt (p:Option Addr)(n:Nat)(ws:List Nat)(c:Option Addr)(F:SL):SL:=Obj p 194 [.pointer c,.int .i64 (n:Int)]*(bZ c ws*F)
variable {p:Option Addr} {n:Nat} {ws:List Nat} {s:bG}
theorem bp.open (h:∀c,EK X k σ (jt p n ws c F)):EK X k σ (bp p n ws*F):=ng fun c=>by
 have:=h c
 unfold jt at this
 unfold Cl
 rw[SL.bU]
 exact this
theorem bp.shut {c:Option Addr}:U (jt p n ws c F) (bp p n ws*F):=U.ex c (U.assoc (U.refl _))
instance (priority:=2000)(p:Option Addr)(n:Nat)(ws:List Nat)(F:SL):bw (bp p n ws*F) p (bp p n ws) F:=⟨rfl⟩
instance (p:Option Addr)(n:Nat)(ws:List Nat):jQ (bp p n ws) p:=⟨fun W w F h=>by
 obtain⟨g,h⟩:=h.gQ
 exact(Obj.root p _ _).nn W w _ (h.ac (SL.bU _ _ _))⟩
abbrev fg (s:bG)(q:aO×aO×aO):List Value:=
 [.int .i64 (s.kind:Int),.int .i64 (s.word:Int),.int .i64 (s.left:Int),.int .i64 (s.most:Int),.bool s.read,.int .u64 (s.seen:Int),.slice q.1.1 s.words.length q.1.2,.slice q.2.1.1 s.parts.length q.2.1.2,.slice q.2.2.1 s.bo.length q.2.2.2,.bool s.done,.bool s.alike]
abbrev fS (p:Option Addr)(s:bG)(q:aO×aO×aO)(F:SL):SL:=
 Obj p 255 (fg s q)*(an 83 1 q.1.1 s.words.length q.1.2 (bA .u64 s.words)*(an 257 2 q.2.1.1 s.parts.length q.2.1.2 (qK s.parts)*(an 3 1 q.2.2.1 s.bo.length q.2.2.2 (bA .i64 s.bo)*F)))
def oN (p:Option Addr)(s:bG)(q:aO×aO×aO):SL:=Obj p 255 (fg s q)*(an 83 1 q.1.1 s.words.length q.1.2 (bA .u64 s.words)*(an 257 2 q.2.1.1 s.parts.length q.2.1.2 (qK s.parts)*an 3 1 q.2.2.1 s.bo.length q.2.2.2 (bA .i64 s.bo)))
def bd (p:Option Addr)(s:bG):SL:=SL.ex (oN p s)
theorem oN.eq (p:Option Addr)(s:bG)(q:aO×aO×aO)(F:SL):oN p s q*F=fS p s q F:=by
 unfold oN fS
 rw[SL.bU,SL.bU,SL.bU]
theorem bd.open (h:∀q,EK X k σ (fS p s q F)):EK X k σ (bd p s*F):=ng fun q=>by
 rw[oN.eq]
 exact h q
theorem bd.shut {q:aO×aO×aO}:U (fS p s q F) (bd p s*F):=U.ex q (by rw[oN.eq];exact U.refl _)
instance (priority:=2000)(p:Option Addr)(s:bG)(F:SL):bw (bd p s*F) p (bd p s) F:=⟨rfl⟩
instance (p:Option Addr)(s:bG):jQ (bd p s) p:=⟨fun W w F h=>by
 obtain⟨g,h⟩:=h.gQ
 rw[oN.eq]at h
 exact(Obj.root p _ _).nn W w _ h⟩
theorem Ll {u low:Nat}(hu:u<18446744073709551616)(hl:low<4294967296):
  bits .or .u64 (IntKind.u64.wrap (IntKind.u64.wrap ((u:Int)/2^(32:Int).toNat+1)*2^(32:Int).toNat)) (low:Int)=((kh u low:Nat):Int):=by
 have e:IntKind.u64.wrap (IntKind.u64.wrap ((u:Int)/2^(32:Int).toNat+1)*2^(32:Int).toNat)=(((u/4294967296+1)*4294967296%18446744073709551616:Nat):Int):=by
  rw[IntKind.wrap_u64,IntKind.wrap_u64,show(32:Int).toNat=32 from rfl]
  omega
 rw[e,u64_or_nat _ _ (Nat.mod_lt _ (by decide)) (by omega),Lj hu hl]
theorem C3 (u low:Nat)(hu:u<18446744073709551616)(hl:low<4294967296):Spec Tryz.prog 292 [.int .u64 (u:Int),.int .u64 (low:Int)] W F (fun _:Unit=> .int .u64 ((kh u low:Nat):Int)) (fun _=>F):=by
 refine Spec.of Tryz.func292 rfl Tryz.ntmps292 rfl ?_
 repeat first|refine aa ?_ |intro
 refine ae (ar rfl rfl () ?_ (U.sat U.last))
 rw[Ll hu hl]
end
section
open Go.RowKit
variable {W w:World} {F:SL}
def fU (W:World):Prop:=TabAt 0 Lib.deBruijn64tab W
theorem fU.at (hT:fU W)(h:Sat W w F):fU w:=fun j hj=>by
 have:=hT j hj
 rw[h.below.cell (World.block_lt_of_cell? _ _ this)]
 exact this
set_option maxHeartbeats 400000 in
theorem Sr (x k idx:Nat)(w:World)(qG:((x:Int)==0)=false)
  (key:IntKind.u64.wrap (bits BinOp.and IntKind.u64 (x:Int) (IntKind.u64.wrap (-(x:Int)))*285870213051353865)/288230376151711744=(idx:Int))
  (hi:idx<64) (hk:k<64) (zD:w.cell? ⟨0,idx,none⟩=some (.int .u8 k)):
  Calls Tryz.prog 311 #[.int .u64 x] w fun e w'=>e= .returned (.int .i64 k)∧w=w':=by
 go_enter Tryz.func311,Tryz.ntmps311
 go_wp2_with (simp only[key])
 go_ret
 exact⟨rfl,rfl⟩
theorem Sq (x:Nat)(hx:x<18446744073709551616)(qG:¬x=0)(w:World)(hT:fU w):
  Calls Tryz.prog 311 #[.int .u64 x] w fun e w'=>e= .returned (.int .i64 (Lib.ctz 64 x:Nat))∧w=w':=by
 obtain⟨tj,hk⟩:=Lib.lowest_bit 64 x qG hx
 obtain⟨hi,Oi⟩:=Lib.deBruijn64_at _ hk
 have zD:=hT _ hi
 rw[Oi]at zD
 exact Sr x _ _ w (by simp;omega) (tz64_key x _ hx qG tj) hi hk zD
theorem Ss (hT:fU W)(x:Nat)(hx:x<18446744073709551616)(qG:¬x=0):Spec Tryz.prog 311 [.int .u64 (x:Int)] W F (fun _:Unit=> .int .i64 ((Lib.ctz 64 x:Nat):Int)) (fun _=>F):=by
 intro w h
 refine(Sq x hx qG w (hT.at h)).mono ?_
 rintro e w' ⟨rfl,rfl⟩
 exact⟨(),rfl,h⟩
end
section
open Go.RowKit
set_option maxRecDepth 10000
attribute [local irreducible] EK EX ER EN EL ES EG av aV aY
variable {W:World} {F:SL} {X:Cx} {k:List KI} {σ:Env} {p sp:Option Addr} {n m:Nat} {ws:List Nat} {s:bG}
theorem ll {H:SL}{c:Option Addr}{q:aO×aO×aO}(h:U H (jt p n ws c (fS sp s q F))):U H (bp p n ws*(bd sp s*F)):=
 h.trans ((bp.shut (c:=c)).trans (U.cons bd.shut))
theorem M3 (hT:fU W)(hw:gm m ws)(hs:s.Ok m)(hk:s.kind=0):
  Spec Tryz.prog 291 [.pointer p,.pointer sp] W (bp p n ws*(bd sp s*F)) (fun _:Unit=> .tuple #[]) (fun _=>bp p n (rq ws s).1*(bd sp (rq ws s).2*F)):=by
 obtain⟨EV,tH,hl,NS,zV,zT⟩:=hs.kB hk
 have zW:=hw.most
 have hu:=hs.seen
 have O4:=MK hu
 have hlen:=hw.len
 refine Spec.of Tryz.func291 rfl Tryz.ntmps291 rfl ?_
 refine bp.open fun c=> ?_
 refine cy sp (bd.open fun q=> ?_)
 simp only[fS,fg]
 have O5:bits .and .u64 (bits .xor .u64 (if IntKind.u64.signed=true then-1 else IntKind.u64.max) (s.seen:Int)) 4294967295=((ofBits (cM s.seen):Nat):Int):=O4
 have vW:=AI hu
 have Nb:=Gr s.seen s.most
 repeat first|refine aa ?_ |intro
 try refine bS (sC rfl rfl) rfl ?_
 repeat first|refine aa ?_ |intro
 rw[O5,vW]
 refine sk (γ:=aO) (fun _=>True) (fun g=>[(0,.pointer p),(1,.pointer sp),(4,.slice g.1 (dN s.seen s.most).length g.2),(6,.int .u64 ((s.seen%4294967296|||ofBits (dN s.seen s.most):Nat):Int))])
  (fun g=>an 3 1 g.1 (dN s.seen s.most).length g.2 (bA .i64 ((dN s.seen s.most).map (s.word*32+ ·)))*fS sp s q (jt p n ws c F)) ?_ ?_
 ·refine ed (γ:=Nat×aO) (fun g=>g.1≤(dN s.seen s.most).length) (fun g=>[(0,.pointer p),(1,.pointer sp),(4,.slice g.2.1 g.1 g.2.2),(5,.int .u64 ((ofBits ((cM s.seen).drop g.1):Nat):Int)),(6,.int .u64 ((s.seen%4294967296|||ofBits ((cM s.seen).take g.1):Nat):Int))])
   (fun g=>an 3 1 g.2.1 g.1 g.2.2 (bA .i64 (((cM s.seen).take g.1).map (s.word*32+ ·)))*fS sp s q (jt p n ws c F)) (fun g=>32-g.1) (0,(none,0)) (Nat.zero_le _) ⟨rfl,rfl,rfl,rfl,by simp[ofBits];rfl,trivial⟩ (U.sat (U.none (U.refl _))) ?_
  intro ⟨k,o⟩ vz;dsimp only at vz ⊢
  simp only[fS,fg,jt]
  by_cases Yu:k<(dN s.seen s.most).length
  ·have NK:k<s.most:=by omega
   have zS:k<(cM s.seen).length:=by omega
   obtain⟨t1,t2,t3⟩:=M1 zS
   have zA:¬ofBits ((cM s.seen).drop k)=0:=by rw[AT,List.drop_eq_nil_iff];omega
   have Yb:=ML s.seen k
   have Nd:¬((ofBits ((cM s.seen).drop k):Nat):Int)=0:=by omega
   have s8:(cM s.seen).getD k 0=(cM s.seen)[k]:=by rw[List.getD_eq_getElem?_getD,List.getElem?_eq_getElem zS];rfl
   have tE:=uj (l:=cM s.seen) (d:=0) zS
   rw[s8]at tE
   repeat first|refine aa ?_ |intro
   refine af rfl (Ss hT _ (by omega) zA) ?_
   intro _
   rw[t1]
   generalize (cM s.seen)[k]=i at*
   have Yc:s.seen%4294967296|||ofBits ((cM s.seen).take k)<4294967296:=tY (Nat.mod_lt _ (by decide)) (QQ _ _)
   have YE:(2:Nat)^i<4294967296:=ub t2
   have ew:IntKind.u64.wrap (1*2^(i:Int).toNat)=((2^i:Nat):Int):=by
    rw[Int.one_mul,Int.toNat_natCast];exact HP t2
   repeat first|refine aa ?_ |intro
   rename_i o2
   refine db (k+1,o2) (by dsimp only;omega) (by dsimp only;omega) ⟨rfl,rfl,rfl,?_,?_,trivial⟩ (U.sat ?_)
   ·rw[ew,u64_andNot_nat _ _ (by omega) (by omega),t3]
    rfl
   ·rw[ew,u64_or_nat _ _ (by omega) (by omega)]
    dsimp only
    rw[←tE,QO,←Nat.or_assoc]
    rfl
   ·dsimp only
    refine U.row o2.1 rfl ?_ ?_
    ·rw[←tE,List.map_append,List.map_cons,List.map_nil,←AN]
     congr 3
    ·repeat(first|exact U.last|refine U.cons ?_ |refine U.assoc ?_)
  ·have El:k=(dN s.seen s.most).length:=by omega
   have hp:(cM s.seen).take k=dN s.seen s.most:=by
    rw[El,Nb,dN,←List.take_eq_take_min]
   rw[hp]
   subst El
   by_cases zA:ofBits ((cM s.seen).drop (dN s.seen s.most).length)=0
   ·rw[zA]
    repeat first|refine aa ?_ |intro
    exact fv o trivial ⟨rfl,rfl,rfl,rfl,trivial⟩ (U.sat (U.refl _))
   ·have Nd:¬((ofBits ((cM s.seen).drop (dN s.seen s.most).length):Nat):Int)=0:=by omega
    have NK:s.most≤(dN s.seen s.most).length:=by
     have:=(not_congr (M0 (u:=s.seen) (most:=s.most) (k:=(dN s.seen s.most).length))).2 (by omega)
     omega
    repeat first|refine aa ?_ |intro
    exact fv o trivial ⟨rfl,rfl,rfl,rfl,trivial⟩ (U.sat (U.refl _))
 intro o _
 simp only[fS,fg,jt]
 have tj:s.seen%4294967296|||ofBits (dN s.seen s.most)<4294967296:=tY (Nat.mod_lt _ (by decide)) (tW _ 32 fun i hi=>(mV.1 (List.mem_of_mem_take hi)).1)
 repeat first|refine aa ?_ |intro
 refine iQ 18 rfl (by kernel_rfl) rfl rfl ?_
 repeat(refine cI ?_)
 refine lf rfl (C3 s.seen _ hu tj) ?_
 repeat(refine cI ?_)
 refine af rfl (Spec.aL c (kF c ws s.word s.seen _ (by omega) (by omega))) ?_
 intro _
 by_cases he:ws.getD s.word 0=s.seen
 ·rw[decide_eq_true he,if_pos he]
  have eg:rq ws s=(ws.set s.word (kh s.seen (s.seen%4294967296|||ofBits (dN s.seen s.most))),{s with bo:=(dN s.seen s.most).map (s.word*32+ ·),done:=true}):=if_pos he
  rw[eg]
  repeat first|refine aa ?_ |intro
  refine aH (aI rfl () rfl (U.sat (ll (c:=c) (q:=(q.1,q.2.1,o)) ?_)))
  refine U.obj p rfl (U.cons (U.obj sp (by simp) (U.row q.1.1 rfl rfl (U.row q.2.1.1 rfl rfl (U.row o.1 (by simp) rfl ?_)))))
  repeat(first|exact U.last|refine U.cons ?_ |refine U.assoc ?_)
 ·rw[decide_eq_false he,if_neg he]
  have eg:rq ws s=(ws,s):=if_neg he
  rw[eg]
  repeat first|refine aa ?_ |intro
  refine aH (aI rfl () rfl (U.sat (ll (c:=c) (q:=q) ?_)))
  repeat(first|exact U.last|refine U.cons ?_ |refine U.assoc ?_)
theorem Sg (hT:fU W)(hw:gm m ws)(hs:s.Ok m)(hk:s.kind=0)(hd:s.done=false):
  Spec Tryz.prog 261 [.pointer p,.pointer sp] W (bp p n ws*(bd sp s*F)) (fun _:Unit=> .tuple #[]) (fun _=>bp p n (iK ws s).1*(bd sp (iK ws s).2*F)):=by
 obtain⟨EV,tH,hl,NS,zV,zT⟩:=hs.kB hk
 have zT:=zT hd
 have zW:=hw.most
 have hlen:=hw.len
 have cN:=(hw.get tH).2
 refine Spec.of Tryz.func261 rfl Tryz.ntmps261 rfl ?_
 refine bp.open fun c=> ?_
 refine cy sp (bd.open fun q=> ?_)
 simp only[fS,fg,jt]
 by_cases hr:s.read=true
 ·rw[hr]
  rw[Se hr]
  repeat first|refine aa ?_ |intro
  refine af rfl (Spec.pre (M3 (p:=p) (sp:=sp) (n:=n) (s:={s with read:=false}) hT hw ⟨hs.kind,hs.seen,hs.words,hs.kB,hs.mX,hs.parts,hs.bo⟩ hk (F:=F)) (ll (c:=c) (q:=q) (by repeat(first|exact U.last|refine U.cons ?_ |refine U.assoc ?_)))) ?_
  intro _
  repeat first|refine aa ?_ |intro
  exact ae (cT rfl () rfl (U.sat (U.refl _)))
 ·have hr:s.read=false:=by simpa using hr
  rw[hr]
  have vW:=AI cN
  by_cases hf:cM (ws.getD s.word 0)=[]
  ·have et:iK ws s=(ws,{s with seen:=ws.getD s.word 0,words:=s.words.set s.word (ws.getD s.word 0),word:=(s.word+1)%s.words.length,left:=s.left-1,done:=decide (s.left-1=0)}):=by
    unfold iK
    rw[if_neg (by simp[hr]),if_pos hf]
   have Yo:=(DL _).1 hf
   rw[et]
   repeat first|refine aa ?_ |intro
   refine iQ 12 rfl (by kernel_rfl) rfl rfl ?_
   repeat(refine cI ?_)
   refine lf rfl (Spec.rL c (eJ c ws s.word (by omega) (by omega))) ?_
   repeat(refine cI ?_)
   repeat first|refine aa ?_ |intro
   refine iQ 13 rfl (by kernel_rfl) rfl rfl ?_
   repeat(refine cI ?_)
   repeat first|refine aa ?_ |intro
   refine iQ 14 rfl (by kernel_rfl) rfl rfl ?_
   repeat(refine cI ?_)
   repeat first|refine aa ?_ |intro
   have e1:((s.word:Int)+1)%(s.words.length:Int)=(((s.word+1)%s.words.length:Nat):Int):=by rw[Int.natCast_emod,Int.natCast_add];rfl
   have e2:(s.left:Int)-1=((s.left-1:Nat):Int):=by omega
   have e3:decide ((s.left:Int)-1=0)=decide (s.left-1=0):=decide_eq_decide.2 (by omega)
   rw[e3,e1,e2]
   refine aH (aI rfl () rfl (U.sat (ll (c:=c) (q:=q) ?_)))
   refine U.at p rfl (U.at c rfl (U.obj sp (by simp only[fg,hr,List.length_set]) (U.row q.1.1 (by rw[List.length_set]) rfl ?_)))
   repeat(first|exact U.last|refine U.cons ?_ |refine U.assoc ?_)
  ·have et:iK ws s=(ws,{s with seen:=ws.getD s.word 0,read:=true}):=by
    unfold iK
    rw[if_neg (by simp[hr]),if_neg hf]
   have YA:¬ws.getD s.word 0%4294967296=4294967295:=fun e=>hf ((DL _).2 e)
   rw[et]
   repeat first|refine aa ?_ |intro
   refine iQ 12 rfl (by kernel_rfl) rfl rfl ?_
   repeat(refine cI ?_)
   refine lf rfl (Spec.rL c (eJ c ws s.word (by omega) (by omega))) ?_
   repeat(refine cI ?_)
   repeat first|refine aa ?_ |intro
   refine ae (cT rfl () rfl (U.sat (ll (c:=c) (q:=q) ?_)))
   refine U.at p rfl (U.at c rfl (U.obj sp rfl ?_))
   repeat(first|exact U.last|refine U.cons ?_ |refine U.assoc ?_)
end
section
open Go.RowKit
set_option maxRecDepth 10000
attribute [local irreducible] EK EX ER EN EL ES EG av aV aY
variable {W:World} {F:SL} {X:Cx} {k:List KI} {σ:Env} {p sp:Option Addr} {n m:Nat} {ws:List Nat} {s:bG}
theorem RQ (hw:gm m ws)(hs:s.Ok m)(hk:s.kind=1)(hd:s.done=false):
  Spec Tryz.prog 262 [.pointer p,.pointer sp] W (bp p n ws*(bd sp s*F)) (fun _:Unit=> .tuple #[]) (fun _=>bp p n (nW ws s).1*(bd sp (nW ws s).2*F)):=by
 obtain⟨EV,YQ,tH⟩:=hs.mX hk
 have tH:=tH hd
 have zW:=hw.most
 have hlen:=hw.len
 refine Spec.of Tryz.func262 rfl Tryz.ntmps262 rfl ?_
 refine bp.open fun c=> ?_
 refine cy sp (bd.open fun q=> ?_)
 simp only[fS,fg,jt]
 haveI:Pos s.words.length:=⟨by omega⟩
 by_cases he:ws.getD s.word 0=s.words.getD s.word 0
 ·have et:nW ws s=(ws,{s with word:=s.word+1,done:=decide (s.word+1=s.words.length),alike:=decide (s.word+1=s.words.length)}):=if_pos he
  rw[et]
  repeat first|refine aa ?_ |intro
  refine lb rfl (by kernel_rfl) ?_
  repeat(refine cI ?_)
  refine lf rfl (Spec.rL c (eJ c ws s.word (by omega) (by omega))) ?_
  repeat(refine cI ?_)
  repeat first|refine aa ?_ |intro
  refine iQ 13 rfl (by kernel_rfl) rfl rfl ?_
  repeat(refine cI ?_)
  repeat first|refine aa ?_ |intro
  have e3:decide ((s.word:Int)+1=(s.words.length:Int))=decide (s.word+1=s.words.length):=decide_eq_decide.2 (by omega)
  rw[e3]
  refine aH (aI rfl () rfl (U.sat (ll (c:=c) (q:=q) ?_)))
  refine U.at p rfl (U.at c rfl (U.obj sp rfl ?_))
  repeat(first|exact U.last|refine U.cons ?_ |refine U.assoc ?_)
 ·have et:nW ws s=(ws,{s with done:=true}):=if_neg he
  rw[et]
  have D7:¬((ws.getD s.word 0:Nat):Int)=((s.words.getD s.word 0:Nat):Int):=by omega
  repeat first|refine aa ?_ |intro
  refine lb rfl (by kernel_rfl) ?_
  repeat(refine cI ?_)
  refine lf rfl (Spec.rL c (eJ c ws s.word (by omega) (by omega))) ?_
  repeat(refine cI ?_)
  repeat first|refine aa ?_ |intro
  refine ae (cT rfl () rfl (U.sat (ll (c:=c) (q:=q) ?_)))
  refine U.at p rfl (U.at c rfl (U.obj sp rfl ?_))
  repeat(first|exact U.last|refine U.cons ?_ |refine U.assoc ?_)
theorem zb {α:Type}[DecidableEq α](l:List α):decide (l=[])=decide (((l.length:Nat):Int)=0):=decide_eq_decide.2 (by
 cases l with
 |nil=>simp
 |cons a l=>simp;omega)
theorem KJ (hw:gm m ws)(hs:s.Ok m):
  Spec Tryz.prog 263 [.pointer p,.pointer sp] W (bp p n ws*(bd sp s*F)) (fun _:Unit=> .tuple #[]) (fun _=>bp p n (qd ws s).1*(bd sp (qd ws s).2*F)):=by
 have zW:=hw.most
 have hlen:=hw.len
 refine Spec.of Tryz.func263 rfl Tryz.ntmps263 rfl ?_
 refine bp.open fun c=> ?_
 refine cy sp (bd.open fun q=> ?_)
 simp only[fS,fg,jt]
 rcases hp:s.parts with _|⟨⟨j,mask⟩,rest⟩
 ·rw[CL hp]
  repeat first|refine aa ?_ |intro
  refine ae (cT rfl () rfl (U.sat (ll (c:=c) (q:=q) ?_)))
  refine U.at p rfl (U.at c rfl (U.obj sp (by simp only[fg,hp]) (U.row q.1.1 rfl rfl (U.row q.2.1.1 (by rw[hp]) (by rw[hp]) ?_))))
  repeat(first|exact U.last|refine U.cons ?_ |refine U.assoc ?_)
 ·rw[CK hp]
  obtain⟨hj,tk⟩:=hs.parts (j,mask) (by rw[hp];simp)
  dsimp only at hj tk
  have cN:=(hw.get hj).2
  have hu:=hs.seen
  have Ys:j<ws.length:=by omega
  have jW:((j,mask)::rest).length=rest.length+1:=rfl
  by_cases hr:s.read=true
  ·rw[if_pos hr,hr]
   have key:=AI hu
   have vW:=KA hu tk
   have NQ:s.seen%4294967296&&& (18446744073709551615-mask)<4294967296:=Nat.lt_of_le_of_lt Nat.and_le_left (Nat.mod_lt _ (by decide))
   repeat first|refine aa ?_ |intro
   rename_i px
   rw[show((j,mask)::rest).getD 0 (0,0)=(j,mask)from rfl]
   dsimp only
   refine iQ 23 rfl (by kernel_rfl) rfl rfl ?_
   repeat(refine cI ?_)
   have O6:bits .andNot .u64 (bits .and .u64 (s.seen:Int) 4294967295) (mask:Int)=((s.seen%4294967296&&& (18446744073709551615-mask):Nat):Int):=by
    rw[key,Int.natCast_emod];exact vW
   rw[O6]
   refine lf rfl (C3 s.seen _ hu NQ) ?_
   repeat(refine cI ?_)
   refine af rfl (Spec.aL c (kF c ws j s.seen _ (by omega) (by omega))) ?_
   intro _
   by_cases he:ws.getD j 0=s.seen
   ·rw[decide_eq_true he,if_pos he,if_pos he]
    repeat first|refine aa ?_ |intro
    rw[show((j,mask)::rest).length-1=rest.length from rfl,←zb rest]
    refine aH (aI rfl () rfl (U.sat (ll (c:=c) (q:=(q.1,(de q.2.1.1 1 q.2.1.2 2,q.2.1.2-1),q.2.2)) ?_)))
    refine U.at p rfl (U.at c rfl (U.obj sp rfl (U.row q.1.1 rfl rfl (U.GQ q.2.1.1 1 (by omega) (U.row (de q.2.1.1 1 q.2.1.2 2) rfl rfl ?_)))))
    repeat(first|exact U.last|refine U.cons ?_ |refine U.assoc ?_)
   ·rw[decide_eq_false he,if_neg he,if_neg he]
    repeat first|refine aa ?_ |intro
    refine ae (cT rfl () rfl (U.sat (ll (c:=c) (q:=q) ?_)))
    refine U.at p rfl (U.at c rfl (U.obj sp (by simp only[fg,hp]) (U.row q.1.1 rfl rfl (U.row q.2.1.1 (by rw[hp]) (by rw[hp]) ?_))))
    repeat(first|exact U.last|refine U.cons ?_ |refine U.assoc ?_)
  ·have hr:s.read=false:=by simpa using hr
   rw[if_neg (by simp[hr]),hr]
   have key:=KB cN tk
   by_cases hz:ws.getD j 0&&& mask=0
   ·have Ox:bits .and .u64 ((ws.getD j 0:Nat):Int) (mask:Int)=0:=by rw[key,hz];rfl
    rw[if_pos hz]
    repeat first|refine aa ?_ |intro
    rename_i px
    rw[show((j,mask)::rest).getD 0 (0,0)=(j,mask)from rfl]
    dsimp only
    refine iQ 10 rfl (by kernel_rfl) rfl rfl ?_
    repeat(refine cI ?_)
    refine lf rfl (Spec.rL c (eJ c ws j (by omega) (by omega))) ?_
    repeat(refine cI ?_)
    repeat first|refine aa ?_ |intro
    refine iQ 11 rfl (by kernel_rfl) rfl rfl ?_
    repeat(refine cI ?_)
    repeat first|refine aa ?_ |intro
    rw[show((j,mask)::rest).length-1=rest.length from rfl,←zb rest]
    refine aH (aI rfl () rfl (U.sat (ll (c:=c) (q:=(q.1,(de q.2.1.1 1 q.2.1.2 2,q.2.1.2-1),q.2.2)) ?_)))
    refine U.at p rfl (U.at c rfl (U.obj sp rfl (U.row q.1.1 rfl rfl (U.GQ q.2.1.1 1 (by omega) (U.row (de q.2.1.1 1 q.2.1.2 2) rfl rfl ?_)))))
    repeat(first|exact U.last|refine U.cons ?_ |refine U.assoc ?_)
   ·have Ox:¬bits .and .u64 ((ws.getD j 0:Nat):Int) (mask:Int)=0:=by rw[key];omega
    rw[if_neg hz]
    repeat first|refine aa ?_ |intro
    rename_i px
    rw[show((j,mask)::rest).getD 0 (0,0)=(j,mask)from rfl]
    dsimp only
    refine iQ 10 rfl (by kernel_rfl) rfl rfl ?_
    repeat(refine cI ?_)
    refine lf rfl (Spec.rL c (eJ c ws j (by omega) (by omega))) ?_
    repeat(refine cI ?_)
    repeat first|refine aa ?_ |intro
    refine iQ 11 rfl (by kernel_rfl) rfl rfl ?_
    repeat(refine cI ?_)
    repeat first|refine aa ?_ |intro
    refine ae (cT rfl () rfl (U.sat (ll (c:=c) (q:=q) ?_)))
    refine U.at p rfl (U.at c rfl (U.obj sp (by simp only[fg,hp]) (U.row q.1.1 rfl rfl (U.row q.2.1.1 (by rw[hp]) (by rw[hp]) ?_))))
    repeat(first|exact U.last|refine U.cons ?_ |refine U.assoc ?_)
theorem BE (hT:fU W)(hw:gm m ws)(hs:s.Ok m):
  Spec Tryz.prog 203 [.pointer p,.pointer sp] W (bp p n ws*(bd sp s*F)) (fun _:Unit=> .bool (bz ws s).2.done) (fun _=>bp p n (bz ws s).1*(bd sp (bz ws s).2*F)):=by
 refine Spec.of Tryz.func203 rfl Tryz.ntmps203 rfl ?_
 refine cy sp (bd.open fun q=> ?_)
 simp only[fS,fg]
 by_cases hd:s.done=true
 ·have e:bz ws s=(ws,s):=if_pos hd
  rw[e,hd]
  repeat first|refine aa ?_ |intro
  refine ae (ar rfl rfl () rfl (U.sat ?_))
  refine U.cons (U.trans ?_ (bd.shut (q:=q)))
  refine U.obj sp (by simp only[fg,hd]) ?_
  repeat(first|exact U.last|refine U.cons ?_ |refine U.assoc ?_)
 have hd:s.done=false:=by simpa using hd
 have e:bz ws s=if s.kind=0 then iK ws s else if s.kind=1 then nW ws s else qd ws s:=by
  unfold bz
  rw[if_neg (by simp[hd])]
 have ew:U (Obj sp 255 (fg s q)*(an 83 1 q.1.1 s.words.length q.1.2 (bA .u64 s.words)*(an 257 2 q.2.1.1 s.parts.length q.2.1.2 (qK s.parts)*(an 3 1 q.2.2.1 s.bo.length q.2.2.2 (bA .i64 s.bo)*(bp p n ws*F))))) (bp p n ws*(bd sp s*F)):=by
  refine U.at p rfl (U.trans ?_ (bd.shut (q:=q)))
  repeat(first|exact U.last|refine U.cons ?_ |refine U.assoc ?_)
 simp only[fg]at ew
 rw[hd]at ew ⊢
 rcases hs.kind with hk|hk|hk
 ·rw[if_pos hk]at e
  rw[e]
  have Ej:((s.kind:Nat):Int)=0:=by omega
  repeat first|refine aa ?_ |intro
  refine af rfl (Spec.pre (Sg hT hw hs hk hd) ew) ?_
  intro _
  generalize (iK ws s)=g
  refine uF ?_
  refine cy sp (bd.open fun q=> ?_)
  simp only[fS,fg]
  repeat first|refine aa ?_ |intro
  refine ae (ar rfl rfl () rfl (U.sat ?_))
  refine U.at p rfl (U.trans ?_ (bd.shut (q:=q)))
  repeat(first|exact U.last|refine U.cons ?_ |refine U.assoc ?_)
 ·rw[if_neg (by omega),if_pos hk]at e
  rw[e]
  have Ej:((s.kind:Nat):Int)=1:=by omega
  repeat first|refine aa ?_ |intro
  refine af rfl (Spec.pre (RQ hw hs hk hd) ew) ?_
  intro _
  generalize (nW ws s)=g
  refine uF ?_
  refine cy sp (bd.open fun q=> ?_)
  simp only[fS,fg]
  repeat first|refine aa ?_ |intro
  refine ae (ar rfl rfl () rfl (U.sat ?_))
  refine U.at p rfl (U.trans ?_ (bd.shut (q:=q)))
  repeat(first|exact U.last|refine U.cons ?_ |refine U.assoc ?_)
 ·rw[if_neg (by omega),if_neg (by omega)]at e
  rw[e]
  have Ej:((s.kind:Nat):Int)=2:=by omega
  repeat first|refine aa ?_ |intro
  refine af rfl (Spec.pre (KJ hw hs) ew) ?_
  intro _
  generalize (qd ws s)=g
  refine uF ?_
  refine cy sp (bd.open fun q=> ?_)
  simp only[fS,fg]
  repeat first|refine aa ?_ |intro
  refine ae (ar rfl rfl () rfl (U.sat ?_))
  refine U.at p rfl (U.trans ?_ (bd.shut (q:=q)))
  repeat(first|exact U.last|refine U.cons ?_ |refine U.assoc ?_)
end
section
open Go.RowKit
set_option maxRecDepth 10000
attribute [local irreducible] EK EX ER EN EL ES EG av aV aY
variable {W:World} {F:SL} {X:Cx} {k:List KI} {σ:Env} {p sp:Option Addr} {n m:Nat} {ws:List Nat} {s:bG}
theorem BD (q:Option Addr)(n c:Nat)(xs:List Value)[h1:im xs](hl:xs.length=n)(hn:n≤1000000):
  Spec Tryz.prog 96 [.slice q n c] W (an 3 1 q n c xs*F) (fun g:aO=> .slice g.1 n g.2)
   (fun g=>an 3 1 g.1 n g.2 xs*(an 3 1 q n c xs*F)):=by
 subst hl
 refine Spec.of Tryz.func96 rfl Tryz.ntmps96 rfl ?_
 repeat first|refine aa ?_ |intro
 refine bS (uN rfl rfl) rfl ?_
 repeat first|refine aa ?_ |intro
 refine il rfl (fun hp=> ?_) (fun hp=> ?_)
 ·subst hp
  refine BG fun h0=> ?_
  obtain rfl:=List.eq_nil_of_length_eq_zero h0
  repeat first|refine aa ?_ |intro
  exact ae (ar rfl rfl ((none,0):aO) rfl (U.sat (U.none (U.refl _))))
 ·repeat first|refine aa ?_ |intro
  rename_i q0 g
  refine ae (ar rfl rfl g ?_ (U.sat (U.row g.1 ?_ ?_ ?_)))
  ·simp
  ·simp
  ·simp
  ·repeat(first|exact U.last|refine U.cons ?_ |refine U.assoc ?_)
theorem I6 (q:Option Addr)(n c:Nat)(xs:List Value)[h1:im xs](hl:xs.length=n)(hn:n≤1000000):
  Spec Tryz.prog 267 [.slice q n c] W (an 83 1 q n c xs*F) (fun g:aO=> .slice g.1 n g.2)
   (fun g=>an 83 1 g.1 n g.2 xs*(an 83 1 q n c xs*F)):=by
 subst hl
 refine Spec.of Tryz.func267 rfl Tryz.ntmps267 rfl ?_
 repeat first|refine aa ?_ |intro
 refine bS (uN rfl rfl) rfl ?_
 repeat first|refine aa ?_ |intro
 refine il rfl (fun hp=> ?_) (fun hp=> ?_)
 ·subst hp
  refine BG fun h0=> ?_
  obtain rfl:=List.eq_nil_of_length_eq_zero h0
  repeat first|refine aa ?_ |intro
  exact ae (ar rfl rfl ((none,0):aO) rfl (U.sat (U.none (U.refl _))))
 ·repeat first|refine aa ?_ |intro
  rename_i q0 g
  refine ae (ar rfl rfl g ?_ (U.sat (U.row g.1 ?_ ?_ ?_)))
  ·simp
  ·simp
  ·simp
  ·repeat(first|exact U.last|refine U.cons ?_ |refine U.assoc ?_)
theorem Ca (sp:Option Addr)(s:bG):Spec Tryz.prog 205 [.pointer sp] W (bd sp s*F) (fun _:Unit=> .bool (hY s)) (fun _=>bd sp s*F):=by
 refine Spec.of Tryz.func205 rfl Tryz.ntmps205 rfl ?_
 refine bd.open fun q=> ?_
 simp only[fS,fg]
 have YF:=zb s.bo
 have Yl:∀b c:Bool,hY s=b→b=c→some (Value.bool c)=some (Value.bool (hY s)):=fun b c h1 h2=>by rw[h1,h2]
 by_cases hk:s.kind=0
 ·cases hd:s.done with
  |false=>
   repeat first|refine aa ?_ |intro
   refine ae (ar rfl rfl () (by unfold hY;rw[hd];simp) (U.sat (U.trans ?_ (bd.shut (q:=q)))))
   refine U.obj sp (by simp only[fg,hd]) ?_
   repeat(first|exact U.last|refine U.cons ?_ |refine U.assoc ?_)
  |true=>
   by_cases h0:s.bo=[]
   ·have sZ:((s.bo.length:Nat):Int)=0:=by rw[h0];rfl
    repeat first|refine aa ?_ |intro
    refine ae (ar rfl rfl () (by unfold hY;simp[hd,hk,h0]) (U.sat (U.trans ?_ (bd.shut (q:=q)))))
    refine U.obj sp (by simp only[fg,hd]) ?_
    repeat(first|exact U.last|refine U.cons ?_ |refine U.assoc ?_)
   ·have sZ:¬((s.bo.length:Nat):Int)=0:=by
     intro e
     exact h0 (List.eq_nil_of_length_eq_zero (by omega))
    repeat first|refine aa ?_ |intro
    refine ae (ar rfl rfl () (by unfold hY;simp[hd,hk,h0]) (U.sat (U.trans ?_ (bd.shut (q:=q)))))
    refine U.obj sp (by simp only[fg,hd]) ?_
    repeat(first|exact U.last|refine U.cons ?_ |refine U.assoc ?_)
 ·have Yt:¬((s.kind:Nat):Int)=0:=by omega
  repeat first|refine aa ?_ |intro
  refine ae (ar rfl rfl () (by unfold hY;simp[hk]) (U.sat (U.trans ?_ (bd.shut (q:=q)))))
  repeat(first|exact U.last|refine U.cons ?_ |refine U.assoc ?_)
theorem Kb (sp:Option Addr)(s:bG):Spec Tryz.prog 207 [.pointer sp] W (bd sp s*F) (fun _:Unit=> .bool s.alike) (fun _=>bd sp s*F):=by
 refine Spec.of Tryz.func207 rfl Tryz.ntmps207 rfl ?_
 refine bd.open fun q=> ?_
 simp only[fS,fg]
 repeat first|refine aa ?_ |intro
 refine ae (ar rfl rfl () rfl (U.sat (U.trans ?_ (bd.shut (q:=q)))))
 repeat(first|exact U.last|refine U.cons ?_ |refine U.assoc ?_)
theorem Kp (sp:Option Addr)(s:bG):Spec Tryz.prog 266 [.pointer sp] W (bd sp s*F) (fun _:Unit=> .int .i64 (if s.bo=[]then-1 else(s.word:Int))) (fun _=>bd sp s*F):=by
 refine Spec.of Tryz.func266 rfl Tryz.ntmps266 rfl ?_
 refine bd.open fun q=> ?_
 simp only[fS,fg]
 by_cases h0:s.bo=[]
 ·have sZ:((s.bo.length:Nat):Int)=0:=by rw[h0];rfl
  rw[if_pos h0]
  repeat first|refine aa ?_ |intro
  refine ae (ar rfl rfl () rfl (U.sat (U.trans ?_ (bd.shut (q:=q)))))
  repeat(first|exact U.last|refine U.cons ?_ |refine U.assoc ?_)
 ·have sZ:¬((s.bo.length:Nat):Int)=0:=by
   intro e
   exact h0 (List.eq_nil_of_length_eq_zero (by omega))
  rw[if_neg h0]
  repeat first|refine aa ?_ |intro
  refine ae (ar rfl rfl () rfl (U.sat (U.trans ?_ (bd.shut (q:=q)))))
  repeat(first|exact U.last|refine U.cons ?_ |refine U.assoc ?_)
theorem JF (sp:Option Addr)(s:bG)(hn:s.bo.length≤1000):Spec Tryz.prog 264 [.pointer sp] W (bd sp s*F) (fun g:aO=> .slice g.1 s.bo.length g.2)
  (fun g=>an 3 1 g.1 s.bo.length g.2 (bA .i64 s.bo)*(bd sp s*F)):=by
 refine Spec.of Tryz.func264 rfl Tryz.ntmps264 rfl ?_
 refine bd.open fun q=> ?_
 simp only[fS,fg]
 repeat first|refine aa ?_ |intro
 refine af rfl (Spec.aL q.2.2.1 (BD q.2.2.1 s.bo.length q.2.2.2 (bA .i64 s.bo) (pz _ _) (by omega))) ?_
 intro g
 repeat first|refine aa ?_ |intro
 refine ae (ar rfl rfl g rfl (U.sat (U.cons (U.trans ?_ (bd.shut (q:=q))))))
 repeat(first|exact U.last|refine U.cons ?_ |refine U.assoc ?_)
end
section
open Go.RowKit
set_option maxRecDepth 10000
attribute [local irreducible] EK EX ER EN EL ES EG av aV aY
variable {W:World} {F:SL} {X:Cx} {k:List KI} {σ:Env} {p sp:Option Addr} {n m:Nat} {ws:List Nat} {s:bG}
theorem BJ {α:Sort _}{ops l:List Oper}{F:SL}{P:α→SL}(h:∀a,EL X k ops l σ (P a*F)):EL X k ops l σ (SL.ex P*F):=by
 unfold EL at h ⊢
 exact fun a w ha hs=>let⟨x,hx⟩:=hs.gQ;h x a w ha hx
theorem bd.ia {ops l:List Oper}(h:∀q,EL X k ops l σ (fS p s q F)):EL X k ops l σ (bd p s*F):=BJ fun q=>by
 rw[oN.eq]
 exact h q
theorem Tl (fr:Int){m:Nat}(h1:1≤m)(h2:m≤32):IntKind.i64.wrap (IntKind.u64.wrap fr%(m:Int))=(((fr%18446744073709551616).toNat%m:Nat):Int):=by
 rw[IntKind.wrap_u64,Int.natCast_emod,Int.toNat_of_nonneg (by omega)]
 have h3:0≤fr%18446744073709551616%(m:Int):=Int.emod_nonneg _ (by omega)
 have h4:fr%18446744073709551616%(m:Int)<m:=Int.emod_lt_of_pos _ (by omega)
 generalize fr%18446744073709551616%(m:Int)=z at*
 rw[IntKind.wrap_i64];omega
theorem Ki (fr mo:Int)(hw:gm m ws):Spec Tryz.prog 259 [.pointer p,.int .i64 fr,.int .i64 mo] W (bp p n ws*F) (fun g:Option Addr=> .pointer g) (fun g=>bd g (ij fr mo m)*(bp p n ws*F)):=by
 obtain⟨hlen,Aj,Er,cN⟩:=hw
 subst hlen
 refine Spec.of Tryz.func259 rfl Tryz.ntmps259 rfl ?_
 refine bp.open fun c=> ?_
 simp only[jt]
 repeat first|refine aa ?_ |intro
 refine af rfl (Spec.aL c (uT c ws)) ?_
 intro _
 repeat first|refine aa ?_ |intro
 haveI:Pos ws.length:=⟨by omega⟩
 have df:0≤IntKind.u64.wrap fr:=by rw[IntKind.wrap_u64];omega
 refine aG 99 1 rfl rfl rfl ?_
 repeat(first|refine bJ ?_ |(refine bN ?_;intro)|refine bK ?_ |refine bL ?_ |refine bM ?_ |refine eD ?_)
 rename_i t g
 refine ae (ar rfl rfl g rfl (U.sat (U.trans ?_ (bd.shut (q:=((t,ws.length),(none,0),(none,0)))))))
 refine U.obj g ?_ (U.row t ?_ ?_ (U.none (U.none (U.trans ?_ (bp.shut (c:=c))))))
 ·simp only[fg,ij,List.length_replicate,List.length_nil]
  rw[Tl fr Aj Er,Int.toNat_of_nonneg (by omega)]
  rfl
 ·simp[ij]
 ·simp only[ij];rw[GN];simp[bA]
 ·repeat(first|exact U.last|refine U.cons ?_ |refine U.assoc ?_)
theorem Kc {t:bG}(hn:hY t=true)(ht:t.words.length≤1000):Spec Tryz.prog 206 [.pointer p,.pointer sp] W (bp p n ws*(bd sp t*F)) (fun g:Option Addr=> .pointer g) (fun g=>bd g (mi t)*(bd sp t*(bp p n ws*F))):=by
 refine Spec.of Tryz.func206 rfl Tryz.ntmps206 rfl ?_
 refine bp.open fun c=> ?_
 simp only[jt]
 repeat first|refine aa ?_ |intro
 refine af rfl (Spec.aL sp (Ca sp t)) ?_
 intro _
 rw[hn]
 repeat first|refine aa ?_ |intro
 refine bd.ia fun q=> ?_
 simp only[fS,fg]
 repeat first|refine aa ?_ |intro
 refine af rfl (Spec.aL q.1.1 (I6 q.1.1 t.words.length q.1.2 (bA .u64 t.words) (pz _ _) (by omega))) ?_
 intro g
 repeat first|refine aa ?_ |intro
 rename_i x
 refine ae (ar rfl rfl x rfl (U.sat (U.trans ?_ (bd.shut (q:=(g,(none,0),(none,0)))))))
 refine U.obj x rfl (U.row g.1 rfl rfl (U.none (U.none (U.trans ?_ (bd.shut (q:=q))))))
 refine U.obj sp rfl (U.row q.1.1 rfl rfl (U.row q.2.1.1 rfl rfl (U.row q.2.2.1 rfl rfl (U.trans ?_ (bp.shut (c:=c))))))
 repeat(first|exact U.last|refine U.cons ?_ |refine U.assoc ?_)
theorem R0 {u i:Nat}(hu:u<18446744073709551616):bits .and .u64 ((u:Int)/2^(i:Int).toNat) 1=(if u.testBit i then 1 else 0:Int):=by
 rw[Int.toNat_natCast,show(u:Int)/2^i=((u/2^i:Nat):Int)by norm_cast]
 have h1:u/2^i<18446744073709551616:=Nat.lt_of_le_of_lt (Nat.div_le_self _ _) hu
 have h2:=u64_and_nat (u/2^i) 1 h1 (by decide)
 rw[show((1:Nat):Int)=1 from rfl]at h2
 rw[h2,Nat.and_one_is_mod,Nat.testBit_eq_decide_div_mod_eq]
 by_cases h:u/2^i%2=1
 ·simp[h]
 ·have:u/2^i%2=0:=by omega
  simp[this]
theorem xt (hw:gm m ws):Spec Tryz.prog 64 [.pointer p] W (bp p n ws*F) (fun g:aO=> .slice g.1 (fc ws (m*32)).length g.2) (fun g=>an 3 1 g.1 (fc ws (m*32)).length g.2 (bA .i64 (fc ws (m*32)))*(bp p n ws*F)):=by
 obtain⟨hlen,Aj,Er,cN⟩:=hw
 subst hlen
 refine Spec.of Tryz.func64 rfl Tryz.ntmps64 rfl ?_
 refine bp.open fun c=> ?_
 simp only[jt]
 repeat first|refine aa ?_ |intro
 refine af rfl (Spec.aL c (IZ c ws (by omega))) ?_
 intro w
 repeat first|refine aa ?_ |intro
 refine ed (γ:=Nat×aO) (fun g=>g.1≤ws.length) (fun g=>[(3,.slice g.2.1 (fc ws (g.1*32)).length g.2.2),(13,.slice w.1 ws.length w.2),(14,.int .i64 (ws.length:Int)),(15,.int .i64 (g.1:Int))])
  (fun g=>an 3 1 g.2.1 (fc ws (g.1*32)).length g.2.2 (bA .i64 (fc ws (g.1*32)))*(an 83 1 w.1 ws.length w.2 (bA .u64 ws)*jt p n ws c F)) (fun g=>ws.length-g.1) (0,(none,0)) (Nat.zero_le _) ⟨rfl,rfl,rfl,rfl,trivial⟩ (U.sat (U.none ?_)) ?_
 ·refine U.row w.1 rfl rfl (U.at p rfl ?_)
  repeat(first|exact U.last|refine U.cons ?_ |refine U.assoc ?_)
 ·intro ⟨i,o⟩ hi;dsimp only at hi ⊢
  by_cases Yr:i<ws.length
  ·have hu:ws.getD i 0<18446744073709551616:=getD_lt cN i
   repeat first|refine aa ?_ |intro
   refine ed (γ:=Nat×aO) (fun g=>g.1≤32) (fun g=>[(3,.slice g.2.1 (fc ws (i*32+g.1)).length g.2.2),(13,.slice w.1 ws.length w.2),(14,.int .i64 (ws.length:Int)),(15,.int .i64 (i:Int)),(4,.int .i64 (i:Int)),(5,.int .u64 ((ws.getD i 0:Nat):Int)),(20,.int .i64 (g.1:Int))])
    (fun g=>an 3 1 g.2.1 (fc ws (i*32+g.1)).length g.2.2 (bA .i64 (fc ws (i*32+g.1)))*(an 83 1 w.1 ws.length w.2 (bA .u64 ws)*jt p n ws c F)) (fun g=>32-g.1) (0,o) (Nat.zero_le _) ⟨rfl,rfl,rfl,rfl,rfl,rfl,rfl,trivial⟩ (U.sat (U.refl _)) ?_
   intro ⟨b,o2⟩ hb;dsimp only at hb ⊢
   by_cases mM:b<32
   ·have hk:=R0 (u:=ws.getD i 0) (i:=b) hu
    have hf:=MH ws (i*32+b)
    have nI:=vk ws (i*32+b)
    have Eg:gC ws (i*32+b)= !(ws.getD i 0).testBit b:=by
     unfold gC
     rw[show(i*32+b)/32=i by omega,show(i*32+b)%32=b by omega]
    have vr:((b:Nat):Int).toNat<64:=by omega
    cases ht:(ws.getD i 0).testBit b with
    |true=>
     rw[ht,if_pos rfl]at hk
     rw[Eg,ht]at hf
     repeat first|refine aa ?_ |intro
     refine db (b+1,o2) (by dsimp only;omega) (by dsimp only;omega) ⟨?_,rfl,rfl,rfl,rfl,rfl,rfl,trivial⟩ (U.sat (U.row o2.1 ?_ ?_ (U.refl _)))
     ·show _=some (Value.slice o2.1 (fc ws (i*32+b+1)).length o2.2)
      rw[hf];simp;rfl
     ·show _=(fc ws (i*32+b+1)).length
      rw[hf];simp
     ·show _=bA _ (fc ws (i*32+b+1))
      rw[hf];simp
    |false=>
     rw[ht,if_neg (by decide)]at hk
     rw[Eg,ht]at hf
     repeat first|refine aa ?_ |intro
     rename_i y o3
     have nH:fc ws (i*32+b+1)=fc ws (i*32+b)++[i*32+b]:=by rw[hf];simp
     refine db (b+1,o3) (by dsimp only;omega) (by dsimp only;omega) ⟨?_,rfl,rfl,rfl,rfl,rfl,rfl,trivial⟩ (U.sat (U.row o3.1 ?_ ?_ (U.refl _)))
     ·show _=some (Value.slice o3.1 (fc ws (i*32+b+1)).length o3.2)
      rw[nH];simp;rfl
     ·show _=(fc ws (i*32+b+1)).length
      rw[nH];simp
     ·show _=bA _ (fc ws (i*32+b+1))
      rw[nH];simp[bA]
   ·have zC:b=32:=by omega
    repeat first|refine aa ?_ |intro
    refine db (i+1,o2) (by dsimp only;omega) (by dsimp only;omega) ⟨?_,rfl,rfl,rfl,trivial⟩ (U.sat (U.row o2.1 ?_ ?_ (U.refl _)))
    ·rw[zC,show i*32+32=(i+1)*32 by omega];rfl
    ·rw[zC,show i*32+32=(i+1)*32 by omega]
    ·rw[zC,show i*32+32=(i+1)*32 by omega]
  ·repeat first|refine aa ?_ |intro
   have ND:i=ws.length:=by omega
   subst ND
   refine ae (ar rfl rfl o rfl (U.sat (U.row o.1 rfl rfl (U.trans U.drop (bp.shut (c:=c))))))
end
end Go.Proofs.YtimekbpkejemoaaGreatDoor
