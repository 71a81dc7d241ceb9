/-
  A part of a proof, joined by a program (wip/bundle3.py).
-/
import Derived.Test.YtakbmjoijcpdmaaGreatDoorG9
import Derived.Test.YtakbmjoijcpdmaaGreatDoorG10
set_option linter.unusedVariables false
set_option linter.unusedSimpArgs false
namespace Go.Proofs.YtakbmjoijcpdmaaGreatDoor
section
open Go.RowKit
set_option maxRecDepth 10000
attribute [local irreducible] EK EX ER EN EL ES EG az ba bf
variable {W:World} {F:SL} {X:Cx} {k:List KI} {σ:Env} {p pp g q:Option Addr} {ws cs pl:List Nat} {n np:Nat} {s:aU} {m:eM}
theorem ay.du {H F' G:SL}{l:List Value}[r:bO H q (Obj q 267 l) F'](e:l=j0 s)(k:U F' G):U H (ay q s*G):=by
 rw[r.eq]
 exact ay.bX e k
abbrev uS (m:eM):eM:=⟨m.phase+1,m.id,m.fr,m.to,m.version,m.aS⟩
def lN (cs:List Nat)(n:Nat)(s:aU):List Nat×aU:=
 if s.next=15 then(if cs.getD s.m.to 0=s.word then cs.set s.m.to (iO s.word (s.m.id:Int))else cs,{s with next:=13})
 else if s.next=18 then(if cs.getD s.m.fr 0=s.word then cs.set s.m.fr (mu s.word (s.m.id:Int))else cs,{s with next:=13})
 else if s.next=21 then(if cs.getD s.m.to 0=s.word then cs.set s.m.to (mu s.word (s.m.id:Int))else cs,{s with next:=13})
 else if s.next=16 then(if cs.getD n 0=jW s.m then cs.set n (jW (uS s.m))else cs,{s with next:=13})
 else if cs.getD n 0=jW s.m then(cs.set n (jW ⟨0,0,0,0,0,s.m.aS+1⟩),{s with next:=0})else(cs,{s with next:=13})
structure O5 (n:Nat)(cs:List Nat)(s:aU):Prop where
 vR:cs.length=n+1
 n2:n≤1024
 next:s.next=15∨s.next=18∨s.next=21∨s.next=16∨s.next=22
 m:s.m.Ok
 ph:s.next=16→s.m.phase<3
 id:s.m.id<4095
 aS:s.m.aS<16384
 to:s.m.to<n
 fr:s.m.fr<n
 word:s.word<18446744073709551616
 free:s.next=15→cZ s.word=false
 there:s.next=18∨s.next=21→0≤dY s.word (s.m.id:Int)
set_option maxHeartbeats 2000000 in
theorem Yq (h:O5 n cs s):Spec Tryz.prog 195 [.pointer p,.pointer q] W (ay q s*(dq p pp g n*(cz g cs*F))) (fun _:Unit=> .tuple #[])
  (fun _=>ay q (lN cs n s).2*(dq p pp g n*(cz g (lN cs n s).1*F))):=by
 refine Spec.of Tryz.func195 rfl Tryz.ntmps195 rfl ?_
 have iD:=h.vR
 have ka:=h.n2
 have jR:=h.to
 have c5:=h.fr
 refine qQ ?_
 refine kN (γ:=Option Addr) (fun _=>True) (fun x=>[(0,.pointer p),(1,.pointer q),(4,.pointer x),(5,.int .i64 (s.next:Int))]) (fun x=>Obj x 263 (gJ s.m)*(ay q s*(dq p pp g n*(cz g cs*F)))) ?_ ?_
 ·refine ay.open ?_
  repeat first|refine aa ?_ |intro
  refine aL 99 (Obj q 267 (eE s)*1) rfl rfl rfl ?_
  repeat(first|refine aq ?_ |refine eD ?_)
  repeat(first|refine bQ ?_ |(refine bU ?_;intro)|refine bR ?_ |refine bS ?_ |refine bT ?_ |refine eD ?_)
  rename_i x
  repeat first|refine aa ?_ |intro
  exact ei x trivial ⟨rfl,rfl,rfl,rfl,trivial⟩ (U.sat (U.cons (ay.bX (by rfl) (ad))))
 intro x _
 obtain⟨t,ht⟩:∃t:aU,t={s with next:=13}:=⟨_,rfl⟩
 have tg:t.m.Ok:=by rw[ht];exact h.m
 have DJ:t.m.aS<16384:=by rw[ht];exact h.aS
 have fI:t.word<18446744073709551616:=by rw[ht];exact h.word
 have adX:t.m.id<4095:=by rw[ht];exact h.id
 have adY:t.m.to<n:=by rw[ht];exact jR
 have adW:t.m.fr<n:=by rw[ht];exact c5
 refine cW q (ay.open ?_)
 refine qQ ?_
 refine kN (γ:=Unit) (fun _=>True) (fun _=>[(0,.pointer p),(1,.pointer q),(4,.pointer x),(5,.int .i64 (s.next:Int))]) (fun _=>Obj q 267 (eE t)*(Obj x 263 (gJ t.m)*(dq p pp g n*(cz g cs*F)))) ?_ ?_
 ·repeat first|refine aa ?_ |intro
  exact ei () trivial ⟨rfl,rfl,rfl,rfl,trivial⟩ (U.sat (by rw[ht];exact ad))
 intro _ _
 rcases h.next with e|e|e|e|e
 ·
  have es:lN cs n s=(if cs.getD s.m.to 0=s.word then cs.set s.m.to (iO s.word (s.m.id:Int))else cs,{s with next:=13}):=by unfold lN;simp only[e];rfl
  rw[es,←ht]
  repeat first|refine aa ?_ |intro
  refine aL 99 (dq p pp g n*(Obj x 263 (gJ t.m)*(Obj q 267 (eE t)*1))) rfl rfl rfl ?_
  repeat(first|refine aq ?_ |refine eD ?_)
  refine aI rfl rfl rfl rfl rfl (Mx (id:=(t.m.id:Int)) fI (by omega) (by omega) (by rw[ht];exact h.free e)) (fun _=>ad) ?_
  intro _
  repeat(first|refine aq ?_ |refine eD ?_)
  refine aI rfl rfl rfl rfl rfl (Spec.aV g (mw g cs t.m.to t.word (iO t.word (t.m.id:Int)) (by omega) (by omega))) (fun _=>ad) ?_
  intro _
  repeat(first|refine aq ?_ |refine eD ?_)
  repeat first|refine aa ?_ |intro
  rw[show s.word=t.word by rw[ht],show s.m=t.m by rw[ht]]
  exact aN (aO rfl () rfl (U.sat (ay.du (by rfl) (ad))))
 ·
  have es:lN cs n s=(if cs.getD s.m.fr 0=s.word then cs.set s.m.fr (mu s.word (s.m.id:Int))else cs,{s with next:=13}):=by unfold lN;simp only[e];rfl
  rw[es,←ht]
  repeat first|refine aa ?_ |intro
  refine aL 99 (dq p pp g n*(Obj x 263 (gJ t.m)*(Obj q 267 (eE t)*1))) rfl rfl rfl ?_
  repeat(first|refine aq ?_ |refine eD ?_)
  refine aI rfl rfl rfl rfl rfl (AU (id:=(t.m.id:Int)) fI (by rw[ht];exact h.there (.inl e))) (fun _=>ad) ?_
  intro _
  repeat(first|refine aq ?_ |refine eD ?_)
  refine aI rfl rfl rfl rfl rfl (Spec.aV g (mw g cs t.m.fr t.word (mu t.word (t.m.id:Int)) (by omega) (by omega))) (fun _=>ad) ?_
  intro _
  repeat(first|refine aq ?_ |refine eD ?_)
  repeat first|refine aa ?_ |intro
  rw[show s.word=t.word by rw[ht],show s.m=t.m by rw[ht]]
  exact aN (aO rfl () rfl (U.sat (ay.du (by rfl) (ad))))
 ·
  have es:lN cs n s=(if cs.getD s.m.to 0=s.word then cs.set s.m.to (mu s.word (s.m.id:Int))else cs,{s with next:=13}):=by unfold lN;simp only[e];rfl
  rw[es,←ht]
  repeat first|refine aa ?_ |intro
  refine aL 99 (dq p pp g n*(Obj x 263 (gJ t.m)*(Obj q 267 (eE t)*1))) rfl rfl rfl ?_
  repeat(first|refine aq ?_ |refine eD ?_)
  refine aI rfl rfl rfl rfl rfl (AU (id:=(t.m.id:Int)) fI (by rw[ht];exact h.there (.inr e))) (fun _=>ad) ?_
  intro _
  repeat(first|refine aq ?_ |refine eD ?_)
  refine aI rfl rfl rfl rfl rfl (Spec.aV g (mw g cs t.m.to t.word (mu t.word (t.m.id:Int)) (by omega) (by omega))) (fun _=>ad) ?_
  intro _
  repeat(first|refine aq ?_ |refine eD ?_)
  repeat first|refine aa ?_ |intro
  rw[show s.word=t.word by rw[ht],show s.m=t.m by rw[ht]]
  exact aN (aO rfl () rfl (U.sat (ay.du (by rfl) (ad))))
 ·
  have es:lN cs n s=(if cs.getD n 0=jW t.m then cs.set n (jW (uS t.m))else cs,t):=by unfold lN;simp only[e];rw[ht];rfl
  rw[es]
  have nf:t.m.phase<3:=by rw[ht];exact h.ph e
  have Tl:eM.Ok (uS t.m):=by rw[ht];exact⟨by have:=h.ph e;dsimp only;omega,h.m.id,h.m.fr,h.m.to,h.m.version,h.m.aS⟩
  repeat first|refine aa ?_ |intro
  rename_i y
  rw[show(t.m.phase:Int)+1=((t.m.phase+1:Nat):Int)by omega]
  refine aL 99 (dq p pp g n*(Obj x 263 (gJ t.m)*(Obj y 263 (gJ (uS t.m))*1))) rfl rfl rfl ?_
  repeat(first|refine aq ?_ |refine eD ?_)
  refine aI rfl rfl rfl rfl rfl (xt tg) (fun _=>ad) ?_
  intro _
  repeat(first|refine aq ?_ |refine eD ?_)
  refine aI rfl rfl rfl rfl rfl (xt (m:=(uS t.m)) Tl) (fun _=>ad) ?_
  intro _
  repeat(first|refine aq ?_ |refine eD ?_)
  refine aI rfl rfl rfl rfl rfl (Spec.aV g (mw g cs n (jW t.m) (jW (uS t.m)) (by omega) (by omega))) (fun _=>ad) ?_
  intro _
  repeat(first|refine aq ?_ |refine eD ?_)
  repeat first|refine aa ?_ |intro
  exact aN (aO rfl () rfl (U.sat (ay.du (by rfl) (ad))))
 ·
  have es:lN cs n s=if cs.getD n 0=jW t.m then(cs.set n (jW ⟨0,0,0,0,0,t.m.aS+1⟩),{t with next:=0})else(cs,t):=by unfold lN;simp only[e];rw[ht];rfl
  rw[es]
  repeat first|refine aa ?_ |intro
  refine aL 99 (dq p pp g n*(Obj x 263 (gJ t.m)*1)) rfl rfl rfl ?_
  repeat(first|refine aq ?_ |refine eD ?_)
  refine aI rfl rfl rfl rfl rfl (xt tg) (fun _=>ad) ?_
  intro _
  repeat(first|refine aq ?_ |refine eD ?_)
  refine aI rfl rfl rfl rfl rfl (VT DJ) (fun _=>ad) ?_
  intro _
  repeat(first|refine aq ?_ |refine eD ?_)
  refine aI rfl rfl rfl rfl rfl (Spec.aV g (mw g cs n (jW t.m) (jW ⟨0,0,0,0,0,t.m.aS+1⟩) (by omega) (by omega))) (fun _=>ad) ?_
  intro _
  repeat(first|refine aq ?_ |refine eD ?_)
  by_cases hu:cs.getD n 0=jW t.m
  ·rw[if_pos hu,if_pos hu,decide_eq_true hu]
   repeat first|refine aa ?_ |intro
   exact aN (aO rfl () rfl (U.sat (ay.bX (by rfl) (ad))))
  ·rw[if_neg hu,if_neg hu,decide_eq_false hu]
   repeat first|refine aa ?_ |intro
   refine aN (aO rfl () rfl (U.sat ?_))
   rw[show ∀A B C:SL,A*(B*C)=B*(A*C)from fun A B C=>by ac_rfl]
   exact ay.bX (by rfl) (ad)
end
section
open Go.RowKit
set_option maxRecDepth 10000
attribute [local irreducible] EK EX ER EN EL ES EG az ba bf
variable {W:World} {F:SL} {X:Cx} {k:List KI} {σ:Env} {p pp g q:Option Addr} {ws cs pl:List Nat} {n np:Nat} {s:aU} {m:eM}
theorem Qt:lN cs n s=yK n cs s:=rfl
theorem drop_eq:hN cs s=ri cs s:=rfl
theorem pM.tm (h:pM n np m)(hn:n≤1024)(c3:np≤3072):eM.Ok m:=⟨by have:=h.phase;omega,by have:=h.id;omega,by have:=h.fr;omega,by have:=h.to;omega,h.version,by have:=h.aS;omega⟩
set_option maxHeartbeats 4000000 in
theorem SQ (hc:dD n np cs)(hp:cK np pl)(h:bt n np s)(oX:13≤s.next)(C8:s.next≤22):Spec Tryz.prog 148 [.pointer p,.pointer q] W (ay q s*(aK p pp n cs*(aM pp pl*F))) (fun _:Unit=> .tuple #[])
  (fun _=>ay q (gF pl n cs s).2*(aK p pp n (gF pl n cs s).1*(aM pp pl*F))):=by
 refine Spec.of Tryz.func148 rfl Tryz.ntmps148 rfl ?_
 have iD:=hc.len
 have ka:=hc.n2
 have ju:=hc.jw
 have hm:=h.m
 have zz:=hm.id
 have DJ:=hm.to
 have Tj:=hm.fr
 have o7:=hm.version
 have gG:=h.word
 have jR:=hc.w s.m.to
 have c5:=hc.w s.m.fr
 refine cW p (aK.open fun g=> ?_)
 simp only[kS]
 refine qQ ?_
 refine kN (γ:=Option Addr) (fun _=>True) (fun x=>[(0,.pointer p),(1,.pointer q),(4,.pointer x)]) (fun x=>Obj x 263 (gJ s.m)*(ay q s*(dq p pp g n*(cz g cs*(aM pp pl*F))))) ?_ ?_
 ·refine cW q (ay.open ?_)
  repeat first|refine aa ?_ |intro
  rename_i x
  exact ei x trivial ⟨rfl,rfl,rfl,trivial⟩ (U.sat (U.cons (ay.du (by rfl) (ad))))
 intro x _
 have jt:s.next=13∨s.next=14∨s.next=17∨s.next=19∨s.next=20∨(s.next=15∨s.next=18∨s.next=21∨s.next=16∨s.next=22):=by omega
 rcases jt with e|e|e|e|e|e
 ·have es:gF pl n cs s=(cs,CP cs n s):=by unfold gF;rw[if_pos e];rfl
  rw[es]
  refine cW q (ay.open ?_)
  repeat first|refine aa ?_ |intro
  refine ag rfl (Spec.pre (RG iD ka hc.w (p:=p) (q:=q) (g:=g) (pp:=pp) (s:=s) (F:=Obj x 263 (gJ s.m)*(aM pp pl*F))) (ay.du (by rfl) (ad))) ?_
  intro _
  repeat first|refine aa ?_ |intro
  exact aN (aO rfl () rfl (U.sat (U.cons (U.trans (ad) (aK.shut (g:=g))))))
 ·refine cW q (ay.open ?_)
  repeat first|refine aa ?_ |intro
  refine aL 10 (dq p pp g n*(Obj x 263 (gJ s.m)*(Obj q 267 (eE s)*1))) rfl rfl rfl ?_
  repeat(first|refine aq ?_ |refine eD ?_)
  refine aI rfl rfl rfl rfl rfl (Spec.aV g (fC g cs s.m.to (by omega) (by omega))) (fun _=>ad) ?_
  intro _
  repeat(first|refine aq ?_ |refine eD ?_)
  repeat(first|refine bQ ?_ |(refine bU ?_;intro)|refine bR ?_ |refine bS ?_ |refine bT ?_ |refine eD ?_)
  obtain⟨t,ht⟩:∃t:aU,t={s with word:=cs.getD s.m.to 0}:=⟨_,rfl⟩
  have fI:t.word<18446744073709551616:=by rw[ht];exact jR
  refine jE (G:=Obj q 267 (eE t)*(Obj x 263 (gJ s.m)*(dq p pp g n*(cz g cs*(aM pp pl*F))))) (by rw[ht];exact ad) ?_
  repeat first|refine aa ?_ |intro
  refine aL 99 (Obj x 263 (gJ s.m)*(Obj q 267 (eE t)*1)) rfl rfl rfl ?_
  repeat(first|refine aq ?_ |refine eD ?_)
  refine aI rfl rfl rfl rfl rfl (tX (s.m.id:Int) fI) (fun _=>ad) ?_
  intro _
  by_cases hw:0≤dY t.word (s.m.id:Int)
  ·have es:gF pl n cs s=(cs,{t with next:=16}):=by
    rw[ht]at hw ⊢
    unfold gF;simp only[e];rw[if_pos hw];rfl
   rw[es]
   repeat(first|refine aq ?_ |refine eD ?_)
   repeat first|refine aa ?_ |intro
   exact aN (aO rfl () rfl (U.sat (ay.du (by rfl) (U.trans (ad) (aK.shut (g:=g))))))
  ·repeat(first|refine aq ?_ |refine eD ?_)
   repeat first|refine aa ?_ |intro
   refine aL 99 (Obj x 263 (gJ s.m)*(Obj q 267 (eE t)*1)) rfl rfl rfl ?_
   repeat(first|refine aq ?_ |refine eD ?_)
   refine aI rfl rfl rfl rfl rfl (Mi fI) (fun _=>ad) ?_
   intro _
   by_cases hv:t.word/281474976710656=s.m.version
   ·have es:gF pl n cs s=(cs,{t with next:=15}):=by
     rw[ht]at hw hv ⊢
     unfold gF;simp only[e];rw[if_neg hw,if_pos hv];rfl
    rw[es]
    repeat(first|refine aq ?_ |refine eD ?_)
    repeat first|refine aa ?_ |intro
    exact aN (aO rfl () rfl (U.sat (ay.du (by rfl) (U.trans (ad) (aK.shut (g:=g))))))
   ·have es:gF pl n cs s=(cs,{t with next:=22}):=by
     rw[ht]at hw hv ⊢
     unfold gF;simp only[e];rw[if_neg hw,if_neg hv];rfl
    rw[es]
    repeat(first|refine aq ?_ |refine eD ?_)
    repeat first|refine aa ?_ |intro
    exact aN (aO rfl () rfl (U.sat (ay.du (by rfl) (U.trans (ad) (aK.shut (g:=g))))))
 ·have es:gF pl n cs s=(cs,tP s (cs.getD s.m.fr 0) 18 16):=by unfold gF;simp only[e];rfl
  rw[es]
  refine cW q (ay.open ?_)
  repeat first|refine aa ?_ |intro
  refine aL 8 (dq p pp g n*(Obj x 263 (gJ s.m)*(Obj q 267 (eE s)*1))) rfl rfl rfl ?_
  repeat(first|refine aq ?_ |refine eD ?_)
  refine aI rfl rfl rfl rfl rfl (Spec.aV g (fC g cs s.m.fr (by omega) (by omega))) (fun _=>ad) ?_
  intro _
  repeat(first|refine aq ?_ |refine eD ?_)
  refine kh rfl rfl rfl rfl (Spec.aV q (Spec.pre (LY (q:=q) (s:=s) (yes:=18) (no:=16) (u:=cs.getD s.m.fr 0) c5) (ay.bX (by rfl) (U.refl _)))) ?_
  intro _
  repeat(first|refine aq ?_ |refine eD ?_)
  repeat first|refine aa ?_ |intro
  exact aN (aO rfl () rfl (U.sat (U.cons (U.trans (ad) (aK.shut (g:=g))))))
 ·refine cW q (ay.open ?_)
  repeat first|refine aa ?_ |intro
  obtain⟨t,ht⟩:∃t:aU,t={s with next:=20}:=⟨_,rfl⟩
  have Jr:t.m=s.m:=by rw[ht]
  refine jE (G:=Obj q 267 (eE t)*(Obj x 263 (gJ s.m)*(dq p pp g n*(cz g cs*(aM pp pl*F))))) (by rw[ht];exact ad) ?_
  refine kN (γ:=Option Addr) (fun _=>True) (fun y=>[(0,.pointer p),(1,.pointer q),(4,.pointer x),(5,.pointer y)]) (fun y=>Obj y 78 (wL (aJ.of (pl.getD (2*s.m.id) 0)) [])*(Obj q 267 (eE t)*(Obj x 263 (gJ s.m)*(dq p pp g n*(cz g cs*(aM pp pl*F)))))) ?_ ?_
  ·repeat first|refine aa ?_ |intro
   refine aL 8 (dq p pp g n*(Obj x 263 (gJ s.m)*1)) rfl rfl rfl ?_
   repeat(first|refine aq ?_ |refine eD ?_)
   refine qP (i:=6) (j:=7) (sx rfl rfl rfl rfl (Spec.aV pp (yy hp.len ju zz hp.w)) (fun _=>ad) ?_) (sA rfl rfl (pO rfl) rfl (fun _=>ad) ?_)
   ·intro _
    repeat(first|refine bQ ?_ |(refine bU ?_;intro)|refine bR ?_ |refine bS ?_ |refine bT ?_ |refine eD ?_)
    rename_i y
    repeat first|refine aa ?_ |intro
    exact ei y trivial ⟨rfl,rfl,rfl,rfl,trivial⟩ (U.sat (ad))
   ·intro y
    refine aI rfl rfl rfl rfl rfl (Spec.aV pp (yy hp.len ju zz hp.w)) (fun _=>ad) ?_
    intro _
    repeat(first|refine bQ ?_ |(refine bU ?_;intro)|refine bR ?_ |refine bS ?_ |refine bT ?_ |refine eD ?_)
    repeat first|refine aa ?_ |intro
    exact ei y trivial ⟨rfl,rfl,rfl,rfl,trivial⟩ (U.sat (ad))
  intro y _
  have es:gF pl n cs s=(cs,if(aJ.of (pl.getD (2*s.m.id) 0)).st=1∨(aJ.of (pl.getD (2*s.m.id) 0)).st=2 then {t with next:=22}else t):=by
   rw[ht]
   unfold gF
   rw[if_neg (by omega),if_neg (by omega),if_neg (by omega),if_pos e]
   split<;>rfl
  rw[es]
  generalize aJ.of (pl.getD (2*s.m.id) 0)=w at*
  by_cases w1:w.st=1
  ·repeat first|refine aa ?_ |intro
   rw[if_pos (.inl w1)]
   exact aN (aO rfl () rfl (U.sat (ay.du (by rfl) (U.trans (ad) (aK.shut (g:=g))))))
  ·by_cases w2:w.st=2
   ·repeat first|refine aa ?_ |intro
    rw[if_pos (.inr w2)]
    exact aN (aO rfl () rfl (U.sat (ay.du (by rfl) (U.trans (ad) (aK.shut (g:=g))))))
   ·repeat first|refine aa ?_ |intro
    rw[if_neg (fun e=>e.elim w1 w2)]
    exact aN (aO rfl () rfl (U.sat (ay.du (by rfl) (U.trans (ad) (aK.shut (g:=g))))))
 ·have es:gF pl n cs s=(cs,tP s (cs.getD s.m.to 0) 21 22):=by unfold gF;simp only[e];rfl
  rw[es]
  refine cW q (ay.open ?_)
  repeat first|refine aa ?_ |intro
  refine aL 8 (dq p pp g n*(Obj x 263 (gJ s.m)*(Obj q 267 (eE s)*1))) rfl rfl rfl ?_
  repeat(first|refine aq ?_ |refine eD ?_)
  refine aI rfl rfl rfl rfl rfl (Spec.aV g (fC g cs s.m.to (by omega) (by omega))) (fun _=>ad) ?_
  intro _
  repeat(first|refine aq ?_ |refine eD ?_)
  refine kh rfl rfl rfl rfl (Spec.aV q (Spec.pre (LY (q:=q) (s:=s) (yes:=21) (no:=22) (u:=cs.getD s.m.to 0) jR) (ay.bX (by rfl) (U.refl _)))) ?_
  intro _
  repeat(first|refine aq ?_ |refine eD ?_)
  repeat first|refine aa ?_ |intro
  exact aN (aO rfl () rfl (U.sat (U.cons (U.trans (ad) (aK.shut (g:=g))))))
 ·have es:gF pl n cs s=lN cs n s:=by rw[Qt];unfold gF;rw[if_neg (by omega),if_neg (by omega),if_neg (by omega),if_neg (by omega),if_neg (by omega)]
  rw[es]
  refine cW q (ay.open ?_)
  rcases e with e|e|e|e|e
  all_goals
   repeat first|refine aa ?_ |intro
   refine ag rfl (Spec.pre (Yq (p:=p) (q:=q) (g:=g) (pp:=pp) (s:=s) (F:=Obj x 263 (gJ s.m)*(aM pp pl*F)) ⟨iD,ka,by omega,hm.tm ka ju,fun e=>h.ph (by omega) (by omega),by omega,hm.aS,DJ,Tj,gG,h.free,h.there⟩) (ay.du (by rfl) (ad))) ?_
   intro _
   repeat first|refine aa ?_ |intro
   exact aN (aO rfl () rfl (U.sat (U.cons (U.trans (ad) (aK.shut (g:=g))))))
end
section
open Go.RowKit
set_option maxRecDepth 10000
attribute [local irreducible] EK EX ER EN EL ES EG az ba bf
variable {W:World} {F:SL} {X:Cx} {k:List KI} {σ:Env} {p pp g q:Option Addr} {ws cs pl:List Nat} {n np:Nat} {s:aU} {m:eM}
theorem rB {id:Int}{fr to u:Nat}(h0:0≤id)(hu:u<18446744073709551616)(hs:s.still<18446744073709551616):Spec Tryz.prog 200 [.pointer q,.int .i64 id,.int .i64 (fr:Int),.int .i64 (to:Int),.int .u64 (u:Int)] W (ay q s*F) (fun _:Unit=> .tuple #[]) (fun _=>ay q (lT s id fr to u)*F):=by
 have h:=Sf (W:=W) (F:=F) (q:=q) (s:=s) (id:=id.toNat) (fr:=fr) (to:=to) hu hs
 rw[show((id.toNat:Nat):Int)=id by omega]at h
 exact h
theorem rQ {id:Int}{bk:Nat}(hf:fH (n:Int)=true)(hp:cK np pl)(c3:np≤3072)(h0:0≤id)(h1:id<np):Spec Tryz.prog 197 [.pointer p,.int .i64 id,.int .i64 (bk:Int)] W (dq p pp g n*(aM pp pl*F)) (fun _:Unit=> .int .i64 ((jy pl n id bk:Nat):Int)) (fun _=>dq p pp g n*(aM pp pl*F)):=by
 have h:=WN (W:=W) (F:=F) (p:=p) (pp:=pp) (g:=g) (pl:=pl) (n:=n) (id:=id.toNat) (bk:=bk) hf hp.len c3 (by omega) hp.w
 rw[show((id.toNat:Nat):Int)=id by omega]at h
 exact h
theorem Ay (s:aU)(x:Nat):(s.v=0→s.jg s.v x={s with o0:=x})∧(s.v=1→s.jg s.v x={s with o1:=x})∧(s.v=2→s.jg s.v x={s with o2:=x})∧(s.v=3→s.jg s.v x={s with o3:=x}):=by
 unfold aU.jg
 refine⟨fun e=> ?_,fun e=> ?_,fun e=> ?_,fun e=> ?_⟩<;>rw[e]<;>rfl
theorem Ax (s:aU)(x:Nat):(s.v=0→s.ic s.v x={s with g0:=x})∧(s.v=1→s.ic s.v x={s with g1:=x})∧(s.v=2→s.ic s.v x={s with g2:=x})∧(s.v=3→s.ic s.v x={s with g3:=x}):=by
 unfold aU.ic
 refine⟨fun e=> ?_,fun e=> ?_,fun e=> ?_,fun e=> ?_⟩<;>rw[e]<;>rfl
theorem nM (s:aU):(s.v=0→s.c7 s.v=s.o0)∧(s.v=1→s.c7 s.v=s.o1)∧(s.v=2→s.c7 s.v=s.o2)∧(s.v=3→s.c7 s.v=s.o3):=by
 unfold aU.c7
 refine⟨fun e=> ?_,fun e=> ?_,fun e=> ?_,fun e=> ?_⟩<;>rw[e]<;>rfl
theorem ru (s:aU):(s.v=0→s.dV s.v=s.g0)∧(s.v=1→s.dV s.v=s.g1)∧(s.v=2→s.dV s.v=s.g2)∧(s.v=3→s.dV s.v=s.g3):=by
 unfold aU.dV
 refine⟨fun e=> ?_,fun e=> ?_,fun e=> ?_,fun e=> ?_⟩<;>rw[e]<;>rfl
set_option maxHeartbeats 4000000 in
theorem RH (hc:dD n np cs)(h:bt n np s)(hd:s.done=false)(e:s.next=11):Spec Tryz.prog 201 [.pointer p,.pointer q] W (ay q s*(dq p pp g n*(cz g cs*F))) (fun _:Unit=> .tuple #[])
  (fun _=>ay q (cx pl n cs s).2*(dq p pp g n*(cz g cs*F))):=by
 refine Spec.of Tryz.func201 rfl Tryz.ntmps201 rfl ?_
 have iD:=hc.len
 have ka:=hc.n2
 have adL:=h.cA
 have hu:=hc.w s.cA
 have cJ:=h.still
 obtain⟨hv,gX⟩:=h.vu hd
 have jP:=h.c7 s.v hv
 obtain⟨gw,c5⟩:=h.dV s.v hv
 have ja:=js.1 (h.kX (.inr e) s.v hv) s.u gX
 refine cW q (ay.open ?_)
 repeat first|refine aa ?_ |intro
 refine aL 99 (dq p pp g n*(Obj q 267 (eE s)*1)) rfl rfl rfl ?_
 repeat(first|refine aq ?_ |refine eD ?_)
 refine aI rfl rfl rfl rfl rfl (Spec.aV g (fC g cs s.cA (by omega) (by omega))) (fun _=>ad) ?_
 intro _
 repeat(first|refine aq ?_ |refine eD ?_)
 have es:cx pl n cs s=(cs,if cZ (cs.getD s.cA 0)=false then lT s (bM (s.dV s.v) s.u) (s.c7 s.v) s.cA (cs.getD s.cA 0)
   else if s.u+1=4 then(if s.v+1=4 then jr {s with v:=4,u:=0,next:=10} 9 else {s with v:=s.v+1,u:=0,next:=10})
   else {s with u:=s.u+1,next:=10}):=by
  unfold cx
  rw[if_neg (by omega),if_neg (by omega),if_neg (by omega),if_neg (by omega),if_neg (by omega),if_pos e]
 rw[es]
 repeat first|refine aa ?_ |intro
 refine ag rfl (uv hu) ?_
 intro _
 cases qi:cZ (cs.getD s.cA 0)with
 |false=>
  rw[if_pos rfl]
  rcases four hv with ev|ev|ev|ev
  ·rw[(ru s).1 ev]at gw ja ⊢
   rw[(nM s).1 ev]at jP ⊢
   rw[ev]
   repeat first|refine aa ?_ |intro
   refine aL 29 (Obj q 267 (Value.int .i64 (s.kind:Int)::Value.int .i64 (s.f1:Int)::Value.int .u32 (s.f2:Int)::Value.int .u16 (s.f3:Int)::Value.int .i64 s.id::Value.int .i64 (s.a:Int)::Value.int .i64 (s.b:Int)::Value.int .i64 (s.next:Int)::Value.int .u64 (s.first:Int)::Value.int .u64 (s.word:Int)::Value.int .i64 (s.at_:Int)::Value.bool s.half::Value.int .i64 (s.seen.st:Int)::Value.int .i64 (s.seen.gen:Int)::Value.int .i64 (s.seen.tr:Int)::Value.int .i64 (s.seen.sn:Int)::Value.int .u64 (s.still:Int)::Value.int .i64 (s.m.phase:Int)::Value.int .i64 (s.m.id:Int)::Value.int .i64 (s.m.fr:Int)::Value.int .i64 (s.m.to:Int)::Value.int .i64 (s.m.version:Int)::Value.int .i64 (s.m.aS:Int)::Value.int .i64 ((0:Nat):Int)::Value.int .i64 (s.u:Int)::Value.int .i64 (s.o0:Int)::Value.int .i64 (s.o1:Int)::Value.int .i64 (s.o2:Int)::Value.int .i64 (s.o3:Int)::Value.int .u64 (s.g0:Int)::Value.int .u64 (s.g1:Int)::Value.int .u64 (s.g2:Int)::Value.int .u64 (s.g3:Int)::Value.int .i64 (s.cA:Int)::Value.bool s.second::Value.int .i64 s.found::Value.int .i64 (s.aQ.st:Int)::Value.int .i64 (s.aQ.gen:Int)::Value.int .i64 (s.aQ.tr:Int)::Value.int .i64 (s.aQ.sn:Int)::Value.int .i64 (s.end_:Int)::Value.bool s.done::[])*1) rfl rfl rfl ?_
   repeat(first|refine aq ?_ |refine eD ?_)
   refine aI rfl rfl rfl rfl rfl (iJ gw gX) (fun _=>ad) ?_
   intro _
   repeat(first|refine aq ?_ |refine eD ?_)
   refine kh rfl rfl rfl rfl (Spec.aV q (Spec.pre (rB (q:=q) (s:=s) ja hu cJ) (ay.bX (by unfold j0;rw[ev]) (U.refl _)))) ?_
   intro _
   repeat(first|refine aq ?_ |refine eD ?_)
   repeat first|refine aa ?_ |intro
   exact ae (dB rfl () rfl (U.sat (U.cons (ad))))
  ·rw[(ru s).2.1 ev]at gw ja ⊢
   rw[(nM s).2.1 ev]at jP ⊢
   rw[ev]
   repeat first|refine aa ?_ |intro
   refine aL 29 (Obj q 267 (Value.int .i64 (s.kind:Int)::Value.int .i64 (s.f1:Int)::Value.int .u32 (s.f2:Int)::Value.int .u16 (s.f3:Int)::Value.int .i64 s.id::Value.int .i64 (s.a:Int)::Value.int .i64 (s.b:Int)::Value.int .i64 (s.next:Int)::Value.int .u64 (s.first:Int)::Value.int .u64 (s.word:Int)::Value.int .i64 (s.at_:Int)::Value.bool s.half::Value.int .i64 (s.seen.st:Int)::Value.int .i64 (s.seen.gen:Int)::Value.int .i64 (s.seen.tr:Int)::Value.int .i64 (s.seen.sn:Int)::Value.int .u64 (s.still:Int)::Value.int .i64 (s.m.phase:Int)::Value.int .i64 (s.m.id:Int)::Value.int .i64 (s.m.fr:Int)::Value.int .i64 (s.m.to:Int)::Value.int .i64 (s.m.version:Int)::Value.int .i64 (s.m.aS:Int)::Value.int .i64 ((1:Nat):Int)::Value.int .i64 (s.u:Int)::Value.int .i64 (s.o0:Int)::Value.int .i64 (s.o1:Int)::Value.int .i64 (s.o2:Int)::Value.int .i64 (s.o3:Int)::Value.int .u64 (s.g0:Int)::Value.int .u64 (s.g1:Int)::Value.int .u64 (s.g2:Int)::Value.int .u64 (s.g3:Int)::Value.int .i64 (s.cA:Int)::Value.bool s.second::Value.int .i64 s.found::Value.int .i64 (s.aQ.st:Int)::Value.int .i64 (s.aQ.gen:Int)::Value.int .i64 (s.aQ.tr:Int)::Value.int .i64 (s.aQ.sn:Int)::Value.int .i64 (s.end_:Int)::Value.bool s.done::[])*1) rfl rfl rfl ?_
   repeat(first|refine aq ?_ |refine eD ?_)
   refine aI rfl rfl rfl rfl rfl (iJ gw gX) (fun _=>ad) ?_
   intro _
   repeat(first|refine aq ?_ |refine eD ?_)
   refine kh rfl rfl rfl rfl (Spec.aV q (Spec.pre (rB (q:=q) (s:=s) ja hu cJ) (ay.bX (by unfold j0;rw[ev]) (U.refl _)))) ?_
   intro _
   repeat(first|refine aq ?_ |refine eD ?_)
   repeat first|refine aa ?_ |intro
   exact ae (dB rfl () rfl (U.sat (U.cons (ad))))
  ·rw[(ru s).2.2.1 ev]at gw ja ⊢
   rw[(nM s).2.2.1 ev]at jP ⊢
   rw[ev]
   repeat first|refine aa ?_ |intro
   refine aL 29 (Obj q 267 (Value.int .i64 (s.kind:Int)::Value.int .i64 (s.f1:Int)::Value.int .u32 (s.f2:Int)::Value.int .u16 (s.f3:Int)::Value.int .i64 s.id::Value.int .i64 (s.a:Int)::Value.int .i64 (s.b:Int)::Value.int .i64 (s.next:Int)::Value.int .u64 (s.first:Int)::Value.int .u64 (s.word:Int)::Value.int .i64 (s.at_:Int)::Value.bool s.half::Value.int .i64 (s.seen.st:Int)::Value.int .i64 (s.seen.gen:Int)::Value.int .i64 (s.seen.tr:Int)::Value.int .i64 (s.seen.sn:Int)::Value.int .u64 (s.still:Int)::Value.int .i64 (s.m.phase:Int)::Value.int .i64 (s.m.id:Int)::Value.int .i64 (s.m.fr:Int)::Value.int .i64 (s.m.to:Int)::Value.int .i64 (s.m.version:Int)::Value.int .i64 (s.m.aS:Int)::Value.int .i64 ((2:Nat):Int)::Value.int .i64 (s.u:Int)::Value.int .i64 (s.o0:Int)::Value.int .i64 (s.o1:Int)::Value.int .i64 (s.o2:Int)::Value.int .i64 (s.o3:Int)::Value.int .u64 (s.g0:Int)::Value.int .u64 (s.g1:Int)::Value.int .u64 (s.g2:Int)::Value.int .u64 (s.g3:Int)::Value.int .i64 (s.cA:Int)::Value.bool s.second::Value.int .i64 s.found::Value.int .i64 (s.aQ.st:Int)::Value.int .i64 (s.aQ.gen:Int)::Value.int .i64 (s.aQ.tr:Int)::Value.int .i64 (s.aQ.sn:Int)::Value.int .i64 (s.end_:Int)::Value.bool s.done::[])*1) rfl rfl rfl ?_
   repeat(first|refine aq ?_ |refine eD ?_)
   refine aI rfl rfl rfl rfl rfl (iJ gw gX) (fun _=>ad) ?_
   intro _
   repeat(first|refine aq ?_ |refine eD ?_)
   refine kh rfl rfl rfl rfl (Spec.aV q (Spec.pre (rB (q:=q) (s:=s) ja hu cJ) (ay.bX (by unfold j0;rw[ev]) (U.refl _)))) ?_
   intro _
   repeat(first|refine aq ?_ |refine eD ?_)
   repeat first|refine aa ?_ |intro
   exact ae (dB rfl () rfl (U.sat (U.cons (ad))))
  ·rw[(ru s).2.2.2 ev]at gw ja ⊢
   rw[(nM s).2.2.2 ev]at jP ⊢
   rw[ev]
   repeat first|refine aa ?_ |intro
   refine aL 29 (Obj q 267 (Value.int .i64 (s.kind:Int)::Value.int .i64 (s.f1:Int)::Value.int .u32 (s.f2:Int)::Value.int .u16 (s.f3:Int)::Value.int .i64 s.id::Value.int .i64 (s.a:Int)::Value.int .i64 (s.b:Int)::Value.int .i64 (s.next:Int)::Value.int .u64 (s.first:Int)::Value.int .u64 (s.word:Int)::Value.int .i64 (s.at_:Int)::Value.bool s.half::Value.int .i64 (s.seen.st:Int)::Value.int .i64 (s.seen.gen:Int)::Value.int .i64 (s.seen.tr:Int)::Value.int .i64 (s.seen.sn:Int)::Value.int .u64 (s.still:Int)::Value.int .i64 (s.m.phase:Int)::Value.int .i64 (s.m.id:Int)::Value.int .i64 (s.m.fr:Int)::Value.int .i64 (s.m.to:Int)::Value.int .i64 (s.m.version:Int)::Value.int .i64 (s.m.aS:Int)::Value.int .i64 ((3:Nat):Int)::Value.int .i64 (s.u:Int)::Value.int .i64 (s.o0:Int)::Value.int .i64 (s.o1:Int)::Value.int .i64 (s.o2:Int)::Value.int .i64 (s.o3:Int)::Value.int .u64 (s.g0:Int)::Value.int .u64 (s.g1:Int)::Value.int .u64 (s.g2:Int)::Value.int .u64 (s.g3:Int)::Value.int .i64 (s.cA:Int)::Value.bool s.second::Value.int .i64 s.found::Value.int .i64 (s.aQ.st:Int)::Value.int .i64 (s.aQ.gen:Int)::Value.int .i64 (s.aQ.tr:Int)::Value.int .i64 (s.aQ.sn:Int)::Value.int .i64 (s.end_:Int)::Value.bool s.done::[])*1) rfl rfl rfl ?_
   repeat(first|refine aq ?_ |refine eD ?_)
   refine aI rfl rfl rfl rfl rfl (iJ gw gX) (fun _=>ad) ?_
   intro _
   repeat(first|refine aq ?_ |refine eD ?_)
   refine kh rfl rfl rfl rfl (Spec.aV q (Spec.pre (rB (q:=q) (s:=s) ja hu cJ) (ay.bX (by unfold j0;rw[ev]) (U.refl _)))) ?_
   intro _
   repeat(first|refine aq ?_ |refine eD ?_)
   repeat first|refine aa ?_ |intro
   exact ae (dB rfl () rfl (U.sat (U.cons (ad))))
 |true=>
  rw[if_neg (by decide)]
  by_cases h4:s.u+1=4
  ·rw[if_pos h4]
   have eu:(s.u:Int)+1=4:=by omega
   by_cases h5:s.v+1=4
   ·rw[if_pos h5]
    repeat first|refine aa ?_ |intro
    have ev:(s.v:Int)+1=((4:Nat):Int):=by omega
    rw[ev]
    refine ag rfl (Spec.pre (sV (p:=q) (e:=9) (s:={s with v:=4,u:=0,next:=10})) (ay.bX (by rfl) (U.refl _))) ?_
    intro _
    repeat first|refine aa ?_ |intro
    exact aN (aO rfl () rfl (U.sat (U.cons (ad))))
   ·rw[if_neg h5]
    repeat first|refine aa ?_ |intro
    exact aN (aO rfl () rfl (U.sat (ay.du (by unfold j0;dsimp only;rw[show(s.v:Int)+1=((s.v+1:Nat):Int)by omega];rfl) (ad))))
  ·rw[if_neg h4]
   repeat first|refine aa ?_ |intro
   exact aN (aO rfl () rfl (U.sat (ay.du (by unfold j0;dsimp only;rw[show(s.u:Int)+1=((s.u+1:Nat):Int)by omega];rfl) (ad))))
end
section
open Go.RowKit
set_option maxRecDepth 10000
attribute [local irreducible] EK EX ER EN EL ES EG az ba bf
variable {W:World} {F:SL} {X:Cx} {k:List KI} {σ:Env} {p pp g q:Option Addr} {ws cs pl:List Nat} {n np:Nat} {s:aU} {m:eM}
set_option maxHeartbeats 2000000 in
theorem QW (hf:fH (n:Int)=true)(hc:dD n np cs)(hp:cK np pl)(h:bt n np s)(hd:s.done=false)(e:s.next=6):Spec Tryz.prog 149 [.pointer p,.pointer q] W (ay q s*(aK p pp n cs*(aM pp pl*F))) (fun _:Unit=> .tuple #[])
  (fun _=>ay q (cx pl n cs s).2*(aK p pp n (cx pl n cs s).1*(aM pp pl*F))):=by
 refine Spec.of Tryz.func149 rfl Tryz.ntmps149 rfl ?_
 have iD:=hc.len
 have ka:=hc.n2
 have ju:=hc.jw
 have ha:=h.a
 have cJ:=h.still
 have gx:=hc.w n
 have lY:=h.first
 have ng:=h.gL (by omega) (by omega)
 have lX:=js.1 ng
 obtain⟨hv,gX⟩:=h.vu hd
 refine cW p (aK.open fun g=> ?_)
 simp only[kS]
 refine cW q (ay.open ?_)
 have es:cx pl n cs s=(cs,{s with still:=cs.getD n 0,m:=lh (cs.getD n 0),next:=if(lh (cs.getD n 0)).phase≠0 then 13 else 7}):=by unfold cx;rw[if_pos e];rfl
 rw[es]
 repeat first|refine aa ?_ |intro
 refine aL 99 (dq p pp g n*1) rfl rfl rfl ?_
 repeat(first|refine aq ?_ |refine eD ?_)
 refine aI rfl rfl rfl rfl rfl (Spec.aV g (fC g cs n (by omega) (by omega))) (fun _=>ad) ?_
 intro _
 repeat(first|refine aq ?_ |refine eD ?_)
 repeat first|refine aa ?_ |intro
 refine ag rfl (xu gx) ?_
 intro _
 generalize lh (cs.getD n 0)=m
 by_cases nf:m.phase=0
 ·rw[if_neg (fun z=>z nf)]
  repeat first|refine aa ?_ |intro
  exact aN (aO rfl () rfl (U.sat (ay.du (by rfl) (U.trans (ad) (aK.shut (g:=g))))))
 ·rw[if_pos nf]
  repeat first|refine aa ?_ |intro
  exact aN (aO rfl () rfl (U.sat (ay.du (by rfl) (U.trans (ad) (aK.shut (g:=g))))))
set_option maxHeartbeats 2000000 in
theorem QX (hf:fH (n:Int)=true)(hc:dD n np cs)(hp:cK np pl)(h:bt n np s)(hd:s.done=false)(e:s.next=7):Spec Tryz.prog 149 [.pointer p,.pointer q] W (ay q s*(aK p pp n cs*(aM pp pl*F))) (fun _:Unit=> .tuple #[])
  (fun _=>ay q (cx pl n cs s).2*(aK p pp n (cx pl n cs s).1*(aM pp pl*F))):=by
 refine Spec.of Tryz.func149 rfl Tryz.ntmps149 rfl ?_
 have iD:=hc.len
 have ka:=hc.n2
 have ju:=hc.jw
 have ha:=h.a
 have cJ:=h.still
 have gx:=hc.w n
 have lY:=h.first
 have ng:=h.gL (by omega) (by omega)
 have lX:=js.1 ng
 obtain⟨hv,gX⟩:=h.vu hd
 refine cW p (aK.open fun g=> ?_)
 simp only[kS]
 refine cW q (ay.open ?_)
 have es:cx pl n cs s=(cs,{s with v:=0,u:=0,next:=if cs.getD s.a 0≠s.first then 0 else 8}):=by unfold cx;rw[if_neg (by omega),if_pos e]
 rw[es]
 repeat first|refine aa ?_ |intro
 obtain⟨t,ht⟩:∃t:aU,t={s with v:=0,u:=0,next:=8}:=⟨_,rfl⟩
 have zM:t.a=s.a:=by rw[ht]
 have zN:t.first=s.first:=by rw[ht]
 have ex:({s with v:=0,u:=0,next:=if cs.getD s.a 0≠s.first then 0 else 8}:aU)={t with next:=if cs.getD t.a 0≠t.first then 0 else 8}:=by rw[ht]
 rw[ex]
 refine jE (G:=Obj q 267 (eE t)*(dq p pp g n*(cz g cs*(aM pp pl*F)))) (by rw[ht];exact ad) ?_
 refine aL 99 (dq p pp g n*(Obj q 267 (eE t)*1)) rfl rfl rfl ?_
 repeat(first|refine aq ?_ |refine eD ?_)
 refine aI rfl rfl rfl rfl rfl (Spec.aV g (fC g cs t.a (by omega) (by omega))) (fun _=>ad) ?_
 intro _
 have RE:({t with next:=8}:aU)=t:=by rw[ht]
 by_cases hu:cs.getD t.a 0=t.first
 ·rw[if_neg (fun z=>z hu),RE]
  repeat(first|refine aq ?_ |refine eD ?_)
  repeat first|refine aa ?_ |intro
  exact aN (aO rfl () rfl (U.sat (ay.du (by rfl) (U.trans (ad) (aK.shut (g:=g))))))
 ·rw[if_pos hu]
  repeat(first|refine aq ?_ |refine eD ?_)
  repeat first|refine aa ?_ |intro
  exact aN (aO rfl () rfl (U.sat (ay.du (by rfl) (U.trans (ad) (aK.shut (g:=g))))))
set_option maxHeartbeats 2000000 in
theorem QY (hf:fH (n:Int)=true)(hc:dD n np cs)(hp:cK np pl)(h:bt n np s)(hd:s.done=false)(e:s.next=8):Spec Tryz.prog 149 [.pointer p,.pointer q] W (ay q s*(aK p pp n cs*(aM pp pl*F))) (fun _:Unit=> .tuple #[])
  (fun _=>ay q (cx pl n cs s).2*(aK p pp n (cx pl n cs s).1*(aM pp pl*F))):=by
 refine Spec.of Tryz.func149 rfl Tryz.ntmps149 rfl ?_
 have iD:=hc.len
 have ka:=hc.n2
 have ju:=hc.jw
 have ha:=h.a
 have cJ:=h.still
 have gx:=hc.w n
 have lY:=h.first
 have ng:=h.gL (by omega) (by omega)
 have lX:=js.1 ng
 obtain⟨hv,gX⟩:=h.vu hd
 refine cW p (aK.open fun g=> ?_)
 simp only[kS]
 refine cW q (ay.open ?_)
 rcases four hv with ev|ev|ev|ev
 ·have es:cx pl n cs s=(cs,{s with o0:=jy pl n (bM s.first 0) s.a,next:=9}):=by
   unfold cx
   rw[if_neg (by omega),if_neg (by omega),if_pos e,(Ay s _).1 ev,ev]
  rw[es,ev]
  repeat first|refine aa ?_ |intro
  refine aL 23 (dq p pp g n*(Obj q 267 (Value.int .i64 (s.kind:Int)::Value.int .i64 (s.f1:Int)::Value.int .u32 (s.f2:Int)::Value.int .u16 (s.f3:Int)::Value.int .i64 s.id::Value.int .i64 (s.a:Int)::Value.int .i64 (s.b:Int)::Value.int .i64 (s.next:Int)::Value.int .u64 (s.first:Int)::Value.int .u64 (s.word:Int)::Value.int .i64 (s.at_:Int)::Value.bool s.half::Value.int .i64 (s.seen.st:Int)::Value.int .i64 (s.seen.gen:Int)::Value.int .i64 (s.seen.tr:Int)::Value.int .i64 (s.seen.sn:Int)::Value.int .u64 (s.still:Int)::Value.int .i64 (s.m.phase:Int)::Value.int .i64 (s.m.id:Int)::Value.int .i64 (s.m.fr:Int)::Value.int .i64 (s.m.to:Int)::Value.int .i64 (s.m.version:Int)::Value.int .i64 (s.m.aS:Int)::Value.int .i64 ((0:Nat):Int)::Value.int .i64 (s.u:Int)::Value.int .i64 (s.o0:Int)::Value.int .i64 (s.o1:Int)::Value.int .i64 (s.o2:Int)::Value.int .i64 (s.o3:Int)::Value.int .u64 (s.g0:Int)::Value.int .u64 (s.g1:Int)::Value.int .u64 (s.g2:Int)::Value.int .u64 (s.g3:Int)::Value.int .i64 (s.cA:Int)::Value.bool s.second::Value.int .i64 s.found::Value.int .i64 (s.aQ.st:Int)::Value.int .i64 (s.aQ.gen:Int)::Value.int .i64 (s.aQ.tr:Int)::Value.int .i64 (s.aQ.sn:Int)::Value.int .i64 (s.end_:Int)::Value.bool s.done::[])*1)) rfl rfl rfl ?_
  repeat(first|refine aq ?_ |refine eD ?_)
  refine aI rfl rfl rfl rfl rfl (iJ (i:=0) lY (by decide)) (fun _=>ad) ?_
  intro _
  repeat(first|refine aq ?_ |refine eD ?_)
  refine aI rfl rfl rfl rfl rfl (Spec.fE p pp (rQ hf hp ju (lX 0 (by decide)) (h.rT 0 (by decide)))) (fun _=>ad) ?_
  intro _
  repeat(first|refine aq ?_ |refine eD ?_)
  repeat(first|refine bQ ?_ |(refine bU ?_;intro)|refine bR ?_ |refine bS ?_ |refine bT ?_ |refine eD ?_)
  repeat first|refine aa ?_ |intro
  exact aN (aO rfl () rfl (U.sat (ay.du (by rfl) (U.trans (ad) (aK.shut (g:=g))))))
 ·have es:cx pl n cs s=(cs,{s with o1:=jy pl n (bM s.first 1) s.a,next:=9}):=by
   unfold cx
   rw[if_neg (by omega),if_neg (by omega),if_pos e,(Ay s _).2.1 ev,ev]
  rw[es,ev]
  repeat first|refine aa ?_ |intro
  refine aL 23 (dq p pp g n*(Obj q 267 (Value.int .i64 (s.kind:Int)::Value.int .i64 (s.f1:Int)::Value.int .u32 (s.f2:Int)::Value.int .u16 (s.f3:Int)::Value.int .i64 s.id::Value.int .i64 (s.a:Int)::Value.int .i64 (s.b:Int)::Value.int .i64 (s.next:Int)::Value.int .u64 (s.first:Int)::Value.int .u64 (s.word:Int)::Value.int .i64 (s.at_:Int)::Value.bool s.half::Value.int .i64 (s.seen.st:Int)::Value.int .i64 (s.seen.gen:Int)::Value.int .i64 (s.seen.tr:Int)::Value.int .i64 (s.seen.sn:Int)::Value.int .u64 (s.still:Int)::Value.int .i64 (s.m.phase:Int)::Value.int .i64 (s.m.id:Int)::Value.int .i64 (s.m.fr:Int)::Value.int .i64 (s.m.to:Int)::Value.int .i64 (s.m.version:Int)::Value.int .i64 (s.m.aS:Int)::Value.int .i64 ((1:Nat):Int)::Value.int .i64 (s.u:Int)::Value.int .i64 (s.o0:Int)::Value.int .i64 (s.o1:Int)::Value.int .i64 (s.o2:Int)::Value.int .i64 (s.o3:Int)::Value.int .u64 (s.g0:Int)::Value.int .u64 (s.g1:Int)::Value.int .u64 (s.g2:Int)::Value.int .u64 (s.g3:Int)::Value.int .i64 (s.cA:Int)::Value.bool s.second::Value.int .i64 s.found::Value.int .i64 (s.aQ.st:Int)::Value.int .i64 (s.aQ.gen:Int)::Value.int .i64 (s.aQ.tr:Int)::Value.int .i64 (s.aQ.sn:Int)::Value.int .i64 (s.end_:Int)::Value.bool s.done::[])*1)) rfl rfl rfl ?_
  repeat(first|refine aq ?_ |refine eD ?_)
  refine aI rfl rfl rfl rfl rfl (iJ (i:=1) lY (by decide)) (fun _=>ad) ?_
  intro _
  repeat(first|refine aq ?_ |refine eD ?_)
  refine aI rfl rfl rfl rfl rfl (Spec.fE p pp (rQ hf hp ju (lX 1 (by decide)) (h.rT 1 (by decide)))) (fun _=>ad) ?_
  intro _
  repeat(first|refine aq ?_ |refine eD ?_)
  repeat(first|refine bQ ?_ |(refine bU ?_;intro)|refine bR ?_ |refine bS ?_ |refine bT ?_ |refine eD ?_)
  repeat first|refine aa ?_ |intro
  exact aN (aO rfl () rfl (U.sat (ay.du (by rfl) (U.trans (ad) (aK.shut (g:=g))))))
 ·have es:cx pl n cs s=(cs,{s with o2:=jy pl n (bM s.first 2) s.a,next:=9}):=by
   unfold cx
   rw[if_neg (by omega),if_neg (by omega),if_pos e,(Ay s _).2.2.1 ev,ev]
  rw[es,ev]
  repeat first|refine aa ?_ |intro
  refine aL 23 (dq p pp g n*(Obj q 267 (Value.int .i64 (s.kind:Int)::Value.int .i64 (s.f1:Int)::Value.int .u32 (s.f2:Int)::Value.int .u16 (s.f3:Int)::Value.int .i64 s.id::Value.int .i64 (s.a:Int)::Value.int .i64 (s.b:Int)::Value.int .i64 (s.next:Int)::Value.int .u64 (s.first:Int)::Value.int .u64 (s.word:Int)::Value.int .i64 (s.at_:Int)::Value.bool s.half::Value.int .i64 (s.seen.st:Int)::Value.int .i64 (s.seen.gen:Int)::Value.int .i64 (s.seen.tr:Int)::Value.int .i64 (s.seen.sn:Int)::Value.int .u64 (s.still:Int)::Value.int .i64 (s.m.phase:Int)::Value.int .i64 (s.m.id:Int)::Value.int .i64 (s.m.fr:Int)::Value.int .i64 (s.m.to:Int)::Value.int .i64 (s.m.version:Int)::Value.int .i64 (s.m.aS:Int)::Value.int .i64 ((2:Nat):Int)::Value.int .i64 (s.u:Int)::Value.int .i64 (s.o0:Int)::Value.int .i64 (s.o1:Int)::Value.int .i64 (s.o2:Int)::Value.int .i64 (s.o3:Int)::Value.int .u64 (s.g0:Int)::Value.int .u64 (s.g1:Int)::Value.int .u64 (s.g2:Int)::Value.int .u64 (s.g3:Int)::Value.int .i64 (s.cA:Int)::Value.bool s.second::Value.int .i64 s.found::Value.int .i64 (s.aQ.st:Int)::Value.int .i64 (s.aQ.gen:Int)::Value.int .i64 (s.aQ.tr:Int)::Value.int .i64 (s.aQ.sn:Int)::Value.int .i64 (s.end_:Int)::Value.bool s.done::[])*1)) rfl rfl rfl ?_
  repeat(first|refine aq ?_ |refine eD ?_)
  refine aI rfl rfl rfl rfl rfl (iJ (i:=2) lY (by decide)) (fun _=>ad) ?_
  intro _
  repeat(first|refine aq ?_ |refine eD ?_)
  refine aI rfl rfl rfl rfl rfl (Spec.fE p pp (rQ hf hp ju (lX 2 (by decide)) (h.rT 2 (by decide)))) (fun _=>ad) ?_
  intro _
  repeat(first|refine aq ?_ |refine eD ?_)
  repeat(first|refine bQ ?_ |(refine bU ?_;intro)|refine bR ?_ |refine bS ?_ |refine bT ?_ |refine eD ?_)
  repeat first|refine aa ?_ |intro
  exact aN (aO rfl () rfl (U.sat (ay.du (by rfl) (U.trans (ad) (aK.shut (g:=g))))))
 ·have es:cx pl n cs s=(cs,{s with o3:=jy pl n (bM s.first 3) s.a,next:=9}):=by
   unfold cx
   rw[if_neg (by omega),if_neg (by omega),if_pos e,(Ay s _).2.2.2 ev,ev]
  rw[es,ev]
  repeat first|refine aa ?_ |intro
  refine aL 23 (dq p pp g n*(Obj q 267 (Value.int .i64 (s.kind:Int)::Value.int .i64 (s.f1:Int)::Value.int .u32 (s.f2:Int)::Value.int .u16 (s.f3:Int)::Value.int .i64 s.id::Value.int .i64 (s.a:Int)::Value.int .i64 (s.b:Int)::Value.int .i64 (s.next:Int)::Value.int .u64 (s.first:Int)::Value.int .u64 (s.word:Int)::Value.int .i64 (s.at_:Int)::Value.bool s.half::Value.int .i64 (s.seen.st:Int)::Value.int .i64 (s.seen.gen:Int)::Value.int .i64 (s.seen.tr:Int)::Value.int .i64 (s.seen.sn:Int)::Value.int .u64 (s.still:Int)::Value.int .i64 (s.m.phase:Int)::Value.int .i64 (s.m.id:Int)::Value.int .i64 (s.m.fr:Int)::Value.int .i64 (s.m.to:Int)::Value.int .i64 (s.m.version:Int)::Value.int .i64 (s.m.aS:Int)::Value.int .i64 ((3:Nat):Int)::Value.int .i64 (s.u:Int)::Value.int .i64 (s.o0:Int)::Value.int .i64 (s.o1:Int)::Value.int .i64 (s.o2:Int)::Value.int .i64 (s.o3:Int)::Value.int .u64 (s.g0:Int)::Value.int .u64 (s.g1:Int)::Value.int .u64 (s.g2:Int)::Value.int .u64 (s.g3:Int)::Value.int .i64 (s.cA:Int)::Value.bool s.second::Value.int .i64 s.found::Value.int .i64 (s.aQ.st:Int)::Value.int .i64 (s.aQ.gen:Int)::Value.int .i64 (s.aQ.tr:Int)::Value.int .i64 (s.aQ.sn:Int)::Value.int .i64 (s.end_:Int)::Value.bool s.done::[])*1)) rfl rfl rfl ?_
  repeat(first|refine aq ?_ |refine eD ?_)
  refine aI rfl rfl rfl rfl rfl (iJ (i:=3) lY (by decide)) (fun _=>ad) ?_
  intro _
  repeat(first|refine aq ?_ |refine eD ?_)
  refine aI rfl rfl rfl rfl rfl (Spec.fE p pp (rQ hf hp ju (lX 3 (by decide)) (h.rT 3 (by decide)))) (fun _=>ad) ?_
  intro _
  repeat(first|refine aq ?_ |refine eD ?_)
  repeat(first|refine bQ ?_ |(refine bU ?_;intro)|refine bR ?_ |refine bS ?_ |refine bT ?_ |refine eD ?_)
  repeat first|refine aa ?_ |intro
  exact aN (aO rfl () rfl (U.sat (ay.du (by rfl) (U.trans (ad) (aK.shut (g:=g))))))
end
section
open Go.RowKit
set_option maxRecDepth 10000
attribute [local irreducible] EK EX ER EN EL ES EG az ba bf
variable {W:World} {F:SL} {X:Cx} {k:List KI} {σ:Env} {p pp g q:Option Addr} {ws cs pl:List Nat} {n np:Nat} {s:aU} {m:eM}
set_option maxHeartbeats 2000000 in
theorem QZ (hf:fH (n:Int)=true)(hc:dD n np cs)(hp:cK np pl)(h:bt n np s)(hd:s.done=false)(e:s.next=9):Spec Tryz.prog 149 [.pointer p,.pointer q] W (ay q s*(aK p pp n cs*(aM pp pl*F))) (fun _:Unit=> .tuple #[])
  (fun _=>ay q (cx pl n cs s).2*(aK p pp n (cx pl n cs s).1*(aM pp pl*F))):=by
 refine Spec.of Tryz.func149 rfl Tryz.ntmps149 rfl ?_
 have iD:=hc.len
 have ka:=hc.n2
 have ju:=hc.jw
 have ha:=h.a
 have cJ:=h.still
 have gx:=hc.w n
 have lY:=h.first
 have ng:=h.gL (by omega) (by omega)
 have lX:=js.1 ng
 obtain⟨hv,gX⟩:=h.vu hd
 refine cW p (aK.open fun g=> ?_)
 simp only[kS]
 refine cW q (ay.open ?_)
 rcases four hv with ev|ev|ev|ev
 ·have jP:=h.c7 0 (by decide)
  have eo:s.c7 0=s.o0:=rfl
  rw[eo]at jP
  have jM:=hc.w s.o0
  have es:cx pl n cs s=(cs,if cZ (cs.getD s.o0 0)=false then lT {s with g0:=cs.getD s.o0 0} (bM s.first 0) s.a s.o0 (cs.getD s.o0 0)
    else {s with g0:=cs.getD s.o0 0,v:=1,next:=8}):=by
   unfold cx
   rw[if_neg (by omega),if_neg (by omega),if_neg (by omega),if_pos e,(Ax s _).1 ((by rw[ev]):s.v=0),(nM s).1 ev,ev]
   rfl
  rw[es]
  rw[ev]
  repeat first|refine aa ?_ |intro
  refine aL 99 (dq p pp g n*(Obj q 267 (Value.int .i64 (s.kind:Int)::Value.int .i64 (s.f1:Int)::Value.int .u32 (s.f2:Int)::Value.int .u16 (s.f3:Int)::Value.int .i64 s.id::Value.int .i64 (s.a:Int)::Value.int .i64 (s.b:Int)::Value.int .i64 (s.next:Int)::Value.int .u64 (s.first:Int)::Value.int .u64 (s.word:Int)::Value.int .i64 (s.at_:Int)::Value.bool s.half::Value.int .i64 (s.seen.st:Int)::Value.int .i64 (s.seen.gen:Int)::Value.int .i64 (s.seen.tr:Int)::Value.int .i64 (s.seen.sn:Int)::Value.int .u64 (s.still:Int)::Value.int .i64 (s.m.phase:Int)::Value.int .i64 (s.m.id:Int)::Value.int .i64 (s.m.fr:Int)::Value.int .i64 (s.m.to:Int)::Value.int .i64 (s.m.version:Int)::Value.int .i64 (s.m.aS:Int)::Value.int .i64 ((0:Nat):Int)::Value.int .i64 (s.u:Int)::Value.int .i64 (s.o0:Int)::Value.int .i64 (s.o1:Int)::Value.int .i64 (s.o2:Int)::Value.int .i64 (s.o3:Int)::Value.int .u64 (s.g0:Int)::Value.int .u64 (s.g1:Int)::Value.int .u64 (s.g2:Int)::Value.int .u64 (s.g3:Int)::Value.int .i64 (s.cA:Int)::Value.bool s.second::Value.int .i64 s.found::Value.int .i64 (s.aQ.st:Int)::Value.int .i64 (s.aQ.gen:Int)::Value.int .i64 (s.aQ.tr:Int)::Value.int .i64 (s.aQ.sn:Int)::Value.int .i64 (s.end_:Int)::Value.bool s.done::[])*1)) rfl rfl rfl ?_
  repeat(first|refine aq ?_ |refine eD ?_)
  refine aI rfl rfl rfl rfl rfl (Spec.aV g (fC g cs s.o0 (by omega) (by omega))) (fun _=>ad) ?_
  intro _
  repeat(first|refine aq ?_ |refine eD ?_)
  repeat first|refine aa ?_ |intro
  refine aL 9 (Obj q 267 (Value.int .i64 (s.kind:Int)::Value.int .i64 (s.f1:Int)::Value.int .u32 (s.f2:Int)::Value.int .u16 (s.f3:Int)::Value.int .i64 s.id::Value.int .i64 (s.a:Int)::Value.int .i64 (s.b:Int)::Value.int .i64 (s.next:Int)::Value.int .u64 (s.first:Int)::Value.int .u64 (s.word:Int)::Value.int .i64 (s.at_:Int)::Value.bool s.half::Value.int .i64 (s.seen.st:Int)::Value.int .i64 (s.seen.gen:Int)::Value.int .i64 (s.seen.tr:Int)::Value.int .i64 (s.seen.sn:Int)::Value.int .u64 (s.still:Int)::Value.int .i64 (s.m.phase:Int)::Value.int .i64 (s.m.id:Int)::Value.int .i64 (s.m.fr:Int)::Value.int .i64 (s.m.to:Int)::Value.int .i64 (s.m.version:Int)::Value.int .i64 (s.m.aS:Int)::Value.int .i64 ((0:Nat):Int)::Value.int .i64 (s.u:Int)::Value.int .i64 (s.o0:Int)::Value.int .i64 (s.o1:Int)::Value.int .i64 (s.o2:Int)::Value.int .i64 (s.o3:Int)::Value.int .u64 (s.g0:Int)::Value.int .u64 (s.g1:Int)::Value.int .u64 (s.g2:Int)::Value.int .u64 (s.g3:Int)::Value.int .i64 (s.cA:Int)::Value.bool s.second::Value.int .i64 s.found::Value.int .i64 (s.aQ.st:Int)::Value.int .i64 (s.aQ.gen:Int)::Value.int .i64 (s.aQ.tr:Int)::Value.int .i64 (s.aQ.sn:Int)::Value.int .i64 (s.end_:Int)::Value.bool s.done::[])*1) rfl rfl rfl ?_
  repeat(first|refine aq ?_ |refine eD ?_)
  repeat(first|refine bQ ?_ |(refine bU ?_;intro)|refine bR ?_ |refine bS ?_ |refine bT ?_ |refine eD ?_)
  repeat first|refine aa ?_ |intro
  refine ag rfl (uv jM) ?_
  intro _
  cases qi:cZ (cs.getD s.o0 0)with
  |false=>
   rw[if_pos rfl]
   repeat first|refine aa ?_ |intro
   refine aL 24 (Obj q 267 (Value.int .i64 (s.kind:Int)::Value.int .i64 (s.f1:Int)::Value.int .u32 (s.f2:Int)::Value.int .u16 (s.f3:Int)::Value.int .i64 s.id::Value.int .i64 (s.a:Int)::Value.int .i64 (s.b:Int)::Value.int .i64 (s.next:Int)::Value.int .u64 (s.first:Int)::Value.int .u64 (s.word:Int)::Value.int .i64 (s.at_:Int)::Value.bool s.half::Value.int .i64 (s.seen.st:Int)::Value.int .i64 (s.seen.gen:Int)::Value.int .i64 (s.seen.tr:Int)::Value.int .i64 (s.seen.sn:Int)::Value.int .u64 (s.still:Int)::Value.int .i64 (s.m.phase:Int)::Value.int .i64 (s.m.id:Int)::Value.int .i64 (s.m.fr:Int)::Value.int .i64 (s.m.to:Int)::Value.int .i64 (s.m.version:Int)::Value.int .i64 (s.m.aS:Int)::Value.int .i64 ((0:Nat):Int)::Value.int .i64 (s.u:Int)::Value.int .i64 (s.o0:Int)::Value.int .i64 (s.o1:Int)::Value.int .i64 (s.o2:Int)::Value.int .i64 (s.o3:Int)::Value.int .u64 (cs.getD s.o0 0:Int)::Value.int .u64 (s.g1:Int)::Value.int .u64 (s.g2:Int)::Value.int .u64 (s.g3:Int)::Value.int .i64 (s.cA:Int)::Value.bool s.second::Value.int .i64 s.found::Value.int .i64 (s.aQ.st:Int)::Value.int .i64 (s.aQ.gen:Int)::Value.int .i64 (s.aQ.tr:Int)::Value.int .i64 (s.aQ.sn:Int)::Value.int .i64 (s.end_:Int)::Value.bool s.done::[])*1) rfl rfl rfl ?_
   repeat(first|refine aq ?_ |refine eD ?_)
   refine aI rfl rfl rfl rfl rfl (iJ (i:=0) lY (by decide)) (fun _=>ad) ?_
   intro _
   repeat(first|refine aq ?_ |refine eD ?_)
   refine kh rfl rfl rfl rfl (Spec.aV q (Spec.pre (rB (q:=q) (s:={s with v:=0,g0:=cs.getD s.o0 0}) (lX 0 (by decide)) jM cJ) (ay.bX (by rfl) (U.refl _)))) ?_
   intro _
   repeat(first|refine aq ?_ |refine eD ?_)
   repeat first|refine aa ?_ |intro
   exact ae (dB rfl () rfl (U.sat (U.cons (U.trans (ad) (aK.shut (g:=g))))))
  |true=>
   rw[if_neg (by decide)]
   repeat first|refine aa ?_ |intro
   exact aN (aO rfl () rfl (U.sat (ay.du (by rfl) (U.trans (ad) (aK.shut (g:=g))))))
 ·have jP:=h.c7 1 (by decide)
  have eo:s.c7 1=s.o1:=rfl
  rw[eo]at jP
  have jM:=hc.w s.o1
  have es:cx pl n cs s=(cs,if cZ (cs.getD s.o1 0)=false then lT {s with g1:=cs.getD s.o1 0} (bM s.first 1) s.a s.o1 (cs.getD s.o1 0)
    else {s with g1:=cs.getD s.o1 0,v:=2,next:=8}):=by
   unfold cx
   rw[if_neg (by omega),if_neg (by omega),if_neg (by omega),if_pos e,(Ax s _).2.1 ((by rw[ev]):s.v=1),(nM s).2.1 ev,ev]
   rfl
  rw[es]
  rw[ev]
  repeat first|refine aa ?_ |intro
  refine aL 99 (dq p pp g n*(Obj q 267 (Value.int .i64 (s.kind:Int)::Value.int .i64 (s.f1:Int)::Value.int .u32 (s.f2:Int)::Value.int .u16 (s.f3:Int)::Value.int .i64 s.id::Value.int .i64 (s.a:Int)::Value.int .i64 (s.b:Int)::Value.int .i64 (s.next:Int)::Value.int .u64 (s.first:Int)::Value.int .u64 (s.word:Int)::Value.int .i64 (s.at_:Int)::Value.bool s.half::Value.int .i64 (s.seen.st:Int)::Value.int .i64 (s.seen.gen:Int)::Value.int .i64 (s.seen.tr:Int)::Value.int .i64 (s.seen.sn:Int)::Value.int .u64 (s.still:Int)::Value.int .i64 (s.m.phase:Int)::Value.int .i64 (s.m.id:Int)::Value.int .i64 (s.m.fr:Int)::Value.int .i64 (s.m.to:Int)::Value.int .i64 (s.m.version:Int)::Value.int .i64 (s.m.aS:Int)::Value.int .i64 ((1:Nat):Int)::Value.int .i64 (s.u:Int)::Value.int .i64 (s.o0:Int)::Value.int .i64 (s.o1:Int)::Value.int .i64 (s.o2:Int)::Value.int .i64 (s.o3:Int)::Value.int .u64 (s.g0:Int)::Value.int .u64 (s.g1:Int)::Value.int .u64 (s.g2:Int)::Value.int .u64 (s.g3:Int)::Value.int .i64 (s.cA:Int)::Value.bool s.second::Value.int .i64 s.found::Value.int .i64 (s.aQ.st:Int)::Value.int .i64 (s.aQ.gen:Int)::Value.int .i64 (s.aQ.tr:Int)::Value.int .i64 (s.aQ.sn:Int)::Value.int .i64 (s.end_:Int)::Value.bool s.done::[])*1)) rfl rfl rfl ?_
  repeat(first|refine aq ?_ |refine eD ?_)
  refine aI rfl rfl rfl rfl rfl (Spec.aV g (fC g cs s.o1 (by omega) (by omega))) (fun _=>ad) ?_
  intro _
  repeat(first|refine aq ?_ |refine eD ?_)
  repeat first|refine aa ?_ |intro
  refine aL 9 (Obj q 267 (Value.int .i64 (s.kind:Int)::Value.int .i64 (s.f1:Int)::Value.int .u32 (s.f2:Int)::Value.int .u16 (s.f3:Int)::Value.int .i64 s.id::Value.int .i64 (s.a:Int)::Value.int .i64 (s.b:Int)::Value.int .i64 (s.next:Int)::Value.int .u64 (s.first:Int)::Value.int .u64 (s.word:Int)::Value.int .i64 (s.at_:Int)::Value.bool s.half::Value.int .i64 (s.seen.st:Int)::Value.int .i64 (s.seen.gen:Int)::Value.int .i64 (s.seen.tr:Int)::Value.int .i64 (s.seen.sn:Int)::Value.int .u64 (s.still:Int)::Value.int .i64 (s.m.phase:Int)::Value.int .i64 (s.m.id:Int)::Value.int .i64 (s.m.fr:Int)::Value.int .i64 (s.m.to:Int)::Value.int .i64 (s.m.version:Int)::Value.int .i64 (s.m.aS:Int)::Value.int .i64 ((1:Nat):Int)::Value.int .i64 (s.u:Int)::Value.int .i64 (s.o0:Int)::Value.int .i64 (s.o1:Int)::Value.int .i64 (s.o2:Int)::Value.int .i64 (s.o3:Int)::Value.int .u64 (s.g0:Int)::Value.int .u64 (s.g1:Int)::Value.int .u64 (s.g2:Int)::Value.int .u64 (s.g3:Int)::Value.int .i64 (s.cA:Int)::Value.bool s.second::Value.int .i64 s.found::Value.int .i64 (s.aQ.st:Int)::Value.int .i64 (s.aQ.gen:Int)::Value.int .i64 (s.aQ.tr:Int)::Value.int .i64 (s.aQ.sn:Int)::Value.int .i64 (s.end_:Int)::Value.bool s.done::[])*1) rfl rfl rfl ?_
  repeat(first|refine aq ?_ |refine eD ?_)
  repeat(first|refine bQ ?_ |(refine bU ?_;intro)|refine bR ?_ |refine bS ?_ |refine bT ?_ |refine eD ?_)
  repeat first|refine aa ?_ |intro
  refine ag rfl (uv jM) ?_
  intro _
  cases qi:cZ (cs.getD s.o1 0)with
  |false=>
   rw[if_pos rfl]
   repeat first|refine aa ?_ |intro
   refine aL 24 (Obj q 267 (Value.int .i64 (s.kind:Int)::Value.int .i64 (s.f1:Int)::Value.int .u32 (s.f2:Int)::Value.int .u16 (s.f3:Int)::Value.int .i64 s.id::Value.int .i64 (s.a:Int)::Value.int .i64 (s.b:Int)::Value.int .i64 (s.next:Int)::Value.int .u64 (s.first:Int)::Value.int .u64 (s.word:Int)::Value.int .i64 (s.at_:Int)::Value.bool s.half::Value.int .i64 (s.seen.st:Int)::Value.int .i64 (s.seen.gen:Int)::Value.int .i64 (s.seen.tr:Int)::Value.int .i64 (s.seen.sn:Int)::Value.int .u64 (s.still:Int)::Value.int .i64 (s.m.phase:Int)::Value.int .i64 (s.m.id:Int)::Value.int .i64 (s.m.fr:Int)::Value.int .i64 (s.m.to:Int)::Value.int .i64 (s.m.version:Int)::Value.int .i64 (s.m.aS:Int)::Value.int .i64 ((1:Nat):Int)::Value.int .i64 (s.u:Int)::Value.int .i64 (s.o0:Int)::Value.int .i64 (s.o1:Int)::Value.int .i64 (s.o2:Int)::Value.int .i64 (s.o3:Int)::Value.int .u64 (s.g0:Int)::Value.int .u64 (cs.getD s.o1 0:Int)::Value.int .u64 (s.g2:Int)::Value.int .u64 (s.g3:Int)::Value.int .i64 (s.cA:Int)::Value.bool s.second::Value.int .i64 s.found::Value.int .i64 (s.aQ.st:Int)::Value.int .i64 (s.aQ.gen:Int)::Value.int .i64 (s.aQ.tr:Int)::Value.int .i64 (s.aQ.sn:Int)::Value.int .i64 (s.end_:Int)::Value.bool s.done::[])*1) rfl rfl rfl ?_
   repeat(first|refine aq ?_ |refine eD ?_)
   refine aI rfl rfl rfl rfl rfl (iJ (i:=1) lY (by decide)) (fun _=>ad) ?_
   intro _
   repeat(first|refine aq ?_ |refine eD ?_)
   refine kh rfl rfl rfl rfl (Spec.aV q (Spec.pre (rB (q:=q) (s:={s with v:=1,g1:=cs.getD s.o1 0}) (lX 1 (by decide)) jM cJ) (ay.bX (by rfl) (U.refl _)))) ?_
   intro _
   repeat(first|refine aq ?_ |refine eD ?_)
   repeat first|refine aa ?_ |intro
   exact ae (dB rfl () rfl (U.sat (U.cons (U.trans (ad) (aK.shut (g:=g))))))
  |true=>
   rw[if_neg (by decide)]
   repeat first|refine aa ?_ |intro
   exact aN (aO rfl () rfl (U.sat (ay.du (by rfl) (U.trans (ad) (aK.shut (g:=g))))))
 ·have jP:=h.c7 2 (by decide)
  have eo:s.c7 2=s.o2:=rfl
  rw[eo]at jP
  have jM:=hc.w s.o2
  have es:cx pl n cs s=(cs,if cZ (cs.getD s.o2 0)=false then lT {s with g2:=cs.getD s.o2 0} (bM s.first 2) s.a s.o2 (cs.getD s.o2 0)
    else {s with g2:=cs.getD s.o2 0,v:=3,next:=8}):=by
   unfold cx
   rw[if_neg (by omega),if_neg (by omega),if_neg (by omega),if_pos e,(Ax s _).2.2.1 ((by rw[ev]):s.v=2),(nM s).2.2.1 ev,ev]
   rfl
  rw[es]
  rw[ev]
  repeat first|refine aa ?_ |intro
  refine aL 99 (dq p pp g n*(Obj q 267 (Value.int .i64 (s.kind:Int)::Value.int .i64 (s.f1:Int)::Value.int .u32 (s.f2:Int)::Value.int .u16 (s.f3:Int)::Value.int .i64 s.id::Value.int .i64 (s.a:Int)::Value.int .i64 (s.b:Int)::Value.int .i64 (s.next:Int)::Value.int .u64 (s.first:Int)::Value.int .u64 (s.word:Int)::Value.int .i64 (s.at_:Int)::Value.bool s.half::Value.int .i64 (s.seen.st:Int)::Value.int .i64 (s.seen.gen:Int)::Value.int .i64 (s.seen.tr:Int)::Value.int .i64 (s.seen.sn:Int)::Value.int .u64 (s.still:Int)::Value.int .i64 (s.m.phase:Int)::Value.int .i64 (s.m.id:Int)::Value.int .i64 (s.m.fr:Int)::Value.int .i64 (s.m.to:Int)::Value.int .i64 (s.m.version:Int)::Value.int .i64 (s.m.aS:Int)::Value.int .i64 ((2:Nat):Int)::Value.int .i64 (s.u:Int)::Value.int .i64 (s.o0:Int)::Value.int .i64 (s.o1:Int)::Value.int .i64 (s.o2:Int)::Value.int .i64 (s.o3:Int)::Value.int .u64 (s.g0:Int)::Value.int .u64 (s.g1:Int)::Value.int .u64 (s.g2:Int)::Value.int .u64 (s.g3:Int)::Value.int .i64 (s.cA:Int)::Value.bool s.second::Value.int .i64 s.found::Value.int .i64 (s.aQ.st:Int)::Value.int .i64 (s.aQ.gen:Int)::Value.int .i64 (s.aQ.tr:Int)::Value.int .i64 (s.aQ.sn:Int)::Value.int .i64 (s.end_:Int)::Value.bool s.done::[])*1)) rfl rfl rfl ?_
  repeat(first|refine aq ?_ |refine eD ?_)
  refine aI rfl rfl rfl rfl rfl (Spec.aV g (fC g cs s.o2 (by omega) (by omega))) (fun _=>ad) ?_
  intro _
  repeat(first|refine aq ?_ |refine eD ?_)
  repeat first|refine aa ?_ |intro
  refine aL 9 (Obj q 267 (Value.int .i64 (s.kind:Int)::Value.int .i64 (s.f1:Int)::Value.int .u32 (s.f2:Int)::Value.int .u16 (s.f3:Int)::Value.int .i64 s.id::Value.int .i64 (s.a:Int)::Value.int .i64 (s.b:Int)::Value.int .i64 (s.next:Int)::Value.int .u64 (s.first:Int)::Value.int .u64 (s.word:Int)::Value.int .i64 (s.at_:Int)::Value.bool s.half::Value.int .i64 (s.seen.st:Int)::Value.int .i64 (s.seen.gen:Int)::Value.int .i64 (s.seen.tr:Int)::Value.int .i64 (s.seen.sn:Int)::Value.int .u64 (s.still:Int)::Value.int .i64 (s.m.phase:Int)::Value.int .i64 (s.m.id:Int)::Value.int .i64 (s.m.fr:Int)::Value.int .i64 (s.m.to:Int)::Value.int .i64 (s.m.version:Int)::Value.int .i64 (s.m.aS:Int)::Value.int .i64 ((2:Nat):Int)::Value.int .i64 (s.u:Int)::Value.int .i64 (s.o0:Int)::Value.int .i64 (s.o1:Int)::Value.int .i64 (s.o2:Int)::Value.int .i64 (s.o3:Int)::Value.int .u64 (s.g0:Int)::Value.int .u64 (s.g1:Int)::Value.int .u64 (s.g2:Int)::Value.int .u64 (s.g3:Int)::Value.int .i64 (s.cA:Int)::Value.bool s.second::Value.int .i64 s.found::Value.int .i64 (s.aQ.st:Int)::Value.int .i64 (s.aQ.gen:Int)::Value.int .i64 (s.aQ.tr:Int)::Value.int .i64 (s.aQ.sn:Int)::Value.int .i64 (s.end_:Int)::Value.bool s.done::[])*1) rfl rfl rfl ?_
  repeat(first|refine aq ?_ |refine eD ?_)
  repeat(first|refine bQ ?_ |(refine bU ?_;intro)|refine bR ?_ |refine bS ?_ |refine bT ?_ |refine eD ?_)
  repeat first|refine aa ?_ |intro
  refine ag rfl (uv jM) ?_
  intro _
  cases qi:cZ (cs.getD s.o2 0)with
  |false=>
   rw[if_pos rfl]
   repeat first|refine aa ?_ |intro
   refine aL 24 (Obj q 267 (Value.int .i64 (s.kind:Int)::Value.int .i64 (s.f1:Int)::Value.int .u32 (s.f2:Int)::Value.int .u16 (s.f3:Int)::Value.int .i64 s.id::Value.int .i64 (s.a:Int)::Value.int .i64 (s.b:Int)::Value.int .i64 (s.next:Int)::Value.int .u64 (s.first:Int)::Value.int .u64 (s.word:Int)::Value.int .i64 (s.at_:Int)::Value.bool s.half::Value.int .i64 (s.seen.st:Int)::Value.int .i64 (s.seen.gen:Int)::Value.int .i64 (s.seen.tr:Int)::Value.int .i64 (s.seen.sn:Int)::Value.int .u64 (s.still:Int)::Value.int .i64 (s.m.phase:Int)::Value.int .i64 (s.m.id:Int)::Value.int .i64 (s.m.fr:Int)::Value.int .i64 (s.m.to:Int)::Value.int .i64 (s.m.version:Int)::Value.int .i64 (s.m.aS:Int)::Value.int .i64 ((2:Nat):Int)::Value.int .i64 (s.u:Int)::Value.int .i64 (s.o0:Int)::Value.int .i64 (s.o1:Int)::Value.int .i64 (s.o2:Int)::Value.int .i64 (s.o3:Int)::Value.int .u64 (s.g0:Int)::Value.int .u64 (s.g1:Int)::Value.int .u64 (cs.getD s.o2 0:Int)::Value.int .u64 (s.g3:Int)::Value.int .i64 (s.cA:Int)::Value.bool s.second::Value.int .i64 s.found::Value.int .i64 (s.aQ.st:Int)::Value.int .i64 (s.aQ.gen:Int)::Value.int .i64 (s.aQ.tr:Int)::Value.int .i64 (s.aQ.sn:Int)::Value.int .i64 (s.end_:Int)::Value.bool s.done::[])*1) rfl rfl rfl ?_
   repeat(first|refine aq ?_ |refine eD ?_)
   refine aI rfl rfl rfl rfl rfl (iJ (i:=2) lY (by decide)) (fun _=>ad) ?_
   intro _
   repeat(first|refine aq ?_ |refine eD ?_)
   refine kh rfl rfl rfl rfl (Spec.aV q (Spec.pre (rB (q:=q) (s:={s with v:=2,g2:=cs.getD s.o2 0}) (lX 2 (by decide)) jM cJ) (ay.bX (by rfl) (U.refl _)))) ?_
   intro _
   repeat(first|refine aq ?_ |refine eD ?_)
   repeat first|refine aa ?_ |intro
   exact ae (dB rfl () rfl (U.sat (U.cons (U.trans (ad) (aK.shut (g:=g))))))
  |true=>
   rw[if_neg (by decide)]
   repeat first|refine aa ?_ |intro
   exact aN (aO rfl () rfl (U.sat (ay.du (by rfl) (U.trans (ad) (aK.shut (g:=g))))))
 ·have jP:=h.c7 3 (by decide)
  have eo:s.c7 3=s.o3:=rfl
  rw[eo]at jP
  have jM:=hc.w s.o3
  have es:cx pl n cs s=(cs,if cZ (cs.getD s.o3 0)=false then lT {s with g3:=cs.getD s.o3 0} (bM s.first 3) s.a s.o3 (cs.getD s.o3 0)
    else {s with g3:=cs.getD s.o3 0,v:=0,next:=10}):=by
   unfold cx
   rw[if_neg (by omega),if_neg (by omega),if_neg (by omega),if_pos e,(Ax s _).2.2.2 ((by rw[ev]):s.v=3),(nM s).2.2.2 ev,ev]
   rfl
  rw[es]
  rw[ev]
  repeat first|refine aa ?_ |intro
  refine aL 99 (dq p pp g n*(Obj q 267 (Value.int .i64 (s.kind:Int)::Value.int .i64 (s.f1:Int)::Value.int .u32 (s.f2:Int)::Value.int .u16 (s.f3:Int)::Value.int .i64 s.id::Value.int .i64 (s.a:Int)::Value.int .i64 (s.b:Int)::Value.int .i64 (s.next:Int)::Value.int .u64 (s.first:Int)::Value.int .u64 (s.word:Int)::Value.int .i64 (s.at_:Int)::Value.bool s.half::Value.int .i64 (s.seen.st:Int)::Value.int .i64 (s.seen.gen:Int)::Value.int .i64 (s.seen.tr:Int)::Value.int .i64 (s.seen.sn:Int)::Value.int .u64 (s.still:Int)::Value.int .i64 (s.m.phase:Int)::Value.int .i64 (s.m.id:Int)::Value.int .i64 (s.m.fr:Int)::Value.int .i64 (s.m.to:Int)::Value.int .i64 (s.m.version:Int)::Value.int .i64 (s.m.aS:Int)::Value.int .i64 ((3:Nat):Int)::Value.int .i64 (s.u:Int)::Value.int .i64 (s.o0:Int)::Value.int .i64 (s.o1:Int)::Value.int .i64 (s.o2:Int)::Value.int .i64 (s.o3:Int)::Value.int .u64 (s.g0:Int)::Value.int .u64 (s.g1:Int)::Value.int .u64 (s.g2:Int)::Value.int .u64 (s.g3:Int)::Value.int .i64 (s.cA:Int)::Value.bool s.second::Value.int .i64 s.found::Value.int .i64 (s.aQ.st:Int)::Value.int .i64 (s.aQ.gen:Int)::Value.int .i64 (s.aQ.tr:Int)::Value.int .i64 (s.aQ.sn:Int)::Value.int .i64 (s.end_:Int)::Value.bool s.done::[])*1)) rfl rfl rfl ?_
  repeat(first|refine aq ?_ |refine eD ?_)
  refine aI rfl rfl rfl rfl rfl (Spec.aV g (fC g cs s.o3 (by omega) (by omega))) (fun _=>ad) ?_
  intro _
  repeat(first|refine aq ?_ |refine eD ?_)
  repeat first|refine aa ?_ |intro
  refine aL 9 (Obj q 267 (Value.int .i64 (s.kind:Int)::Value.int .i64 (s.f1:Int)::Value.int .u32 (s.f2:Int)::Value.int .u16 (s.f3:Int)::Value.int .i64 s.id::Value.int .i64 (s.a:Int)::Value.int .i64 (s.b:Int)::Value.int .i64 (s.next:Int)::Value.int .u64 (s.first:Int)::Value.int .u64 (s.word:Int)::Value.int .i64 (s.at_:Int)::Value.bool s.half::Value.int .i64 (s.seen.st:Int)::Value.int .i64 (s.seen.gen:Int)::Value.int .i64 (s.seen.tr:Int)::Value.int .i64 (s.seen.sn:Int)::Value.int .u64 (s.still:Int)::Value.int .i64 (s.m.phase:Int)::Value.int .i64 (s.m.id:Int)::Value.int .i64 (s.m.fr:Int)::Value.int .i64 (s.m.to:Int)::Value.int .i64 (s.m.version:Int)::Value.int .i64 (s.m.aS:Int)::Value.int .i64 ((3:Nat):Int)::Value.int .i64 (s.u:Int)::Value.int .i64 (s.o0:Int)::Value.int .i64 (s.o1:Int)::Value.int .i64 (s.o2:Int)::Value.int .i64 (s.o3:Int)::Value.int .u64 (s.g0:Int)::Value.int .u64 (s.g1:Int)::Value.int .u64 (s.g2:Int)::Value.int .u64 (s.g3:Int)::Value.int .i64 (s.cA:Int)::Value.bool s.second::Value.int .i64 s.found::Value.int .i64 (s.aQ.st:Int)::Value.int .i64 (s.aQ.gen:Int)::Value.int .i64 (s.aQ.tr:Int)::Value.int .i64 (s.aQ.sn:Int)::Value.int .i64 (s.end_:Int)::Value.bool s.done::[])*1) rfl rfl rfl ?_
  repeat(first|refine aq ?_ |refine eD ?_)
  repeat(first|refine bQ ?_ |(refine bU ?_;intro)|refine bR ?_ |refine bS ?_ |refine bT ?_ |refine eD ?_)
  repeat first|refine aa ?_ |intro
  refine ag rfl (uv jM) ?_
  intro _
  cases qi:cZ (cs.getD s.o3 0)with
  |false=>
   rw[if_pos rfl]
   repeat first|refine aa ?_ |intro
   refine aL 24 (Obj q 267 (Value.int .i64 (s.kind:Int)::Value.int .i64 (s.f1:Int)::Value.int .u32 (s.f2:Int)::Value.int .u16 (s.f3:Int)::Value.int .i64 s.id::Value.int .i64 (s.a:Int)::Value.int .i64 (s.b:Int)::Value.int .i64 (s.next:Int)::Value.int .u64 (s.first:Int)::Value.int .u64 (s.word:Int)::Value.int .i64 (s.at_:Int)::Value.bool s.half::Value.int .i64 (s.seen.st:Int)::Value.int .i64 (s.seen.gen:Int)::Value.int .i64 (s.seen.tr:Int)::Value.int .i64 (s.seen.sn:Int)::Value.int .u64 (s.still:Int)::Value.int .i64 (s.m.phase:Int)::Value.int .i64 (s.m.id:Int)::Value.int .i64 (s.m.fr:Int)::Value.int .i64 (s.m.to:Int)::Value.int .i64 (s.m.version:Int)::Value.int .i64 (s.m.aS:Int)::Value.int .i64 ((3:Nat):Int)::Value.int .i64 (s.u:Int)::Value.int .i64 (s.o0:Int)::Value.int .i64 (s.o1:Int)::Value.int .i64 (s.o2:Int)::Value.int .i64 (s.o3:Int)::Value.int .u64 (s.g0:Int)::Value.int .u64 (s.g1:Int)::Value.int .u64 (s.g2:Int)::Value.int .u64 (cs.getD s.o3 0:Int)::Value.int .i64 (s.cA:Int)::Value.bool s.second::Value.int .i64 s.found::Value.int .i64 (s.aQ.st:Int)::Value.int .i64 (s.aQ.gen:Int)::Value.int .i64 (s.aQ.tr:Int)::Value.int .i64 (s.aQ.sn:Int)::Value.int .i64 (s.end_:Int)::Value.bool s.done::[])*1) rfl rfl rfl ?_
   repeat(first|refine aq ?_ |refine eD ?_)
   refine aI rfl rfl rfl rfl rfl (iJ (i:=3) lY (by decide)) (fun _=>ad) ?_
   intro _
   repeat(first|refine aq ?_ |refine eD ?_)
   refine kh rfl rfl rfl rfl (Spec.aV q (Spec.pre (rB (q:=q) (s:={s with v:=3,g3:=cs.getD s.o3 0}) (lX 3 (by decide)) jM cJ) (ay.bX (by rfl) (U.refl _)))) ?_
   intro _
   repeat(first|refine aq ?_ |refine eD ?_)
   repeat first|refine aa ?_ |intro
   exact ae (dB rfl () rfl (U.sat (U.cons (U.trans (ad) (aK.shut (g:=g))))))
  |true=>
   rw[if_neg (by decide)]
   repeat first|refine aa ?_ |intro
   exact aN (aO rfl () rfl (U.sat (ay.du (by rfl) (U.trans (ad) (aK.shut (g:=g))))))
end
end Go.Proofs.YtakbmjoijcpdmaaGreatDoor
