/-
  Joined by a program (wip/bundle2.py).
-/
import Derived.Test.YtimekbpkejemoaaGreatDoorG5
import Derived.Test.YtimekbpkejemoaaGreatDoorG8
set_option linter.unusedVariables false
set_option linter.unusedSimpArgs false
namespace Go.Proofs.YtimekbpkejemoaaGreatDoor
section
open Go.RowKit
set_option maxRecDepth 10000
attribute [local irreducible] EK EX ER EN EL ES EG av aV aY
variable {W:World} {F:SL} {X:Cx} {k:List KI} {σ:Env} {p pp g q:Option Addr} {ws cs pl:List Nat} {n np:Nat} {s:aR} {m:dG}
theorem au.cQ {H F' G:SL}{l:List Value}[r:bw H q (Obj q 327 l) F'](e:l=iL s)(k:U F' G):U H (au q s*G):=by
 rw[r.eq]
 exact au.bD e k
abbrev rO (m:dG):dG:=⟨m.phase+1,m.id,m.fr,m.to,m.version,m.aK⟩
def kg (cs:List Nat)(n:Nat)(s:aR):List Nat×aR:=
 if s.next=15 then(if cs.getD s.m.to 0=s.word then cs.set s.m.to (jm s.word (s.m.id:Int))else cs,{s with next:=13})
 else if s.next=18 then(if cs.getD s.m.fr 0=s.word then cs.set s.m.fr (kD s.word (s.m.id:Int))else cs,{s with next:=13})
 else if s.next=21 then(if cs.getD s.m.to 0=s.word then cs.set s.m.to (kD s.word (s.m.id:Int))else cs,{s with next:=13})
 else if s.next=16 then(if cs.getD n 0=iH s.m then cs.set n (iH (rO s.m))else cs,{s with next:=13})
 else if cs.getD n 0=iH s.m then(cs.set n (iH ⟨0,0,0,0,0,s.m.aK+1⟩),{s with next:=0})else(cs,{s with next:=13})
structure JW (n:Nat)(cs:List Nat)(s:aR):Prop where
 sP:cs.length=n+1
 n2:n≤1024
 next:s.next=15∨s.next=18∨s.next=21∨s.next=16∨s.next=22
 m:s.m.Ok
 ph:s.next=16→s.m.phase<3
 id:s.m.id<4095
 aK:s.m.aK<16384
 to:s.m.to<n
 fr:s.m.fr<n
 word:s.word<18446744073709551616
 free:s.next=15→cD s.word=false
 there:s.next=18∨s.next=21→0≤dC s.word (s.m.id:Int)
set_option maxHeartbeats 2000000 in
theorem Si (h:JW n cs s):Spec Tryz.prog 247 [.pointer p,.pointer q] W (au q s*(cP p pp g n*(bZ g cs*F))) (fun _:Unit=> .tuple #[])
  (fun _=>au q (kg cs n s).2*(cP p pp g n*(bZ g (kg cs n s).1*F))):=by
 refine Spec.of Tryz.func247 rfl Tryz.ntmps247 rfl ?_
 have jW:=h.sP
 have jC:=h.n2
 have iE:=h.to
 have df:=h.fr
 refine pV ?_
 refine mq (γ:=Option Addr) (fun _=>True) (fun x=>[(0,.pointer p),(1,.pointer q),(4,.pointer x),(5,.int .i64 (s.next:Int))]) (fun x=>Obj x 323 (fC s.m)*(au q s*(cP p pp g n*(bZ g cs*F)))) ?_ ?_
 ·refine au.open ?_
  repeat first|refine aa ?_ |intro
  refine aG 99 (Obj q 327 (dB s)*1) rfl rfl rfl ?_
  repeat(first|refine ak ?_ |refine eD ?_)
  repeat(first|refine bJ ?_ |(refine bN ?_;intro)|refine bK ?_ |refine bL ?_ |refine bM ?_ |refine eD ?_)
  rename_i x
  repeat first|refine aa ?_ |intro
  exact fv x trivial ⟨rfl,rfl,rfl,rfl,trivial⟩ (U.sat (U.cons (au.bD (by rfl) (ab))))
 intro x _
 obtain⟨t,ht⟩:∃t:aR,t={s with next:=13}:=⟨_,rfl⟩
 have qB:t.m.Ok:=by rw[ht];exact h.m
 have zX:t.m.aK<16384:=by rw[ht];exact h.aK
 have fe:t.word<18446744073709551616:=by rw[ht];exact h.word
 have YL:t.m.id<4095:=by rw[ht];exact h.id
 have YM:t.m.to<n:=by rw[ht];exact iE
 have YK:t.m.fr<n:=by rw[ht];exact df
 refine cy q (au.open ?_)
 refine pV ?_
 refine mq (γ:=Unit) (fun _=>True) (fun _=>[(0,.pointer p),(1,.pointer q),(4,.pointer x),(5,.int .i64 (s.next:Int))]) (fun _=>Obj q 327 (dB t)*(Obj x 323 (fC t.m)*(cP p pp g n*(bZ g cs*F)))) ?_ ?_
 ·repeat first|refine aa ?_ |intro
  exact fv () trivial ⟨rfl,rfl,rfl,rfl,trivial⟩ (U.sat (by rw[ht];exact ab))
 intro _ _
 rcases h.next with e|e|e|e|e
 ·
  have es:kg cs n s=(if cs.getD s.m.to 0=s.word then cs.set s.m.to (jm s.word (s.m.id:Int))else cs,{s with next:=13}):=by unfold kg;simp only[e];rfl
  rw[es,←ht]
  repeat first|refine aa ?_ |intro
  refine aG 99 (cP p pp g n*(Obj x 323 (fC t.m)*(Obj q 327 (dB t)*1))) rfl rfl rfl ?_
  repeat(first|refine ak ?_ |refine eD ?_)
  refine aC rfl rfl rfl rfl rfl (HH (id:=(t.m.id:Int)) fe (by omega) (by omega) (by rw[ht];exact h.free e)) (fun _=>ab) ?_
  intro _
  repeat(first|refine ak ?_ |refine eD ?_)
  refine aC rfl rfl rfl rfl rfl (Spec.aL g (kF g cs t.m.to t.word (jm t.word (t.m.id:Int)) (by omega) (by omega))) (fun _=>ab) ?_
  intro _
  repeat(first|refine ak ?_ |refine eD ?_)
  repeat first|refine aa ?_ |intro
  rw[show s.word=t.word by rw[ht],show s.m=t.m by rw[ht]]
  exact aH (aI rfl () rfl (U.sat (au.cQ (by rfl) (ab))))
 ·
  have es:kg cs n s=(if cs.getD s.m.fr 0=s.word then cs.set s.m.fr (kD s.word (s.m.id:Int))else cs,{s with next:=13}):=by unfold kg;simp only[e];rfl
  rw[es,←ht]
  repeat first|refine aa ?_ |intro
  refine aG 99 (cP p pp g n*(Obj x 323 (fC t.m)*(Obj q 327 (dB t)*1))) rfl rfl rfl ?_
  repeat(first|refine ak ?_ |refine eD ?_)
  refine aC rfl rfl rfl rfl rfl (w7 (id:=(t.m.id:Int)) fe (by rw[ht];exact h.there (.inl e))) (fun _=>ab) ?_
  intro _
  repeat(first|refine ak ?_ |refine eD ?_)
  refine aC rfl rfl rfl rfl rfl (Spec.aL g (kF g cs t.m.fr t.word (kD t.word (t.m.id:Int)) (by omega) (by omega))) (fun _=>ab) ?_
  intro _
  repeat(first|refine ak ?_ |refine eD ?_)
  repeat first|refine aa ?_ |intro
  rw[show s.word=t.word by rw[ht],show s.m=t.m by rw[ht]]
  exact aH (aI rfl () rfl (U.sat (au.cQ (by rfl) (ab))))
 ·
  have es:kg cs n s=(if cs.getD s.m.to 0=s.word then cs.set s.m.to (kD s.word (s.m.id:Int))else cs,{s with next:=13}):=by unfold kg;simp only[e];rfl
  rw[es,←ht]
  repeat first|refine aa ?_ |intro
  refine aG 99 (cP p pp g n*(Obj x 323 (fC t.m)*(Obj q 327 (dB t)*1))) rfl rfl rfl ?_
  repeat(first|refine ak ?_ |refine eD ?_)
  refine aC rfl rfl rfl rfl rfl (w7 (id:=(t.m.id:Int)) fe (by rw[ht];exact h.there (.inr e))) (fun _=>ab) ?_
  intro _
  repeat(first|refine ak ?_ |refine eD ?_)
  refine aC rfl rfl rfl rfl rfl (Spec.aL g (kF g cs t.m.to t.word (kD t.word (t.m.id:Int)) (by omega) (by omega))) (fun _=>ab) ?_
  intro _
  repeat(first|refine ak ?_ |refine eD ?_)
  repeat first|refine aa ?_ |intro
  rw[show s.word=t.word by rw[ht],show s.m=t.m by rw[ht]]
  exact aH (aI rfl () rfl (U.sat (au.cQ (by rfl) (ab))))
 ·
  have es:kg cs n s=(if cs.getD n 0=iH t.m then cs.set n (iH (rO t.m))else cs,t):=by unfold kg;simp only[e];rw[ht];rfl
  rw[es]
  have Ag:t.m.phase<3:=by rw[ht];exact h.ph e
  have NV:dG.Ok (rO t.m):=by rw[ht];exact⟨by have:=h.ph e;dsimp only;omega,h.m.id,h.m.fr,h.m.to,h.m.version,h.m.aK⟩
  repeat first|refine aa ?_ |intro
  rename_i y
  rw[show(t.m.phase:Int)+1=((t.m.phase+1:Nat):Int)by omega]
  refine aG 99 (cP p pp g n*(Obj x 323 (fC t.m)*(Obj y 323 (fC (rO t.m))*1))) rfl rfl rfl ?_
  repeat(first|refine ak ?_ |refine eD ?_)
  refine aC rfl rfl rfl rfl rfl (tP qB) (fun _=>ab) ?_
  intro _
  repeat(first|refine ak ?_ |refine eD ?_)
  refine aC rfl rfl rfl rfl rfl (tP (m:=(rO t.m)) NV) (fun _=>ab) ?_
  intro _
  repeat(first|refine ak ?_ |refine eD ?_)
  refine aC rfl rfl rfl rfl rfl (Spec.aL g (kF g cs n (iH t.m) (iH (rO t.m)) (by omega) (by omega))) (fun _=>ab) ?_
  intro _
  repeat(first|refine ak ?_ |refine eD ?_)
  repeat first|refine aa ?_ |intro
  exact aH (aI rfl () rfl (U.sat (au.cQ (by rfl) (ab))))
 ·
  have es:kg cs n s=if cs.getD n 0=iH t.m then(cs.set n (iH ⟨0,0,0,0,0,t.m.aK+1⟩),{t with next:=0})else(cs,t):=by unfold kg;simp only[e];rw[ht];rfl
  rw[es]
  repeat first|refine aa ?_ |intro
  refine aG 99 (cP p pp g n*(Obj x 323 (fC t.m)*1)) rfl rfl rfl ?_
  repeat(first|refine ak ?_ |refine eD ?_)
  refine aC rfl rfl rfl rfl rfl (tP qB) (fun _=>ab) ?_
  intro _
  repeat(first|refine ak ?_ |refine eD ?_)
  refine aC rfl rfl rfl rfl rfl (Qj zX) (fun _=>ab) ?_
  intro _
  repeat(first|refine ak ?_ |refine eD ?_)
  refine aC rfl rfl rfl rfl rfl (Spec.aL g (kF g cs n (iH t.m) (iH ⟨0,0,0,0,0,t.m.aK+1⟩) (by omega) (by omega))) (fun _=>ab) ?_
  intro _
  repeat(first|refine ak ?_ |refine eD ?_)
  by_cases hu:cs.getD n 0=iH t.m
  ·rw[if_pos hu,if_pos hu,decide_eq_true hu]
   repeat first|refine aa ?_ |intro
   exact aH (aI rfl () rfl (U.sat (au.bD (by rfl) (ab))))
  ·rw[if_neg hu,if_neg hu,decide_eq_false hu]
   repeat first|refine aa ?_ |intro
   refine aH (aI rfl () rfl (U.sat ?_))
   rw[show ∀A B C:SL,A*(B*C)=B*(A*C)from fun A B C=>by ac_rfl]
   exact au.bD (by rfl) (ab)
end
section
open Go.RowKit
set_option maxRecDepth 10000
attribute [local irreducible] EK EX ER EN EL ES EG av aV aY
variable {W:World} {F:SL} {X:Cx} {k:List KI} {σ:Env} {p pp g q:Option Addr} {ws cs pl:List Nat} {n np:Nat} {s:aR} {m:dG}
theorem Lk:kg cs n s=u0 n cs s:=rfl
theorem drop_eq:fV cs s=oV cs s:=rfl
theorem nk.tm (h:nk n np m)(hn:n≤1024)(cg:np≤3072):dG.Ok m:=⟨by have:=h.phase;omega,by have:=h.id;omega,by have:=h.fr;omega,by have:=h.to;omega,h.version,by have:=h.aK;omega⟩
set_option maxHeartbeats 4000000 in
theorem Nv (hc:cV n np cs)(hp:cp np pl)(h:ba n np s)(pb:13≤s.next)(zw:s.next≤22):Spec Tryz.prog 196 [.pointer p,.pointer q] W (au q s*(aF p pp n cs*(aJ pp pl*F))) (fun _:Unit=> .tuple #[])
  (fun _=>au q (fx pl n cs s).2*(aF p pp n (fx pl n cs s).1*(aJ pp pl*F))):=by
 refine Spec.of Tryz.func196 rfl Tryz.ntmps196 rfl ?_
 have jW:=hc.len
 have jC:=hc.n2
 have hX:=hc.hZ
 have hm:=h.m
 have vD:=hm.id
 have zX:=hm.to
 have NU:=hm.fr
 have mR:=hm.version
 have fy:=h.word
 have iE:=hc.w s.m.to
 have df:=hc.w s.m.fr
 refine cy p (aF.open fun g=> ?_)
 simp only[jR]
 refine pV ?_
 refine mq (γ:=Option Addr) (fun _=>True) (fun x=>[(0,.pointer p),(1,.pointer q),(4,.pointer x)]) (fun x=>Obj x 323 (fC s.m)*(au q s*(cP p pp g n*(bZ g cs*(aJ pp pl*F))))) ?_ ?_
 ·refine cy q (au.open ?_)
  repeat first|refine aa ?_ |intro
  rename_i x
  exact fv x trivial ⟨rfl,rfl,rfl,trivial⟩ (U.sat (U.cons (au.cQ (by rfl) (ab))))
 intro x _
 have hU:s.next=13∨s.next=14∨s.next=17∨s.next=19∨s.next=20∨(s.next=15∨s.next=18∨s.next=21∨s.next=16∨s.next=22):=by omega
 rcases hU with e|e|e|e|e|e
 ·have es:fx pl n cs s=(cs,zg cs n s):=by unfold fx;rw[if_pos e];rfl
  rw[es]
  refine cy q (au.open ?_)
  repeat first|refine aa ?_ |intro
  refine af rfl (Spec.pre (Mt jW jC hc.w (p:=p) (q:=q) (g:=g) (pp:=pp) (s:=s) (F:=Obj x 323 (fC s.m)*(aJ pp pl*F))) (au.cQ (by rfl) (ab))) ?_
  intro _
  repeat first|refine aa ?_ |intro
  exact aH (aI rfl () rfl (U.sat (U.cons (U.trans (ab) (aF.shut (g:=g))))))
 ·refine cy q (au.open ?_)
  repeat first|refine aa ?_ |intro
  refine aG 10 (cP p pp g n*(Obj x 323 (fC s.m)*(Obj q 327 (dB s)*1))) rfl rfl rfl ?_
  repeat(first|refine ak ?_ |refine eD ?_)
  refine aC rfl rfl rfl rfl rfl (Spec.aL g (eJ g cs s.m.to (by omega) (by omega))) (fun _=>ab) ?_
  intro _
  repeat(first|refine ak ?_ |refine eD ?_)
  repeat(first|refine bJ ?_ |(refine bN ?_;intro)|refine bK ?_ |refine bL ?_ |refine bM ?_ |refine eD ?_)
  obtain⟨t,ht⟩:∃t:aR,t={s with word:=cs.getD s.m.to 0}:=⟨_,rfl⟩
  have fe:t.word<18446744073709551616:=by rw[ht];exact iE
  refine iS (G:=Obj q 327 (dB t)*(Obj x 323 (fC s.m)*(cP p pp g n*(bZ g cs*(aJ pp pl*F))))) (by rw[ht];exact ab) ?_
  repeat first|refine aa ?_ |intro
  refine aG 99 (Obj x 323 (fC s.m)*(Obj q 327 (dB t)*1)) rfl rfl rfl ?_
  repeat(first|refine ak ?_ |refine eD ?_)
  refine aC rfl rfl rfl rfl rfl (qW (s.m.id:Int) fe) (fun _=>ab) ?_
  intro _
  by_cases hw:0≤dC t.word (s.m.id:Int)
  ·have es:fx pl n cs s=(cs,{t with next:=16}):=by
    rw[ht]at hw ⊢
    unfold fx;simp only[e];rw[if_pos hw];rfl
   rw[es]
   repeat(first|refine ak ?_ |refine eD ?_)
   repeat first|refine aa ?_ |intro
   exact aH (aI rfl () rfl (U.sat (au.cQ (by rfl) (U.trans (ab) (aF.shut (g:=g))))))
  ·repeat(first|refine ak ?_ |refine eD ?_)
   repeat first|refine aa ?_ |intro
   refine aG 99 (Obj x 323 (fC s.m)*(Obj q 327 (dB t)*1)) rfl rfl rfl ?_
   repeat(first|refine ak ?_ |refine eD ?_)
   refine aC rfl rfl rfl rfl rfl (Ht fe) (fun _=>ab) ?_
   intro _
   by_cases hv:t.word/281474976710656=s.m.version
   ·have es:fx pl n cs s=(cs,{t with next:=15}):=by
     rw[ht]at hw hv ⊢
     unfold fx;simp only[e];rw[if_neg hw,if_pos hv];rfl
    rw[es]
    repeat(first|refine ak ?_ |refine eD ?_)
    repeat first|refine aa ?_ |intro
    exact aH (aI rfl () rfl (U.sat (au.cQ (by rfl) (U.trans (ab) (aF.shut (g:=g))))))
   ·have es:fx pl n cs s=(cs,{t with next:=22}):=by
     rw[ht]at hw hv ⊢
     unfold fx;simp only[e];rw[if_neg hw,if_neg hv];rfl
    rw[es]
    repeat(first|refine ak ?_ |refine eD ?_)
    repeat first|refine aa ?_ |intro
    exact aH (aI rfl () rfl (U.sat (au.cQ (by rfl) (U.trans (ab) (aF.shut (g:=g))))))
 ·have es:fx pl n cs s=(cs,qR s (cs.getD s.m.fr 0) 18 16):=by unfold fx;simp only[e];rfl
  rw[es]
  refine cy q (au.open ?_)
  repeat first|refine aa ?_ |intro
  refine aG 8 (cP p pp g n*(Obj x 323 (fC s.m)*(Obj q 327 (dB s)*1))) rfl rfl rfl ?_
  repeat(first|refine ak ?_ |refine eD ?_)
  refine aC rfl rfl rfl rfl rfl (Spec.aL g (eJ g cs s.m.fr (by omega) (by omega))) (fun _=>ab) ?_
  intro _
  repeat(first|refine ak ?_ |refine eD ?_)
  refine jr rfl rfl rfl rfl (Spec.aL q (Spec.pre (Hb (q:=q) (s:=s) (yes:=18) (no:=16) (u:=cs.getD s.m.fr 0) df) (au.bD (by rfl) (U.refl _)))) ?_
  intro _
  repeat(first|refine ak ?_ |refine eD ?_)
  repeat first|refine aa ?_ |intro
  exact aH (aI rfl () rfl (U.sat (U.cons (U.trans (ab) (aF.shut (g:=g))))))
 ·refine cy q (au.open ?_)
  repeat first|refine aa ?_ |intro
  obtain⟨t,ht⟩:∃t:aR,t={s with next:=20}:=⟨_,rfl⟩
  have EJ:t.m=s.m:=by rw[ht]
  refine iS (G:=Obj q 327 (dB t)*(Obj x 323 (fC s.m)*(cP p pp g n*(bZ g cs*(aJ pp pl*F))))) (by rw[ht];exact ab) ?_
  refine mq (γ:=Option Addr) (fun _=>True) (fun y=>[(0,.pointer p),(1,.pointer q),(4,.pointer x),(5,.pointer y)]) (fun y=>Obj y 139 (wL (br.of (pl.getD (2*s.m.id) 0)) [])*(Obj q 327 (dB t)*(Obj x 323 (fC s.m)*(cP p pp g n*(bZ g cs*(aJ pp pl*F)))))) ?_ ?_
  ·repeat first|refine aa ?_ |intro
   refine aG 8 (cP p pp g n*(Obj x 323 (fC s.m)*1)) rfl rfl rfl ?_
   repeat(first|refine ak ?_ |refine eD ?_)
   refine oE (i:=6) (j:=7) (pS rfl rfl rfl rfl (Spec.aL pp (p8 hp.len hX vD hp.w)) (fun _=>ab) ?_) (pT rfl rfl (nm rfl) rfl (fun _=>ab) ?_)
   ·intro _
    repeat(first|refine bJ ?_ |(refine bN ?_;intro)|refine bK ?_ |refine bL ?_ |refine bM ?_ |refine eD ?_)
    rename_i y
    repeat first|refine aa ?_ |intro
    exact fv y trivial ⟨rfl,rfl,rfl,rfl,trivial⟩ (U.sat (ab))
   ·intro y
    refine aC rfl rfl rfl rfl rfl (Spec.aL pp (p8 hp.len hX vD hp.w)) (fun _=>ab) ?_
    intro _
    repeat(first|refine bJ ?_ |(refine bN ?_;intro)|refine bK ?_ |refine bL ?_ |refine bM ?_ |refine eD ?_)
    repeat first|refine aa ?_ |intro
    exact fv y trivial ⟨rfl,rfl,rfl,rfl,trivial⟩ (U.sat (ab))
  intro y _
  have es:fx pl n cs s=(cs,if(br.of (pl.getD (2*s.m.id) 0)).st=1∨(br.of (pl.getD (2*s.m.id) 0)).st=2 then {t with next:=22}else t):=by
   rw[ht]
   unfold fx
   rw[if_neg (by omega),if_neg (by omega),if_neg (by omega),if_pos e]
   split<;>rfl
  rw[es]
  generalize br.of (pl.getD (2*s.m.id) 0)=w at*
  by_cases w1:w.st=1
  ·repeat first|refine aa ?_ |intro
   rw[if_pos (.inl w1)]
   exact aH (aI rfl () rfl (U.sat (au.cQ (by rfl) (U.trans (ab) (aF.shut (g:=g))))))
  ·by_cases w2:w.st=2
   ·repeat first|refine aa ?_ |intro
    rw[if_pos (.inr w2)]
    exact aH (aI rfl () rfl (U.sat (au.cQ (by rfl) (U.trans (ab) (aF.shut (g:=g))))))
   ·repeat first|refine aa ?_ |intro
    rw[if_neg (fun e=>e.elim w1 w2)]
    exact aH (aI rfl () rfl (U.sat (au.cQ (by rfl) (U.trans (ab) (aF.shut (g:=g))))))
 ·have es:fx pl n cs s=(cs,qR s (cs.getD s.m.to 0) 21 22):=by unfold fx;simp only[e];rfl
  rw[es]
  refine cy q (au.open ?_)
  repeat first|refine aa ?_ |intro
  refine aG 8 (cP p pp g n*(Obj x 323 (fC s.m)*(Obj q 327 (dB s)*1))) rfl rfl rfl ?_
  repeat(first|refine ak ?_ |refine eD ?_)
  refine aC rfl rfl rfl rfl rfl (Spec.aL g (eJ g cs s.m.to (by omega) (by omega))) (fun _=>ab) ?_
  intro _
  repeat(first|refine ak ?_ |refine eD ?_)
  refine jr rfl rfl rfl rfl (Spec.aL q (Spec.pre (Hb (q:=q) (s:=s) (yes:=21) (no:=22) (u:=cs.getD s.m.to 0) iE) (au.bD (by rfl) (U.refl _)))) ?_
  intro _
  repeat(first|refine ak ?_ |refine eD ?_)
  repeat first|refine aa ?_ |intro
  exact aH (aI rfl () rfl (U.sat (U.cons (U.trans (ab) (aF.shut (g:=g))))))
 ·have es:fx pl n cs s=kg cs n s:=by rw[Lk];unfold fx;rw[if_neg (by omega),if_neg (by omega),if_neg (by omega),if_neg (by omega),if_neg (by omega)]
  rw[es]
  refine cy q (au.open ?_)
  rcases e with e|e|e|e|e
  all_goals
   repeat first|refine aa ?_ |intro
   refine af rfl (Spec.pre (Si (p:=p) (q:=q) (g:=g) (pp:=pp) (s:=s) (F:=Obj x 323 (fC s.m)*(aJ pp pl*F)) ⟨jW,jC,by omega,hm.tm jC hX,fun e=>h.ph (by omega) (by omega),by omega,hm.aK,zX,NU,fy,h.free,h.there⟩) (au.cQ (by rfl) (ab))) ?_
   intro _
   repeat first|refine aa ?_ |intro
   exact aH (aI rfl () rfl (U.sat (U.cons (U.trans (ab) (aF.shut (g:=g))))))
end
section
open Go.RowKit
set_option maxRecDepth 10000
attribute [local irreducible] EK EX ER EN EL ES EG av aV aY
variable {W:World} {F:SL} {X:Cx} {k:List KI} {σ:Env} {p pp g q:Option Addr} {ws cs pl:List Nat} {n np:Nat} {s:aR} {m:dG}
theorem o7 {id:Int}{fr to u:Nat}(h0:0≤id)(hu:u<18446744073709551616)(hs:s.still<18446744073709551616):Spec Tryz.prog 252 [.pointer q,.int .i64 id,.int .i64 (fr:Int),.int .i64 (to:Int),.int .u64 (u:Int)] W (au q s*F) (fun _:Unit=> .tuple #[]) (fun _=>au q (kj s id fr to u)*F):=by
 have h:=MZ (W:=W) (F:=F) (q:=q) (s:=s) (id:=id.toNat) (fr:=fr) (to:=to) hu hs
 rw[show((id.toNat:Nat):Int)=id by omega]at h
 exact h
theorem pA {id:Int}{bk:Nat}(hf:eK (n:Int)=true)(hp:cp np pl)(cg:np≤3072)(h0:0≤id)(h1:id<np):Spec Tryz.prog 249 [.pointer p,.int .i64 id,.int .i64 (bk:Int)] W (cP p pp g n*(aJ pp pl*F)) (fun _:Unit=> .int .i64 ((ib pl n id bk:Nat):Int)) (fun _=>cP p pp g n*(aJ pp pl*F)):=by
 have h:=QY (W:=W) (F:=F) (p:=p) (pp:=pp) (g:=g) (pl:=pl) (n:=n) (id:=id.toNat) (bk:=bk) hf hp.len cg (by omega) hp.w
 rw[show((id.toNat:Nat):Int)=id by omega]at h
 exact h
theorem wI (s:aR)(x:Nat):(s.v=0→s.gZ s.v x={s with o0:=x})∧(s.v=1→s.gZ s.v x={s with o1:=x})∧(s.v=2→s.gZ s.v x={s with o2:=x})∧(s.v=3→s.gZ s.v x={s with o3:=x}):=by
 unfold aR.gZ
 refine⟨fun e=> ?_,fun e=> ?_,fun e=> ?_,fun e=> ?_⟩<;>rw[e]<;>rfl
theorem wH (s:aR)(x:Nat):(s.v=0→s.ga s.v x={s with g0:=x})∧(s.v=1→s.ga s.v x={s with g1:=x})∧(s.v=2→s.ga s.v x={s with g2:=x})∧(s.v=3→s.ga s.v x={s with g3:=x}):=by
 unfold aR.ga
 refine⟨fun e=> ?_,fun e=> ?_,fun e=> ?_,fun e=> ?_⟩<;>rw[e]<;>rfl
theorem lB (s:aR):(s.v=0→s.cF s.v=s.o0)∧(s.v=1→s.cF s.v=s.o1)∧(s.v=2→s.cF s.v=s.o2)∧(s.v=3→s.cF s.v=s.o3):=by
 unfold aR.cF
 refine⟨fun e=> ?_,fun e=> ?_,fun e=> ?_,fun e=> ?_⟩<;>rw[e]<;>rfl
theorem o6 (s:aR):(s.v=0→s.dn s.v=s.g0)∧(s.v=1→s.dn s.v=s.g1)∧(s.v=2→s.dn s.v=s.g2)∧(s.v=3→s.dn s.v=s.g3):=by
 unfold aR.dn
 refine⟨fun e=> ?_,fun e=> ?_,fun e=> ?_,fun e=> ?_⟩<;>rw[e]<;>rfl
set_option maxHeartbeats 4000000 in
theorem Mu (hc:cV n np cs)(h:ba n np s)(hd:s.done=false)(e:s.next=11):Spec Tryz.prog 253 [.pointer p,.pointer q] W (au q s*(cP p pp g n*(bZ g cs*F))) (fun _:Unit=> .tuple #[])
  (fun _=>au q (bY pl n cs s).2*(cP p pp g n*(bZ g cs*F))):=by
 refine Spec.of Tryz.func253 rfl Tryz.ntmps253 rfl ?_
 have jW:=hc.len
 have jC:=hc.n2
 have Ym:=h.b0
 have hu:=hc.w s.b0
 have dS:=h.still
 obtain⟨hv,fL⟩:=h.vu hd
 have iC:=h.cF s.v hv
 obtain⟨gU,df⟩:=h.dn s.v hv
 have gS:=hR.1 (h.jT (.inr e) s.v hv) s.u fL
 refine cy q (au.open ?_)
 repeat first|refine aa ?_ |intro
 refine aG 99 (cP p pp g n*(Obj q 327 (dB s)*1)) rfl rfl rfl ?_
 repeat(first|refine ak ?_ |refine eD ?_)
 refine aC rfl rfl rfl rfl rfl (Spec.aL g (eJ g cs s.b0 (by omega) (by omega))) (fun _=>ab) ?_
 intro _
 repeat(first|refine ak ?_ |refine eD ?_)
 have es:bY pl n cs s=(cs,if cD (cs.getD s.b0 0)=false then kj s (bE (s.dn s.v) s.u) (s.cF s.v) s.b0 (cs.getD s.b0 0)
   else if s.u+1=4 then(if s.v+1=4 then hO {s with v:=4,u:=0,next:=10} 9 else {s with v:=s.v+1,u:=0,next:=10})
   else {s with u:=s.u+1,next:=10}):=by
  unfold bY
  rw[if_neg (by omega),if_neg (by omega),if_neg (by omega),if_neg (by omega),if_neg (by omega),if_pos e]
 rw[es]
 repeat first|refine aa ?_ |intro
 refine af rfl (rn hu) ?_
 intro _
 cases nJ:cD (cs.getD s.b0 0)with
 |false=>
  rw[if_pos rfl]
  rcases four hv with ev|ev|ev|ev
  ·rw[(o6 s).1 ev]at gU gS ⊢
   rw[(lB s).1 ev]at iC ⊢
   rw[ev]
   repeat first|refine aa ?_ |intro
   refine aG 29 (Obj q 327 (Value.int .i64 (s.kind:Int)::Value.int .i64 (s.f1:Int)::Value.int .u32 (s.f2:Int)::Value.int .u16 (s.f3:Int)::Value.int .i64 s.id::Value.int .i64 (s.a:Int)::Value.int .i64 (s.b:Int)::Value.int .i64 (s.next:Int)::Value.int .u64 (s.first:Int)::Value.int .u64 (s.word:Int)::Value.int .i64 (s.at_:Int)::Value.bool s.half::Value.int .i64 (s.seen.st:Int)::Value.int .i64 (s.seen.gen:Int)::Value.int .i64 (s.seen.tr:Int)::Value.int .i64 (s.seen.sn:Int)::Value.int .u64 (s.still:Int)::Value.int .i64 (s.m.phase:Int)::Value.int .i64 (s.m.id:Int)::Value.int .i64 (s.m.fr:Int)::Value.int .i64 (s.m.to:Int)::Value.int .i64 (s.m.version:Int)::Value.int .i64 (s.m.aK:Int)::Value.int .i64 ((0:Nat):Int)::Value.int .i64 (s.u:Int)::Value.int .i64 (s.o0:Int)::Value.int .i64 (s.o1:Int)::Value.int .i64 (s.o2:Int)::Value.int .i64 (s.o3:Int)::Value.int .u64 (s.g0:Int)::Value.int .u64 (s.g1:Int)::Value.int .u64 (s.g2:Int)::Value.int .u64 (s.g3:Int)::Value.int .i64 (s.b0:Int)::Value.bool s.second::Value.int .i64 s.found::Value.int .i64 (s.aM.st:Int)::Value.int .i64 (s.aM.gen:Int)::Value.int .i64 (s.aM.tr:Int)::Value.int .i64 (s.aM.sn:Int)::Value.int .i64 (s.end_:Int)::Value.bool s.done::[])*1) rfl rfl rfl ?_
   repeat(first|refine ak ?_ |refine eD ?_)
   refine aC rfl rfl rfl rfl rfl (gF gU fL) (fun _=>ab) ?_
   intro _
   repeat(first|refine ak ?_ |refine eD ?_)
   refine jr rfl rfl rfl rfl (Spec.aL q (Spec.pre (o7 (q:=q) (s:=s) gS hu dS) (au.bD (by unfold iL;rw[ev]) (U.refl _)))) ?_
   intro _
   repeat(first|refine ak ?_ |refine eD ?_)
   repeat first|refine aa ?_ |intro
   exact ae (cT rfl () rfl (U.sat (U.cons (ab))))
  ·rw[(o6 s).2.1 ev]at gU gS ⊢
   rw[(lB s).2.1 ev]at iC ⊢
   rw[ev]
   repeat first|refine aa ?_ |intro
   refine aG 29 (Obj q 327 (Value.int .i64 (s.kind:Int)::Value.int .i64 (s.f1:Int)::Value.int .u32 (s.f2:Int)::Value.int .u16 (s.f3:Int)::Value.int .i64 s.id::Value.int .i64 (s.a:Int)::Value.int .i64 (s.b:Int)::Value.int .i64 (s.next:Int)::Value.int .u64 (s.first:Int)::Value.int .u64 (s.word:Int)::Value.int .i64 (s.at_:Int)::Value.bool s.half::Value.int .i64 (s.seen.st:Int)::Value.int .i64 (s.seen.gen:Int)::Value.int .i64 (s.seen.tr:Int)::Value.int .i64 (s.seen.sn:Int)::Value.int .u64 (s.still:Int)::Value.int .i64 (s.m.phase:Int)::Value.int .i64 (s.m.id:Int)::Value.int .i64 (s.m.fr:Int)::Value.int .i64 (s.m.to:Int)::Value.int .i64 (s.m.version:Int)::Value.int .i64 (s.m.aK:Int)::Value.int .i64 ((1:Nat):Int)::Value.int .i64 (s.u:Int)::Value.int .i64 (s.o0:Int)::Value.int .i64 (s.o1:Int)::Value.int .i64 (s.o2:Int)::Value.int .i64 (s.o3:Int)::Value.int .u64 (s.g0:Int)::Value.int .u64 (s.g1:Int)::Value.int .u64 (s.g2:Int)::Value.int .u64 (s.g3:Int)::Value.int .i64 (s.b0:Int)::Value.bool s.second::Value.int .i64 s.found::Value.int .i64 (s.aM.st:Int)::Value.int .i64 (s.aM.gen:Int)::Value.int .i64 (s.aM.tr:Int)::Value.int .i64 (s.aM.sn:Int)::Value.int .i64 (s.end_:Int)::Value.bool s.done::[])*1) rfl rfl rfl ?_
   repeat(first|refine ak ?_ |refine eD ?_)
   refine aC rfl rfl rfl rfl rfl (gF gU fL) (fun _=>ab) ?_
   intro _
   repeat(first|refine ak ?_ |refine eD ?_)
   refine jr rfl rfl rfl rfl (Spec.aL q (Spec.pre (o7 (q:=q) (s:=s) gS hu dS) (au.bD (by unfold iL;rw[ev]) (U.refl _)))) ?_
   intro _
   repeat(first|refine ak ?_ |refine eD ?_)
   repeat first|refine aa ?_ |intro
   exact ae (cT rfl () rfl (U.sat (U.cons (ab))))
  ·rw[(o6 s).2.2.1 ev]at gU gS ⊢
   rw[(lB s).2.2.1 ev]at iC ⊢
   rw[ev]
   repeat first|refine aa ?_ |intro
   refine aG 29 (Obj q 327 (Value.int .i64 (s.kind:Int)::Value.int .i64 (s.f1:Int)::Value.int .u32 (s.f2:Int)::Value.int .u16 (s.f3:Int)::Value.int .i64 s.id::Value.int .i64 (s.a:Int)::Value.int .i64 (s.b:Int)::Value.int .i64 (s.next:Int)::Value.int .u64 (s.first:Int)::Value.int .u64 (s.word:Int)::Value.int .i64 (s.at_:Int)::Value.bool s.half::Value.int .i64 (s.seen.st:Int)::Value.int .i64 (s.seen.gen:Int)::Value.int .i64 (s.seen.tr:Int)::Value.int .i64 (s.seen.sn:Int)::Value.int .u64 (s.still:Int)::Value.int .i64 (s.m.phase:Int)::Value.int .i64 (s.m.id:Int)::Value.int .i64 (s.m.fr:Int)::Value.int .i64 (s.m.to:Int)::Value.int .i64 (s.m.version:Int)::Value.int .i64 (s.m.aK:Int)::Value.int .i64 ((2:Nat):Int)::Value.int .i64 (s.u:Int)::Value.int .i64 (s.o0:Int)::Value.int .i64 (s.o1:Int)::Value.int .i64 (s.o2:Int)::Value.int .i64 (s.o3:Int)::Value.int .u64 (s.g0:Int)::Value.int .u64 (s.g1:Int)::Value.int .u64 (s.g2:Int)::Value.int .u64 (s.g3:Int)::Value.int .i64 (s.b0:Int)::Value.bool s.second::Value.int .i64 s.found::Value.int .i64 (s.aM.st:Int)::Value.int .i64 (s.aM.gen:Int)::Value.int .i64 (s.aM.tr:Int)::Value.int .i64 (s.aM.sn:Int)::Value.int .i64 (s.end_:Int)::Value.bool s.done::[])*1) rfl rfl rfl ?_
   repeat(first|refine ak ?_ |refine eD ?_)
   refine aC rfl rfl rfl rfl rfl (gF gU fL) (fun _=>ab) ?_
   intro _
   repeat(first|refine ak ?_ |refine eD ?_)
   refine jr rfl rfl rfl rfl (Spec.aL q (Spec.pre (o7 (q:=q) (s:=s) gS hu dS) (au.bD (by unfold iL;rw[ev]) (U.refl _)))) ?_
   intro _
   repeat(first|refine ak ?_ |refine eD ?_)
   repeat first|refine aa ?_ |intro
   exact ae (cT rfl () rfl (U.sat (U.cons (ab))))
  ·rw[(o6 s).2.2.2 ev]at gU gS ⊢
   rw[(lB s).2.2.2 ev]at iC ⊢
   rw[ev]
   repeat first|refine aa ?_ |intro
   refine aG 29 (Obj q 327 (Value.int .i64 (s.kind:Int)::Value.int .i64 (s.f1:Int)::Value.int .u32 (s.f2:Int)::Value.int .u16 (s.f3:Int)::Value.int .i64 s.id::Value.int .i64 (s.a:Int)::Value.int .i64 (s.b:Int)::Value.int .i64 (s.next:Int)::Value.int .u64 (s.first:Int)::Value.int .u64 (s.word:Int)::Value.int .i64 (s.at_:Int)::Value.bool s.half::Value.int .i64 (s.seen.st:Int)::Value.int .i64 (s.seen.gen:Int)::Value.int .i64 (s.seen.tr:Int)::Value.int .i64 (s.seen.sn:Int)::Value.int .u64 (s.still:Int)::Value.int .i64 (s.m.phase:Int)::Value.int .i64 (s.m.id:Int)::Value.int .i64 (s.m.fr:Int)::Value.int .i64 (s.m.to:Int)::Value.int .i64 (s.m.version:Int)::Value.int .i64 (s.m.aK:Int)::Value.int .i64 ((3:Nat):Int)::Value.int .i64 (s.u:Int)::Value.int .i64 (s.o0:Int)::Value.int .i64 (s.o1:Int)::Value.int .i64 (s.o2:Int)::Value.int .i64 (s.o3:Int)::Value.int .u64 (s.g0:Int)::Value.int .u64 (s.g1:Int)::Value.int .u64 (s.g2:Int)::Value.int .u64 (s.g3:Int)::Value.int .i64 (s.b0:Int)::Value.bool s.second::Value.int .i64 s.found::Value.int .i64 (s.aM.st:Int)::Value.int .i64 (s.aM.gen:Int)::Value.int .i64 (s.aM.tr:Int)::Value.int .i64 (s.aM.sn:Int)::Value.int .i64 (s.end_:Int)::Value.bool s.done::[])*1) rfl rfl rfl ?_
   repeat(first|refine ak ?_ |refine eD ?_)
   refine aC rfl rfl rfl rfl rfl (gF gU fL) (fun _=>ab) ?_
   intro _
   repeat(first|refine ak ?_ |refine eD ?_)
   refine jr rfl rfl rfl rfl (Spec.aL q (Spec.pre (o7 (q:=q) (s:=s) gS hu dS) (au.bD (by unfold iL;rw[ev]) (U.refl _)))) ?_
   intro _
   repeat(first|refine ak ?_ |refine eD ?_)
   repeat first|refine aa ?_ |intro
   exact ae (cT rfl () rfl (U.sat (U.cons (ab))))
 |true=>
  rw[if_neg (by decide)]
  by_cases h4:s.u+1=4
  ·rw[if_pos h4]
   have eu:(s.u:Int)+1=4:=by omega
   by_cases h5:s.v+1=4
   ·rw[if_pos h5]
    repeat first|refine aa ?_ |intro
    have ev:(s.v:Int)+1=((4:Nat):Int):=by omega
    rw[ev]
    refine af rfl (Spec.pre (ql (p:=q) (e:=9) (s:={s with v:=4,u:=0,next:=10})) (au.bD (by rfl) (U.refl _))) ?_
    intro _
    repeat first|refine aa ?_ |intro
    exact aH (aI rfl () rfl (U.sat (U.cons (ab))))
   ·rw[if_neg h5]
    repeat first|refine aa ?_ |intro
    exact aH (aI rfl () rfl (U.sat (au.cQ (by unfold iL;dsimp only;rw[show(s.v:Int)+1=((s.v+1:Nat):Int)by omega];rfl) (ab))))
  ·rw[if_neg h4]
   repeat first|refine aa ?_ |intro
   exact aH (aI rfl () rfl (U.sat (au.cQ (by unfold iL;dsimp only;rw[show(s.u:Int)+1=((s.u+1:Nat):Int)by omega];rfl) (ab))))
end
section
open Go.RowKit
set_option maxRecDepth 10000
attribute [local irreducible] EK EX ER EN EL ES EG av aV aY
variable {W:World} {F:SL} {X:Cx} {k:List KI} {σ:Env} {p pp g q:Option Addr} {ws cs pl:List Nat} {n np:Nat} {s:aR} {m:dG}
set_option maxHeartbeats 2000000 in
theorem LR (hf:eK (n:Int)=true)(hc:cV n np cs)(hp:cp np pl)(h:ba n np s)(hd:s.done=false)(e:s.next=6):Spec Tryz.prog 197 [.pointer p,.pointer q] W (au q s*(aF p pp n cs*(aJ pp pl*F))) (fun _:Unit=> .tuple #[])
  (fun _=>au q (bY pl n cs s).2*(aF p pp n (bY pl n cs s).1*(aJ pp pl*F))):=by
 refine Spec.of Tryz.func197 rfl Tryz.ntmps197 rfl ?_
 have jW:=hc.len
 have jC:=hc.n2
 have hX:=hc.hZ
 have ha:=h.a
 have dS:=h.still
 have fz:=hc.w n
 have kn:=h.first
 have kU:=h.fD (by omega) (by omega)
 have km:=hR.1 kU
 obtain⟨hv,fL⟩:=h.vu hd
 refine cy p (aF.open fun g=> ?_)
 simp only[jR]
 refine cy q (au.open ?_)
 have es:bY pl n cs s=(cs,{s with still:=cs.getD n 0,m:=j0 (cs.getD n 0),next:=if(j0 (cs.getD n 0)).phase≠0 then 13 else 7}):=by unfold bY;rw[if_pos e];rfl
 rw[es]
 repeat first|refine aa ?_ |intro
 refine aG 99 (cP p pp g n*1) rfl rfl rfl ?_
 repeat(first|refine ak ?_ |refine eD ?_)
 refine aC rfl rfl rfl rfl rfl (Spec.aL g (eJ g cs n (by omega) (by omega))) (fun _=>ab) ?_
 intro _
 repeat(first|refine ak ?_ |refine eD ?_)
 repeat first|refine aa ?_ |intro
 refine af rfl (tQ fz) ?_
 intro _
 generalize j0 (cs.getD n 0)=m
 by_cases Ag:m.phase=0
 ·rw[if_neg (fun z=>z Ag)]
  repeat first|refine aa ?_ |intro
  exact aH (aI rfl () rfl (U.sat (au.cQ (by rfl) (U.trans (ab) (aF.shut (g:=g))))))
 ·rw[if_pos Ag]
  repeat first|refine aa ?_ |intro
  exact aH (aI rfl () rfl (U.sat (au.cQ (by rfl) (U.trans (ab) (aF.shut (g:=g))))))
set_option maxHeartbeats 2000000 in
theorem LS (hf:eK (n:Int)=true)(hc:cV n np cs)(hp:cp np pl)(h:ba n np s)(hd:s.done=false)(e:s.next=7):Spec Tryz.prog 197 [.pointer p,.pointer q] W (au q s*(aF p pp n cs*(aJ pp pl*F))) (fun _:Unit=> .tuple #[])
  (fun _=>au q (bY pl n cs s).2*(aF p pp n (bY pl n cs s).1*(aJ pp pl*F))):=by
 refine Spec.of Tryz.func197 rfl Tryz.ntmps197 rfl ?_
 have jW:=hc.len
 have jC:=hc.n2
 have hX:=hc.hZ
 have ha:=h.a
 have dS:=h.still
 have fz:=hc.w n
 have kn:=h.first
 have kU:=h.fD (by omega) (by omega)
 have km:=hR.1 kU
 obtain⟨hv,fL⟩:=h.vu hd
 refine cy p (aF.open fun g=> ?_)
 simp only[jR]
 refine cy q (au.open ?_)
 have es:bY pl n cs s=(cs,{s with v:=0,u:=0,next:=if cs.getD s.a 0≠s.first then 0 else 8}):=by unfold bY;rw[if_neg (by omega),if_pos e]
 rw[es]
 repeat first|refine aa ?_ |intro
 obtain⟨t,ht⟩:∃t:aR,t={s with v:=0,u:=0,next:=8}:=⟨_,rfl⟩
 have vM:t.a=s.a:=by rw[ht]
 have YJ:t.first=s.first:=by rw[ht]
 have ex:({s with v:=0,u:=0,next:=if cs.getD s.a 0≠s.first then 0 else 8}:aR)={t with next:=if cs.getD t.a 0≠t.first then 0 else 8}:=by rw[ht]
 rw[ex]
 refine iS (G:=Obj q 327 (dB t)*(cP p pp g n*(bZ g cs*(aJ pp pl*F)))) (by rw[ht];exact ab) ?_
 refine aG 99 (cP p pp g n*(Obj q 327 (dB t)*1)) rfl rfl rfl ?_
 repeat(first|refine ak ?_ |refine eD ?_)
 refine aC rfl rfl rfl rfl rfl (Spec.aL g (eJ g cs t.a (by omega) (by omega))) (fun _=>ab) ?_
 intro _
 have Mr:({t with next:=8}:aR)=t:=by rw[ht]
 by_cases hu:cs.getD t.a 0=t.first
 ·rw[if_neg (fun z=>z hu),Mr]
  repeat(first|refine ak ?_ |refine eD ?_)
  repeat first|refine aa ?_ |intro
  exact aH (aI rfl () rfl (U.sat (au.cQ (by rfl) (U.trans (ab) (aF.shut (g:=g))))))
 ·rw[if_pos hu]
  repeat(first|refine ak ?_ |refine eD ?_)
  repeat first|refine aa ?_ |intro
  exact aH (aI rfl () rfl (U.sat (au.cQ (by rfl) (U.trans (ab) (aF.shut (g:=g))))))
set_option maxHeartbeats 2000000 in
theorem LU (hf:eK (n:Int)=true)(hc:cV n np cs)(hp:cp np pl)(h:ba n np s)(hd:s.done=false)(e:s.next=8):Spec Tryz.prog 197 [.pointer p,.pointer q] W (au q s*(aF p pp n cs*(aJ pp pl*F))) (fun _:Unit=> .tuple #[])
  (fun _=>au q (bY pl n cs s).2*(aF p pp n (bY pl n cs s).1*(aJ pp pl*F))):=by
 refine Spec.of Tryz.func197 rfl Tryz.ntmps197 rfl ?_
 have jW:=hc.len
 have jC:=hc.n2
 have hX:=hc.hZ
 have ha:=h.a
 have dS:=h.still
 have fz:=hc.w n
 have kn:=h.first
 have kU:=h.fD (by omega) (by omega)
 have km:=hR.1 kU
 obtain⟨hv,fL⟩:=h.vu hd
 refine cy p (aF.open fun g=> ?_)
 simp only[jR]
 refine cy q (au.open ?_)
 rcases four hv with ev|ev|ev|ev
 ·have es:bY pl n cs s=(cs,{s with o0:=ib pl n (bE s.first 0) s.a,next:=9}):=by
   unfold bY
   rw[if_neg (by omega),if_neg (by omega),if_pos e,(wI s _).1 ev,ev]
  rw[es,ev]
  repeat first|refine aa ?_ |intro
  refine aG 23 (cP p pp g n*(Obj q 327 (Value.int .i64 (s.kind:Int)::Value.int .i64 (s.f1:Int)::Value.int .u32 (s.f2:Int)::Value.int .u16 (s.f3:Int)::Value.int .i64 s.id::Value.int .i64 (s.a:Int)::Value.int .i64 (s.b:Int)::Value.int .i64 (s.next:Int)::Value.int .u64 (s.first:Int)::Value.int .u64 (s.word:Int)::Value.int .i64 (s.at_:Int)::Value.bool s.half::Value.int .i64 (s.seen.st:Int)::Value.int .i64 (s.seen.gen:Int)::Value.int .i64 (s.seen.tr:Int)::Value.int .i64 (s.seen.sn:Int)::Value.int .u64 (s.still:Int)::Value.int .i64 (s.m.phase:Int)::Value.int .i64 (s.m.id:Int)::Value.int .i64 (s.m.fr:Int)::Value.int .i64 (s.m.to:Int)::Value.int .i64 (s.m.version:Int)::Value.int .i64 (s.m.aK:Int)::Value.int .i64 ((0:Nat):Int)::Value.int .i64 (s.u:Int)::Value.int .i64 (s.o0:Int)::Value.int .i64 (s.o1:Int)::Value.int .i64 (s.o2:Int)::Value.int .i64 (s.o3:Int)::Value.int .u64 (s.g0:Int)::Value.int .u64 (s.g1:Int)::Value.int .u64 (s.g2:Int)::Value.int .u64 (s.g3:Int)::Value.int .i64 (s.b0:Int)::Value.bool s.second::Value.int .i64 s.found::Value.int .i64 (s.aM.st:Int)::Value.int .i64 (s.aM.gen:Int)::Value.int .i64 (s.aM.tr:Int)::Value.int .i64 (s.aM.sn:Int)::Value.int .i64 (s.end_:Int)::Value.bool s.done::[])*1)) rfl rfl rfl ?_
  repeat(first|refine ak ?_ |refine eD ?_)
  refine aC rfl rfl rfl rfl rfl (gF (i:=0) kn (by decide)) (fun _=>ab) ?_
  intro _
  repeat(first|refine ak ?_ |refine eD ?_)
  refine aC rfl rfl rfl rfl rfl (Spec.eY p pp (pA hf hp hX (km 0 (by decide)) (h.pC 0 (by decide)))) (fun _=>ab) ?_
  intro _
  repeat(first|refine ak ?_ |refine eD ?_)
  repeat(first|refine bJ ?_ |(refine bN ?_;intro)|refine bK ?_ |refine bL ?_ |refine bM ?_ |refine eD ?_)
  repeat first|refine aa ?_ |intro
  exact aH (aI rfl () rfl (U.sat (au.cQ (by rfl) (U.trans (ab) (aF.shut (g:=g))))))
 ·have es:bY pl n cs s=(cs,{s with o1:=ib pl n (bE s.first 1) s.a,next:=9}):=by
   unfold bY
   rw[if_neg (by omega),if_neg (by omega),if_pos e,(wI s _).2.1 ev,ev]
  rw[es,ev]
  repeat first|refine aa ?_ |intro
  refine aG 23 (cP p pp g n*(Obj q 327 (Value.int .i64 (s.kind:Int)::Value.int .i64 (s.f1:Int)::Value.int .u32 (s.f2:Int)::Value.int .u16 (s.f3:Int)::Value.int .i64 s.id::Value.int .i64 (s.a:Int)::Value.int .i64 (s.b:Int)::Value.int .i64 (s.next:Int)::Value.int .u64 (s.first:Int)::Value.int .u64 (s.word:Int)::Value.int .i64 (s.at_:Int)::Value.bool s.half::Value.int .i64 (s.seen.st:Int)::Value.int .i64 (s.seen.gen:Int)::Value.int .i64 (s.seen.tr:Int)::Value.int .i64 (s.seen.sn:Int)::Value.int .u64 (s.still:Int)::Value.int .i64 (s.m.phase:Int)::Value.int .i64 (s.m.id:Int)::Value.int .i64 (s.m.fr:Int)::Value.int .i64 (s.m.to:Int)::Value.int .i64 (s.m.version:Int)::Value.int .i64 (s.m.aK:Int)::Value.int .i64 ((1:Nat):Int)::Value.int .i64 (s.u:Int)::Value.int .i64 (s.o0:Int)::Value.int .i64 (s.o1:Int)::Value.int .i64 (s.o2:Int)::Value.int .i64 (s.o3:Int)::Value.int .u64 (s.g0:Int)::Value.int .u64 (s.g1:Int)::Value.int .u64 (s.g2:Int)::Value.int .u64 (s.g3:Int)::Value.int .i64 (s.b0:Int)::Value.bool s.second::Value.int .i64 s.found::Value.int .i64 (s.aM.st:Int)::Value.int .i64 (s.aM.gen:Int)::Value.int .i64 (s.aM.tr:Int)::Value.int .i64 (s.aM.sn:Int)::Value.int .i64 (s.end_:Int)::Value.bool s.done::[])*1)) rfl rfl rfl ?_
  repeat(first|refine ak ?_ |refine eD ?_)
  refine aC rfl rfl rfl rfl rfl (gF (i:=1) kn (by decide)) (fun _=>ab) ?_
  intro _
  repeat(first|refine ak ?_ |refine eD ?_)
  refine aC rfl rfl rfl rfl rfl (Spec.eY p pp (pA hf hp hX (km 1 (by decide)) (h.pC 1 (by decide)))) (fun _=>ab) ?_
  intro _
  repeat(first|refine ak ?_ |refine eD ?_)
  repeat(first|refine bJ ?_ |(refine bN ?_;intro)|refine bK ?_ |refine bL ?_ |refine bM ?_ |refine eD ?_)
  repeat first|refine aa ?_ |intro
  exact aH (aI rfl () rfl (U.sat (au.cQ (by rfl) (U.trans (ab) (aF.shut (g:=g))))))
 ·have es:bY pl n cs s=(cs,{s with o2:=ib pl n (bE s.first 2) s.a,next:=9}):=by
   unfold bY
   rw[if_neg (by omega),if_neg (by omega),if_pos e,(wI s _).2.2.1 ev,ev]
  rw[es,ev]
  repeat first|refine aa ?_ |intro
  refine aG 23 (cP p pp g n*(Obj q 327 (Value.int .i64 (s.kind:Int)::Value.int .i64 (s.f1:Int)::Value.int .u32 (s.f2:Int)::Value.int .u16 (s.f3:Int)::Value.int .i64 s.id::Value.int .i64 (s.a:Int)::Value.int .i64 (s.b:Int)::Value.int .i64 (s.next:Int)::Value.int .u64 (s.first:Int)::Value.int .u64 (s.word:Int)::Value.int .i64 (s.at_:Int)::Value.bool s.half::Value.int .i64 (s.seen.st:Int)::Value.int .i64 (s.seen.gen:Int)::Value.int .i64 (s.seen.tr:Int)::Value.int .i64 (s.seen.sn:Int)::Value.int .u64 (s.still:Int)::Value.int .i64 (s.m.phase:Int)::Value.int .i64 (s.m.id:Int)::Value.int .i64 (s.m.fr:Int)::Value.int .i64 (s.m.to:Int)::Value.int .i64 (s.m.version:Int)::Value.int .i64 (s.m.aK:Int)::Value.int .i64 ((2:Nat):Int)::Value.int .i64 (s.u:Int)::Value.int .i64 (s.o0:Int)::Value.int .i64 (s.o1:Int)::Value.int .i64 (s.o2:Int)::Value.int .i64 (s.o3:Int)::Value.int .u64 (s.g0:Int)::Value.int .u64 (s.g1:Int)::Value.int .u64 (s.g2:Int)::Value.int .u64 (s.g3:Int)::Value.int .i64 (s.b0:Int)::Value.bool s.second::Value.int .i64 s.found::Value.int .i64 (s.aM.st:Int)::Value.int .i64 (s.aM.gen:Int)::Value.int .i64 (s.aM.tr:Int)::Value.int .i64 (s.aM.sn:Int)::Value.int .i64 (s.end_:Int)::Value.bool s.done::[])*1)) rfl rfl rfl ?_
  repeat(first|refine ak ?_ |refine eD ?_)
  refine aC rfl rfl rfl rfl rfl (gF (i:=2) kn (by decide)) (fun _=>ab) ?_
  intro _
  repeat(first|refine ak ?_ |refine eD ?_)
  refine aC rfl rfl rfl rfl rfl (Spec.eY p pp (pA hf hp hX (km 2 (by decide)) (h.pC 2 (by decide)))) (fun _=>ab) ?_
  intro _
  repeat(first|refine ak ?_ |refine eD ?_)
  repeat(first|refine bJ ?_ |(refine bN ?_;intro)|refine bK ?_ |refine bL ?_ |refine bM ?_ |refine eD ?_)
  repeat first|refine aa ?_ |intro
  exact aH (aI rfl () rfl (U.sat (au.cQ (by rfl) (U.trans (ab) (aF.shut (g:=g))))))
 ·have es:bY pl n cs s=(cs,{s with o3:=ib pl n (bE s.first 3) s.a,next:=9}):=by
   unfold bY
   rw[if_neg (by omega),if_neg (by omega),if_pos e,(wI s _).2.2.2 ev,ev]
  rw[es,ev]
  repeat first|refine aa ?_ |intro
  refine aG 23 (cP p pp g n*(Obj q 327 (Value.int .i64 (s.kind:Int)::Value.int .i64 (s.f1:Int)::Value.int .u32 (s.f2:Int)::Value.int .u16 (s.f3:Int)::Value.int .i64 s.id::Value.int .i64 (s.a:Int)::Value.int .i64 (s.b:Int)::Value.int .i64 (s.next:Int)::Value.int .u64 (s.first:Int)::Value.int .u64 (s.word:Int)::Value.int .i64 (s.at_:Int)::Value.bool s.half::Value.int .i64 (s.seen.st:Int)::Value.int .i64 (s.seen.gen:Int)::Value.int .i64 (s.seen.tr:Int)::Value.int .i64 (s.seen.sn:Int)::Value.int .u64 (s.still:Int)::Value.int .i64 (s.m.phase:Int)::Value.int .i64 (s.m.id:Int)::Value.int .i64 (s.m.fr:Int)::Value.int .i64 (s.m.to:Int)::Value.int .i64 (s.m.version:Int)::Value.int .i64 (s.m.aK:Int)::Value.int .i64 ((3:Nat):Int)::Value.int .i64 (s.u:Int)::Value.int .i64 (s.o0:Int)::Value.int .i64 (s.o1:Int)::Value.int .i64 (s.o2:Int)::Value.int .i64 (s.o3:Int)::Value.int .u64 (s.g0:Int)::Value.int .u64 (s.g1:Int)::Value.int .u64 (s.g2:Int)::Value.int .u64 (s.g3:Int)::Value.int .i64 (s.b0:Int)::Value.bool s.second::Value.int .i64 s.found::Value.int .i64 (s.aM.st:Int)::Value.int .i64 (s.aM.gen:Int)::Value.int .i64 (s.aM.tr:Int)::Value.int .i64 (s.aM.sn:Int)::Value.int .i64 (s.end_:Int)::Value.bool s.done::[])*1)) rfl rfl rfl ?_
  repeat(first|refine ak ?_ |refine eD ?_)
  refine aC rfl rfl rfl rfl rfl (gF (i:=3) kn (by decide)) (fun _=>ab) ?_
  intro _
  repeat(first|refine ak ?_ |refine eD ?_)
  refine aC rfl rfl rfl rfl rfl (Spec.eY p pp (pA hf hp hX (km 3 (by decide)) (h.pC 3 (by decide)))) (fun _=>ab) ?_
  intro _
  repeat(first|refine ak ?_ |refine eD ?_)
  repeat(first|refine bJ ?_ |(refine bN ?_;intro)|refine bK ?_ |refine bL ?_ |refine bM ?_ |refine eD ?_)
  repeat first|refine aa ?_ |intro
  exact aH (aI rfl () rfl (U.sat (au.cQ (by rfl) (U.trans (ab) (aF.shut (g:=g))))))
end
section
open Go.RowKit
set_option maxRecDepth 10000
attribute [local irreducible] EK EX ER EN EL ES EG av aV aY
variable {W:World} {F:SL} {X:Cx} {k:List KI} {σ:Env} {p pp g q:Option Addr} {ws cs pl:List Nat} {n np:Nat} {s:aR} {m:dG}
set_option maxHeartbeats 2000000 in
theorem LV (hf:eK (n:Int)=true)(hc:cV n np cs)(hp:cp np pl)(h:ba n np s)(hd:s.done=false)(e:s.next=9):Spec Tryz.prog 197 [.pointer p,.pointer q] W (au q s*(aF p pp n cs*(aJ pp pl*F))) (fun _:Unit=> .tuple #[])
  (fun _=>au q (bY pl n cs s).2*(aF p pp n (bY pl n cs s).1*(aJ pp pl*F))):=by
 refine Spec.of Tryz.func197 rfl Tryz.ntmps197 rfl ?_
 have jW:=hc.len
 have jC:=hc.n2
 have hX:=hc.hZ
 have ha:=h.a
 have dS:=h.still
 have fz:=hc.w n
 have kn:=h.first
 have kU:=h.fD (by omega) (by omega)
 have km:=hR.1 kU
 obtain⟨hv,fL⟩:=h.vu hd
 refine cy p (aF.open fun g=> ?_)
 simp only[jR]
 refine cy q (au.open ?_)
 rcases four hv with ev|ev|ev|ev
 ·have iC:=h.cF 0 (by decide)
  have eo:s.cF 0=s.o0:=rfl
  rw[eo]at iC
  have iy:=hc.w s.o0
  have es:bY pl n cs s=(cs,if cD (cs.getD s.o0 0)=false then kj {s with g0:=cs.getD s.o0 0} (bE s.first 0) s.a s.o0 (cs.getD s.o0 0)
    else {s with g0:=cs.getD s.o0 0,v:=1,next:=8}):=by
   unfold bY
   rw[if_neg (by omega),if_neg (by omega),if_neg (by omega),if_pos e,(wH s _).1 ((by rw[ev]):s.v=0),(lB s).1 ev,ev]
   rfl
  rw[es]
  rw[ev]
  repeat first|refine aa ?_ |intro
  refine aG 99 (cP p pp g n*(Obj q 327 (Value.int .i64 (s.kind:Int)::Value.int .i64 (s.f1:Int)::Value.int .u32 (s.f2:Int)::Value.int .u16 (s.f3:Int)::Value.int .i64 s.id::Value.int .i64 (s.a:Int)::Value.int .i64 (s.b:Int)::Value.int .i64 (s.next:Int)::Value.int .u64 (s.first:Int)::Value.int .u64 (s.word:Int)::Value.int .i64 (s.at_:Int)::Value.bool s.half::Value.int .i64 (s.seen.st:Int)::Value.int .i64 (s.seen.gen:Int)::Value.int .i64 (s.seen.tr:Int)::Value.int .i64 (s.seen.sn:Int)::Value.int .u64 (s.still:Int)::Value.int .i64 (s.m.phase:Int)::Value.int .i64 (s.m.id:Int)::Value.int .i64 (s.m.fr:Int)::Value.int .i64 (s.m.to:Int)::Value.int .i64 (s.m.version:Int)::Value.int .i64 (s.m.aK:Int)::Value.int .i64 ((0:Nat):Int)::Value.int .i64 (s.u:Int)::Value.int .i64 (s.o0:Int)::Value.int .i64 (s.o1:Int)::Value.int .i64 (s.o2:Int)::Value.int .i64 (s.o3:Int)::Value.int .u64 (s.g0:Int)::Value.int .u64 (s.g1:Int)::Value.int .u64 (s.g2:Int)::Value.int .u64 (s.g3:Int)::Value.int .i64 (s.b0:Int)::Value.bool s.second::Value.int .i64 s.found::Value.int .i64 (s.aM.st:Int)::Value.int .i64 (s.aM.gen:Int)::Value.int .i64 (s.aM.tr:Int)::Value.int .i64 (s.aM.sn:Int)::Value.int .i64 (s.end_:Int)::Value.bool s.done::[])*1)) rfl rfl rfl ?_
  repeat(first|refine ak ?_ |refine eD ?_)
  refine aC rfl rfl rfl rfl rfl (Spec.aL g (eJ g cs s.o0 (by omega) (by omega))) (fun _=>ab) ?_
  intro _
  repeat(first|refine ak ?_ |refine eD ?_)
  repeat first|refine aa ?_ |intro
  refine aG 9 (Obj q 327 (Value.int .i64 (s.kind:Int)::Value.int .i64 (s.f1:Int)::Value.int .u32 (s.f2:Int)::Value.int .u16 (s.f3:Int)::Value.int .i64 s.id::Value.int .i64 (s.a:Int)::Value.int .i64 (s.b:Int)::Value.int .i64 (s.next:Int)::Value.int .u64 (s.first:Int)::Value.int .u64 (s.word:Int)::Value.int .i64 (s.at_:Int)::Value.bool s.half::Value.int .i64 (s.seen.st:Int)::Value.int .i64 (s.seen.gen:Int)::Value.int .i64 (s.seen.tr:Int)::Value.int .i64 (s.seen.sn:Int)::Value.int .u64 (s.still:Int)::Value.int .i64 (s.m.phase:Int)::Value.int .i64 (s.m.id:Int)::Value.int .i64 (s.m.fr:Int)::Value.int .i64 (s.m.to:Int)::Value.int .i64 (s.m.version:Int)::Value.int .i64 (s.m.aK:Int)::Value.int .i64 ((0:Nat):Int)::Value.int .i64 (s.u:Int)::Value.int .i64 (s.o0:Int)::Value.int .i64 (s.o1:Int)::Value.int .i64 (s.o2:Int)::Value.int .i64 (s.o3:Int)::Value.int .u64 (s.g0:Int)::Value.int .u64 (s.g1:Int)::Value.int .u64 (s.g2:Int)::Value.int .u64 (s.g3:Int)::Value.int .i64 (s.b0:Int)::Value.bool s.second::Value.int .i64 s.found::Value.int .i64 (s.aM.st:Int)::Value.int .i64 (s.aM.gen:Int)::Value.int .i64 (s.aM.tr:Int)::Value.int .i64 (s.aM.sn:Int)::Value.int .i64 (s.end_:Int)::Value.bool s.done::[])*1) rfl rfl rfl ?_
  repeat(first|refine ak ?_ |refine eD ?_)
  repeat(first|refine bJ ?_ |(refine bN ?_;intro)|refine bK ?_ |refine bL ?_ |refine bM ?_ |refine eD ?_)
  repeat first|refine aa ?_ |intro
  refine af rfl (rn iy) ?_
  intro _
  cases nJ:cD (cs.getD s.o0 0)with
  |false=>
   rw[if_pos rfl]
   repeat first|refine aa ?_ |intro
   refine aG 24 (Obj q 327 (Value.int .i64 (s.kind:Int)::Value.int .i64 (s.f1:Int)::Value.int .u32 (s.f2:Int)::Value.int .u16 (s.f3:Int)::Value.int .i64 s.id::Value.int .i64 (s.a:Int)::Value.int .i64 (s.b:Int)::Value.int .i64 (s.next:Int)::Value.int .u64 (s.first:Int)::Value.int .u64 (s.word:Int)::Value.int .i64 (s.at_:Int)::Value.bool s.half::Value.int .i64 (s.seen.st:Int)::Value.int .i64 (s.seen.gen:Int)::Value.int .i64 (s.seen.tr:Int)::Value.int .i64 (s.seen.sn:Int)::Value.int .u64 (s.still:Int)::Value.int .i64 (s.m.phase:Int)::Value.int .i64 (s.m.id:Int)::Value.int .i64 (s.m.fr:Int)::Value.int .i64 (s.m.to:Int)::Value.int .i64 (s.m.version:Int)::Value.int .i64 (s.m.aK:Int)::Value.int .i64 ((0:Nat):Int)::Value.int .i64 (s.u:Int)::Value.int .i64 (s.o0:Int)::Value.int .i64 (s.o1:Int)::Value.int .i64 (s.o2:Int)::Value.int .i64 (s.o3:Int)::Value.int .u64 (cs.getD s.o0 0:Int)::Value.int .u64 (s.g1:Int)::Value.int .u64 (s.g2:Int)::Value.int .u64 (s.g3:Int)::Value.int .i64 (s.b0:Int)::Value.bool s.second::Value.int .i64 s.found::Value.int .i64 (s.aM.st:Int)::Value.int .i64 (s.aM.gen:Int)::Value.int .i64 (s.aM.tr:Int)::Value.int .i64 (s.aM.sn:Int)::Value.int .i64 (s.end_:Int)::Value.bool s.done::[])*1) rfl rfl rfl ?_
   repeat(first|refine ak ?_ |refine eD ?_)
   refine aC rfl rfl rfl rfl rfl (gF (i:=0) kn (by decide)) (fun _=>ab) ?_
   intro _
   repeat(first|refine ak ?_ |refine eD ?_)
   refine jr rfl rfl rfl rfl (Spec.aL q (Spec.pre (o7 (q:=q) (s:={s with v:=0,g0:=cs.getD s.o0 0}) (km 0 (by decide)) iy dS) (au.bD (by rfl) (U.refl _)))) ?_
   intro _
   repeat(first|refine ak ?_ |refine eD ?_)
   repeat first|refine aa ?_ |intro
   exact ae (cT rfl () rfl (U.sat (U.cons (U.trans (ab) (aF.shut (g:=g))))))
  |true=>
   rw[if_neg (by decide)]
   repeat first|refine aa ?_ |intro
   exact aH (aI rfl () rfl (U.sat (au.cQ (by rfl) (U.trans (ab) (aF.shut (g:=g))))))
 ·have iC:=h.cF 1 (by decide)
  have eo:s.cF 1=s.o1:=rfl
  rw[eo]at iC
  have iy:=hc.w s.o1
  have es:bY pl n cs s=(cs,if cD (cs.getD s.o1 0)=false then kj {s with g1:=cs.getD s.o1 0} (bE s.first 1) s.a s.o1 (cs.getD s.o1 0)
    else {s with g1:=cs.getD s.o1 0,v:=2,next:=8}):=by
   unfold bY
   rw[if_neg (by omega),if_neg (by omega),if_neg (by omega),if_pos e,(wH s _).2.1 ((by rw[ev]):s.v=1),(lB s).2.1 ev,ev]
   rfl
  rw[es]
  rw[ev]
  repeat first|refine aa ?_ |intro
  refine aG 99 (cP p pp g n*(Obj q 327 (Value.int .i64 (s.kind:Int)::Value.int .i64 (s.f1:Int)::Value.int .u32 (s.f2:Int)::Value.int .u16 (s.f3:Int)::Value.int .i64 s.id::Value.int .i64 (s.a:Int)::Value.int .i64 (s.b:Int)::Value.int .i64 (s.next:Int)::Value.int .u64 (s.first:Int)::Value.int .u64 (s.word:Int)::Value.int .i64 (s.at_:Int)::Value.bool s.half::Value.int .i64 (s.seen.st:Int)::Value.int .i64 (s.seen.gen:Int)::Value.int .i64 (s.seen.tr:Int)::Value.int .i64 (s.seen.sn:Int)::Value.int .u64 (s.still:Int)::Value.int .i64 (s.m.phase:Int)::Value.int .i64 (s.m.id:Int)::Value.int .i64 (s.m.fr:Int)::Value.int .i64 (s.m.to:Int)::Value.int .i64 (s.m.version:Int)::Value.int .i64 (s.m.aK:Int)::Value.int .i64 ((1:Nat):Int)::Value.int .i64 (s.u:Int)::Value.int .i64 (s.o0:Int)::Value.int .i64 (s.o1:Int)::Value.int .i64 (s.o2:Int)::Value.int .i64 (s.o3:Int)::Value.int .u64 (s.g0:Int)::Value.int .u64 (s.g1:Int)::Value.int .u64 (s.g2:Int)::Value.int .u64 (s.g3:Int)::Value.int .i64 (s.b0:Int)::Value.bool s.second::Value.int .i64 s.found::Value.int .i64 (s.aM.st:Int)::Value.int .i64 (s.aM.gen:Int)::Value.int .i64 (s.aM.tr:Int)::Value.int .i64 (s.aM.sn:Int)::Value.int .i64 (s.end_:Int)::Value.bool s.done::[])*1)) rfl rfl rfl ?_
  repeat(first|refine ak ?_ |refine eD ?_)
  refine aC rfl rfl rfl rfl rfl (Spec.aL g (eJ g cs s.o1 (by omega) (by omega))) (fun _=>ab) ?_
  intro _
  repeat(first|refine ak ?_ |refine eD ?_)
  repeat first|refine aa ?_ |intro
  refine aG 9 (Obj q 327 (Value.int .i64 (s.kind:Int)::Value.int .i64 (s.f1:Int)::Value.int .u32 (s.f2:Int)::Value.int .u16 (s.f3:Int)::Value.int .i64 s.id::Value.int .i64 (s.a:Int)::Value.int .i64 (s.b:Int)::Value.int .i64 (s.next:Int)::Value.int .u64 (s.first:Int)::Value.int .u64 (s.word:Int)::Value.int .i64 (s.at_:Int)::Value.bool s.half::Value.int .i64 (s.seen.st:Int)::Value.int .i64 (s.seen.gen:Int)::Value.int .i64 (s.seen.tr:Int)::Value.int .i64 (s.seen.sn:Int)::Value.int .u64 (s.still:Int)::Value.int .i64 (s.m.phase:Int)::Value.int .i64 (s.m.id:Int)::Value.int .i64 (s.m.fr:Int)::Value.int .i64 (s.m.to:Int)::Value.int .i64 (s.m.version:Int)::Value.int .i64 (s.m.aK:Int)::Value.int .i64 ((1:Nat):Int)::Value.int .i64 (s.u:Int)::Value.int .i64 (s.o0:Int)::Value.int .i64 (s.o1:Int)::Value.int .i64 (s.o2:Int)::Value.int .i64 (s.o3:Int)::Value.int .u64 (s.g0:Int)::Value.int .u64 (s.g1:Int)::Value.int .u64 (s.g2:Int)::Value.int .u64 (s.g3:Int)::Value.int .i64 (s.b0:Int)::Value.bool s.second::Value.int .i64 s.found::Value.int .i64 (s.aM.st:Int)::Value.int .i64 (s.aM.gen:Int)::Value.int .i64 (s.aM.tr:Int)::Value.int .i64 (s.aM.sn:Int)::Value.int .i64 (s.end_:Int)::Value.bool s.done::[])*1) rfl rfl rfl ?_
  repeat(first|refine ak ?_ |refine eD ?_)
  repeat(first|refine bJ ?_ |(refine bN ?_;intro)|refine bK ?_ |refine bL ?_ |refine bM ?_ |refine eD ?_)
  repeat first|refine aa ?_ |intro
  refine af rfl (rn iy) ?_
  intro _
  cases nJ:cD (cs.getD s.o1 0)with
  |false=>
   rw[if_pos rfl]
   repeat first|refine aa ?_ |intro
   refine aG 24 (Obj q 327 (Value.int .i64 (s.kind:Int)::Value.int .i64 (s.f1:Int)::Value.int .u32 (s.f2:Int)::Value.int .u16 (s.f3:Int)::Value.int .i64 s.id::Value.int .i64 (s.a:Int)::Value.int .i64 (s.b:Int)::Value.int .i64 (s.next:Int)::Value.int .u64 (s.first:Int)::Value.int .u64 (s.word:Int)::Value.int .i64 (s.at_:Int)::Value.bool s.half::Value.int .i64 (s.seen.st:Int)::Value.int .i64 (s.seen.gen:Int)::Value.int .i64 (s.seen.tr:Int)::Value.int .i64 (s.seen.sn:Int)::Value.int .u64 (s.still:Int)::Value.int .i64 (s.m.phase:Int)::Value.int .i64 (s.m.id:Int)::Value.int .i64 (s.m.fr:Int)::Value.int .i64 (s.m.to:Int)::Value.int .i64 (s.m.version:Int)::Value.int .i64 (s.m.aK:Int)::Value.int .i64 ((1:Nat):Int)::Value.int .i64 (s.u:Int)::Value.int .i64 (s.o0:Int)::Value.int .i64 (s.o1:Int)::Value.int .i64 (s.o2:Int)::Value.int .i64 (s.o3:Int)::Value.int .u64 (s.g0:Int)::Value.int .u64 (cs.getD s.o1 0:Int)::Value.int .u64 (s.g2:Int)::Value.int .u64 (s.g3:Int)::Value.int .i64 (s.b0:Int)::Value.bool s.second::Value.int .i64 s.found::Value.int .i64 (s.aM.st:Int)::Value.int .i64 (s.aM.gen:Int)::Value.int .i64 (s.aM.tr:Int)::Value.int .i64 (s.aM.sn:Int)::Value.int .i64 (s.end_:Int)::Value.bool s.done::[])*1) rfl rfl rfl ?_
   repeat(first|refine ak ?_ |refine eD ?_)
   refine aC rfl rfl rfl rfl rfl (gF (i:=1) kn (by decide)) (fun _=>ab) ?_
   intro _
   repeat(first|refine ak ?_ |refine eD ?_)
   refine jr rfl rfl rfl rfl (Spec.aL q (Spec.pre (o7 (q:=q) (s:={s with v:=1,g1:=cs.getD s.o1 0}) (km 1 (by decide)) iy dS) (au.bD (by rfl) (U.refl _)))) ?_
   intro _
   repeat(first|refine ak ?_ |refine eD ?_)
   repeat first|refine aa ?_ |intro
   exact ae (cT rfl () rfl (U.sat (U.cons (U.trans (ab) (aF.shut (g:=g))))))
  |true=>
   rw[if_neg (by decide)]
   repeat first|refine aa ?_ |intro
   exact aH (aI rfl () rfl (U.sat (au.cQ (by rfl) (U.trans (ab) (aF.shut (g:=g))))))
 ·have iC:=h.cF 2 (by decide)
  have eo:s.cF 2=s.o2:=rfl
  rw[eo]at iC
  have iy:=hc.w s.o2
  have es:bY pl n cs s=(cs,if cD (cs.getD s.o2 0)=false then kj {s with g2:=cs.getD s.o2 0} (bE s.first 2) s.a s.o2 (cs.getD s.o2 0)
    else {s with g2:=cs.getD s.o2 0,v:=3,next:=8}):=by
   unfold bY
   rw[if_neg (by omega),if_neg (by omega),if_neg (by omega),if_pos e,(wH s _).2.2.1 ((by rw[ev]):s.v=2),(lB s).2.2.1 ev,ev]
   rfl
  rw[es]
  rw[ev]
  repeat first|refine aa ?_ |intro
  refine aG 99 (cP p pp g n*(Obj q 327 (Value.int .i64 (s.kind:Int)::Value.int .i64 (s.f1:Int)::Value.int .u32 (s.f2:Int)::Value.int .u16 (s.f3:Int)::Value.int .i64 s.id::Value.int .i64 (s.a:Int)::Value.int .i64 (s.b:Int)::Value.int .i64 (s.next:Int)::Value.int .u64 (s.first:Int)::Value.int .u64 (s.word:Int)::Value.int .i64 (s.at_:Int)::Value.bool s.half::Value.int .i64 (s.seen.st:Int)::Value.int .i64 (s.seen.gen:Int)::Value.int .i64 (s.seen.tr:Int)::Value.int .i64 (s.seen.sn:Int)::Value.int .u64 (s.still:Int)::Value.int .i64 (s.m.phase:Int)::Value.int .i64 (s.m.id:Int)::Value.int .i64 (s.m.fr:Int)::Value.int .i64 (s.m.to:Int)::Value.int .i64 (s.m.version:Int)::Value.int .i64 (s.m.aK:Int)::Value.int .i64 ((2:Nat):Int)::Value.int .i64 (s.u:Int)::Value.int .i64 (s.o0:Int)::Value.int .i64 (s.o1:Int)::Value.int .i64 (s.o2:Int)::Value.int .i64 (s.o3:Int)::Value.int .u64 (s.g0:Int)::Value.int .u64 (s.g1:Int)::Value.int .u64 (s.g2:Int)::Value.int .u64 (s.g3:Int)::Value.int .i64 (s.b0:Int)::Value.bool s.second::Value.int .i64 s.found::Value.int .i64 (s.aM.st:Int)::Value.int .i64 (s.aM.gen:Int)::Value.int .i64 (s.aM.tr:Int)::Value.int .i64 (s.aM.sn:Int)::Value.int .i64 (s.end_:Int)::Value.bool s.done::[])*1)) rfl rfl rfl ?_
  repeat(first|refine ak ?_ |refine eD ?_)
  refine aC rfl rfl rfl rfl rfl (Spec.aL g (eJ g cs s.o2 (by omega) (by omega))) (fun _=>ab) ?_
  intro _
  repeat(first|refine ak ?_ |refine eD ?_)
  repeat first|refine aa ?_ |intro
  refine aG 9 (Obj q 327 (Value.int .i64 (s.kind:Int)::Value.int .i64 (s.f1:Int)::Value.int .u32 (s.f2:Int)::Value.int .u16 (s.f3:Int)::Value.int .i64 s.id::Value.int .i64 (s.a:Int)::Value.int .i64 (s.b:Int)::Value.int .i64 (s.next:Int)::Value.int .u64 (s.first:Int)::Value.int .u64 (s.word:Int)::Value.int .i64 (s.at_:Int)::Value.bool s.half::Value.int .i64 (s.seen.st:Int)::Value.int .i64 (s.seen.gen:Int)::Value.int .i64 (s.seen.tr:Int)::Value.int .i64 (s.seen.sn:Int)::Value.int .u64 (s.still:Int)::Value.int .i64 (s.m.phase:Int)::Value.int .i64 (s.m.id:Int)::Value.int .i64 (s.m.fr:Int)::Value.int .i64 (s.m.to:Int)::Value.int .i64 (s.m.version:Int)::Value.int .i64 (s.m.aK:Int)::Value.int .i64 ((2:Nat):Int)::Value.int .i64 (s.u:Int)::Value.int .i64 (s.o0:Int)::Value.int .i64 (s.o1:Int)::Value.int .i64 (s.o2:Int)::Value.int .i64 (s.o3:Int)::Value.int .u64 (s.g0:Int)::Value.int .u64 (s.g1:Int)::Value.int .u64 (s.g2:Int)::Value.int .u64 (s.g3:Int)::Value.int .i64 (s.b0:Int)::Value.bool s.second::Value.int .i64 s.found::Value.int .i64 (s.aM.st:Int)::Value.int .i64 (s.aM.gen:Int)::Value.int .i64 (s.aM.tr:Int)::Value.int .i64 (s.aM.sn:Int)::Value.int .i64 (s.end_:Int)::Value.bool s.done::[])*1) rfl rfl rfl ?_
  repeat(first|refine ak ?_ |refine eD ?_)
  repeat(first|refine bJ ?_ |(refine bN ?_;intro)|refine bK ?_ |refine bL ?_ |refine bM ?_ |refine eD ?_)
  repeat first|refine aa ?_ |intro
  refine af rfl (rn iy) ?_
  intro _
  cases nJ:cD (cs.getD s.o2 0)with
  |false=>
   rw[if_pos rfl]
   repeat first|refine aa ?_ |intro
   refine aG 24 (Obj q 327 (Value.int .i64 (s.kind:Int)::Value.int .i64 (s.f1:Int)::Value.int .u32 (s.f2:Int)::Value.int .u16 (s.f3:Int)::Value.int .i64 s.id::Value.int .i64 (s.a:Int)::Value.int .i64 (s.b:Int)::Value.int .i64 (s.next:Int)::Value.int .u64 (s.first:Int)::Value.int .u64 (s.word:Int)::Value.int .i64 (s.at_:Int)::Value.bool s.half::Value.int .i64 (s.seen.st:Int)::Value.int .i64 (s.seen.gen:Int)::Value.int .i64 (s.seen.tr:Int)::Value.int .i64 (s.seen.sn:Int)::Value.int .u64 (s.still:Int)::Value.int .i64 (s.m.phase:Int)::Value.int .i64 (s.m.id:Int)::Value.int .i64 (s.m.fr:Int)::Value.int .i64 (s.m.to:Int)::Value.int .i64 (s.m.version:Int)::Value.int .i64 (s.m.aK:Int)::Value.int .i64 ((2:Nat):Int)::Value.int .i64 (s.u:Int)::Value.int .i64 (s.o0:Int)::Value.int .i64 (s.o1:Int)::Value.int .i64 (s.o2:Int)::Value.int .i64 (s.o3:Int)::Value.int .u64 (s.g0:Int)::Value.int .u64 (s.g1:Int)::Value.int .u64 (cs.getD s.o2 0:Int)::Value.int .u64 (s.g3:Int)::Value.int .i64 (s.b0:Int)::Value.bool s.second::Value.int .i64 s.found::Value.int .i64 (s.aM.st:Int)::Value.int .i64 (s.aM.gen:Int)::Value.int .i64 (s.aM.tr:Int)::Value.int .i64 (s.aM.sn:Int)::Value.int .i64 (s.end_:Int)::Value.bool s.done::[])*1) rfl rfl rfl ?_
   repeat(first|refine ak ?_ |refine eD ?_)
   refine aC rfl rfl rfl rfl rfl (gF (i:=2) kn (by decide)) (fun _=>ab) ?_
   intro _
   repeat(first|refine ak ?_ |refine eD ?_)
   refine jr rfl rfl rfl rfl (Spec.aL q (Spec.pre (o7 (q:=q) (s:={s with v:=2,g2:=cs.getD s.o2 0}) (km 2 (by decide)) iy dS) (au.bD (by rfl) (U.refl _)))) ?_
   intro _
   repeat(first|refine ak ?_ |refine eD ?_)
   repeat first|refine aa ?_ |intro
   exact ae (cT rfl () rfl (U.sat (U.cons (U.trans (ab) (aF.shut (g:=g))))))
  |true=>
   rw[if_neg (by decide)]
   repeat first|refine aa ?_ |intro
   exact aH (aI rfl () rfl (U.sat (au.cQ (by rfl) (U.trans (ab) (aF.shut (g:=g))))))
 ·have iC:=h.cF 3 (by decide)
  have eo:s.cF 3=s.o3:=rfl
  rw[eo]at iC
  have iy:=hc.w s.o3
  have es:bY pl n cs s=(cs,if cD (cs.getD s.o3 0)=false then kj {s with g3:=cs.getD s.o3 0} (bE s.first 3) s.a s.o3 (cs.getD s.o3 0)
    else {s with g3:=cs.getD s.o3 0,v:=0,next:=10}):=by
   unfold bY
   rw[if_neg (by omega),if_neg (by omega),if_neg (by omega),if_pos e,(wH s _).2.2.2 ((by rw[ev]):s.v=3),(lB s).2.2.2 ev,ev]
   rfl
  rw[es]
  rw[ev]
  repeat first|refine aa ?_ |intro
  refine aG 99 (cP p pp g n*(Obj q 327 (Value.int .i64 (s.kind:Int)::Value.int .i64 (s.f1:Int)::Value.int .u32 (s.f2:Int)::Value.int .u16 (s.f3:Int)::Value.int .i64 s.id::Value.int .i64 (s.a:Int)::Value.int .i64 (s.b:Int)::Value.int .i64 (s.next:Int)::Value.int .u64 (s.first:Int)::Value.int .u64 (s.word:Int)::Value.int .i64 (s.at_:Int)::Value.bool s.half::Value.int .i64 (s.seen.st:Int)::Value.int .i64 (s.seen.gen:Int)::Value.int .i64 (s.seen.tr:Int)::Value.int .i64 (s.seen.sn:Int)::Value.int .u64 (s.still:Int)::Value.int .i64 (s.m.phase:Int)::Value.int .i64 (s.m.id:Int)::Value.int .i64 (s.m.fr:Int)::Value.int .i64 (s.m.to:Int)::Value.int .i64 (s.m.version:Int)::Value.int .i64 (s.m.aK:Int)::Value.int .i64 ((3:Nat):Int)::Value.int .i64 (s.u:Int)::Value.int .i64 (s.o0:Int)::Value.int .i64 (s.o1:Int)::Value.int .i64 (s.o2:Int)::Value.int .i64 (s.o3:Int)::Value.int .u64 (s.g0:Int)::Value.int .u64 (s.g1:Int)::Value.int .u64 (s.g2:Int)::Value.int .u64 (s.g3:Int)::Value.int .i64 (s.b0:Int)::Value.bool s.second::Value.int .i64 s.found::Value.int .i64 (s.aM.st:Int)::Value.int .i64 (s.aM.gen:Int)::Value.int .i64 (s.aM.tr:Int)::Value.int .i64 (s.aM.sn:Int)::Value.int .i64 (s.end_:Int)::Value.bool s.done::[])*1)) rfl rfl rfl ?_
  repeat(first|refine ak ?_ |refine eD ?_)
  refine aC rfl rfl rfl rfl rfl (Spec.aL g (eJ g cs s.o3 (by omega) (by omega))) (fun _=>ab) ?_
  intro _
  repeat(first|refine ak ?_ |refine eD ?_)
  repeat first|refine aa ?_ |intro
  refine aG 9 (Obj q 327 (Value.int .i64 (s.kind:Int)::Value.int .i64 (s.f1:Int)::Value.int .u32 (s.f2:Int)::Value.int .u16 (s.f3:Int)::Value.int .i64 s.id::Value.int .i64 (s.a:Int)::Value.int .i64 (s.b:Int)::Value.int .i64 (s.next:Int)::Value.int .u64 (s.first:Int)::Value.int .u64 (s.word:Int)::Value.int .i64 (s.at_:Int)::Value.bool s.half::Value.int .i64 (s.seen.st:Int)::Value.int .i64 (s.seen.gen:Int)::Value.int .i64 (s.seen.tr:Int)::Value.int .i64 (s.seen.sn:Int)::Value.int .u64 (s.still:Int)::Value.int .i64 (s.m.phase:Int)::Value.int .i64 (s.m.id:Int)::Value.int .i64 (s.m.fr:Int)::Value.int .i64 (s.m.to:Int)::Value.int .i64 (s.m.version:Int)::Value.int .i64 (s.m.aK:Int)::Value.int .i64 ((3:Nat):Int)::Value.int .i64 (s.u:Int)::Value.int .i64 (s.o0:Int)::Value.int .i64 (s.o1:Int)::Value.int .i64 (s.o2:Int)::Value.int .i64 (s.o3:Int)::Value.int .u64 (s.g0:Int)::Value.int .u64 (s.g1:Int)::Value.int .u64 (s.g2:Int)::Value.int .u64 (s.g3:Int)::Value.int .i64 (s.b0:Int)::Value.bool s.second::Value.int .i64 s.found::Value.int .i64 (s.aM.st:Int)::Value.int .i64 (s.aM.gen:Int)::Value.int .i64 (s.aM.tr:Int)::Value.int .i64 (s.aM.sn:Int)::Value.int .i64 (s.end_:Int)::Value.bool s.done::[])*1) rfl rfl rfl ?_
  repeat(first|refine ak ?_ |refine eD ?_)
  repeat(first|refine bJ ?_ |(refine bN ?_;intro)|refine bK ?_ |refine bL ?_ |refine bM ?_ |refine eD ?_)
  repeat first|refine aa ?_ |intro
  refine af rfl (rn iy) ?_
  intro _
  cases nJ:cD (cs.getD s.o3 0)with
  |false=>
   rw[if_pos rfl]
   repeat first|refine aa ?_ |intro
   refine aG 24 (Obj q 327 (Value.int .i64 (s.kind:Int)::Value.int .i64 (s.f1:Int)::Value.int .u32 (s.f2:Int)::Value.int .u16 (s.f3:Int)::Value.int .i64 s.id::Value.int .i64 (s.a:Int)::Value.int .i64 (s.b:Int)::Value.int .i64 (s.next:Int)::Value.int .u64 (s.first:Int)::Value.int .u64 (s.word:Int)::Value.int .i64 (s.at_:Int)::Value.bool s.half::Value.int .i64 (s.seen.st:Int)::Value.int .i64 (s.seen.gen:Int)::Value.int .i64 (s.seen.tr:Int)::Value.int .i64 (s.seen.sn:Int)::Value.int .u64 (s.still:Int)::Value.int .i64 (s.m.phase:Int)::Value.int .i64 (s.m.id:Int)::Value.int .i64 (s.m.fr:Int)::Value.int .i64 (s.m.to:Int)::Value.int .i64 (s.m.version:Int)::Value.int .i64 (s.m.aK:Int)::Value.int .i64 ((3:Nat):Int)::Value.int .i64 (s.u:Int)::Value.int .i64 (s.o0:Int)::Value.int .i64 (s.o1:Int)::Value.int .i64 (s.o2:Int)::Value.int .i64 (s.o3:Int)::Value.int .u64 (s.g0:Int)::Value.int .u64 (s.g1:Int)::Value.int .u64 (s.g2:Int)::Value.int .u64 (cs.getD s.o3 0:Int)::Value.int .i64 (s.b0:Int)::Value.bool s.second::Value.int .i64 s.found::Value.int .i64 (s.aM.st:Int)::Value.int .i64 (s.aM.gen:Int)::Value.int .i64 (s.aM.tr:Int)::Value.int .i64 (s.aM.sn:Int)::Value.int .i64 (s.end_:Int)::Value.bool s.done::[])*1) rfl rfl rfl ?_
   repeat(first|refine ak ?_ |refine eD ?_)
   refine aC rfl rfl rfl rfl rfl (gF (i:=3) kn (by decide)) (fun _=>ab) ?_
   intro _
   repeat(first|refine ak ?_ |refine eD ?_)
   refine jr rfl rfl rfl rfl (Spec.aL q (Spec.pre (o7 (q:=q) (s:={s with v:=3,g3:=cs.getD s.o3 0}) (km 3 (by decide)) iy dS) (au.bD (by rfl) (U.refl _)))) ?_
   intro _
   repeat(first|refine ak ?_ |refine eD ?_)
   repeat first|refine aa ?_ |intro
   exact ae (cT rfl () rfl (U.sat (U.cons (U.trans (ab) (aF.shut (g:=g))))))
  |true=>
   rw[if_neg (by decide)]
   repeat first|refine aa ?_ |intro
   exact aH (aI rfl () rfl (U.sat (au.cQ (by rfl) (U.trans (ab) (aF.shut (g:=g))))))
end
end Go.Proofs.YtimekbpkejemoaaGreatDoor
