/-
  A part of a proof, joined by a program (wip/bundle3.py).
-/
import Derived.Test.YtfkngchldmfpfaaGreatDoorG2
import Derived.Test.YtfkngchldmfpfaaGreatDoorG6
import Derived.Test.YtfkngchldmfpfaaGreatDoorG8
import Derived.Test.YtfkngchldmfpfaaGreatDoorG15
import Derived.Test.YtfkngchldmfpfaaGreatDoorG17
set_option linter.unusedVariables false
set_option linter.unusedSimpArgs false
namespace Go.Proofs.YtfkngchldmfpfaaGreatDoor
section
open Go.RowKit
set_option maxRecDepth 10000
attribute [local irreducible] EK EX ER EN EL ES EG an aR aU
variable {W:World} {F G:SL} {X:Cx} {kk:List KI} {σ:Env} {pn r b:Option Addr} {x:cI} {c:NC} {R:dV} {s:aW} {k:aK} {P:cW} {pp:Nat→Option Addr} {pc pw po:Option Addr}
set_option maxHeartbeats 4000000 in
theorem Yp {w:Nat}{p:jg}(hc:c.Ok)(qu:s.gs.length=c.n)(gw:oT c.n s.ep s.gs)(lH:x.on=some p)(kX:p.Ok c.n)(Er:p.done=false)(e:x.next=5):
  Spec Tryz.prog 60 [.pointer pn,.int .i64 (w:Int),.pointer P.p,.pointer r] W (bn r x b*aN R.po P k (NH pn c R*bJ c R s F)) (fun _:Unit=> .tuple #[]) (fun _=>bn r (cg c w s k x).2.2 b*aN R.po P (cg c w s k x).2.1 (NH pn c R*bJ c R (cg c w s k x).1 F)):=by
 refine Spec.of Tryz.func60 rfl Tryz.ntmps60 rfl ?_
 have nI:=hc.n
 have es:cg c w s k x=({s with ep:=(cv c.n s.ep p).1},k,{x with on:=some (cv c.n s.ep p).2,next:=if(cv c.n s.ep p).2.done=true then 6 else x.next}):=by
  unfold cg;rw[if_neg (by omega),if_neg (by omega),if_pos e,lH,e]
 rw[es]
 clear es
 have kW:∀(Q0:Option Addr) G,Spec Tryz.prog 80 [.pointer R.ep,.pointer Q0] W (cx Q0 p*(bB R.ep s.ep s.gs*G)) (fun _:Unit=> .bool (cv c.n s.ep p).2.done) (fun _=>cx Q0 (cv c.n s.ep p).2*(bB R.ep (cv c.n s.ep p).1 s.gs*G)):=fun Q0 G=>by
  have:=Gt (W:=W) (F:=G) (p:=R.ep) (q:=Q0) (ws:=s.ep) (gs:=s.gs) (s:=p) (by rw[qu];exact gw) (by rw[qu];exact kX) (by omega) Er
  rw[qu]at this
  exact this
 have gE:∀z,ao (bb c R {s with ep:=z}) 3=ao (bb c R s) 3:=fun _=>rfl
 refine bn.open fun Q=> ?_
 simp only[dC,aN,bJ,gE,lH,bF]
 refine aa ?_;intros
 refine ay 99 (NH pn c R*(Obj r 128 (nv x Q)*1)) rfl rfl rfl ?_
 refine ah ?_
 refine aw rfl rfl rfl rfl rfl (Spec.eZ Q.on R.ep (kW Q.on _)) (fun _=>ab) ?_
 intro _
 refine ah ?_
 generalize cv c.n s.ep p=D at*
 obtain⟨kg,p'⟩:=D
 dsimp only at*
 cases hd:p'.done with
 |false=>
  refine aa ?_;intros
  refine aE (aF rfl () rfl (U.sat (bn.bl Q (by rfl) ?_)))
  simp only[bF]
  exact ab
 |true=>
  refine aa ?_;intros
  refine aE (aF rfl () rfl (U.sat (bn.bl Q (by rfl) ?_)))
  simp only[bF]
  exact ab
set_option maxHeartbeats 4000000 in
theorem Yq {w:Nat}(hc:c.Ok)(hw:w<c.n)(qu:s.gs.length=c.n)(gw:oT c.n s.ep s.gs)(uK:(s.gs.getD w []).length≤1000000)(TU:∀t∈(fS (s.ep.getD 0 0) (s.gs.getD w [])).map (·.1),t<1000000)(A6:(fS (s.ep.getD 0 0) (s.gs.getD w [])).length≤1000000)(jD:x.aI.length≤1000000)(e:x.next=6):
  Spec Tryz.prog 60 [.pointer pn,.int .i64 (w:Int),.pointer P.p,.pointer r] W (bn r x b*aN R.po P k (NH pn c R*bJ c R s F)) (fun _:Unit=> .tuple #[]) (fun _=>bn r (cg c w s k x).2.2 b*aN R.po P (cg c w s k x).2.1 (NH pn c R*bJ c R (cg c w s k x).1 F)):=by
 refine Spec.of Tryz.func60 rfl Tryz.ntmps60 rfl ?_
 have es:cg c w s k x=({s with gs:=s.gs.set w (kK (s.ep.getD 0 0) (s.gs.getD w []))},k,{x with aI:=x.aI++(fS (s.ep.getD 0 0) (s.gs.getD w [])).map (·.1),next:=7}):=by
  unfold cg;rw[if_neg (by omega),if_neg (by omega),if_neg (by omega),if_pos e]
 rw[es]
 clear es
 have qA:=fun G=>NR (W:=W) (F:=G) (p:=R.ep) (ws:=s.ep) (gs:=s.gs) (w:=w) (by rw[qu];exact gw) (by omega) uK
 have gE:∀z,ao (bb c R {s with gs:=z}) 3=ao (bb c R s) 3:=fun _=>rfl
 generalize s.gs.set w (kK (s.ep.getD 0 0) (s.gs.getD w []))=S8 at*
 have Td:((fS (s.ep.getD 0 0) (s.gs.getD w [])).map (·.1)).length=(fS (s.ep.getD 0 0) (s.gs.getD w [])).length:=List.length_map _
 rw[←Td]at qA A6
 generalize (fS (s.ep.getD 0 0) (s.gs.getD w [])).map (·.1)=B at*
 refine bn.open fun Q=> ?_
 simp only[dC,aN,bJ,gE]
 refine aa ?_;intros
 refine af rfl (Spec.aL R.ep (qA _)) ?_
 intro z
 refine aa ?_;intros
 refine fy (γ:=az×Nat) (fun g=>g.2≤B.length) (fun g=>[(0,.pointer pn),(1,.int .i64 (w:Int)),(2,.pointer P.p),(3,.pointer r),(78,.slice z.1 B.length z.2),(79,.int .i64 (B.length:Int)),(80,.int .i64 (g.2:Int))])
  (fun g=>ad 61 1 z.1 B.length z.2 (ba .u64 B)*dC r {x with aI:=x.aI++B.take g.2} b {Q with aI:=g.1} (bB R.ep s.ep S8*(Obj P.p 126 (bq P k)*(ao (cj R.po P k) 3*(ct P.wh k.aD*(cQ dQ de P.m k.aS*(ad 5 1 P.told.1 k.bt.length P.told.2 (ar k.bt)*(ad 132 2 P.ended.1 k.ended.length P.ended.2 (cN k.ended)*(NH pn c R*(aG R.pl s.pl*(aB R.tb R.pl c.nb s.tb*(ao (bb c R s) 3*F)))))))))))) (fun g=>B.length-g.2) (Q.aI,0) (Nat.zero_le _) ⟨rfl,rfl,rfl,rfl,rfl,rfl,rfl,trivial⟩ (U.sat (by
   rw[show x.aI++B.take 0=x.aI by simp]
   simp only[dC]
   first|exact U.refl _|exact U.last|(repeat(first|refine U.cons ?_ |exact U.any|exact U.last)))) ?_
 intro ⟨q,i⟩ hi;dsimp only at hi ⊢
 obtain⟨g,jV⟩:∃g:cI,g={x with aI:=x.aI++B.take i}:=⟨_,rfl⟩
 obtain⟨Q2,jU⟩:∃Q2:pX,Q2={Q with aI:=q}:=⟨_,rfl⟩
 have AL:g.aI.length≤3000000:=by rw[jV];simp only[List.length_append,List.length_take];omega
 rw[←jV,←jU]
 simp only[dC]
 refine aa ?_;intros
 refine iB rfl (fun bY=> ?_) (fun mU=> ?_)
 ·have hm:i<B.length:=by omega
  have hb:B.getD i 0<1000000:=by
   rw[List.getD_eq_getElem?_getD,List.getElem?_eq_getElem hm]
   exact TU _ (List.getElem_mem hm)
  have rJ:B.take i++[B.getD i 0]=B.take (i+1):=tv hm
  refine aa ?_;intros
  rename_i q2
  have AK:x.aI++B.take (i+1)=g.aI++[B.getD i 0]:=by rw[←rJ,←List.append_assoc,jV]
  refine cJ (q2,i+1) (by dsimp only;omega) (by dsimp only;omega) ⟨rfl,rfl,rfl,rfl,rfl,rfl,rfl,trivial⟩ (U.sat ?_)
  dsimp only
  rw[AK,←BA,la]
  subst jV jU
  exact ab
 ·have D1:i=B.length:=by omega
  subst D1
  refine aa ?_;intros
  subst jV jU
  refine aE (aF rfl () rfl (U.sat (bn.bl {Q with aI:=q} (by unfold qY;rw[List.take_length];rfl) ?_)))
  rw[List.take_length]
  exact ab
end
section
open Go.RowKit
set_option maxRecDepth 10000
attribute [local irreducible] EK EX ER EN EL ES EG an aR aU
variable {W:World} {F G:SL} {X:Cx} {kk:List KI} {σ:Env} {pn r b:Option Addr} {x:cI} {c:NC} {R:dV} {s:aW} {k:aK} {P:cW} {pp:Nat→Option Addr} {pc pw po:Option Addr}
theorem DB:(dO c s k x).1.ep=s.ep∧(dO c s k x).1.gs=s.gs∧(dO c s k x).1.tb=s.tb:=by
 unfold dO
 repeat' split
 all_goals first|exact⟨rfl,rfl,rfl⟩|exact⟨(gN _ _ _ _).1,(gN _ _ _ _).2.1,(gN _ _ _ _).2.2.1⟩|exact⟨(nV _ _ _).2.2.1,(nV _ _ _).2.2.2,(nV _ _ _).2.1⟩
structure CW (c:NC)(w m:Nat)(s:aW)(k:aK)(x:cI)(P:cW)(b:Option Addr):Prop where
 le:x.next≤9
 zo:w<c.n
 gs:s.gs.length=c.n
 ep:oT c.n s.ep s.gs
 pl:cy (3*c.np) s.pl
 wh:x.next=0→jx k.aD∧k.aD.all.length≤300∧(∀y∈(fP k.aD x.tick).1,0≤y.id)∧(fP k.aD x.tick).1.length≤300∧x.due.length≤100000
 ends:1≤x.next→x.next≤4→Cs c w s k x
 on:x.next=5→∃p,x.on=some p∧p.Ok c.n∧p.done=false
 take:x.next=6→(s.gs.getD w []).length≤1000000∧(∀t∈(fS (s.ep.getD 0 0) (s.gs.getD w [])).map (·.1),t<1000000)∧(fS (s.ep.getD 0 0) (s.gs.getD w [])).length≤1000000∧x.aI.length≤1000000
 f7:x.next=7→1≤x.aI.length→x.aI.getD 0 0<3*c.np
 f8:x.next=8→1≤x.aI.length∧x.aI.getD 0 0<3*c.np∧x.word.ok∧(k.ca (x.aI.getD 0 0/c.np)).out=none∧(k.ca (x.aI.getD 0 0/c.np)).l.length≤16
 f9:x.next=9→w5 m k∧m≤32∧(∀i,i<3→∀o,(k.ca i).out=some o→o.parts.length≤1000)∧(∀i,i<3→ic m (s.po i))∧∃bk,x.back=some bk∧bk.done=false∧(bk.kind=3∨(bk.kind=2∧b=P.q (ew k)∧∃o,(k.ca (ew k)).out=some o))
abbrev zQ (c:NC)(x:cI)(P:cW)(b:Option Addr):Type:={z:az×(Nat→Option Addr)×Option Addr//(x.next≠8∧z.2.1=P.q∧z.2.2=b)∨(x.next=8∧z.2.1=fun i=>if i=x.aI.getD 0 0/c.np then z.2.2 else P.q i)}
def wA (c:NC)(x:cI)(P:cW)(b:Option Addr)(e:az)(h:x.next≠8):zQ c x P b:=⟨(e,P.q,b),.inl ⟨h,rfl,rfl⟩⟩
set_option maxHeartbeats 4000000 in
theorem Wx {w m:Nat}(hT:gC W)(hc:c.Ok)(h:CW c w m s k x P b):
  Spec Tryz.prog 60 [.pointer pn,.int .i64 (w:Int),.pointer P.p,.pointer r] W (bn r x b*aN R.po P k (NH pn c R*bJ c R s F)) (fun _:zQ c x P b=> .tuple #[]) (fun z=>bn r (cg c w s k x).2.2 z.1.2.2*aN R.po {P with ended:=z.1.1,q:=z.1.2.1} (cg c w s k x).2.1 (NH pn c R*bJ c R (cg c w s k x).1 F)):=by
 have hle:=h.le
 rcases(show x.next=0∨(1≤x.next∧x.next≤4)∨x.next=5∨x.next=6∨x.next=7∨x.next=8∨x.next=9 by omega)with e|⟨e1,e2⟩|e|e|e|e|e
 ·obtain⟨a1,a2,a3,a4,a5⟩:=h.wh e
  exact(Yo (W:=W) (F:=F) (pn:=pn) (r:=r) (b:=b) (R:=R) (P:=P) (w:=w) a1 a2 a3 a4 a5 e).mono fun _=>⟨wA c x P b P.ended (by omega),rfl,U.refl _⟩
 ·refine Spec.of Tryz.func60 rfl Tryz.ntmps60 rfl ?_
  have es:cg c w s k x=ie c w s k x:=by unfold cg;rw[if_neg (by omega),if_pos e2]
  rw[es]
  refine bn.open fun Q=> ?_
  simp only[dC,aN]
  have jo:x.next=1∨x.next=2∨x.next=3∨x.next=4:=by omega
  rcases jo with e|e|e|e
  all_goals
   refine aa ?_;intros
   refine af rfl (Spec.pre (Wd (pn:=pn) (r:=r) (b:=b) (R:=R) (P:=P) (w:=w) (F:=F) hc (h.ends e1 e2) e1 e2) (bn.bl Q (by rfl) (by simp only[aN];exact ab))) ?_
   intro z
   refine aa ?_;intros
   exact aE (aF rfl (wA c x P b z (by omega)) rfl (U.sat (U.refl _)))
 ·obtain⟨p,a1,a2,a3⟩:=h.on e
  exact(Yp (W:=W) (F:=F) (pn:=pn) (r:=r) (b:=b) (R:=R) (P:=P) (w:=w) hc h.gs h.ep a1 a2 a3 e).mono fun _=>⟨wA c x P b P.ended (by omega),rfl,U.refl _⟩
 ·obtain⟨a1,a2,a3,a4⟩:=h.take e
  exact(Yq (W:=W) (F:=F) (pn:=pn) (r:=r) (b:=b) (R:=R) (P:=P) (w:=w) hc h.zo h.gs h.ep a1 a2 a3 a4 e).mono fun _=>⟨wA c x P b P.ended (by omega),rfl,U.refl _⟩
 ·refine Spec.of Tryz.func60 rfl Tryz.ntmps60 rfl ?_
  have es:cg c w s k x=dO c s k x:=by unfold cg;rw[if_neg (by omega),if_neg (by omega),if_neg (by omega),if_neg (by omega)]
  rw[es]
  obtain⟨g1,g2,g3⟩:=DB (c:=c) (s:=s) (k:=k) (x:=x)
  have JC:(dO c s k x).1=s∧(dO c s k x).2.1=k:=by unfold dO;rw[if_pos e];split<;>exact⟨rfl,rfl⟩
  rw[JC.1,JC.2]
  refine bn.open fun Q=> ?_
  simp only[dC,aN,bJ]
  refine aa ?_;intros
  refine af rfl (Spec.pre (St (pn:=pn) (r:=r) (b:=b) (R:=R) (P:=P) (k:=k) (s:=s) (F:=bB R.ep s.ep s.gs*(aB R.tb R.pl c.nb s.tb*F)) hc h.pl (h.f7 e) e) (bn.bl Q (by rfl) (by simp only[aN];exact ab))) ?_
  intro _
  refine aa ?_;intros
  exact aE (aF rfl (wA c x P b P.ended (by omega)) rfl (U.sat (U.trans (B:=bn r (dO c s k x).2.2 b*aN R.po P k (NH pn c R*(bB R.ep s.ep s.gs*(aG R.pl s.pl*(aB R.tb R.pl c.nb s.tb*(ao (bb c R s) 3*F)))))) (by simp only[aN];exact ab) (U.refl _))))
 ·refine Spec.of Tryz.func60 rfl Tryz.ntmps60 rfl ?_
  have es:cg c w s k x=dO c s k x:=by unfold cg;rw[if_neg (by omega),if_neg (by omega),if_neg (by omega),if_neg (by omega)]
  rw[es]
  obtain⟨g1,g2,g3⟩:=DB (c:=c) (s:=s) (k:=k) (x:=x)
  obtain⟨a1,a2,a3,a4,a5⟩:=h.f8 e
  have kX:ao (bb c R (dO c s k x).1) 3=ao (bb c R s) 3:=by
   unfold dO;rw[if_neg (by omega),if_pos e]
   dsimp only
   unfold bL;split<;>rfl
  refine bn.open fun Q=> ?_
  simp only[dC,aN,bJ,g1,g2,g3,kX]
  refine aa ?_;intros
  refine af rfl (Spec.pre (Su (pn:=pn) (r:=r) (b:=b) (R:=R) (P:=P) (k:=k) (s:=s) (F:=bB R.ep s.ep s.gs*(aB R.tb R.pl c.nb s.tb*F)) hc h.pl a1 a2 a3 a4 a5 e) (bn.bl Q (by rfl) (by simp only[aN];exact ab))) ?_
  intro z
  refine aa ?_;intros
  exact aE (aF rfl ⟨(P.ended,(fun i=>if i=x.aI.getD 0 0/c.np then z else P.q i),z),.inr ⟨e,rfl⟩⟩ rfl (U.sat (by simp only[aN];exact ab)))
 ·refine Spec.of Tryz.func60 rfl Tryz.ntmps60 rfl ?_
  have es:cg c w s k x=dO c s k x:=by unfold cg;rw[if_neg (by omega),if_neg (by omega),if_neg (by omega),if_neg (by omega)]
  rw[es]
  obtain⟨g1,g2,g3⟩:=DB (c:=c) (s:=s) (k:=k) (x:=x)
  obtain⟨a1,a2,a3,a4,bk,a5,a6,a7⟩:=h.f9 e
  have mY:(dO c s k x).1.pl=s.pl:=by
   unfold dO;rw[if_neg (by omega),if_neg (by omega),a5]
   exact(nV _ _ _).1
  refine bn.open fun Q=> ?_
  simp only[dC,aN,bJ,g1,g2,g3,mY]
  refine aa ?_;intros
  refine af rfl (Spec.pre (Sv (pn:=pn) (r:=r) (b:=b) (R:=R) (P:=P) (k:=k) (s:=s) (F:=bB R.ep s.ep s.gs*(aG R.pl s.pl*(aB R.tb R.pl c.nb s.tb*F))) hT hc a1 a2 a3 a4 a5 a6 a7 e) (bn.bl Q (by rfl) (by simp only[aN];exact ab))) ?_
  intro _
  refine aa ?_;intros
  exact aE (aF rfl (wA c x P b P.ended (by omega)) rfl (U.sat (U.trans (B:=bn r (dO c s k x).2.2 b*aN R.po P (dO c s k x).2.1 (NH pn c R*(bB R.ep s.ep s.gs*(aG R.pl s.pl*(aB R.tb R.pl c.nb s.tb*(ao (bb c R (dO c s k x).1) 3*F)))))) (by simp only[aN];exact ab) (U.refl _))))
end
section
open Go.RowKit
set_option maxRecDepth 10000
attribute [local irreducible] EK EX ER EN EL ES EG an aR aU
variable {W:World} {F G:SL} {X:Cx} {kk:List KI} {σ:Env} {pn:Option Addr} {c:NC} {R:dV} {k:aK} {P:cW} {b:Option Addr}
theorem rP:Spec Tryz.prog 40 [.pointer P.p] W (Obj P.p 126 (bq P k)*(bA (aA P.fr) k.frame*(bA (fun x=>bn P.sw x b) k.aC*F))) (fun _:Unit=> .bool k.busy) (fun _=>Obj P.p 126 (bq P k)*(bA (aA P.fr) k.frame*(bA (fun x=>bn P.sw x b) k.aC*F))):=by
 refine Spec.of Tryz.func40 rfl Tryz.ntmps40 rfl ?_
 unfold aK.busy
 cases hf:k.frame with
 |some f=>
  simp only[bF,bq,hf,show dR (some f) P.fr=P.fr from rfl]
  refine aa ?_;intros
  exact ae (aj rfl rfl () rfl (U.sat (ab)))
 |none=>
  cases hs:k.aC with
  |some x=>
   simp only[bF,dY,bq,hf,hs,gi,show dR (some x) P.sw=P.sw from rfl]
   refine aa ?_;intros
   exact ae (aj rfl rfl () rfl (U.sat (ab)))
  |none=>
   simp only[dY,bq,hf,hs,gi]
   refine aa ?_;intros
   exact ae (aj rfl rfl () rfl (U.sat (ab)))
theorem qG {w:Nat}(hw:w<c.n):Spec Tryz.prog 39 [.pointer pn,.int .i64 (w:Int)] W (NH pn c R*(ad 107 1 R.ws.1 c.n R.ws.2 (cF c.n fun i=>(R.wk i).p)*F)) (fun _:Unit=> .pointer (R.wk w).p) (fun _=>NH pn c R*(ad 107 1 R.ws.1 c.n R.ws.2 (cF c.n fun i=>(R.wk i).p)*F)):=by
 refine Spec.of Tryz.func39 rfl Tryz.ntmps39 rfl ?_
 refine aa ?_;intros
 exact ae (aj rfl rfl () rfl (U.sat (ab)))
end
section
open Go.RowKit
set_option maxRecDepth 10000
attribute [local irreducible] EK EX ER EN EL ES EG an aR aU
variable {W:World} {F G:SL} {X:Cx} {kk:List KI} {σ:Env} {pn:Option Addr} {c:NC} {R:dV} {s:aW} {k:aK} {P:cW} {b:Option Addr} {f:aM}
theorem BV (k:aK)(i:Nat)(a:dH):(k.cK i a).frame=k.frame∧(k.cK i a).aC=k.aC:=⟨(nj k i a).1,(nj k i a).2.1⟩
theorem L8 {w:Nat}:(c7 c w s k f).2.1.frame=k.frame∧(c7 c w s k f).2.1.aC=k.aC:=by
 have ha:∀p i v t,(fN {k with aS:=iL k.aS f.id f.ai} p i v t).frame=k.frame∧(fN {k with aS:=iL k.aS f.id f.ai} p i v t).aC=k.aC:=fun p i v t=>by
  rw[tV];exact⟨rfl,rfl⟩
 unfold c7
 repeat' split
 all_goals first|exact⟨rfl,rfl⟩|skip
 ·unfold cM
  repeat' split
  all_goals first|exact⟨rfl,rfl⟩|exact BV _ _ _|(dsimp only;split<;>first|exact⟨rfl,rfl⟩|exact BV _ _ _)
 ·unfold fQ
  repeat' split
  all_goals first|exact⟨rfl,rfl⟩|exact BV _ _ _|exact ha _ _ _ _
def fU (k:aK)(f:aM):aK:=if f.done=true then {k with bt:=f.gD,fh:=f.oo,any:=true,frame:=none}else {k with frame:=some f}
theorem Wu {w:Nat}(hT:gC W)(hc:c.Ok)(hw:w<c.n)(hP:R.wk w=P)(hf:k.frame=some f)(h:vq c w s k f):
  Spec Tryz.prog 28 [.pointer pn,.int .i64 (w:Int)] W (aA P.fr f*aN R.po P k (NH pn c R*bJ c R s (bA (fun x=>bn P.sw x b) k.aC*(ad 107 1 R.ws.1 c.n R.ws.2 (cF c.n fun i=>(R.wk i).p)*F)))) (fun _:az=> .bool (!(fU (c7 c w s k f).2.1 (c7 c w s k f).2.2).busy))
   (fun z=>aN R.po {P with told:=z} (fU (c7 c w s k f).2.1 (c7 c w s k f).2.2) (bA (aA P.fr) (fU (c7 c w s k f).2.1 (c7 c w s k f).2.2).frame*(NH pn c R*bJ c R (c7 c w s k f).1 (bA (fun x=>bn P.sw x b) k.aC*(ad 107 1 R.ws.1 c.n R.ws.2 (cF c.n fun i=>(R.wk i).p)*F))))):=by
 refine Spec.of Tryz.func28 rfl Tryz.ntmps28 rfl ?_
 obtain⟨r1,r2⟩:=L8 (c:=c) (w:=w) (s:=s) (k:=k) (f:=f)
 have eK:=fun G=>Wv (W:=W) (F:=G) (pn:=pn) (q:=P.fr) (R:=R) (P:=P) hT hc h
 have ga:=fun G=>qG (W:=W) (F:=G) (pn:=pn) (R:=R) hw
 rw[hP]at ga
 generalize c7 c w s k f=D at*
 obtain⟨s2,k2,f2⟩:=D
 dsimp only at*
 rw[hf]at r1
 have fZ:k.busy=true:=by unfold aK.busy;rw[hf];rfl
 have jm:=fun G=>rP (W:=W) (P:=P) (k:=k) (b:=b) (F:=G)
 have ep:dR (some f) P.fr=P.fr:=rfl
 simp only[hf,bF,bq,fZ,ep]at jm
 simp only[aN,bJ,bq,hf,r1,ep]at eK
 simp only[aN,bJ,bq,hf,ep]
 refine aa ?_;intros
 refine af rfl (Spec.pre (ga (aA P.fr f*(Obj P.p 126 [.pointer (P.c 0),.pointer (P.c 1),.pointer (P.c 2),.pointer P.wh,.map (some P.m),.pointer P.fr,.pointer (dR k.aC P.sw),.slice P.told.1 k.bt.length P.told.2,.int .i64 (k.fh:Int),.bool k.any,.slice P.ended.1 k.ended.length P.ended.2]*(bA (fun x=>bn P.sw x b) k.aC*(ao (cj R.po P k) 3*(ct P.wh k.aD*(cQ dQ de P.m k.aS*(ad 5 1 P.told.1 k.bt.length P.told.2 (ar k.bt)*(ad 132 2 P.ended.1 k.ended.length P.ended.2 (cN k.ended)*(bB R.ep s.ep s.gs*(aG R.pl s.pl*(aB R.tb R.pl c.nb s.tb*(ao (bb c R s) 3*F))))))))))))) (ab)) ?_
 intro _
 refine aa ?_;intros
 refine af rfl (Spec.pre (jm (NH pn c R*(ad 107 1 R.ws.1 c.n R.ws.2 (cF c.n fun i=>(R.wk i).p)*(ao (cj R.po P k) 3*(ct P.wh k.aD*(cQ dQ de P.m k.aS*(ad 5 1 P.told.1 k.bt.length P.told.2 (ar k.bt)*(ad 132 2 P.ended.1 k.ended.length P.ended.2 (cN k.ended)*(bB R.ep s.ep s.gs*(aG R.pl s.pl*(aB R.tb R.pl c.nb s.tb*(ao (bb c R s) 3*F)))))))))))) (ab)) ?_
 intro _
 refine aa ?_;intros
 refine af rfl (Spec.pre (eK (bA (fun x=>bn P.sw x b) k.aC*(ad 107 1 R.ws.1 c.n R.ws.2 (cF c.n fun i=>(R.wk i).p)*F))) (ab)) ?_
 intro _
 refine aA.iK fun Q=> ?_
 simp only[cm]
 rw[←r2]
 cases hd:f2.done with
 |true=>
  have eD:fU k2 f2={k2 with bt:=f2.gD,fh:=f2.oo,any:=true,frame:=none}:=if_pos hd
  rw[eD]
  have pf:=fun G=>rP (W:=W) (P:={P with told:=Q.gH}) (k:={k2 with bt:=f2.gD,fh:=f2.oo,any:=true,frame:=none}) (b:=b) (F:=G)
  simp only[dY,bq,gi]at pf
  refine aa ?_;intros
  refine af rfl (Spec.pre (pf (ad 5 1 Q.gH.1 f2.gD.length Q.gH.2 (ar f2.gD)*(ao (cj R.po P k2) 3*(ct P.wh k2.aD*(cQ dQ de P.m k2.aS*(ad 132 2 P.ended.1 k2.ended.length P.ended.2 (cN k2.ended)*(NH pn c R*(bB R.ep s2.ep s2.gs*(aG R.pl s2.pl*(aB R.tb R.pl c.nb s2.tb*(ao (bb c R s2) 3*(ad 107 1 R.ws.1 c.n R.ws.2 (cF c.n fun i=>(R.wk i).p)*F)))))))))))) (ab)) ?_
  intro _
  refine aa ?_;intros
  refine ae (aj rfl rfl Q.gH rfl (U.sat ?_))
  rw[qc (P:=P) (P':={P with told:=Q.gH}) (k:=k2) (k':={k2 with bt:=f2.gD,fh:=f2.oo,any:=true,frame:=none}) rfl rfl rfl rfl rfl]
  simp only[dY,bq,gi]
  exact ab
 |false=>
  have eD:fU k2 f2={k2 with frame:=some f2}:=if_neg (by rw[hd];decide)
  rw[eD]
  have pf:=fun G=>rP (W:=W) (P:=P) (k:={k2 with frame:=some f2}) (b:=b) (F:=G)
  simp only[bF,bq,show dR (some f2) P.fr=P.fr from rfl]at pf
  refine aa ?_;intros
  refine af rfl (Spec.pre (pf (ad 5 1 P.told.1 k2.bt.length P.told.2 (ar k2.bt)*(ao (cj R.po P k2) 3*(ct P.wh k2.aD*(cQ dQ de P.m k2.aS*(ad 132 2 P.ended.1 k2.ended.length P.ended.2 (cN k2.ended)*(NH pn c R*(bB R.ep s2.ep s2.gs*(aG R.pl s2.pl*(aB R.tb R.pl c.nb s2.tb*(ao (bb c R s2) 3*(ad 107 1 R.ws.1 c.n R.ws.2 (cF c.n fun i=>(R.wk i).p)*F)))))))))))) (U.at P.p rfl (aA.bl Q (by unfold vl;rw[hd]) (ab)))) ?_
  intro _
  refine aa ?_;intros
  refine ae (aj rfl rfl P.told rfl (U.sat ?_))
  rw[qc (P:=P) (P':={P with told:=P.told}) (k:=k2) (k':={k2 with frame:=some f2}) rfl rfl rfl rfl rfl]
  simp only[bF,bq,show dR (some f2) P.fr=P.fr from rfl]
  exact ab
end
section
open Go.RowKit
set_option maxRecDepth 10000
attribute [local irreducible] EK EX ER EN EL ES EG an aR aU
variable {W:World} {F G:SL} {X:Cx} {kk:List KI} {σ:Env} {pn:Option Addr} {c:NC} {R:dV} {k:aK} {P:cW} {b:Option Addr}
theorem Np {w:Nat}(hw:w<c.n)(hP:R.wk w=P)(hk:k.busy=false):Spec Tryz.prog 28 [.pointer pn,.int .i64 (w:Int)] W (NH pn c R*(ad 107 1 R.ws.1 c.n R.ws.2 (cF c.n fun i=>(R.wk i).p)*(Obj P.p 126 (bq P k)*(bA (aA P.fr) k.frame*(bA (fun x=>bn P.sw x b) k.aC*F))))) (fun _:Unit=> .bool true) (fun _=>(NH pn c R*(ad 107 1 R.ws.1 c.n R.ws.2 (cF c.n fun i=>(R.wk i).p)*(Obj P.p 126 (bq P k)*(bA (aA P.fr) k.frame*(bA (fun x=>bn P.sw x b) k.aC*F)))))):=by
 refine Spec.of Tryz.func28 rfl Tryz.ntmps28 rfl ?_
 have ga:=fun G=>qG (W:=W) (F:=G) (pn:=pn) (R:=R) hw
 rw[hP]at ga
 have jm:=fun G=>rP (W:=W) (P:=P) (k:=k) (b:=b) (F:=G)
 rw[hk]at jm
 refine aa ?_;intros
 refine af rfl (ga _) ?_
 intro _
 have gK:NN (Obj P.p 126 (bq P k)*F) P.p:=inferInstance
 refine aa ?_;intros
 refine af rfl (Spec.pre (jm (NH pn c R*(ad 107 1 R.ws.1 c.n R.ws.2 (cF c.n fun i=>(R.wk i).p)*F))) (ab)) ?_
 intro _
 refine aa ?_;intros
 exact ae (aj rfl rfl () rfl (U.sat (ab)))
end
section
open Go.RowKit
set_option maxRecDepth 10000
attribute [local irreducible] EK EX ER EN EL ES EG an aR aU
variable {W:World} {F G:SL} {X:Cx} {kk:List KI} {σ:Env} {pn:Option Addr} {c:NC} {R:dV} {s:aW} {k:aK} {P:cW} {b:Option Addr} {x:cI}
theorem Ma {w:Nat}:(cg c w s k x).2.1.frame=k.frame∧(cg c w s k x).2.1.aC=k.aC:=by
 have ha:∀p i v t,(fN k p i v t).frame=k.frame∧(fN k p i v t).aC=k.aC:=fun p i v t=>by
  rw[tV];exact⟨rfl,rfl⟩
 unfold cg
 repeat' split
 all_goals first|exact⟨rfl,rfl⟩|skip
 ·unfold ie
  repeat' split
  all_goals first|exact⟨rfl,rfl⟩|(dsimp only;repeat' split)
  all_goals first|exact⟨rfl,rfl⟩|exact ha _ _ _ _
 ·unfold dO
  repeat' split
  all_goals first|exact⟨rfl,rfl⟩|exact BV _ _ _
def jk (k:aK)(x:cI):aK:=if x.done=true then {k with aC:=none}else {k with aC:=some x}
set_option maxHeartbeats 4000000 in
theorem Ww {w m:Nat}(hT:gC W)(hc:c.Ok)(hw:w<c.n)(hP:R.wk w=P)(hf:k.frame=none)(hx:k.aC=some x)(h:CW c w m s k x P b):
  Spec Tryz.prog 28 [.pointer pn,.int .i64 (w:Int)] W (bn P.sw x b*aN R.po P k (NH pn c R*bJ c R s (ad 107 1 R.ws.1 c.n R.ws.2 (cF c.n fun i=>(R.wk i).p)*F))) (fun _:zQ c x P b=> .bool (!(jk (cg c w s k x).2.1 (cg c w s k x).2.2).busy))
   (fun z=>aN R.po {P with ended:=z.1.1,q:=z.1.2.1} (jk (cg c w s k x).2.1 (cg c w s k x).2.2) (bA (fun y=>bn P.sw y z.1.2.2) (jk (cg c w s k x).2.1 (cg c w s k x).2.2).aC*(NH pn c R*bJ c R (cg c w s k x).1 (ad 107 1 R.ws.1 c.n R.ws.2 (cF c.n fun i=>(R.wk i).p)*F)))):=by
 refine Spec.of Tryz.func28 rfl Tryz.ntmps28 rfl ?_
 obtain⟨r1,r2⟩:=Ma (c:=c) (w:=w) (s:=s) (k:=k) (x:=x)
 have eK:=fun G=>Wx (W:=W) (F:=G) (pn:=pn) (r:=P.sw) (R:=R) (P:=P) (w:=w) hT hc h
 have ga:=fun G=>qG (W:=W) (F:=G) (pn:=pn) (R:=R) hw
 rw[hP]at ga
 generalize cg c w s k x=D at*
 obtain⟨s2,k2,x2⟩:=D
 dsimp only at*
 rw[hf]at r1
 rw[hx]at r2
 have fZ:k.busy=true:=by unfold aK.busy;rw[hf,hx];rfl
 have jm:=fun G=>rP (W:=W) (P:=P) (k:=k) (b:=b) (F:=G)
 have ep:dR (some x) P.sw=P.sw:=rfl
 simp only[hf,hx,bF,dY,bq,fZ,ep,gi]at jm
 simp only[aN,bJ,bq,hf,hx,r1,r2,ep,gi]at eK
 simp only[aN,bJ,bq,hf,hx,ep,gi]
 refine aa ?_;intros
 refine af rfl (Spec.pre (ga (bn P.sw x b*(Obj P.p 126 [.pointer (P.c 0),.pointer (P.c 1),.pointer (P.c 2),.pointer P.wh,.map (some P.m),.pointer none,.pointer P.sw,.slice P.told.1 k.bt.length P.told.2,.int .i64 (k.fh:Int),.bool k.any,.slice P.ended.1 k.ended.length P.ended.2]*(ao (cj R.po P k) 3*(ct P.wh k.aD*(cQ dQ de P.m k.aS*(ad 5 1 P.told.1 k.bt.length P.told.2 (ar k.bt)*(ad 132 2 P.ended.1 k.ended.length P.ended.2 (cN k.ended)*(bB R.ep s.ep s.gs*(aG R.pl s.pl*(aB R.tb R.pl c.nb s.tb*(ao (bb c R s) 3*F)))))))))))) (ab)) ?_
 intro _
 refine aa ?_;intros
 refine af rfl (Spec.pre (jm (NH pn c R*(ad 107 1 R.ws.1 c.n R.ws.2 (cF c.n fun i=>(R.wk i).p)*(ao (cj R.po P k) 3*(ct P.wh k.aD*(cQ dQ de P.m k.aS*(ad 5 1 P.told.1 k.bt.length P.told.2 (ar k.bt)*(ad 132 2 P.ended.1 k.ended.length P.ended.2 (cN k.ended)*(bB R.ep s.ep s.gs*(aG R.pl s.pl*(aB R.tb R.pl c.nb s.tb*(ao (bb c R s) 3*F)))))))))))) (ab)) ?_
 intro _
 refine aa ?_;intros
 refine af rfl (Spec.pre (eK (ad 107 1 R.ws.1 c.n R.ws.2 (cF c.n fun i=>(R.wk i).p)*F)) (ab)) ?_
 intro z
 refine bn.iK fun Q=> ?_
 simp only[dC]
 cases hd:x2.done with
 |true=>
  have eD:jk k2 x2={k2 with aC:=none}:=if_pos hd
  rw[eD]
  have pf:=fun G=>rP (W:=W) (P:={P with ended:=z.1.1,q:=z.1.2.1}) (k:={k2 with aC:=none}) (b:=z.1.2.2) (F:=G)
  simp only[dY,bq,gi,r1]at pf
  refine aa ?_;intros
  refine af rfl (Spec.pre (pf (ao (cj R.po {P with ended:=z.1.1,q:=z.1.2.1} k2) 3*(ct P.wh k2.aD*(cQ dQ de P.m k2.aS*(ad 5 1 P.told.1 k2.bt.length P.told.2 (ar k2.bt)*(ad 132 2 z.1.1.1 k2.ended.length z.1.1.2 (cN k2.ended)*(NH pn c R*(bB R.ep s2.ep s2.gs*(aG R.pl s2.pl*(aB R.tb R.pl c.nb s2.tb*(ao (bb c R s2) 3*(ad 107 1 R.ws.1 c.n R.ws.2 (cF c.n fun i=>(R.wk i).p)*F)))))))))))) (ab)) ?_
  intro _
  refine aa ?_;intros
  refine ae (aj rfl rfl z (by simp only[r1]) (U.sat ?_))
  rw[qc (P:={P with ended:=z.1.1,q:=z.1.2.1}) (P':={P with ended:=z.1.1,q:=z.1.2.1}) (k:=k2) (k':={k2 with aC:=none}) rfl rfl rfl rfl rfl]
  simp only[dY,bq,gi,r1]
  exact ab
 |false=>
  have eD:jk k2 x2={k2 with aC:=some x2}:=if_neg (by rw[hd];decide)
  rw[eD]
  have pf:=fun G=>rP (W:=W) (P:={P with ended:=z.1.1,q:=z.1.2.1}) (k:={k2 with aC:=some x2}) (b:=z.1.2.2) (F:=G)
  simp only[bF,dY,bq,gi,r1,show dR (some x2) P.sw=P.sw from rfl]at pf
  refine aa ?_;intros
  refine af rfl (Spec.pre (pf (ao (cj R.po {P with ended:=z.1.1,q:=z.1.2.1} k2) 3*(ct P.wh k2.aD*(cQ dQ de P.m k2.aS*(ad 5 1 P.told.1 k2.bt.length P.told.2 (ar k2.bt)*(ad 132 2 z.1.1.1 k2.ended.length z.1.1.2 (cN k2.ended)*(NH pn c R*(bB R.ep s2.ep s2.gs*(aG R.pl s2.pl*(aB R.tb R.pl c.nb s2.tb*(ao (bb c R s2) 3*(ad 107 1 R.ws.1 c.n R.ws.2 (cF c.n fun i=>(R.wk i).p)*F)))))))))))) (U.at P.p rfl (bn.bl Q (by unfold qY;rw[hd]) (ab)))) ?_
  intro _
  refine aa ?_;intros
  refine ae (aj rfl rfl z (by simp only[r1]) (U.sat ?_))
  rw[qc (P:={P with ended:=z.1.1,q:=z.1.2.1}) (P':={P with ended:=z.1.1,q:=z.1.2.1}) (k:=k2) (k':={k2 with aC:=some x2}) rfl rfl rfl rfl rfl]
  simp only[bF,bq,gi,r1,show dR (some x2) P.sw=P.sw from rfl]
  exact ab
end
section
open Go.RowKit
set_option maxRecDepth 10000
attribute [local irreducible] EK EX ER EN EL ES EG an aR aU
variable {W:World} {F G:SL} {X:Cx} {kk:List KI} {σ:Env} {pn:Option Addr} {c:NC} {R:dV} {n:cH} {s:aW} {k:aK} {P:cW} {b:Option Addr} {f:aM} {x:cI} {w:Nat}
theorem Spec.uf {Q:Program}{g:FuncId}{vs:List Value}{α β:Type}{P:β→SL}{r:α→Value}{H':α→SL}(h:∀a,Spec Q g vs W (P a*F) r H'):Spec Q g vs W (SL.ex P*F) r H':=fun w hs=>by
 obtain⟨a,hs⟩:=hs.jA
 exact h a w hs
def zw (P:cW)(k:aK)(x:cI)(b:Option Addr):Prop:=∀bk,x.back=some bk→bk.kind=2→bk.done=false→∀i,i<3→(k.ca i).out.isSome=true→b=P.q i
def jO (P:cW)(k:aK)(x:cI):SL:=SL.ex fun b:{b:Option Addr//zw P k x b}=>bn P.sw x b.1
def sK (pp:Nat→Option Addr)(P:cW)(k:aK):SL:=xr pp P k*(bA (aA P.fr) k.frame*bA (jO P k) k.aC)
theorem sK.eq (pp:Nat→Option Addr)(P:cW)(k:aK)(F:SL):sK pp P k*F=aN pp P k (bA (aA P.fr) k.frame*(bA (jO P k) k.aC*F)):=by
 unfold sK
 rw[SL.bP,xr.eq,SL.bP]
def gk (R:dV)(l:List aK)(i:Nat):SL:=sK R.po (R.wk i) (l.getD i al)
def gA (pn:Option Addr)(c:NC)(n:cH)(R:dV):SL:=NH pn c R*(ad 107 1 R.ws.1 c.n R.ws.2 (cF c.n fun i=>(R.wk i).p)*(ao (gk R n.wk) c.n*xg c R n.sh))
def dn (pn:Option Addr)(c:NC)(n:cH):SL:=SL.ex (gA pn c n)
theorem gA.eq (n:cH)(R:dV)(F:SL):gA pn c n R*F=NH pn c R*(ad 107 1 R.ws.1 c.n R.ws.2 (cF c.n fun i=>(R.wk i).p)*(ao (gk R n.wk) c.n*bJ c R n.sh F)):=by
 unfold gA
 simp only[SL.bP]
 rw[xg.eq]
theorem gA.at (hw:w<c.n)(F:SL):gA pn c n R*F=NH pn c R*(ad 107 1 R.ws.1 c.n R.ws.2 (cF c.n fun i=>(R.wk i).p)*(aN R.po (R.wk w) (n.wk.getD w al) (bA (aA (R.wk w).fr) (n.wk.getD w al).frame*(bA (jO (R.wk w) (n.wk.getD w al)) (n.wk.getD w al).aC*(ao (cA (gk R n.wk) w) c.n*bJ c R n.sh F))))):=by
 rw[gA.eq,ao.at c.n hw,SL.bP]
 unfold gk
 rw[sK.eq]
def sc (f:Nat→cW)(w:Nat)(P:cW):Nat→cW:=fun i=>if i=w then P else f i
theorem vL (l:List aK)(w i:Nat)(k:aK)(h:w<l.length):(l.set w k).getD i al=if i=w then k else l.getD i al:=by
 simp only[List.getD_eq_getElem?_getD,List.getElem?_set]
 by_cases e:i=w
 ·subst e;simp[h]
 ·rw[if_neg (fun h:w=i=>e h.symm),if_neg e]
theorem gA.put (hl:n.wk.length=c.n)(hw:w<c.n)(P':cW)(k':aK)(s':aW)(hp:P'.p=(R.wk w).p)(F:SL):gA pn c ⟨s',n.wk.set w k'⟩ {R with wk:=sc R.wk w P'}*F=NH pn c R*(ad 107 1 R.ws.1 c.n R.ws.2 (cF c.n fun i=>(R.wk i).p)*(aN R.po P' k' (bA (aA P'.fr) k'.frame*(bA (jO P' k') k'.aC*(ao (cA (gk R n.wk) w) c.n*bJ c R s' F))))):=by
 rw[gA.at hw]
 have e1:sc R.wk w P' w=P':=if_pos rfl
 have e2:(n.wk.set w k').getD w al=k':=by rw[vL _ _ _ _ (by omega),if_pos rfl]
 have e3:ao (cA (gk {R with wk:=sc R.wk w P'} (n.wk.set w k')) w) c.n=ao (cA (gk R n.wk) w) c.n:=ao.congr c.n fun i hi=>by
  unfold cA
  by_cases e:i=w
  ·rw[if_pos e,if_pos e]
  ·rw[if_neg e,if_neg e]
   unfold gk
   rw[vL _ _ _ _ (by omega),if_neg e]
   have:sc R.wk w P' i=R.wk i:=if_neg e
   dsimp only
   rw[this]
 have e4:(cF c.n fun i=>(sc R.wk w P' i).p)=cF c.n fun i=>(R.wk i).p:=Lp fun i hi=>by
  unfold sc
  split
  ·rename_i e;rw[hp,e]
  ·rfl
 dsimp only
 rw[e1,e2,e3,e4]
 rfl
structure xh (c:NC)(w m:Nat)(s:aW)(k:aK)(x:cI):Prop where
 le:x.next≤9
 gs:s.gs.length=c.n
 ep:oT c.n s.ep s.gs
 pl:cy (3*c.np) s.pl
 wh:x.next=0→jx k.aD∧k.aD.all.length≤300∧(∀y∈(fP k.aD x.tick).1,0≤y.id)∧(fP k.aD x.tick).1.length≤300∧x.due.length≤100000
 ends:1≤x.next→x.next≤4→Cs c w s k x
 on:x.next=5→∃p,x.on=some p∧p.Ok c.n∧p.done=false
 take:x.next=6→(s.gs.getD w []).length≤1000000∧(∀t∈(fS (s.ep.getD 0 0) (s.gs.getD w [])).map (·.1),t<1000000)∧(fS (s.ep.getD 0 0) (s.gs.getD w [])).length≤1000000∧x.aI.length≤1000000
 f7:x.next=7→1≤x.aI.length→x.aI.getD 0 0<3*c.np
 f8:x.next=8→1≤x.aI.length∧x.aI.getD 0 0<3*c.np∧x.word.ok∧(∀i,i<3→(k.ca i).out=none)∧(k.ca (x.aI.getD 0 0/c.np)).l.length≤16
 f9:x.next=9→w5 m k∧m≤32∧(∀i,i<3→∀o,(k.ca i).out=some o→o.parts.length≤1000)∧(∀i,i<3→ic m (s.po i))∧∃bk,x.back=some bk∧bk.done=false∧(bk.kind=3∨(bk.kind=2∧∃o,(k.ca (ew k)).out=some o))
theorem E9 (k:aK):ew k<3:=by
 rw[←Ft];exact Fu k 3 (Nat.le_refl _)
theorem xh.dE {m:Nat}(hw:w<c.n)(h:xh c w m s k x)(hb:zw P k x b)(hc:c.Ok):CW c w m s k x P b where
 le:=h.le
 zo:=hw
 gs:=h.gs
 ep:=h.ep
 pl:=h.pl
 wh:=h.wh
 ends:=h.ends
 on:=h.on
 take:=h.take
 f7:=h.f7
 f8:=fun e=>by
  obtain⟨a1,a2,a3,a4,a5⟩:=h.f8 e
  have cU:=hc.np
  exact⟨a1,a2,a3,a4 _ (by rw[Nat.div_lt_iff_lt_mul (by omega)];omega),a5⟩
 f9:=fun e=>by
  obtain⟨a1,a2,a3,a4,bk,a5,a6,a7⟩:=h.f9 e
  refine⟨a1,a2,a3,a4,bk,a5,a6,?_⟩
  rcases a7 with a7|⟨a7,o,a8⟩
  ·exact .inl a7
  ·exact .inr ⟨a7,hb bk a5 a7 a6 _ (E9 k) (by rw[a8];rfl),o,a8⟩
def zA (c:NC)(w:Nat)(n:cH):Prop:=match(n.wk.getD w al).frame with
 |some f=>(n.wk.getD w al).aC=none∧vq c w n.sh (n.wk.getD w al) f
 |none=>match(n.wk.getD w al).aC with
  |some x=>∃m,xh c w m n.sh (n.wk.getD w al) x
  |none=>True
theorem Fg (hl:n.wk.length=c.n)(hw:w<c.n)(hf:(n.wk.getD w al).frame=some f):bX c w n=(⟨(c7 c w n.sh (n.wk.getD w al) f).1,n.wk.set w (fU (c7 c w n.sh (n.wk.getD w al) f).2.1 (c7 c w n.sh (n.wk.getD w al) f).2.2)⟩, !(fU (c7 c w n.sh (n.wk.getD w al) f).2.1 (c7 c w n.sh (n.wk.getD w al) f).2.2).busy):=by
 unfold bX
 rw[if_neg (by omega)]
 simp only[hf]
 rfl
theorem KK (hl:n.wk.length=c.n)(hw:w<c.n)(hf:(n.wk.getD w al).frame=none)(hx:(n.wk.getD w al).aC=some x):bX c w n=(⟨(cg c w n.sh (n.wk.getD w al) x).1,n.wk.set w (jk (cg c w n.sh (n.wk.getD w al) x).2.1 (cg c w n.sh (n.wk.getD w al) x).2.2)⟩, !(jk (cg c w n.sh (n.wk.getD w al) x).2.1 (cg c w n.sh (n.wk.getD w al) x).2.2).busy):=by
 unfold bX
 rw[if_neg (by omega)]
 simp only[hf,hx]
 rfl
theorem KJ (hl:n.wk.length=c.n)(hw:w<c.n)(hf:(n.wk.getD w al).frame=none)(hx:(n.wk.getD w al).aC=none):bX c w n=(n,true):=by
 unfold bX
 rw[if_neg (by omega)]
 simp only[hf,hx]
theorem HF (k:aK)(p:Nat)(id:Int)(v:bH)(t:Int)(i:Nat):(fN k p id v t).ca i=k.ca i:=by
 rw[tV];rfl
theorem RU (i:Nat):(ie c w s k x).2.1.ca i=k.ca i∧(ie c w s k x).2.2.back=x.back:=by
 unfold ie
 split
 ·exact⟨rfl,rfl⟩
 ·dsimp only
  repeat' split
  all_goals first|exact⟨rfl,rfl⟩|exact⟨HF _ _ _ _ _ _,rfl⟩
theorem Yk (h:x.next≤7)(i:Nat):(cg c w s k x).2.1.ca i=k.ca i∧(cg c w s k x).2.2.back=x.back:=by
 unfold cg
 split
 ·exact⟨rfl,rfl⟩
 split
 ·exact RU i
 split
 ·split<;>exact⟨rfl,rfl⟩
 split
 ·exact⟨rfl,rfl⟩
 unfold dO
 rw[if_pos (by omega)]
 split<;>exact⟨rfl,rfl⟩
theorem nU (k:aK)(d i:Nat)(hd:d<3)(hi:i<3)(a:dH):(k.cK d a).ca i=if i=d then a else k.ca i:=by
 split
 ·rename_i e;subst e;exact zW k a hd
 ·rename_i e;exact C9 k a hi hd e
theorem QP (ws:List Nat)(a:dH)(y:jN)(h:(cX ws a y).2.1.out.isSome=true):a.out.isSome=true:=by
 unfold cX at h
 split at h
 ·exact h
 split at h
 ·exact h
 split at h
 ·split at h
  ·rename_i o ho
   rw[ho];rfl
  ·exact h
 ·dsimp only at h
  split at h<;>exact h
theorem Yj {m:Nat}(hc:c.Ok)(h:xh c w m s k x)(hb:zw P k x b)(e:az)(z:zQ c x P b):zw {P with ended:=e,q:=z.1.2.1} (cg c w s k x).2.1 (cg c w s k x).2.2 z.1.2.2:=by
 by_cases h7:x.next≤7
 ·intro bk e1 e2 e3 i hi e4
  obtain⟨c1,c2⟩:=Yk (c:=c) (w:=w) (s:=s) (k:=k) h7 i
  rw[c1]at e4
  rw[c2]at e1
  obtain⟨z,hz⟩:=z
  rcases hz with ⟨_,z1,z2⟩|⟨z1,z2⟩
  ·dsimp only;rw[z1,z2];exact hb bk e1 e2 e3 i hi e4
  ·omega
 have hle:=h.le
 have es:cg c w s k x=dO c s k x:=by unfold cg;rw[if_neg (by omega),if_neg (by omega),if_neg (by omega),if_neg (by omega)]
 rw[es]
 by_cases h8:x.next=8
 ·obtain⟨a1,a2,a3,a4,a5⟩:=h.f8 h8
  have cU:=hc.np
  have hd:x.aI.getD 0 0/c.np<3:=by rw[Nat.div_lt_iff_lt_mul (by omega)];omega
  unfold dO
  rw[if_neg (by omega),if_pos h8]
  intro bk e1 e2 e3 i hi e4
  dsimp only at e1 e2 e3 e4 ⊢
  rw[nU _ _ _ hd hi]at e4
  have hid:i=x.aI.getD 0 0/c.np:=by
   by_cases gK:i=x.aI.getD 0 0/c.np
   ·exact gK
   ·rw[if_neg gK,a4 i hi]at e4;cases e4
  obtain⟨z,hz⟩:=z
  rcases hz with ⟨z0,_,_⟩|⟨z1,z2⟩
  ·exact absurd h8 z0
  ·dsimp only;rw[z2];exact(if_pos hid).symm
 ·obtain⟨a1,a2,a3,a4,bk,a5,a6,a7⟩:=h.f9 (by omega)
  unfold dO
  rw[if_neg (by omega),if_neg (by omega),a5]
  intro bk' e1 e2 e3 i hi e4
  dsimp only at e1 e2 e3 e4 ⊢
  obtain⟨z,hz⟩:=z
  rcases hz with ⟨_,z1,z2⟩|⟨z1,z2⟩
  ·dsimp only;rw[z1,z2]
   rw[nU _ _ _ (E9 k) hi]at e4
   have h2:bk.kind=2:=by
    rcases a7 with a7|⟨a7,_⟩
    ·injection e1 with e1
     subst e1
     unfold cX at e2
     rw[a6,a7]at e2
     simp at e2
    ·exact a7
   refine hb bk a5 h2 a6 i hi ?_
   split at e4
   ·rename_i hid
    subst hid
    exact QP _ _ _ e4
   ·exact e4
  ·omega
theorem Ha (hT:gC W)(hc:c.Ok)(hl:n.wk.length=c.n)(hw:w<c.n)(hf:(n.wk.getD w al).frame=some f)(hs:(n.wk.getD w al).aC=none)(h:vq c w n.sh (n.wk.getD w al) f):Spec Tryz.prog 28 [.pointer pn,.int .i64 (w:Int)] W (dn pn c n*F) (fun _:Unit=> .bool (bX c w n).2) (fun _=>dn pn c (bX c w n).1*F):=by
 refine Spec.uf fun R=> ?_
 rw[gA.at hw]
 rw[Fg hl hw hf]
 obtain⟨r1,r2⟩:=L8 (c:=c) (w:=w) (s:=n.sh) (k:=n.wk.getD w al) (f:=f)
 have kW:=Wu (W:=W) (pn:=pn) (R:=R) (b:=none) (F:=ao (cA (gk R n.wk) w) c.n*F) hT hc hw (P:=R.wk w) rfl hf h
 simp only[hf,hs,dY,bF]at kW ⊢
 refine(Spec.pre kW (by simp only[aN,bJ];exact ab)).mono fun z=>⟨(),rfl,?_⟩
 refine U.ex {R with wk:=sc R.wk w {R.wk w with told:=z}} ?_
 rw[gA.put hl hw {R.wk w with told:=z} _ _ rfl]
 have fg:(fU (c7 c w n.sh (n.wk.getD w al) f).2.1 (c7 c w n.sh (n.wk.getD w al) f).2.2).aC=none:=by
  unfold fU
  split<;>(dsimp only;rw[r2,hs])
 rw[fg,dY]
 generalize c7 c w n.sh (n.wk.getD w al) f=D
 obtain⟨s2,k2,f2⟩:=D
 simp only[aN,bJ]
 exact ab
theorem Hb (hT:gC W)(hc:c.Ok)(hl:n.wk.length=c.n)(hw:w<c.n)(h:zA c w n):Spec Tryz.prog 28 [.pointer pn,.int .i64 (w:Int)] W (dn pn c n*F) (fun _:Unit=> .bool (bX c w n).2) (fun _=>dn pn c (bX c w n).1*F):=by
 unfold zA at h
 cases hf:(n.wk.getD w al).frame with
 |some f=>
  rw[hf]at h
  exact Ha hT hc hl hw hf h.1 h.2
 |none=>
  rw[hf]at h
  dsimp only at h
  refine Spec.uf fun R=> ?_
  rw[gA.at hw,hf]
  cases hx:(n.wk.getD w al).aC with
  |some x=>
   rw[hx]at h
   obtain⟨m,h⟩:=h
   rw[KK hl hw hf hx]
   obtain⟨r1,r2⟩:=Ma (c:=c) (w:=w) (s:=n.sh) (k:=n.wk.getD w al) (x:=x)
   refine Spec.pre (G:=jO (R.wk w) (n.wk.getD w al) x*(aN R.po (R.wk w) (n.wk.getD w al) (NH pn c R*bJ c R n.sh (ad 107 1 R.ws.1 c.n R.ws.2 (cF c.n fun i=>(R.wk i).p)*(ao (cA (gk R n.wk) w) c.n*F))))) ?_ (by simp only[dY,bF,aN,bJ];exact ab)
   refine Spec.uf fun b=> ?_
   refine(Ww (W:=W) (pn:=pn) (R:=R) (b:=b.1) (F:=ao (cA (gk R n.wk) w) c.n*F) hT hc hw (P:=R.wk w) rfl hf hx (h.dE hw b.2 hc)).mono fun z=>⟨(),rfl,?_⟩
   refine U.ex {R with wk:=sc R.wk w {R.wk w with ended:=z.1.1,q:=z.1.2.1}} ?_
   rw[gA.put hl hw {R.wk w with ended:=z.1.1,q:=z.1.2.1} _ _ rfl]
   have vO:=Yj hc h b.2 z.1.1 z
   have mR:(jk (cg c w n.sh (n.wk.getD w al) x).2.1 (cg c w n.sh (n.wk.getD w al) x).2.2).frame=none:=by
    unfold jk
    split<;>(dsimp only;rw[r1,hf])
   rw[mR,dY]
   generalize cg c w n.sh (n.wk.getD w al) x=D at*
   obtain⟨s2,k2,x2⟩:=D
   dsimp only at*
   cases hd:x2.done with
   |true=>
    have eD:jk k2 x2={k2 with aC:=none}:=if_pos hd
    rw[eD]
    simp only[aN,bJ,dY]
    exact ab
   |false=>
    have eD:jk k2 x2={k2 with aC:=some x2}:=if_neg (by rw[hd];decide)
    rw[eD]
    simp only[aN,bJ,bF]
    refine U.trans (B:=jO {R.wk w with ended:=z.1.1,q:=z.1.2.1} {k2 with aC:=some x2} x2*(aN R.po {R.wk w with ended:=z.1.1,q:=z.1.2.1} {k2 with aC:=some x2} (NH pn c R*bJ c R s2 (ad 107 1 R.ws.1 c.n R.ws.2 (cF c.n fun i=>(R.wk i).p)*(ao (cA (gk R n.wk) w) c.n*F))))) ?_ ?_
    ·refine U.ex ⟨z.1.2.2,vO⟩ ?_
     simp only[aN,bJ]
     exact ab
    ·simp only[aN,bJ]
     exact ab
  |none=>
   rw[KJ hl hw hf hx]
   have hid:(n.wk.getD w al).busy=false:=by unfold aK.busy;rw[hf,hx];rfl
   have kW:=Np (W:=W) (pn:=pn) (R:=R) (b:=none) (F:=ao (cj R.po (R.wk w) (n.wk.getD w al)) 3*(ct (R.wk w).wh (n.wk.getD w al).aD*(cQ dQ de (R.wk w).m (n.wk.getD w al).aS*(ad 5 1 (R.wk w).told.1 (n.wk.getD w al).bt.length (R.wk w).told.2 (ar (n.wk.getD w al).bt)*(ad 132 2 (R.wk w).ended.1 (n.wk.getD w al).ended.length (R.wk w).ended.2 (cN (n.wk.getD w al).ended)*(ao (cA (gk R n.wk) w) c.n*bJ c R n.sh F)))))) hw (P:=R.wk w) rfl hid
   rw[hf,hx]at kW
   simp only[dY]at kW ⊢
   refine(Spec.pre kW (by simp only[aN,bJ];exact ab)).mono fun _=>⟨(),rfl,?_⟩
   refine U.ex R ?_
   rw[gA.at hw,hf,hx]
   simp only[dY,aN,bJ]
   exact ab
end
section
open Go.RowKit
set_option maxRecDepth 10000
attribute [local irreducible] EK EX ER EN EL ES EG an aR aU
variable {W:World} {F G:SL} {X:Cx} {kk:List KI} {σ:Env} {pn:Option Addr} {c:NC} {R:dV} {n:cH} {k:aK} {P:cW} {b:Option Addr} {w:Nat}
attribute [local simp] mJ
theorem Ni (q:Option Addr)(n c:Nat)(l:List (Int×Int))(hl:l.length=n)(hn:n≤1000000):
  Spec Tryz.prog 58 [.slice q n c] W (ad 132 2 q n c (cN l)*F) (fun g:az=> .slice g.1 n g.2)
   (fun g=>ad 132 2 g.1 n g.2 (cN l)*(ad 132 2 q n c (cN l)*F)):=by
 subst hl
 refine Spec.of Tryz.func58 rfl Tryz.ntmps58 rfl ?_
 refine aa ?_;intros
 refine oS (wZ rfl rfl) rfl ?_
 refine aa ?_;intros
 refine iB rfl (fun hp=> ?_) (fun hp=> ?_)
 ·subst hp
  refine Co fun h0=> ?_
  obtain rfl:=List.eq_nil_of_length_eq_zero h0
  refine aa ?_;intros
  exact ae (aj rfl rfl ((none,0):az) rfl (U.sat (U.none (U.refl _))))
 ·refine aa ?_;intros
  rename_i q0 g
  refine ae (aj rfl rfl g ?_ (U.sat (U.row g.1 ?_ ?_ ?_)))
  ·simp
  ·simp
  ·simp
  ·repeat(first|exact U.last|refine U.cons ?_ |refine U.assoc ?_)
theorem Gn {q:Option Addr}{cap:Nat}{l:List UInt8}[s:Src W F q l.length (ar l)](hn:l.length≤1000000):
  Spec Tryz.prog 41 [.slice q l.length cap] W F (fun g:az=> .slice g.1 l.length g.2) (fun g=>ad 5 1 g.1 l.length g.2 (ar l)*F):=by
 refine Spec.of Tryz.func41 rfl Tryz.ntmps41 rfl ?_
 refine aa ?_;intros
 refine oS (wZ rfl rfl) rfl ?_
 refine aa ?_;intros
 refine iB rfl (fun hp=> ?_) (fun hp=> ?_)
 ·subst hp
  refine Cp (φ:=l.length=0) (fun w hw=>by
   rcases Nat.eq_zero_or_pos l.length with h|h
   ·exact h
   ·exact absurd rfl (s.nn w hw h)) fun h0=> ?_
  obtain rfl:=List.eq_nil_of_length_eq_zero h0
  refine aa ?_;intros
  exact ae (aj rfl rfl ((none,0):az) rfl (U.sat (U.none (U.refl _))))
 ·refine aa ?_;intros
  rename_i q0 g
  refine ae (aj rfl rfl g ?_ (U.sat (U.row g.1 ?_ ?_ ?_)))
  ·simp
  ·simp
  ·simp
  ·repeat(first|exact U.last|refine U.cons ?_ |refine U.assoc ?_)
def iU (n:cH)(w:Nat)(out:Bool)(b:List UInt8)(tick:Int):cH×Nat:=if(n.wk.getD w al).busy=true then(n,10)else(⟨n.sh,n.wk.set w {(n.wk.getD w al)with frame:=some (oy out b tick)}⟩,0)
def u6 (n:cH)(w:Nat)(tick:Int):cH×Nat:=if tick<0∨tick>4294967295 then(n,1)else if(n.wk.getD w al).busy=true then(n,10)else(⟨n.sh,n.wk.set w {(n.wk.getD w al)with aC:=some (lM tick),ended:=[]}⟩,0)
def fE (n:cH)(w:Nat):List UInt8×Nat×Bool:=if(n.wk.getD w al).any=true then((n.wk.getD w al).bt,(n.wk.getD w al).fh,true)else([],0,false)
def vW (c:NC)(n:cH)(w:Nat):Int:=match(n.wk.getD w al).frame with
 |some f=>if f.made=true then(c.lo:Int)+(f.iJ%c.np:Nat)else-1
 |none=> -1
def BH (n:cH)(w:Nat):Bool:=match(n.wk.getD w al).frame with
 |some f=>f.pinned
 |none=>false
abbrev kl (pp:Nat→Option Addr)(P:cW)(k:aK)(F:SL):SL:=ao (cj pp P k) 3*(ct P.wh k.aD*(cQ dQ de P.m k.aS*(ad 5 1 P.told.1 k.bt.length P.told.2 (ar k.bt)*(ad 132 2 P.ended.1 k.ended.length P.ended.2 (cN k.ended)*F))))
theorem C8 {P:cW}{k:aK}:Spec Tryz.prog 40 [.pointer P.p] W (Obj P.p 126 (bq P k)*(bA (aA P.fr) k.frame*(bA (jO P k) k.aC*F))) (fun _:Unit=> .bool k.busy) (fun _=>Obj P.p 126 (bq P k)*(bA (aA P.fr) k.frame*(bA (jO P k) k.aC*F))):=by
 cases hx:k.aC with
 |none=>
  have h:=rP (W:=W) (P:=P) (k:=k) (b:=none) (F:=F)
  rw[hx]at h
  exact h
 |some x=>
  refine Spec.pre (G:=jO P k x*(Obj P.p 126 (bq P k)*(bA (aA P.fr) k.frame*F))) ?_ (by rw[bF];exact ab)
  refine Spec.uf fun b=> ?_
  have h:=rP (W:=W) (P:=P) (k:=k) (b:=b.1) (F:=F)
  rw[hx,bF]at h
  refine(Spec.pre h (ab)).mono fun _=>⟨(),rfl,?_⟩
  rw[bF]
  refine U.trans (B:=jO P k x*(Obj P.p 126 (bq P k)*(bA (aA P.fr) k.frame*F))) (U.ex b (ab)) (ab)
abbrev fK (pn:Option Addr)(c:NC)(R:dV)(n:cH)(w:Nat)(k:aK)(F:SL):SL:=NH pn c R*(ad 107 1 R.ws.1 c.n R.ws.2 (cF c.n fun i=>(R.wk i).p)*(Obj (R.wk w).p 126 (bq (R.wk w) k)*(bA (aA (R.wk w).fr) k.frame*(bA (jO (R.wk w) k) k.aC*(kl R.po (R.wk w) k (ao (cA (gk R n.wk) w) c.n*bJ c R n.sh F))))))
theorem gA.K6 (hw:w<c.n):U (gA pn c n R*F) (fK pn c R n w (n.wk.getD w al) F)∧U (fK pn c R n w (n.wk.getD w al) F) (gA pn c n R*F):=by
 rw[gA.at hw]
 simp only[fK,kl,aN]
 generalize n.wk.getD w al=k
 exact⟨ab,ab⟩
theorem Spec.uQ {f:FuncId}{vs:List Value}{α:Type}{r:α→Value}{H':α→SL}(hw:w<c.n)(h:∀R:dV,Spec Tryz.prog f vs W (fK pn c R n w (n.wk.getD w al) F) r fun x=>H' x):Spec Tryz.prog f vs W (dn pn c n*F) r H':=Spec.uf fun R=>Spec.pre (h R) (gA.K6 hw).1
theorem fK.back (hw:w<c.n):U (fK pn c R n w (n.wk.getD w al) F) (dn pn c n*F):=U.trans (gA.K6 hw).2 (U.ex R (U.refl _))
theorem tM (hw:w<c.n):Spec Tryz.prog 20 [.pointer pn,.int .i64 (w:Int)] W (dn pn c n*F) (fun _:Unit=> .bool (n.wk.getD w al).busy) (fun _=>dn pn c n*F):=by
 refine Spec.uQ hw fun R=>(?_ :Spec _ _ _ _ _ _ fun _:Unit=>fK pn c R n w (n.wk.getD w al) F).mono fun _=>⟨(),rfl,fK.back hw⟩
 refine Spec.of Tryz.func20 rfl Tryz.ntmps20 rfl ?_
 have ga:=fun G=>qG (W:=W) (F:=G) (pn:=pn) (R:=R) hw
 have jm:=fun G=>C8 (W:=W) (P:=R.wk w) (k:=n.wk.getD w al) (F:=G)
 refine aa ?_;intros
 refine af rfl (ga _) ?_
 intro _
 refine aa ?_;intros
 refine af rfl (Spec.pre (jm (NH pn c R*(ad 107 1 R.ws.1 c.n R.ws.2 (cF c.n fun i=>(R.wk i).p)*(kl R.po (R.wk w) (n.wk.getD w al) (ao (cA (gk R n.wk) w) c.n*bJ c R n.sh F))))) (ab)) ?_
 intro _
 refine aa ?_;intros
 exact ae (aj rfl rfl () rfl (U.sat (ab)))
theorem fK.put (hl:n.wk.length=c.n)(hw:w<c.n)(P':cW)(k':aK)(hp:P'.p=(R.wk w).p):U (NH pn c R*(ad 107 1 R.ws.1 c.n R.ws.2 (cF c.n fun i=>(R.wk i).p)*(Obj P'.p 126 (bq P' k')*(bA (aA P'.fr) k'.frame*(bA (jO P' k') k'.aC*(kl R.po P' k' (ao (cA (gk R n.wk) w) c.n*bJ c R n.sh F))))))) (dn pn c ⟨n.sh,n.wk.set w k'⟩*F):=by
 refine U.ex {R with wk:=sc R.wk w P'} ?_
 rw[gA.put hl hw P' k' n.sh hp]
 simp only[aN,bJ,kl]
 exact ab
theorem HU {k:aK}(h:¬k.busy=true):k.frame=none∧k.aC=none:=by
 unfold aK.busy at h
 cases hf:k.frame with
 |some f=>rw[hf]at h;exact absurd rfl h
 |none=>
  cases hs:k.aC with
  |some x=>rw[hf,hs]at h;exact absurd rfl h
  |none=>exact⟨rfl,rfl⟩
theorem zv {out:Bool}{q:Option Addr}{l:List UInt8}{cap:Nat}{tick:Int}[s:Src W F q l.length (ar l)](hb:l.length≤1000000)(hl:n.wk.length=c.n)(hw:w<c.n):
  Spec Tryz.prog 13 [.pointer pn,.int .i64 (w:Int),.bool out,.slice q l.length cap,.int .i64 tick] W (dn pn c n*F) (fun _:Unit=> .int .i64 ((iU n w out l tick).2:Int)) (fun _=>dn pn c (iU n w out l tick).1*F):=by
 refine Spec.uQ hw fun R=> ?_
 refine Spec.of Tryz.func13 rfl Tryz.ntmps13 rfl ?_
 have ga:=fun G=>qG (W:=W) (F:=G) (pn:=pn) (R:=R) hw
 have jm:=fun G=>C8 (W:=W) (P:=R.wk w) (k:=n.wk.getD w al) (F:=G)
 unfold iU
 refine aa ?_;intros
 refine af rfl (ga _) ?_
 intro _
 refine aa ?_;intros
 refine af rfl (Spec.pre (jm (NH pn c R*(ad 107 1 R.ws.1 c.n R.ws.2 (cF c.n fun i=>(R.wk i).p)*(kl R.po (R.wk w) (n.wk.getD w al) (ao (cA (gk R n.wk) w) c.n*bJ c R n.sh F))))) (ab)) ?_
 intro _
 by_cases fZ:(n.wk.getD w al).busy=true
 ·rw[fZ,if_pos rfl]
  refine aa ?_;intros
  exact ae (aj rfl rfl () rfl (U.sat (U.trans (B:=fK pn c R n w (n.wk.getD w al) F) (ab) (fK.back hw))))
 ·obtain⟨hf,hs⟩:=HU fZ
  rw[if_neg fZ,Bool.eq_false_iff.2 fZ]
  have Ew:=fun P' k' hp=>fK.put (F:=F) (pn:=pn) (R:=R) (n:=n) hl hw P' k' hp
  generalize n.wk.getD w al=k at*
  simp only[bq,hf,hs,dY,gi]
  refine aa ?_;intros
  refine af rfl (Gn (q:=q) (l:=l) hb) ?_
  intro z
  refine aa ?_;intros
  rename_i y
  refine ae (aj rfl rfl () rfl (U.sat (U.trans ?_ (Ew {R.wk w with fr:=y} {k with frame:=some (oy out l tick),aC:=none} rfl))))
  simp only[hs,dY,bF,bq,gi,show dR (some (oy out l tick)) y=y from rfl]
  refine U.trans (B:=aA y (oy out l tick)*(NH pn c R*(ad 107 1 R.ws.1 c.n R.ws.2 (cF c.n fun i=>(R.wk i).p)*(Obj (R.wk w).p 126 [.pointer ((R.wk w).c 0),.pointer ((R.wk w).c 1),.pointer ((R.wk w).c 2),.pointer (R.wk w).wh,.map (some (R.wk w).m),.pointer y,.pointer none,.slice (R.wk w).told.1 k.bt.length (R.wk w).told.2,.int .i64 (k.fh:Int),.bool k.any,.slice (R.wk w).ended.1 k.ended.length (R.wk w).ended.2]*(kl R.po (R.wk w) k (ao (cA (gk R n.wk) w) c.n*bJ c R n.sh F)))))) ?_ ?_
  ·refine aA.bl ⟨z,none,none,none,none,none,none,none,(none,0)⟩ (by rfl) ?_
   simp only[oy,dY]
   refine U.cons ?_
   refine U.none ?_
   exact ab
  ·simp only[kl]
   rw[qc (P:=R.wk w) (P':={R.wk w with fr:=y}) (k:=k) (k':={k with frame:=some (oy out l tick),aC:=none}) rfl rfl rfl rfl rfl]
   exact ab
theorem Hr {tick:Int}(hl:n.wk.length=c.n)(hw:w<c.n):
  Spec Tryz.prog 17 [.pointer pn,.int .i64 (w:Int),.int .i64 tick] W (dn pn c n*F) (fun _:Unit=> .int .i64 ((u6 n w tick).2:Int)) (fun _=>dn pn c (u6 n w tick).1*F):=by
 refine Spec.uQ hw fun R=> ?_
 refine Spec.of Tryz.func17 rfl Tryz.ntmps17 rfl ?_
 have ga:=fun G=>qG (W:=W) (F:=G) (pn:=pn) (R:=R) hw
 have jm:=fun G=>C8 (W:=W) (P:=R.wk w) (k:=n.wk.getD w al) (F:=G)
 unfold u6
 refine aa ?_;intros
 refine af rfl (ga _) ?_
 intro _
 by_cases ht:tick<0∨tick>4294967295
 ·rw[if_pos ht]
  rcases Int.lt_or_le tick 0 with h0|h0
  ·refine aa ?_;intros
   exact ae (aj rfl rfl () rfl (U.sat (U.trans (B:=fK pn c R n w (n.wk.getD w al) F) (ab) (fK.back hw))))
  ·have h1:tick>4294967295:=by omega
   refine aa ?_;intros
   exact ae (aj rfl rfl () rfl (U.sat (U.trans (B:=fK pn c R n w (n.wk.getD w al) F) (ab) (fK.back hw))))
 rw[if_neg ht]
 have h0:¬tick<0:=by omega
 have h1:¬tick>4294967295:=by omega
 refine aa ?_;intros
 refine af rfl (Spec.pre (jm (NH pn c R*(ad 107 1 R.ws.1 c.n R.ws.2 (cF c.n fun i=>(R.wk i).p)*(kl R.po (R.wk w) (n.wk.getD w al) (ao (cA (gk R n.wk) w) c.n*bJ c R n.sh F))))) (ab)) ?_
 intro _
 by_cases fZ:(n.wk.getD w al).busy=true
 ·rw[fZ,if_pos rfl]
  refine aa ?_;intros
  exact ae (aj rfl rfl () rfl (U.sat (U.trans (B:=fK pn c R n w (n.wk.getD w al) F) (ab) (fK.back hw))))
 ·obtain⟨hf,hs⟩:=HU fZ
  rw[if_neg fZ,Bool.eq_false_iff.2 fZ]
  have Ew:=fun P' k' hp=>fK.put (F:=F) (pn:=pn) (R:=R) (n:=n) hl hw P' k' hp
  generalize n.wk.getD w al=k at*
  simp only[bq,hf,hs,dY,gi]
  refine aa ?_;intros
  rename_i y
  refine aa ?_;intros
  refine ae (aj rfl rfl () rfl (U.sat (U.trans ?_ (Ew {R.wk w with sw:=y,ended:=(none,0)} {k with frame:=none,aC:=some (lM tick),ended:=[]} rfl))))
  simp only[hf,dY,bF,bq,gi,show dR (some (lM tick)) y=y from rfl]
  refine U.trans (B:=jO {R.wk w with sw:=y,ended:=(none,0)} {k with frame:=none,aC:=some (lM tick),ended:=[]} (lM tick)*(NH pn c R*(ad 107 1 R.ws.1 c.n R.ws.2 (cF c.n fun i=>(R.wk i).p)*(Obj (R.wk w).p 126 [.pointer ((R.wk w).c 0),.pointer ((R.wk w).c 1),.pointer ((R.wk w).c 2),.pointer (R.wk w).wh,.map (some (R.wk w).m),.pointer none,.pointer y,.slice (R.wk w).told.1 k.bt.length (R.wk w).told.2,.int .i64 (k.fh:Int),.bool k.any,.slice none 0 0]*(kl R.po (R.wk w) k (ao (cA (gk R n.wk) w) c.n*bJ c R n.sh F)))))) ?_ ?_
  ·refine U.ex ⟨none,fun b e=>by cases e⟩ ?_
   refine bn.bl ⟨(none,0),none,none,(none,0),none⟩ (by rfl) ?_
   simp only[lM,dY]
   refine U.none (U.none ?_)
   exact ab
  ·simp only[kl]
   rw[qc (P:=R.wk w) (P':={R.wk w with sw:=y,ended:=(none,0)}) (k:=k) (k':={k with frame:=none,aC:=some (lM tick),ended:=[]}) rfl rfl rfl rfl rfl]
   repeat(first|refine U.cons ?_ |refine U.none ?_)
   exact U.last
theorem CY (hw:w<c.n)(hb:(n.wk.getD w al).bt.length≤1000000):
  Spec Tryz.prog 14 [.pointer pn,.int .i64 (w:Int)] W (dn pn c n*F) (fun z:az=> .tuple #[.agg #[.slice z.1 (fE n w).1.length z.2,.int .i64 ((fE n w).2.1:Int)],.bool (fE n w).2.2]) (fun z=>ad 5 1 z.1 (fE n w).1.length z.2 (ar (fE n w).1)*(dn pn c n*F)):=by
 refine Spec.uQ hw fun R=> ?_
 refine Spec.of Tryz.func14 rfl Tryz.ntmps14 rfl ?_
 have ga:=fun G=>qG (W:=W) (F:=G) (pn:=pn) (R:=R) hw
 have mh:=fK.back (F:=F) (pn:=pn) (R:=R) (n:=n) hw
 unfold fE
 generalize n.wk.getD w al=k at*
 refine aa ?_;intros
 rename_i y
 refine af rfl (Spec.pre (ga (Obj y 54 [.slice none 0 0,.int .i64 0]*(Obj (R.wk w).p 126 (bq (R.wk w) k)*(bA (aA (R.wk w).fr) k.frame*(bA (jO (R.wk w) k) k.aC*(kl R.po (R.wk w) k (ao (cA (gk R n.wk) w) c.n*bJ c R n.sh F))))))) (ab)) ?_
 intro _
 cases ha:k.any with
 |true=>
  rw[if_pos rfl]
  simp only[fK,bq,ha]at mh ⊢
  refine aa ?_;intros
  refine ay 12 (Obj (R.wk w).p 126 [.pointer ((R.wk w).c 0),.pointer ((R.wk w).c 1),.pointer ((R.wk w).c 2),.pointer (R.wk w).wh,.map (some (R.wk w).m),.pointer (dR k.frame (R.wk w).fr),.pointer (dR k.aC (R.wk w).sw),.slice (R.wk w).told.1 k.bt.length (R.wk w).told.2,.int .i64 (k.fh:Int),.bool true,.slice (R.wk w).ended.1 k.ended.length (R.wk w).ended.2]*1) rfl rfl rfl ?_
  repeat(first|refine c5 ?_ |refine ax 0 rfl rfl rfl rfl (by decide+kernel) (ag) rfl ?_ |refine ax 1 rfl rfl rfl rfl (by decide+kernel) (ag) rfl ?_ |refine ax 2 rfl rfl rfl rfl (by decide+kernel) (ag) rfl ?_ |refine ax 3 rfl rfl rfl rfl (by decide+kernel) (ag) rfl ?_)
  refine aw rfl rfl rfl rfl rfl (Gn hb) (fun _=>ab) ?_
  intro z
  repeat(first|refine c5 ?_ |refine ax 0 rfl rfl rfl rfl (by decide+kernel) (ag) rfl ?_ |refine ax 1 rfl rfl rfl rfl (by decide+kernel) (ag) rfl ?_ |refine ax 2 rfl rfl rfl rfl (by decide+kernel) (ag) rfl ?_ |refine ax 3 rfl rfl rfl rfl (by decide+kernel) (ag) rfl ?_)
  (refine je rfl (cr rfl rfl rfl rfl rfl rfl) (by decide+kernel) rfl ?_);repeat(first|refine dy rfl rfl rfl (fY rfl rfl) (by decide+kernel) (by decide+kernel) rfl ?_ |refine dy rfl rfl rfl (eX rfl rfl) (by decide+kernel) (by decide+kernel) rfl ?_ |refine iP rfl rfl (cr rfl rfl rfl rfl rfl rfl) (by decide+kernel) (by decide+kernel) rfl ?_ |refine eD ?_)
  refine bD ?_;intros
  refine aa ?_;intros
  exact ae (bu (rs:=[.cell 4 54,.tmp 5]) (v:= .agg #[.slice z.1 k.bt.length z.2,.int .i64 (k.fh:Int)]) (u:= .bool true) (vs:=[]) rfl ⟨⟨_,rfl,aX.agg rfl⟩,rfl,trivial⟩ z rfl (U.sat (U.cons (U.trans (ab) mh))))
 |false=>
  rw[if_neg (by decide)]
  simp only[fK,bq,ha]at mh ⊢
  refine aa ?_;intros
  exact ae (bu (rs:=[.cell 4 54,.tmp 5]) (v:= .agg #[.slice none 0 0,.int .i64 0]) (u:= .bool false) (vs:=[]) rfl ⟨⟨_,rfl,aX.agg rfl⟩,rfl,trivial⟩ ((none,0):az) rfl (U.sat (U.none (U.trans (ab) mh))))
theorem GI (hw:w<c.n)(hb:(n.wk.getD w al).ended.length≤1000000):
  Spec Tryz.prog 27 [.pointer pn,.int .i64 (w:Int)] W (dn pn c n*F) (fun z:az=> .slice z.1 (n.wk.getD w al).ended.length z.2) (fun z=>ad 132 2 z.1 (n.wk.getD w al).ended.length z.2 (cN (n.wk.getD w al).ended)*(dn pn c n*F)):=by
 refine Spec.uQ hw fun R=> ?_
 refine Spec.of Tryz.func27 rfl Tryz.ntmps27 rfl ?_
 have ga:=fun G=>qG (W:=W) (F:=G) (pn:=pn) (R:=R) hw
 have mh:=fK.back (F:=F) (pn:=pn) (R:=R) (n:=n) hw
 generalize n.wk.getD w al=k at*
 refine aa ?_;intros
 refine af rfl (ga _) ?_
 intro _
 simp only[fK,bq,kl]at mh ⊢
 refine aa ?_;intros
 refine af rfl (Spec.aL (R.wk w).ended.1 (Ni (R.wk w).ended.1 k.ended.length (R.wk w).ended.2 k.ended rfl hb)) ?_
 intro z
 refine aa ?_;intros
 exact ae (aj rfl rfl z rfl (U.sat (U.cons (U.trans (ab) mh))))
end
section
open Go.RowKit
set_option maxRecDepth 10000
attribute [local irreducible] EK EX ER EN EL ES EG an aR aU
variable {W:World} {F:SL} {X:Cx} {k:List KI} {σ:Env} {pn:Option Addr} {c:NC} {n:cH} {w:Nat}
theorem GM (hw:w<c.n)(hm:∀f,(n.wk.getD w al).frame=some f→f.made=true→f.iJ<1000000)(hc:c.Ok):Spec Tryz.prog 69 [.pointer pn,.int .i64 (w:Int)] W (dn pn c n*F) (fun _:Unit=> .int .i64 (vW c n w)) (fun _=>dn pn c n*F):=by
 refine Spec.uQ hw fun R=>(?_ :Spec _ _ _ _ _ _ fun _:Unit=>fK pn c R n w (n.wk.getD w al) F).mono fun _=>⟨(),rfl,fK.back hw⟩
 refine Spec.of Tryz.func69 rfl Tryz.ntmps69 rfl ?_
 have ga:=fun G=>qG (W:=W) (F:=G) (pn:=pn) (R:=R) hw
 unfold vW
 generalize n.wk.getD w al=k at*
 cases hf:k.frame with
 |none=>
  simp only[fK,dY,bq,hf,gi]
  refine aa ?_;intros
  refine af rfl (ga _) ?_
  intro _
  refine aa ?_;intros
  exact ae (aj rfl rfl () rfl (U.sat (ag)))
 |some f=>
  have Ef:=hm f hf
  simp only[fK,bF,bq,hf,show dR (some f) (R.wk w).fr=(R.wk w).fr from rfl]
  refine aa ?_;intros
  refine af rfl (ga _) ?_
  intro _
  refine zD (H1:=aA (R.wk w).fr f*(NH pn c R*(ad 107 1 R.ws.1 c.n R.ws.2 (cF c.n fun i=>(R.wk i).p)*(Obj (R.wk w).p 126 (bq (R.wk w) k)*(bA (jO (R.wk w) k) k.aC*(kl R.po (R.wk w) k (ao (cA (gk R n.wk) w) c.n*bJ c R n.sh F))))))) (U.sat (by simp only[bq,hf,show dR (some f) (R.wk w).fr=(R.wk w).fr from rfl];exact ag)) ?_
  refine aA.iK fun P=> ?_
  simp only[cm,bq,hf,show dR (some f) (R.wk w).fr=(R.wk w).fr from rfl]
  have hp:=hc.p
  have cU:c.np=c.hi+1-c.lo:=rfl
  cases Ee:f.made with
  |false=>
   refine aa ?_;intros
   refine ae (aj rfl rfl () rfl (U.sat (U.trans (aA.shut (F:=NH pn c R*(ad 107 1 R.ws.1 c.n R.ws.2 (cF c.n fun i=>(R.wk i).p)*(Obj (R.wk w).p 126 (bq (R.wk w) k)*(bA (jO (R.wk w) k) k.aC*(kl R.po (R.wk w) k (ao (cA (gk R n.wk) w) c.n*bJ c R n.sh F)))))) P (by rw[←Ee];rfl) (by simp only[bq,hf,show dR (some f) (R.wk w).fr=(R.wk w).fr from rfl];exact ag)) (by simp only[bq,hf,show dR (some f) (R.wk w).fr=(R.wk w).fr from rfl];exact ag))))
  |true=>
   have Ec:=Ef Ee
   have hx:0≤(f.iJ:Int)%(c.np:Int)∧(f.iJ:Int)%(c.np:Int)<(c.np:Int):=⟨Int.emod_nonneg _ (by omega),Int.emod_lt_of_pos _ (by omega)⟩
   refine aa ?_;intros
   refine jf rfl (by kernel_rfl) ?_
   repeat(refine cD ?_)
   refine aa ?_;intros
   refine ae (aj rfl rfl () (by rw[if_pos rfl,Int.natCast_emod]) (U.sat (U.trans (aA.shut (F:=NH pn c R*(ad 107 1 R.ws.1 c.n R.ws.2 (cF c.n fun i=>(R.wk i).p)*(Obj (R.wk w).p 126 (bq (R.wk w) k)*(bA (jO (R.wk w) k) k.aC*(kl R.po (R.wk w) k (ao (cA (gk R n.wk) w) c.n*bJ c R n.sh F)))))) P (by rw[←Ee];rfl) (by simp only[bq,hf,show dR (some f) (R.wk w).fr=(R.wk w).fr from rfl];exact ag)) (by simp only[bq,hf,show dR (some f) (R.wk w).fr=(R.wk w).fr from rfl];exact ag))))
theorem PB (hw:w<c.n):Spec Tryz.prog 70 [.pointer pn,.int .i64 (w:Int)] W (dn pn c n*F) (fun _:Unit=> .bool (BH n w)) (fun _=>dn pn c n*F):=by
 refine Spec.uQ hw fun R=>(?_ :Spec _ _ _ _ _ _ fun _:Unit=>fK pn c R n w (n.wk.getD w al) F).mono fun _=>⟨(),rfl,fK.back hw⟩
 refine Spec.of Tryz.func70 rfl Tryz.ntmps70 rfl ?_
 have ga:=fun G=>qG (W:=W) (F:=G) (pn:=pn) (R:=R) hw
 unfold BH
 generalize n.wk.getD w al=k at*
 cases hf:k.frame with
 |none=>
  simp only[fK,dY,bq,hf,gi]
  refine aa ?_;intros
  refine af rfl (ga _) ?_
  intro _
  refine aa ?_;intros
  exact ae (aj rfl rfl () rfl (U.sat (ag)))
 |some f=>
  simp only[fK,bF,bq,hf,show dR (some f) (R.wk w).fr=(R.wk w).fr from rfl]
  refine aa ?_;intros
  refine af rfl (ga _) ?_
  intro _
  refine zD (H1:=aA (R.wk w).fr f*(NH pn c R*(ad 107 1 R.ws.1 c.n R.ws.2 (cF c.n fun i=>(R.wk i).p)*(Obj (R.wk w).p 126 (bq (R.wk w) k)*(bA (jO (R.wk w) k) k.aC*(kl R.po (R.wk w) k (ao (cA (gk R n.wk) w) c.n*bJ c R n.sh F))))))) (U.sat (by simp only[bq,hf,show dR (some f) (R.wk w).fr=(R.wk w).fr from rfl];exact ag)) ?_
  refine aA.iK fun P=> ?_
  simp only[cm,bq,hf,show dR (some f) (R.wk w).fr=(R.wk w).fr from rfl]
  refine aa ?_;intros
  refine ae (aj rfl rfl () rfl (U.sat (U.trans (aA.shut (F:=NH pn c R*(ad 107 1 R.ws.1 c.n R.ws.2 (cF c.n fun i=>(R.wk i).p)*(Obj (R.wk w).p 126 (bq (R.wk w) k)*(bA (jO (R.wk w) k) k.aC*(kl R.po (R.wk w) k (ao (cA (gk R n.wk) w) c.n*bJ c R n.sh F)))))) P rfl (by simp only[bq,hf,show dR (some f) (R.wk w).fr=(R.wk w).fr from rfl];exact ag)) (by simp only[bq,hf,show dR (some f) (R.wk w).fr=(R.wk w).fr from rfl];exact ag))))
end
section
open Go.RowKit
instance (priority:=850) Src.aeH (W:World)(H F:SL)(e n cap i:Nat)(p:Option Addr)(xs:List Value)[r:bZ H p (ad e 1 p n cap xs) F]:Src W H (off p i) (n-i) (xs.drop i) where
 cells:=fun w hs j v hv=>by
  rw[Fo]
  rw[List.getElem?_drop]at hv
  exact ad.cell (r.eq▸hs) hv
 nn:=fun w hs hn=>by
  have h:=ad.nn (r.eq▸hs:Sat W w (ad e 1 p n cap xs*F)) (by omega)
  cases p with
  |none=>exact absurd rfl h
  |some a=>simp[off]
instance (priority:=2500) lS.aeD (p:Option Addr)(i j:Nat):lS (el (off p i) j 1) p (i+j) 1 0:=⟨by
 unfold el
 rw[Fo,Nat.mul_one,Nat.mul_one,Nat.add_zero]⟩
set_option maxRecDepth 10000
attribute [local irreducible] EK EX ER EN EL ES EG an aR aU
variable {W:World} {F:SL} {X:Cx} {k:List KI} {σ:Env}
attribute [local simp] mJ vz vy
section
variable {p:Option Addr} {c:Nat} {l:List UInt8}
theorem FG (s:Src W F p l.length (ar l))(hl:l.length≤1000000):Spec Tryz.prog 64 [.slice p l.length c] W F (fun _:Unit=> .int .u16 (cY l:Int)) (fun _=>F):=yZ p c l hl
set_option maxHeartbeats 2000000 in
theorem PK [s:Src W F p l.length (ar l)][r:Room W F p l.length c](h:l.length≤1400)(size len proto src dst:Nat)(eQ:Int)(h1:20≤size)(h2:size≤len)(h3:len≤l.length)(h4:proto<256):Spec Tryz.prog 32 [.agg #[.int .i64 (size:Int),.int .i64 (len:Int),.int .i64 eQ,.int .i64 (proto:Int),.int .u32 (src:Int),.int .u32 (dst:Int)],.slice p l.length c] W F (fun q:{q:dS//q.2.length=l.length}=>q.1.val) (fun q=>q.1.row*F):=by
 refine Spec.of Tryz.func32 rfl Tryz.ntmps32 rfl ?_
 refine aa ?_;intros
 rename_i z
 rw[Nat.zero_add,List.nil_append]
 refine Cp (φ:=l.length≤z.2) (fun w hw=>(ad.len hw).2.1) fun AI=> ?_
 have hA:∀n,size+n+2≤len→cZ z.1 size z.2 1=off z.1 size:=fun n hn=>by
  unfold cZ
  rw[if_neg (by omega),Nat.mul_one]
 by_cases RI:proto=17
 ·subst RI
  by_cases hn:6+2≤len-size
  ·refine aa ?_;intros
   rw[hA 6 (by omega)]
   have pA:(l.set (size+6) 0).length=l.length:=List.length_set
   refine aa ?_;intros
   have pD:((l.set (size+6) 0).set (size+(6+1)) 0).length=l.length:=by rw[List.length_set,List.length_set]
   generalize (l.set (size+6) 0).set (size+(6+1)) 0=u at*
   rw[←hA 6 (by omega),←pD,←jj u (i:=size) (j:=len) (by omega)]
   refine af rfl (FG (l:=gu u size len) (Src.cut inferInstance inferInstance h2 (by omega)) (by rw[jj u (by omega)];omega)) ?_
   intro _
   refine aa ?_;intros
   refine af rfl (rT (s:=Src.cut inferInstance inferInstance h2 (by omega)) src dst 17 (by decide) (by rw[jj u (by omega)];omega)) ?_
   intro _
   have qs:=tj src dst 17 (gu u size len)
   generalize iy src dst 17 (gu u size len)=cs at*
   rw[jj u (by omega),pD,hA 6 (by omega)]
   have jG:(u.set (size+6) (u8 (cs/256))).length=l.length:=by rw[List.length_set,pD]
   refine aa ?_;intros
   rw[show(cs:Int)/2^Int.toNat 8=((cs/256:Nat):Int)from gO _ 8,dG,dG]
   refine aa ?_;intros
   exact ae (aj rfl rfl (⟨(z,(u.set (size+6) (u8 (cs/256))).set (size+(6+1)) (u8 cs)),by dsimp only;rw[List.length_set,jG]⟩:{q:dS//q.2.length=l.length}) (by dsimp only[dS.val];rw[List.length_set,jG]) (U.sat (by dsimp only[dS.row];rw[List.length_set,jG];exact ag)))
  ·refine aa ?_;intros
   exact ae (aj rfl rfl (⟨(z,l),rfl⟩:{q:dS//q.2.length=l.length}) rfl (U.sat (ag)))
 ·by_cases e6:proto=6
  ·subst e6
   by_cases hn:16+2≤len-size
   ·refine aa ?_;intros
    rw[hA 16 (by omega)]
    have pA:(l.set (size+16) 0).length=l.length:=List.length_set
    refine aa ?_;intros
    have pD:((l.set (size+16) 0).set (size+(16+1)) 0).length=l.length:=by rw[List.length_set,List.length_set]
    generalize (l.set (size+16) 0).set (size+(16+1)) 0=u at*
    rw[←hA 16 (by omega),←pD,←jj u (i:=size) (j:=len) (by omega)]
    refine af rfl (FG (l:=gu u size len) (Src.cut inferInstance inferInstance h2 (by omega)) (by rw[jj u (by omega)];omega)) ?_
    intro _
    refine aa ?_;intros
    refine af rfl (rT (s:=Src.cut inferInstance inferInstance h2 (by omega)) src dst 6 (by decide) (by rw[jj u (by omega)];omega)) ?_
    intro _
    have qs:=tj src dst 6 (gu u size len)
    generalize iy src dst 6 (gu u size len)=cs at*
    rw[jj u (by omega),pD,hA 16 (by omega)]
    have jG:(u.set (size+16) (u8 (cs/256))).length=l.length:=by rw[List.length_set,pD]
    refine aa ?_;intros
    rw[show(cs:Int)/2^Int.toNat 8=((cs/256:Nat):Int)from gO _ 8,dG,dG]
    refine aa ?_;intros
    exact ae (aj rfl rfl (⟨(z,(u.set (size+16) (u8 (cs/256))).set (size+(16+1)) (u8 cs)),by dsimp only;rw[List.length_set,jG]⟩:{q:dS//q.2.length=l.length}) (by dsimp only[dS.val];rw[List.length_set,jG]) (U.sat (by dsimp only[dS.row];rw[List.length_set,jG];exact ag)))
   ·refine aa ?_;intros
    exact ae (aj rfl rfl (⟨(z,l),rfl⟩:{q:dS//q.2.length=l.length}) rfl (U.sat (ag)))
  ·by_cases e1:proto=1
   ·subst e1
    by_cases hn:2+2≤len-size
    ·refine aa ?_;intros
     rw[hA 2 (by omega)]
     have pA:(l.set (size+2) 0).length=l.length:=List.length_set
     refine aa ?_;intros
     have pD:((l.set (size+2) 0).set (size+(2+1)) 0).length=l.length:=by rw[List.length_set,List.length_set]
     generalize (l.set (size+2) 0).set (size+(2+1)) 0=u at*
     rw[←hA 2 (by omega),←pD,←jj u (i:=size) (j:=len) (by omega)]
     refine af rfl (FG (l:=gu u size len) (Src.cut inferInstance inferInstance h2 (by omega)) (by rw[jj u (by omega)];omega)) ?_
     intro _
     have qs:=qf (gu u size len)
     generalize cY (gu u size len)=cs at*
     rw[jj u (by omega),pD,hA 2 (by omega)]
     have jG:(u.set (size+2) (u8 (cs/256))).length=l.length:=by rw[List.length_set,pD]
     refine aa ?_;intros
     rw[show(cs:Int)/2^Int.toNat 8=((cs/256:Nat):Int)from gO _ 8,dG,dG]
     refine aa ?_;intros
     exact ae (aj rfl rfl (⟨(z,(u.set (size+2) (u8 (cs/256))).set (size+(2+1)) (u8 cs)),by dsimp only;rw[List.length_set,jG]⟩:{q:dS//q.2.length=l.length}) (by dsimp only[dS.val];rw[List.length_set,jG]) (U.sat (by dsimp only[dS.row];rw[List.length_set,jG];exact ag)))
    ·refine aa ?_;intros
     exact ae (aj rfl rfl (⟨(z,l),rfl⟩:{q:dS//q.2.length=l.length}) rfl (U.sat (ag)))
   ·have d17:decide ((proto:Int)=17)=false:=decide_eq_false (by omega)
    have d6:decide ((proto:Int)=6)=false:=decide_eq_false (by omega)
    have d1:decide ((proto:Int)=1)=false:=decide_eq_false (by omega)
    refine aa ?_;intros
    rw[d17]
    refine aa ?_;intros
    exact ae (aj rfl rfl (⟨(z,l),rfl⟩:{q:dS//q.2.length=l.length}) rfl (U.sat (ag)))
end
end
section
open Go.RowKit
set_option maxRecDepth 10000
attribute [local irreducible] EK EX ER EN EL ES EG an aR aU
variable {W:World} {F:SL} {X:Cx} {k:List KI} {σ:Env}
attribute [local simp] mJ vz vy
section
variable {p:Option Addr} {c:Nat} {l:List UInt8}
structure Cw (out:Bool)(wt:Int)(S D P:Nat)(g:Nat×Nat×Nat×Nat):Prop where
 s:g.1<4294967296
 d:g.2.1<4294967296
 f:g.2.2.1<65536
 t:g.2.2.2<65536
 same:out=true→um wt 7≠6→g=(S,D,P,53)
set_option maxHeartbeats 4000000 in
theorem PR [s:Src W F p l.length (ar l)][r:Room W F p l.length c](hl:l.length≤140737488355328)(out:Bool)(wt lj port fl jP tick:Int)(kV:Nat)(oC:kV<256):Spec Tryz.prog 9 [.agg #[.bool out,.int .i64 wt,.int .i64 lj,.int .i64 port,.int .i64 fl,.slice p l.length c,.int .i64 jP,.int .u8 (kV:Int),.int .i64 tick]] W F
  (fun q:{q:dS//q.2.length≤220}=>q.1.val) (fun q=>q.1.row*F):=by
 refine Spec.of Tryz.func9 rfl Tryz.ntmps9 rfl ?_
 refine aa ?_;intros
 rename_i bx
 have w0:∀z:Int,0≤IntKind.u64.wrap z∧IntKind.u64.wrap z<18446744073709551616:=fun z=>by rw[IntKind.wrap_u64];omega
 have w1:=w0 lj
 have w2:=w0 port
 have w3:=w0 wt
 have w4:=w0 jP
 have u1:=zg lj (m:=3) (by decide)
 have u2:=zg port (m:=5) (by decide)
 refine jf rfl (by kernel_rfl) ?_
 repeat(refine cD ?_)
 refine aa ?_;intros
 refine ay 21 (Obj bx 25 [.bool out,.int .i64 wt,.int .i64 lj,.int .i64 port,.int .i64 fl,.slice p l.length c,.int .i64 jP,.int .u8 (kV:Int),.int .i64 tick]*F) rfl rfl rfl ?_
 refine ah ?_
 refine bD ?_;intros
 rename_i px
 have um3:=nZ lj (m:=3) (by decide)
 have um5:=nZ port (m:=5) (by decide)
 obtain⟨S,hS,hS2⟩:∃S:Nat,(167772161+IntKind.u64.wrap lj%3:Int)=(S:Int)∧S=167772161+um lj 3:=⟨_,by rw[Int.tmod_eq_emod_of_nonneg w1.1]at u1;omega,rfl⟩
 obtain⟨D,hD,xW⟩:∃D:Nat,(134744065+IntKind.u64.wrap lj/3%3:Int)=(D:Int)∧D<4294967296:=⟨(134744065+IntKind.u64.wrap lj/3%3:Int).toNat,by omega,by omega⟩
 obtain⟨P,hP,hP2⟩:∃P:Nat,(5+IntKind.u64.wrap port%5:Int)=(P:Int)∧P=5+um port 5:=⟨_,by rw[Int.tmod_eq_emod_of_nonneg w2.1]at u2;omega,rfl⟩
 rw[hS,hD,hP]
 have aeo:min l.length 20≤20:=Nat.min_le_right _ _
 have u7:=tF wt (m:=7) (by decide) (by decide)
 have um7:=nZ wt (m:=7) (by decide)
 have n7:((7:Nat):Int)=7:=rfl
 rw[n7]at u7
 refine pS ?_
 refine kh (γ:=Nat×Nat×Nat×Nat) (fun g=>Cw out wt S D P g) (fun g=>[(1,.pointer bx),(5,.pointer px)]) (fun g=>Obj px 85 [.int .i64 wt,.int .u32 (g.1:Int),.int .u32 (g.2.1:Int),.int .u16 (g.2.2.1:Int),.int .u16 (g.2.2.2:Int),.int .i64 fl,.slice p (min l.length 20) c]*(Obj bx 25 [.bool out,.int .i64 wt,.int .i64 lj,.int .i64 port,.int .i64 fl,.slice p l.length c,.int .i64 jP,.int .u8 (kV:Int),.int .i64 tick]*F)) ?_ ?_
 ·cases out with
  |true=>
   refine aa ?_;intros
   rw[show(!true)=false from rfl]
   refine aa ?_;intros
   exact dI (S,D,P,53) ⟨by dsimp only;omega,xW,by dsimp only;omega,by dsimp only;omega,fun _ _=>rfl⟩ ⟨rfl,rfl,trivial⟩ (U.sat (ag))
  |false=>
   refine aa ?_;intros
   rw[show(!false)=true from rfl]
   refine aa ?_;intros
   have v4:0≤IntKind.u64.wrap port%44∧IntKind.u64.wrap port%44<44:=by omega
   refine ay 14 (Obj bx 25 [.bool false,.int .i64 wt,.int .i64 lj,.int .i64 port,.int .i64 fl,.slice p l.length c,.int .i64 jP,.int .u8 (kV:Int),.int .i64 tick]*1) rfl rfl rfl ?_
   refine bD ?_;intros
   obtain⟨Q,hQ,jU⟩:∃Q:Nat,(998+IntKind.u64.wrap port%44:Int)=(Q:Int)∧Q<65536:=⟨(998+IntKind.u64.wrap port%44:Int).toNat,by omega,by omega⟩
   rw[hQ]
   exact dI (D,3221225985,53,Q) ⟨xW,by dsimp only;omega,by dsimp only;omega,jU,fun h=>by cases h⟩ ⟨rfl,rfl,trivial⟩ (U.sat (ag))
 intro ⟨a1,a2,a3,a4⟩ ⟨j1,j2,j3,j4,j5⟩
 dsimp only at j1 j2 j3 j4 j5 ⊢
 have g7:IntKind.u64.wrap wt%7=((um wt 7:Nat):Int):=by
  have:=zg wt (m:=7) (by decide)
  rw[Int.tmod_eq_emod_of_nonneg w3.1]at this
  exact this
 refine pS ?_
 refine kh (γ:=Nat×Nat×Nat×Nat) (fun g=>Cw out wt S D P g) (fun g=>[(1,.pointer bx),(5,.pointer px)]) (fun g=>Obj px 85 [.int .i64 wt,.int .u32 (g.1:Int),.int .u32 (g.2.1:Int),.int .u16 (g.2.2.1:Int),.int .u16 (g.2.2.2:Int),.int .i64 fl,.slice p (min l.length 20) c]*(Obj bx 25 [.bool out,.int .i64 wt,.int .i64 lj,.int .i64 port,.int .i64 fl,.slice p l.length c,.int .i64 jP,.int .u8 (kV:Int),.int .i64 tick]*F)) ?_ ?_
 ·by_cases h3:um wt 7=3
  ·cases out with
   |true=>
    refine aa ?_;intros
    exact dI (a1,a2,a3,a4) ⟨j1,j2,j3,j4,j5⟩ ⟨rfl,rfl,trivial⟩ (U.sat (ag))
   |false=>
    refine aa ?_;intros
    exact dI (a1,a2,a4,a4) ⟨j1,j2,j4,j4,fun h=>by cases h⟩ ⟨rfl,rfl,trivial⟩ (U.sat (ag))
  ·by_cases h2:um wt 7=2
   ·cases out with
    |true=>
     refine aa ?_;intros
     exact dI (a1,a2,a3,a4) ⟨j1,j2,j3,j4,j5⟩ ⟨rfl,rfl,trivial⟩ (U.sat (ag))
    |false=>
     refine aa ?_;intros
     exact dI (a1,a2,a4,a4) ⟨j1,j2,j4,j4,fun h=>by cases h⟩ ⟨rfl,rfl,trivial⟩ (U.sat (ag))
   ·refine aa ?_;intros
    exact dI (a1,a2,a3,a4) ⟨j1,j2,j3,j4,j5⟩ ⟨rfl,rfl,trivial⟩ (U.sat (ag))
 clear j1 j2 j3 j4 j5 a1 a2 a3 a4
 intro ⟨a1,a2,a3,a4⟩ ⟨j1,j2,j3,j4,j5⟩
 dsimp only at j1 j2 j3 j4 j5 ⊢
 refine pS ?_
 refine kh (γ:=Nat×Nat×Nat×Nat) (fun g=>Cw out wt S D P g) (fun g=>[(1,.pointer bx),(5,.pointer px)]) (fun g=>Obj px 85 [.int .i64 wt,.int .u32 (g.1:Int),.int .u32 (g.2.1:Int),.int .u16 (g.2.2.1:Int),.int .u16 (g.2.2.2:Int),.int .i64 fl,.slice p (min l.length 20) c]*(Obj bx 25 [.bool out,.int .i64 wt,.int .i64 lj,.int .i64 port,.int .i64 fl,.slice p l.length c,.int .i64 jP,.int .u8 (kV:Int),.int .i64 tick]*F)) ?_ ?_
 ·by_cases h6:um wt 7=6
  ·cases out with
   |true=>
    refine aa ?_;intros
    rw[show(!true)=false from rfl]
    refine aa ?_;intros
    exact dI (a1,a2,a3,a3) ⟨j1,j2,j3,j3,fun _ h=>absurd h6 h⟩ ⟨rfl,rfl,trivial⟩ (U.sat (ag))
   |false=>
    refine aa ?_;intros
    obtain⟨Q,hQ,jU⟩:∃Q:Nat,(998+IntKind.u64.wrap port%44:Int)=(Q:Int)∧Q<65536:=⟨(998+IntKind.u64.wrap port%44:Int).toNat,by omega,by omega⟩
    rw[hQ]
    exact dI (a1,a2,a3,Q) ⟨j1,j2,j3,jU,fun h=>by cases h⟩ ⟨rfl,rfl,trivial⟩ (U.sat (ag))
  ·refine aa ?_;intros
   exact dI (a1,a2,a3,a4) ⟨j1,j2,j3,j4,j5⟩ ⟨rfl,rfl,trivial⟩ (U.sat (ag))
 clear j1 j2 j3 j4 j5 a1 a2 a3 a4
 intro ⟨a1,a2,a3,a4⟩ ⟨j1,j2,j3,j4,j5⟩
 dsimp only at j1 j2 j3 j4 j5 ⊢
 refine aa ?_;intros
 have uE:min l.length 20≤l.length:=Nat.min_le_left _ _
 generalize min l.length 20=m at*
 have qA:(l.take m).length=m:=by rw[List.length_take];exact Nat.min_eq_left uE
 rw[show Value.slice p m c=Value.slice p (l.take m).length c by rw[qA]]
 refine af rfl (N2 (s:=Src.pre inferInstance uE) (r:=Room.pre inferInstance) (by omega) wt a1 a2 a3 a4 j3 j4 fl) ?_
 intro ⟨⟨z,b⟩,hz⟩
 obtain⟨iV,ig, -, -, -⟩:=hz
 dsimp only at iV ig ⊢
 by_cases hy:kV=0
 ·subst hy
  refine aa ?_;intros
  exact ae (aj rfl rfl (⟨(z,b),ig⟩:{q:dS//q.2.length≤220}) rfl (U.sat (ag)))
 refine aa ?_;intros
 simp only[dS.val,dS.row]
 have ub:=tF jP (m:=b.length) (by omega) (by omega)
 have umb:=nZ jP (m:=b.length) (by omega)
 have uu:=zg jP (m:=b.length) (by omega)
 refine ay 15 (ad 5 1 z.1 b.length z.2 (ar b)*(Obj bx 25 [.bool out,.int .i64 wt,.int .i64 lj,.int .i64 port,.int .i64 fl,.slice p l.length c,.int .i64 jP,.int .u8 (kV:Int),.int .i64 tick]*1)) rfl rfl rfl ?_
 refine ah ?_
 rw[Int.tmod_eq_emod_of_nonneg w4.1]at ub
 rw[ub]
 have Je:=dM b (um jP b.length)
 refine ah ?_
 obtain⟨v,hv⟩:∃v:UInt8,bits .xor .u8 ((b1 b (um jP b.length):Nat):Int) (kV:Int)=((v.toNat:Nat):Int):=⟨u8 (b1 b (um jP b.length)^^^kV),by
  rw[u8_xor_nat _ _ Je oC,r9,Nat.mod_eq_of_lt (Nat.xor_lt_two_pow (n:=8) Je oC)]⟩
 rw[hv]
 refine bD ?_;intros
 have oB:(b.set (um jP b.length) v).length=b.length:=List.length_set
 generalize b.set (um jP b.length) v=b' at*
 rw[←oB]
 refine aa ?_;intros
 refine iB rfl (fun he=> ?_) (fun he=> ?_)
 ·refine aa ?_;intros
  refine af rfl (GL (l:=b') (by omega) (by omega)) ?_
  intro ⟨⟨y,d⟩,hd⟩
  dsimp only at hd ⊢
  simp only[dS.val,dS.row]
  refine aa ?_;intros
  refine af rfl (FC (l:=d) false (by omega)) ?_
  intro _
  refine aa ?_;intros
  rename_i hx
  refine iB rfl (fun h0=> ?_) (fun h0=> ?_)
  ·have qq:dP false d=0:=by omega
   have hT:mj false d=bo d:=by unfold mj;rw[if_pos qq]
   obtain⟨q1,q2,q3,q4,q5,q6,q7,q8⟩:=pV.of qq
   rw[hT]
   simp only[cT]
   generalize bo d=jE at*
   refine ay 99 (Obj hx 87 [.int .i64 (jE.size:Int),.int .i64 (jE.len:Int),.int .i64 (jE.eQ:Int),.int .i64 (jE.proto:Int),.int .u32 (jE.src:Int),.int .u32 (jE.dst:Int)]*1) rfl rfl rfl ?_
   refine ah ?_
   refine aw rfl rfl rfl rfl rfl (GL (l:=b') (by omega) (by omega)) (fun _=>ag) ?_
   intro ⟨⟨y2,d2⟩,xY⟩
   dsimp only at xY ⊢
   simp only[dS.val,dS.row]
   refine ah ?_
   refine aw rfl rfl rfl rfl rfl (PK (l:=d2) (by omega) jE.size jE.len jE.proto jE.src jE.dst jE.eQ (by omega) (by omega) (by omega) (by omega)) (fun _=>ag) ?_
   intro ⟨⟨y3,d3⟩,lD⟩
   dsimp only at lD ⊢
   simp only[dS.val,dS.row]
   refine bD ?_;intros
   refine aa ?_;intros
   exact ae (aj rfl rfl (⟨(y3,d3),by dsimp only;omega⟩:{q:dS//q.2.length≤220}) rfl (U.sat (ag)))
  ·refine aa ?_;intros
   exact ae (aj rfl rfl (⟨(z,b'),by dsimp only;omega⟩:{q:dS//q.2.length≤220}) rfl (U.sat (ag)))
 ·refine aa ?_;intros
  exact ae (aj rfl rfl (⟨(z,b'),by dsimp only;omega⟩:{q:dS//q.2.length≤220}) rfl (U.sat (ag)))
end
end
end Go.Proofs.YtfkngchldmfpfaaGreatDoor
