/-
  A part of a proof, joined by a program (wip/bundle3.py).
-/
import Derived.Test.YtfkngchldmfpfaaGreatDoorG16
set_option linter.unusedVariables false
set_option linter.unusedSimpArgs false
namespace Go.Proofs.YtfkngchldmfpfaaGreatDoor
section
open Go.RowKit
set_option maxRecDepth 10000
attribute [local irreducible] EK EX ER EN EL ES EG an aR aU
variable {W:World} {F G:SL} {X:Cx} {kk:List KI} {σ:Env} {pn q:Option Addr} {f:aM} {c:NC} {R:dV} {s:aW} {k:aK} {P:cW} {pp:Nat→Option Addr} {pc pw po:Option Addr}
theorem ZI {o:Nat}{out:Bool}{l:List UInt8}(h:lO o out l=0):dP false l=0∧j9 (bo l) l=0:=by
 unfold lO at h
 split at h
 ·rename_i h1;exact absurd h h1
 ·rename_i h1
  have h1:=Decidable.not_not.1 h1
  unfold eA at h1
  split at h1
  ·rename_i h2;exact⟨h2,h1⟩
  ·rename_i h2;exact absurd h1 h2
set_option maxHeartbeats 2000000 in
theorem Wt {w:Nat}(hc:c.Ok)(oB:f.b.length≤140737488355328)(hw:w<s.gs.length)(hg:s.gs.length≤64):
  Spec Tryz.prog 79 [.pointer pn,.int .i64 (w:Int),.pointer q] W (aA q f*(NH pn c R*(bB R.ep s.ep s.gs*F))) (fun _:Unit=> .tuple #[]) (fun _=>aA q (pN c w f)*(NH pn c R*(bB R.ep s.ep s.gs*F))):=by
 refine Spec.of Tryz.func79 rfl Tryz.ntmps79 rfl ?_
 by_cases ht:f.tick<0∨f.tick>4294967295
 ·have es:pN c w f=f.refuse 1:=by unfold pN;rw[if_pos ht]
  rw[es]
  refine aA.open fun Q=> ?_
  simp only[cm]
  by_cases ED:f.tick<0
  ·refine aa ?_;intros
   refine af rfl (Spec.pre (Aq (q:=q) (f:=f) (e:=1) (F:=(NH pn c R*(bB R.ep s.ep s.gs*F)))) (aA.bl Q (by rfl) (ab))) ?_
   intro _
   refine aa ?_;intros
   exact ae (dm rfl () rfl (U.sat (ab)))
  ·have mn:f.tick>4294967295:=by omega
   refine aa ?_;intros
   refine af rfl (Spec.pre (Aq (q:=q) (f:=f) (e:=1) (F:=(NH pn c R*(bB R.ep s.ep s.gs*F)))) (aA.bl Q (by rfl) (ab))) ?_
   intro _
   refine aa ?_;intros
   exact ae (dm rfl () rfl (U.sat (ab)))
 have ED:¬f.tick<0:=by omega
 have mn:¬f.tick>4294967295:=by omega
 have nJ:c.cfg.o.toNat=c.o:=by unfold NC.cfg;dsimp only;omega
 have hW:∀G,∀(p:Option Addr) (cc:Nat) [Src W G p f.b.length (ar f.b)] [Room W G p f.b.length cc],Spec Tryz.prog 102 [.agg c.cfg.cells.toArray,.bool f.out,.slice p f.b.length cc] W G (fun _:Unit=>wx (tL c.o f.out f.b) (lO c.o f.out f.b)) (fun _=>G):=fun G p cc _ _=>by
  have:=P3 (W:=W) (F:=G) (p:=p) (c:=cc) oB c.cfg (by unfold NC.cfg;dsimp only;omega) f.out
  rw[nJ]at this
  exact this
 have es:pN c w f=if lO c.o f.out f.b≠0 then f.refuse (lO c.o f.out f.b)
 else if f.out=false∧ka c.cfg (ed f.out f.b).proto (ed f.out f.b).port<0 then
  {f with part:=fR f.b,ai:=ed f.out f.b,gJ:=o5 f.out f.b,id:=ka c.cfg (ed f.out f.b).proto (ed f.out f.b).port}.refuse 7
 else {f with part:=fR f.b,ai:=ed f.out f.b,gJ:=o5 f.out f.b,id:=if f.out=true then f.id else ka c.cfg (ed f.out f.b).proto (ed f.out f.b).port,cb:=some ⟨w,false,0,0,false,false⟩,next:=1}:=by
  unfold pN;rw[if_neg ht]
 rw[es]
 clear es
 refine aA.open fun Q=> ?_
 simp only[cm]
 refine aa ?_;intros
 generalize yH:tL c.o f.out f.b=wt at*
 generalize Bc:lO c.o f.out f.b=we at*
 refine kh (γ:=Option Addr) (fun _=>True) (fun y=>[(0,.pointer pn),(1,.int .i64 (w:Int)),(2,.pointer q),(6,.pointer y),(7,.int .i64 (we:Int))]) (fun y=>Obj y 72 (kq wt)*cm q f Q (NH pn c R*(bB R.ep s.ep s.gs*F))) ?_ ?_
 ·refine ay 17 (NH pn c R*(Obj q 119 (cP f Q)*1)) rfl rfl rfl ?_
  refine ah ?_
  refine qS (i:=12) (j:=16) (su rfl rfl rfl rfl (hW _ _ _) (fun _=>ab) ?_) (tO rfl rfl (sF rfl) rfl (fun _=>ab) ?_)
  ·intro _
   repeat(first|refine c5 ?_ |refine ax 0 rfl rfl rfl rfl (by decide+kernel) (ag) rfl ?_ |refine ax 1 rfl rfl rfl rfl (by decide+kernel) (ag) rfl ?_ |refine ax 2 rfl rfl rfl rfl (by decide+kernel) (ag) rfl ?_ |refine ax 3 rfl rfl rfl rfl (by decide+kernel) (ag) rfl ?_)
   refine bD ?_;intros
   rename_i y
   refine aa ?_;intros
   exact dI y trivial ⟨rfl,rfl,rfl,rfl,rfl,trivial⟩ (U.sat (ab))
  ·intro y
   refine aw rfl rfl rfl rfl rfl (hW _ _ _) (fun _=>ab) ?_
   intro _
   repeat(first|refine c5 ?_ |refine ax 0 rfl rfl rfl rfl (by decide+kernel) (ag) rfl ?_ |refine ax 1 rfl rfl rfl rfl (by decide+kernel) (ag) rfl ?_ |refine ax 2 rfl rfl rfl rfl (by decide+kernel) (ag) rfl ?_ |refine ax 3 rfl rfl rfl rfl (by decide+kernel) (ag) rfl ?_)
   refine bD ?_;intros
   refine aa ?_;intros
   exact dI y trivial ⟨rfl,rfl,rfl,rfl,rfl,trivial⟩ (U.sat (ab))
 intro y _
 simp only[cm]
 by_cases h0:we=0
 ·rw[if_neg (fun hh=>hh h0)]
  have yz:=ZI (Bc.trans h0)
  have eW:wt=ed f.out f.b:=by rw[←yH];unfold tL;rw[Bc,if_pos h0]
  rw[h0]at Bc
  have uH:=MA f.out f.b
  rw[←eW]at uH
  rw[←eW]
  clear yH Bc hW eW
  refine aa ?_;intros
  refine af rfl (DK oB) ?_
  intro _
  rw[mQ yz.1,yz.1,if_pos rfl]
  have TR:=pV.of yz.1
  have RN:pH (bo f.b) f.b=fR f.b:=if_pos yz.2
  have JU:=fun G (p:Option Addr) (cc:Nat) [Src W G p f.b.length (ar f.b)] [Room W G p f.b.length cc]=>Fv (W:=W) (F:=G) (p:=p) (c:=cc) (bo f.b) TR
  rw[RN,yz.2]at JU
  generalize bo f.b=hd at*
  generalize fR f.b=pt at*
  generalize ur:o5 f.out f.b=bg at*
  refine aa ?_;intros
  rename_i x
  refine ay 12 (Obj x 110 (cT hd)*(Obj q 119 (cP f Q)*1)) rfl rfl rfl ?_
  repeat(first|refine c5 ?_ |refine ax 0 rfl rfl rfl rfl (by decide+kernel) (ag) rfl ?_ |refine ax 1 rfl rfl rfl rfl (by decide+kernel) (ag) rfl ?_ |refine ax 2 rfl rfl rfl rfl (by decide+kernel) (ag) rfl ?_ |refine ax 3 rfl rfl rfl rfl (by decide+kernel) (ag) rfl ?_)
  refine aw rfl rfl rfl rfl rfl (JU _ _ _) (fun _=>ab) ?_
  intro _
  repeat(first|refine c5 ?_ |refine ax 0 rfl rfl rfl rfl (by decide+kernel) (ag) rfl ?_ |refine ax 1 rfl rfl rfl rfl (by decide+kernel) (ag) rfl ?_ |refine ax 2 rfl rfl rfl rfl (by decide+kernel) (ag) rfl ?_ |refine ax 3 rfl rfl rfl rfl (by decide+kernel) (ag) rfl ?_)
  (refine je rfl (cr rfl rfl rfl rfl rfl rfl) (by decide+kernel) rfl ?_);repeat(first|refine dy rfl rfl rfl (fY rfl rfl) (by decide+kernel) (by decide+kernel) rfl ?_ |refine dy rfl rfl rfl (eX rfl rfl) (by decide+kernel) (by decide+kernel) rfl ?_ |refine iP rfl rfl (cr rfl rfl rfl rfl rfl rfl) (by decide+kernel) (by decide+kernel) rfl ?_ |refine eD ?_)
  refine aa ?_;intros
  obtain⟨g,jV⟩:∃g:aM,g={f with part:=pt}:=⟨_,rfl⟩
  have uB:g.b=f.b:=by rw[jV]
  have DX:g.out=f.out:=by rw[jV]
  have Jg:=fun G (p:Option Addr) (cc:Nat) [Src W G p g.b.length (ar g.b)] [Room W G p g.b.length cc]=>M4 (W:=W) (F:=G) (p:=p) (c:=cc) (l:=g.b) (by rw[uB];exact oB) g.out
  have Tp:o5 g.out g.b=bg:=by rw[DX,uB,ur]
  rw[Tp]at Jg
  refine iQ (G:=Obj y 72 (kq wt)*cm q g Q (NH pn c R*(bB R.ep s.ep s.gs*F))) (by rw[jV];exact ab) ?_
  simp only[cm]
  refine ay 14 (Obj y 72 (kq wt)*(Obj q 119 (cP g Q)*1)) rfl rfl rfl ?_
  repeat(first|refine c5 ?_ |refine ax 0 rfl rfl rfl rfl (by decide+kernel) (ag) rfl ?_ |refine ax 1 rfl rfl rfl rfl (by decide+kernel) (ag) rfl ?_ |refine ax 2 rfl rfl rfl rfl (by decide+kernel) (ag) rfl ?_ |refine ax 3 rfl rfl rfl rfl (by decide+kernel) (ag) rfl ?_)
  refine aw rfl rfl rfl rfl rfl (Jg _ _ _) (fun _=>ab) ?_
  intro _
  repeat(first|refine c5 ?_ |refine ax 0 rfl rfl rfl rfl (by decide+kernel) (ag) rfl ?_ |refine ax 1 rfl rfl rfl rfl (by decide+kernel) (ag) rfl ?_ |refine ax 2 rfl rfl rfl rfl (by decide+kernel) (ag) rfl ?_ |refine ax 3 rfl rfl rfl rfl (by decide+kernel) (ag) rfl ?_)
  (refine je rfl (cr rfl rfl rfl rfl rfl rfl) (by decide+kernel) rfl ?_);repeat(first|refine dy rfl rfl rfl (fY rfl rfl) (by decide+kernel) (by decide+kernel) rfl ?_ |refine dy rfl rfl rfl (eX rfl rfl) (by decide+kernel) (by decide+kernel) rfl ?_ |refine iP rfl rfl (cr rfl rfl rfl rfl rfl rfl) (by decide+kernel) (by decide+kernel) rfl ?_ |refine eD ?_)
  refine aa ?_;intros
  obtain⟨g2,iu⟩:∃g2:aM,g2={g with ai:=wt,gJ:=bg}:=⟨_,rfl⟩
  have aee:g2.out=f.out:=by rw[iu,jV]
  refine iQ (G:=Obj y 72 (kq wt)*cm q g2 Q (NH pn c R*(bB R.ep s.ep s.gs*F))) (by rw[iu];exact ab) ?_
  simp only[cm]
  rcases Bool.eq_false_or_eq_true f.out with ho|ho
  ·rw[if_neg (fun hh=>by rw[ho]at hh;cases hh.1),if_pos ho]
   rw[DX.trans ho]
   refine aa ?_;intros
   refine af rfl (Spec.aL R.ep (GB hw hg)) ?_
   intro z
   refine aa ?_;intros
   subst iu jV
   refine aE (aF rfl () rfl (U.sat (aA.bl {Q with cb:=z} (by rfl) ?_)))
   simp only[bF]
   exact ab
  ·rw[DX.trans ho]
   have UD:nt ((wt.port:Nat):Int):=by unfold nt;have:=uH.2.2;omega
   refine aa ?_;intros
   refine ay 13 (Obj y 72 (kq wt)*(NH pn c R*(Obj q 119 (cP g2 Q)*1))) rfl rfl rfl ?_
   repeat(first|refine c5 ?_ |refine ax 0 rfl rfl rfl rfl (by decide+kernel) (ag) rfl ?_ |refine ax 1 rfl rfl rfl rfl (by decide+kernel) (ag) rfl ?_ |refine ax 2 rfl rfl rfl rfl (by decide+kernel) (ag) rfl ?_ |refine ax 3 rfl rfl rfl rfl (by decide+kernel) (ag) rfl ?_)
   refine aw rfl rfl rfl rfl rfl (PD c.cfg hc.fit wt.proto wt.port UD) (fun _=>ab) ?_
   intro _
   repeat(first|refine c5 ?_ |refine ax 0 rfl rfl rfl rfl (by decide+kernel) (ag) rfl ?_ |refine ax 1 rfl rfl rfl rfl (by decide+kernel) (ag) rfl ?_ |refine ax 2 rfl rfl rfl rfl (by decide+kernel) (ag) rfl ?_ |refine ax 3 rfl rfl rfl rfl (by decide+kernel) (ag) rfl ?_)
   (refine je rfl (cr rfl rfl rfl rfl rfl rfl) (by decide+kernel) rfl ?_);repeat(first|refine dy rfl rfl rfl (fY rfl rfl) (by decide+kernel) (by decide+kernel) rfl ?_ |refine dy rfl rfl rfl (eX rfl rfl) (by decide+kernel) (by decide+kernel) rfl ?_ |refine iP rfl rfl (cr rfl rfl rfl rfl rfl rfl) (by decide+kernel) (by decide+kernel) rfl ?_ |refine eD ?_)
   generalize ka c.cfg wt.proto wt.port=ip at*
   by_cases yo:ip<0
   ·rw[if_pos ⟨ho,yo⟩]
    refine aa ?_;intros
    refine af rfl (Spec.pre (Aq (q:=q) (f:={g2 with id:=ip}) (e:=7) (F:=(NH pn c R*(bB R.ep s.ep s.gs*F)))) (aA.bl Q (by rfl) (ab))) ?_
    intro _
    refine aa ?_;intros
    subst iu jV
    exact ae (dm rfl () rfl (U.sat (ab)))
   ·rw[if_neg (fun hh=>yo hh.2),if_neg (fun hh=>by rw[ho]at hh;cases hh)]
    refine aa ?_;intros
    refine af rfl (Spec.aL R.ep (GB hw hg)) ?_
    intro z
    refine aa ?_;intros
    subst iu jV
    refine aE (aF rfl () rfl (U.sat (aA.bl {Q with cb:=z} (by rfl) ?_)))
    simp only[bF]
    exact ab
 ·rw[if_pos h0]
  refine aa ?_;intros
  refine af rfl (Spec.pre (Aq (q:=q) (f:=f) (e:=we) (F:=(NH pn c R*(bB R.ep s.ep s.gs*F)))) (aA.bl Q (by rfl) (ab))) ?_
  intro _
  refine aa ?_;intros
  exact ae (dm rfl () rfl (U.sat (ab)))
end
section
open Go.RowKit
set_option maxRecDepth 10000
attribute [local irreducible] EK EX ER EN EL ES EG an aR aU
variable {W:World} {F G:SL} {X:Cx} {kk:List KI} {σ:Env} {pn q:Option Addr} {f:aM} {c:NC} {R:dV} {s:aW} {k:aK} {P:cW} {pp:Nat→Option Addr} {pc pw po:Option Addr}
theorem gN (s:aW)(id:Int)(a b:bH):(bL s id a b).ep=s.ep∧(bL s id a b).gs=s.gs∧(bL s id a b).tb=s.tb∧(bL s id a b).p0=s.p0∧(bL s id a b).p1=s.p1∧(bL s id a b).p2=s.p2:=by
 unfold bL
 split<;>exact⟨rfl,rfl,rfl,rfl,rfl,rfl⟩
theorem Vt:(gG c s k f).1.ep=s.ep∧(gG c s k f).1.gs=s.gs:=by
 unfold gG
 repeat' split
 all_goals first|exact⟨rfl,rfl⟩|exact⟨(gN _ _ _ _).1,(gN _ _ _ _).2.1⟩
theorem Vu:ao (bb c R (gG c s k f).1) 3=ao (bb c R s) 3:=by
 unfold gG
 repeat' split
 all_goals first|rfl|(unfold bL;split<;>rfl)
theorem SF:(cM c s k f).1.ep=s.ep∧(cM c s k f).1.gs=s.gs:=by
 unfold cM
 repeat' split
 all_goals first|exact⟨rfl,rfl⟩|exact⟨(gN _ _ _ _).1,(gN _ _ _ _).2.1⟩|exact⟨(nV _ _ _).2.2.1,(nV _ _ _).2.2.2⟩|(dsimp only;split<;>first|exact⟨rfl,rfl⟩|exact⟨(gN _ _ _ _).1,(gN _ _ _ _).2.1⟩)
theorem RY:(fQ c s k f).1.ep=s.ep∧(fQ c s k f).1.gs=s.gs:=by
 unfold fQ
 repeat' split
 all_goals first|exact⟨rfl,rfl⟩|exact⟨(gN _ _ _ _).1,(gN _ _ _ _).2.1⟩
theorem UO:(gW c s f).1.ep=s.ep∧(gW c s f).1.gs=s.gs∧(gW c s f).1.tb=s.tb:=by
 unfold gW
 repeat' split
 all_goals first|exact⟨rfl,rfl,rfl⟩|exact⟨(gN _ _ _ _).1,(gN _ _ _ _).2.1,(gN _ _ _ _).2.2.1⟩
theorem UP:ao (bb c R (gW c s f).1) 3=ao (bb c R s) 3:=by
 unfold gW
 repeat' split
 all_goals first|rfl|(unfold bL;split<;>rfl)
structure vq (c:NC)(w:Nat)(s:aW)(k:aK)(f:aM):Prop where
 w:w<c.n
 gs:s.gs.length=c.n
 ep:oT c.n s.ep s.gs
 pl:cy (3*c.np) s.pl
 tb:dT c.nb (3*c.np) s.tb
 wk:oW c s k
 dz:f.b.length≤140737488355328
 le:f.next≤18
 fin:f.next=1→fX f
 cb:f.next=1→∃e,f.cb=some e∧e.Ok c.n∧e.done=false
 known:2≤f.next→f.next≤5→G6 c f
 fresh:6≤f.next→f.next≤11→sB c k f
 enters:12≤f.next→f.next≤14→wR c k f
 Kd:15≤f.next→f.next≤17→GN c f
set_option maxHeartbeats 4000000 in
theorem Wv {w:Nat}(hT:gC W)(hc:c.Ok)(h:vq c w s k f):
  Spec Tryz.prog 59 [.pointer pn,.int .i64 (w:Int),.pointer P.p,.pointer q] W (aA q f*aN R.po P k (NH pn c R*bJ c R s F)) (fun _:Unit=> .tuple #[]) (fun _=>aA q (c7 c w s k f).2.2*aN R.po P (c7 c w s k f).2.1 (NH pn c R*bJ c R (c7 c w s k f).1 F)):=by
 refine Spec.of Tryz.func59 rfl Tryz.ntmps59 rfl ?_
 have qu:=h.gs
 have nI:=hc.n
 have hle:=h.le
 have jr:=hc.ql
 have jo:f.next=0∨f.next=1∨(2≤f.next∧f.next≤5)∨(6≤f.next∧f.next≤11)∨(12≤f.next∧f.next≤14)∨(15≤f.next∧f.next≤17)∨f.next=18:=by omega
 rcases jo with e|e|⟨e1,e2⟩|⟨e1,e2⟩|⟨e1,e2⟩|⟨e1,e2⟩|e
 ·have es:c7 c w s k f=(s,k,pN c w f):=by unfold c7;rw[if_pos e]
  rw[es]
  refine aA.open fun Q=> ?_
  simp only[cm,aN,bJ]
  refine aa ?_;intros
  refine af rfl (Spec.pre (Wt (pn:=pn) (q:=q) (f:=f) (R:=R) (s:=s) (w:=w) (F:=aN R.po P k (aG R.pl s.pl*(aB R.tb R.pl c.nb s.tb*(ao (bb c R s) 3*F)))) hc h.dz (by have:=h.w;omega) (by omega)) (aA.bl Q (by rfl) (by simp only[aN];exact ab))) ?_
  intro _
  refine aa ?_;intros
  exact aE (aF rfl () rfl (U.sat (ab)))
 ·obtain⟨p,Jt,kX,Er⟩:=h.cb e
  have rC:=h.fin e
  have es:c7 c w s k f=({s with ep:=(cv c.n s.ep p).1},k,if(cv c.n s.ep p).2.done=false then {f with cb:=some (cv c.n s.ep p).2}
    else if f.out=true then {f with cb:=some (cv c.n s.ep p).2,pinned:=true}.look c else {f with cb:=some (cv c.n s.ep p).2,pinned:=true,next:=15}):=by
   unfold c7;rw[if_neg (by omega),if_pos e,Jt]
  rw[es]
  clear es
  have kW:∀(Q0:Option Addr) G,Spec Tryz.prog 80 [.pointer R.ep,.pointer Q0] W (cx Q0 p*(bB R.ep s.ep s.gs*G)) (fun _:Unit=> .bool (cv c.n s.ep p).2.done) (fun _=>cx Q0 (cv c.n s.ep p).2*(bB R.ep (cv c.n s.ep p).1 s.gs*G)):=fun Q0 G=>by
   have:=Gt (W:=W) (F:=G) (p:=R.ep) (q:=Q0) (ws:=s.ep) (gs:=s.gs) (s:=p) (by rw[qu];exact h.ep) (by rw[qu];exact kX) (by omega) Er
   rw[qu]at this
   exact this
  have gE:∀z,ao (bb c R {s with ep:=z}) 3=ao (bb c R s) 3:=fun _=>rfl
  refine aA.open fun Q=> ?_
  simp only[cm,aN,bJ,gE,Jt,bF]
  refine aa ?_;intros
  refine ay 99 (NH pn c R*(Obj q 119 (cP f Q)*1)) rfl rfl rfl ?_
  refine ah ?_
  refine aw rfl rfl rfl rfl rfl (Spec.eZ Q.cb R.ep (kW Q.cb _)) (fun _=>ab) ?_
  intro _
  refine ah ?_
  generalize cv c.n s.ep p=D at*
  obtain⟨kg,p'⟩:=D
  dsimp only at*
  cases hd:p'.done with
  |false=>
   rw[if_pos rfl]
   refine aa ?_;intros
   refine aE (aF rfl () rfl (U.sat (aA.bl Q (by rfl) ?_)))
   simp only[bF]
   exact ab
  |true=>
   rw[if_neg (fun hh=>by cases hh)]
   rcases Bool.eq_false_or_eq_true f.out with ho|ho
   ·rw[if_pos ho,show aM.look c {f with cb:=some p',pinned:=true}=aM.look c {f with cb:=some p',pinned:=true,next:=15}from rfl]
    refine aa ?_;intros
    refine vi (by rw[ho];rfl) ?_
    refine aa ?_;intros
    have cE:fX {f with cb:=some p',pinned:=true,next:=15}:=⟨rC.dz,rC.tick,rC.proto,rC.addr,rC.port,rC.flags⟩
    refine af rfl (Spec.pre (Dy (pn:=pn) (q:=q) (R:=R) (s:=s) (f:={f with cb:=some p',pinned:=true,next:=15}) (F:=aN R.po P k (bB R.ep kg s.gs*(aG R.pl s.pl*(ao (bb c R s) 3*F)))) jr cE) (aA.bl Q (by rfl) (by simp only[bF,aN];exact ab))) ?_
    intro _
    refine aa ?_;intros
    exact aE (aF rfl () rfl (U.sat (by simp only[aN];exact ab)))
   ·rw[if_neg (fun hh=>by rw[ho]at hh;cases hh)]
    refine aa ?_;intros
    refine vh (by rw[ho];rfl) ?_
    refine aa ?_;intros
    refine aE (aF rfl () rfl (U.sat (aA.bl Q (by rfl) ?_)))
    simp only[bF]
    exact ab
 ·have es:c7 c w s k f=((gG c s k f).1,k,(gG c s k f).2):=by unfold c7;rw[if_neg (by omega),if_neg (by omega),if_pos e2]
  rw[es]
  obtain⟨g1,g2⟩:=Vt (c:=c) (s:=s) (k:=k) (f:=f)
  have g3:=Vu (R:=R) (c:=c) (s:=s) (k:=k) (f:=f)
  refine aA.open fun Q=> ?_
  simp only[cm,aN,bJ,g1,g2,g3]
  have jo:f.next=2∨f.next=3∨f.next=4∨f.next=5:=by omega
  rcases jo with e|e|e|e
  all_goals
   refine aa ?_;intros
   refine af rfl (Spec.pre (Wn (pn:=pn) (q:=q) (f:=f) (R:=R) (s:=s) (k:=k) (P:=P) (F:=bB R.ep s.ep s.gs*F) hc h.pl h.tb h.wk (h.known e1 e2) e1 e2) (aA.bl Q (by rfl) (by simp only[aN];exact ab))) ?_
   intro _
   refine aa ?_;intros
   exact aE (aF rfl () rfl (U.sat (by simp only[aN];exact ab)))
 ·have es:c7 c w s k f=cM c s k f:=by unfold c7;rw[if_neg (by omega),if_neg (by omega),if_neg (by omega),if_pos e2]
  rw[es]
  obtain⟨g1,g2⟩:=SF (c:=c) (s:=s) (k:=k) (f:=f)
  refine aA.open fun Q=> ?_
  simp only[cm,aN,bJ,g1,g2]
  have jo:f.next=6∨f.next=7∨f.next=8∨f.next=9∨f.next=10∨f.next=11:=by omega
  rcases jo with e|e|e|e|e|e
  all_goals
   refine aa ?_;intros
   refine af rfl (Spec.pre (Wi (pn:=pn) (q:=q) (f:=f) (R:=R) (s:=s) (k:=k) (P:=P) (F:=bB R.ep s.ep s.gs*F) hT hc h.pl h.tb h.wk (h.fresh e1 e2) e1 e2) (aA.bl Q (by rfl) (by simp only[aN];exact ab))) ?_
   intro _
   refine aa ?_;intros
   exact aE (aF rfl () rfl (U.sat (by simp only[iC,aN];exact ab)))
 ·have es:c7 c w s k f=fQ c s k f:=by unfold c7;rw[if_neg (by omega),if_neg (by omega),if_neg (by omega),if_neg (by omega),if_pos e2]
  rw[es]
  obtain⟨g1,g2⟩:=RY (c:=c) (s:=s) (k:=k) (f:=f)
  refine aA.open fun Q=> ?_
  simp only[cm,aN,bJ,g1,g2]
  have jo:f.next=12∨f.next=13∨f.next=14:=by omega
  rcases jo with e|e|e
  all_goals
   refine aa ?_;intros
   refine af rfl (Spec.pre (We (pn:=pn) (q:=q) (f:=f) (R:=R) (s:=s) (k:=k) (P:=P) (F:=bB R.ep s.ep s.gs*F) hc h.pl h.tb h.wk (h.enters e1 e2) e1 e2) (aA.bl Q (by rfl) (by simp only[aN];exact ab))) ?_
   intro _
   refine aa ?_;intros
   exact aE (aF rfl () rfl (U.sat (by simp only[iC,aN];exact ab)))
 ·have es:c7 c w s k f=((gW c s f).1,k,(gW c s f).2):=by unfold c7;rw[if_neg (by omega),if_neg (by omega),if_neg (by omega),if_neg (by omega),if_neg (by omega),if_pos e2]
  rw[es]
  obtain⟨g1,g2,g4⟩:=UO (c:=c) (s:=s) (f:=f)
  have g3:=UP (R:=R) (c:=c) (s:=s) (f:=f)
  refine aA.open fun Q=> ?_
  simp only[cm,aN,bJ,g1,g2,g3,g4]
  have jo:f.next=15∨f.next=16∨f.next=17:=by omega
  rcases jo with e|e|e
  all_goals
   refine aa ?_;intros
   refine af rfl (Spec.pre (Wj (pn:=pn) (q:=q) (f:=f) (R:=R) (s:=s) (F:=aN R.po P k (bB R.ep s.ep s.gs*(aB R.tb R.pl c.nb s.tb*(ao (bb c R s) 3*F)))) hc h.pl (h.Kd e1 e2) e1 e2) (aA.bl Q (by rfl) (by simp only[aN];exact ab))) ?_
   intro _
   refine aa ?_;intros
   exact aE (aF rfl () rfl (U.sat (by simp only[aN];exact ab)))
 ·have es:c7 c w s k f=({s with ep:=s.ep.set (1+w) 0},k,{f with pinned:=false,done:=true}):=by unfold c7;rw[if_neg (by omega),if_neg (by omega),if_neg (by omega),if_neg (by omega),if_neg (by omega),if_neg (by omega)]
  rw[es]
  have gw:=h.ep
  have hw:=h.w
  have gE:∀z,ao (bb c R {s with ep:=z}) 3=ao (bb c R s) 3:=fun _=>rfl
  refine aA.open fun Q=> ?_
  simp only[cm,aN,bJ,gE]
  refine aa ?_;intros
  refine af rfl (Spec.aL R.ep (NS (w:=w) (by omega) (by omega) (by have:=gw.len;omega))) ?_
  intro _
  refine aa ?_;intros
  exact aE (aF rfl () rfl (U.sat (aA.bl Q (by rfl) (ab))))
end
section
open Go.RowKit
set_option maxRecDepth 10000
attribute [local irreducible] EK EX ER EN EL ES EG an aR aU
variable {W:World} {F G:SL} {X:Cx} {kk:List KI} {σ:Env} {pn r b:Option Addr} {x:cI} {c:NC} {R:dV} {s:aW} {k:aK} {P:cW} {pp:Nat→Option Addr} {pc pw po:Option Addr}
structure Hx (k:aK):Prop where
 aD:jx k.aD
 all:k.aD.all.length≤1000
 av:k.aD.av≤1000000
theorem U.tail {H F' G:SL}{l:List Nat}{c:Nat}(p:Option Addr)[h:bZ H p (ad 3 1 p l.length c (ba .i64 l)) F'](hl:1≤l.length)(k:U F' G):U H (ad 3 1 (cZ p 1 c 1) (l.drop 1).length (c-1) (ba .i64 (l.drop 1))*G):=
 U.BP p 1 hl (by
  have e:ba .i64 (l.drop 1)=(ba .i64 l).drop (1*1):=by unfold ba;rw[List.map_drop]
  rw[e,List.length_drop]
  exact U.star (U.refl _) k)
theorem VJ {n:Nat}{i:Int}(hp:cy n s.pl):(bI s i).sn≤4294967295:=by
 unfold bI bH.of
 dsimp only
 have:=hp.w (2*i.toNat)
 omega
set_option maxHeartbeats 2000000 in
theorem Wk {id:Nat}(hc:c.Ok)(hp:cy (3*c.np) s.pl)(hid:id<3*c.np)(ht:0≤x.tick∧x.tick≤4294967295)(hk:Hx k)(xZ:1≤x.due.length):
  Spec Tryz.prog 138 [.pointer pn,.pointer P.p,.pointer r,.int .i64 (id:Int)] W (bn r x b*(NH pn c R*(Obj P.p 126 (bq P k)*(ct P.wh k.aD*(aG R.pl s.pl*F))))) (fun _:Unit=> .tuple #[])
   (fun _=>if(((bI s (id:Int)).sn+jZ (fx (id/c.np)) (bI s (id:Int)).tr:Nat):Int)>x.tick then
    bn r {x with word:=bI s (id:Int),due:=x.due.drop 1} b*(NH pn c R*(Obj P.p 126 (bq P k)*(ct P.wh (fN k (fx (id/c.np)) (id:Int) (bI s (id:Int)) x.tick).aD*(aG R.pl s.pl*F))))
    else bn r {x with word:=bI s (id:Int),next:=2} b*(NH pn c R*(Obj P.p 126 (bq P k)*(ct P.wh k.aD*(aG R.pl s.pl*F))))):=by
 refine Spec.of Tryz.func138 rfl Tryz.ntmps138 rfl ?_
 have kX:=yT hc (i:=id) hid
 have A3:fx (id/c.np)<256:=by unfold fx;split;decide;split<;>decide
 have qB:(bI s (id:Int)).tr≤4:=hp.tr id
 have Ek:∀w:bH,w.sn≤4294967295→w.tr≤4→∀G,Spec Tryz.prog 129 [.pointer pn,.pointer P.p,.int .i64 (id:Int),ju w,.int .i64 x.tick] W (NH pn c R*(Obj P.p 126 (bq P k)*(ct P.wh k.aD*G))) (fun _:Unit=> .tuple #[]) (fun _=>NH pn c R*(Obj P.p 126 (bq P k)*(ct P.wh (fN k (fx (id/c.np)) (id:Int) w x.tick).aD*G))):=fun w h1 h2 G=>by
  have:=KH (W:=W) (pn:=pn) (R:=R) (P:=P) (k:=k) (F:=G) (id:=(id:Int)) (w:=w) (t:=x.tick) hc (by omega) (by omega) h1 h2 ht hk.aD hk.all hk.av
  rw[Int.toNat_natCast]at this
  exact this
 have rJ:(bI s (id:Int)).sn≤4294967295:=VJ hp
 have vU:=Kq (fx (id/c.np)) (bI s (id:Int)).tr
 have D8:=fun G=>tc (W:=W) (F:=G) (p:=R.pl) (s:=s) (id:=(id:Int)) hc hp (by omega) (by omega)
 generalize fx (id/c.np)=pr at*
 generalize bI s (id:Int)=w at*
 refine bn.open fun Q=> ?_
 simp only[dC]
 refine aa ?_;intros
 refine af rfl (zK c.cfg hc.fit (id:Int)) ?_
 intro _
 rw[kX]
 dsimp only
 refine aa ?_;intros
 refine af rfl (Spec.aL R.pl (D8 _)) ?_
 intro _
 refine aa ?_;intros
 obtain⟨g,hg⟩:∃g:cI,g={x with word:=w}:=⟨_,rfl⟩
 have iI:g.word=w:=by rw[hg]
 have iu:g.tick=x.tick:=by rw[hg]
 have TO:g.due=x.due:=by rw[hg]
 refine iQ (G:=dC r g b Q (NH pn c R*(Obj P.p 126 (bq P k)*(ct P.wh k.aD*(aG R.pl s.pl*F))))) (by rw[hg];exact ab) ?_
 simp only[dC]
 refine ay 99 (Obj r 128 (nv g Q)*1) rfl rfl rfl ?_
 have Up:g.word.sn≤4294967295:=by rw[iI];exact rJ
 have aej:jZ pr g.word.tr≤7440:=by rw[iI];exact vU
 refine ah ?_
 refine aw rfl rfl rfl rfl rfl (G9 pr g.word.tr A3 (by rw[iI];exact qB)) (fun _=>ab) ?_
 intro _
 by_cases hj:((w.sn+jZ pr w.tr:Nat):Int)>x.tick
 ·rw[if_pos hj]
  have D3:(g.word.sn:Int)+(jZ pr g.word.tr:Int)>g.tick:=by rw[iI,iu];omega
  refine ah ?_
  refine aa ?_;intros
  have JK:=Ek g.word Up (by rw[iI];exact qB)
  rw[←iu]at JK
  refine ay 99 (Obj r 128 (nv g Q)*1) rfl rfl rfl ?_
  refine ah ?_
  refine aw rfl rfl rfl rfl rfl (Spec.vx pn P.p P.wh (JK _)) (fun _=>ab) ?_
  intro _
  refine ah ?_
  have AK:1≤g.due.length:=by rw[TO];exact xZ
  refine aa ?_;intros
  rw[iI,iu]
  subst hg
  refine ae (dm rfl () rfl (U.sat (bn.bl {Q with due:=(cZ Q.due.1 1 Q.due.2 1,Q.due.2-1)} (by unfold qY;rw[List.length_drop]) ?_)))
  refine U.tail Q.due.1 xZ ?_
  exact ab
 ·rw[if_neg hj]
  have D3:¬((g.word.sn:Int)+(jZ pr g.word.tr:Int)>g.tick):=by rw[iI,iu];omega
  refine ah ?_
  refine aa ?_;intros
  subst hg
  exact aE (aF rfl () rfl (U.sat (bn.bl Q (by rfl) (ab))))
end
section
open Go.RowKit
set_option maxRecDepth 10000
attribute [local irreducible] EK EX ER EN EL ES EG an aR aU
variable {W:World} {F G:SL} {X:Cx} {kk:List KI} {σ:Env} {pn r b:Option Addr} {x:cI} {c:NC} {R:dV} {s:aW} {k:aK} {P:cW} {pp:Nat→Option Addr} {pc pw po:Option Addr}
instance :vt Tryz.prog 72 (de ow):=⟨by kernel_rfl⟩
theorem SR (l:List (Int×dU))(i:Int):getM l i=(l.lookup i).getD ow:=by
 unfold getM
 induction l with
 |nil=>rfl
 |cons p l ih=>
  obtain⟨a,v⟩:=p
  rw[List.lookup_cons,List.find?_cons]
  by_cases h:a=i
  ·subst h
   simp
  ·have h1:(i==a)=false:=by simpa using fun hh=>h hh.symm
   rw[h1,show(decide (a=i))=false from decide_eq_false h]
   exact ih
theorem OW {H:SL}{o:Oper}{x y:Operand}{t kt:TypeId}{m:Nat}{l:List (Int×dU)}{i:Int}(ho:o.op= .lookup t x y false)(hx:Go.Proofs.YtfkngchldmfpfaaGreatDoor.ev σ x=some (.map (some m)))(hy:Go.Proofs.YtfkngchldmfpfaaGreatDoor.ev σ y=some (dQ i))[T:xj X.P t kt 72][Z:vt X.P 72 (de ow)][A:qQ H m (cQ dQ de m l) F][K:sC X.P kt dQ]:an X σ H o (de (getM l i)):=by
 have:=O8 (X:=X) (σ:=σ) (o:=o) (t:=t) (ek:=dQ) (ev:=de) (m:=m) (l:=l) (F:=F) (k:=i) false ho hx hy (H:=H)
 rw[SR]
 cases hl:l.lookup i with
 |some b=>rw[hl]at this;exact this
 |none=>rw[hl]at this;exact this
theorem PV {p pp:Option Addr}{n:Nat}{cs:List Nat}{f1 f2 f3:Nat}{id:Int}(hf:fV (n:Int)=true)(h1:f1≤255)(h2:f2<4294967296)(h3:f3<65536):Spec Tryz.prog 184 [.pointer p,xQ (f1:Int) f2 f3,.int .i64 id] W (aB p pp n cs*F) (fun g:Option Addr=> .pointer g)
  (fun g=>aq g (tx 2 f1 f2 f3 id 23 n)*(aB p pp n cs*F)):=by
 refine Spec.of Tryz.func184 rfl Tryz.ntmps184 rfl ?_
 refine aa ?_;intros
 refine af rfl (Spec.aL p (F1 (kd:=2) (nx:=23) hf h1 h2 h3)) ?_
 intro g
 refine aa ?_;intros
 exact ae (aj rfl rfl g rfl (U.sat (ab)))
def jY (c:NC)(s:aW)(k:aK)(x:cI)(id:Nat):aW×aK×cI:=
 if jR s (id:Int) x.word {x.word with st:=3}=true then
  (bL s (id:Int) x.word {x.word with st:=3},{k with ended:=k.ended++[((fx (id/c.np):Int),((c.lo+id%c.np:Nat):Int))]},{x with dying:=(id:Int),next:=3,drop:=some (kH c 2 (getM k.aS (id:Int)) (id:Int) 23)})
 else(s,k,{x with next:=1})
set_option maxHeartbeats 2000000 in
theorem Wm {id:Nat}(hc:c.Ok)(hp:cy (3*c.np) s.pl)(hid:id<3*c.np)(hw:x.word.ok)(ku:k.ended.length≤100000)(vQ:(getM k.aS (id:Int)).proto≤255)(mR:(getM k.aS (id:Int)).addr<4294967296)(DU:(getM k.aS (id:Int)).port<65536):
  Spec Tryz.prog 139 [.pointer pn,.pointer P.p,.pointer r,.int .i64 (id:Int)] W (bn r x b*(NH pn c R*(Obj P.p 126 (bq P k)*(cQ dQ de P.m k.aS*(ad 132 2 P.ended.1 k.ended.length P.ended.2 (cN k.ended)*(aG R.pl s.pl*(aB R.tb R.pl c.nb s.tb*F))))))) (fun _:az=> .tuple #[])
   (fun z=>bn r (jY c s k x id).2.2 b*(NH pn c R*(Obj P.p 126 (bq {P with ended:=z} (jY c s k x id).2.1)*(cQ dQ de P.m k.aS*(ad 132 2 z.1 (jY c s k x id).2.1.ended.length z.2 (cN (jY c s k x id).2.1.ended)*(aG R.pl (jY c s k x id).1.pl*(aB R.tb R.pl c.nb s.tb*F))))))):=by
 refine Spec.of Tryz.func139 rfl Tryz.ntmps139 rfl ?_
 have jr:=hc.ql
 have kX:=yT hc (i:=id) hid
 have oF:({x.word with st:=3}:bH).ok:=⟨by show 3≤3;decide,hw.2.1,hw.2.2.1,hw.2.2.2⟩
 unfold jY
 refine bn.open fun Q=> ?_
 simp only[dC]
 refine aa ?_;intros
 rename_i y
 obtain⟨g,hg⟩:∃g:cI,g={x with next:=1}:=⟨_,rfl⟩
 have iI:g.word=x.word:=by rw[hg]
 refine iQ (G:=Obj y 117 (wL {x.word with st:=3} [])*dC r g b Q (NH pn c R*(Obj P.p 126 (bq P k)*(cQ dQ de P.m k.aS*(ad 132 2 P.ended.1 k.ended.length P.ended.2 (cN k.ended)*(aG R.pl s.pl*(aB R.tb R.pl c.nb s.tb*F))))))) (by rw[hg];exact ab) ?_
 rw[←iI]at hw oF ⊢
 simp only[dC]
 refine ay 99 (Obj y 117 (wL {g.word with st:=3} [])*(NH pn c R*(Obj r 128 (nv g Q)*1))) rfl rfl rfl ?_
 refine ah ?_
 refine aw rfl rfl rfl rfl rfl (Spec.aL R.pl (ta (id:=(id:Int)) (a:=g.word) (b:={g.word with st:=3}) hc hp (by omega) (by omega) hw oF)) (fun _=>ab) ?_
 intro _
 refine ah ?_
 cases jq:jR s (id:Int) g.word {g.word with st:=3}with
 |false=>
  rw[if_neg Bool.false_ne_true]
  refine aa ?_;intros
  subst hg
  have ep:bL s (id:Int) x.word {x.word with st:=3}=s:=by unfold bL;rw[jq];rfl
  rw[ep]
  exact ae (dm rfl P.ended rfl (U.sat (bn.bl Q (by rfl) (ab))))
 |true=>
  rw[if_pos rfl]
  refine aa ?_;intros
  refine af rfl (zK c.cfg hc.fit (id:Int)) ?_
  intro _
  rw[kX]
  dsimp only
  refine aa ?_;intros
  rename_i z
  obtain⟨E,hE⟩:∃E:List (Int×Int),E=k.ended++[((fx (id/c.np):Int),((c.lo+id%c.np:Nat):Int))]:=⟨_,rfl⟩
  have Tf:E.length=k.ended.length+1:=by rw[hE,la]
  have Te:cN E=cN k.ended++[.int .i64 (fx (id/c.np):Int),.int .i64 ((c.lo:Int)+((id%c.np:Nat):Int))]:=by rw[hE];unfold cN;rw[List.flatMap_append];rfl
  obtain⟨g2,iu⟩:∃g2:cI,g2={g with dying:=(id:Int),next:=3}:=⟨_,rfl⟩
  rw[←hE]
  refine iQ (G:=dC r g2 b Q (NH pn c R*(Obj P.p 126 (bq {P with ended:=z} {k with ended:=E})*(cQ dQ de P.m k.aS*(ad 132 2 z.1 E.length z.2 (cN E)*(aG R.pl (bL s (id:Int) g.word {g.word with st:=3}).pl*(aB R.tb R.pl c.nb s.tb*F))))))) (by rw[iu,Te];dsimp only[bq];rw[Tf];exact ab) ?_
  simp only[dC]
  refine ay 15 (iS r 128*(NH pn c R*(Obj P.p 126 (bq {P with ended:=z} {k with ended:=E})*(cQ dQ de P.m k.aS*1)))) rfl rfl rfl ?_
  repeat(first|refine c5 ?_ |refine ax 0 rfl rfl rfl rfl (by decide+kernel) (ag) rfl ?_ |refine ax 1 rfl rfl rfl rfl (by decide+kernel) (ag) rfl ?_ |refine ax 2 rfl rfl rfl rfl (by decide+kernel) (ag) rfl ?_ |refine ax 3 rfl rfl rfl rfl (by decide+kernel) (ag) rfl ?_)
  refine qR 0 rfl rfl rfl rfl (OW (i:=(id:Int)) rfl rfl rfl) (by decide+kernel) (by(repeat(first|refine U.cons ?_ |refine U.uT ?_ |exact U.any|exact U.last))) rfl ?_
  repeat(first|refine c5 ?_ |refine ax 0 rfl rfl rfl rfl (by decide+kernel) (ag) rfl ?_ |refine ax 1 rfl rfl rfl rfl (by decide+kernel) (ag) rfl ?_ |refine ax 2 rfl rfl rfl rfl (by decide+kernel) (ag) rfl ?_ |refine ax 3 rfl rfl rfl rfl (by decide+kernel) (ag) rfl ?_)
  generalize getM k.aS (id:Int)=fl at*
  refine aw rfl rfl rfl rfl rfl (Spec.aL R.tb (PV jr vQ mR DU)) (fun _=>by(repeat(first|refine U.cons ?_ |refine U.uT ?_ |exact U.any|exact U.last))) ?_
  intro v
  repeat(first|refine c5 ?_ |refine ax 0 rfl rfl rfl rfl (by decide+kernel) (ag) rfl ?_ |refine ax 1 rfl rfl rfl rfl (by decide+kernel) (ag) rfl ?_ |refine ax 2 rfl rfl rfl rfl (by decide+kernel) (ag) rfl ?_ |refine ax 3 rfl rfl rfl rfl (by decide+kernel) (ag) rfl ?_)
  refine bD ?_;intros
  refine aa ?_;intros
  subst iu hg
  refine aE (aF rfl z rfl (U.sat (bn.bl {Q with drop:=v} (by rfl) ?_)))
  dsimp only[kH]
  simp only[bF]
  exact ab
end
section
open Go.RowKit
set_option maxRecDepth 10000
attribute [local irreducible] EK EX ER EN EL ES EG an aR aU
variable {W:World} {F G:SL} {X:Cx} {kk:List KI} {σ:Env} {pn r b:Option Addr} {x:cI} {c:NC} {R:dV} {s:aW} {k:aK} {P:cW} {pp:Nat→Option Addr} {pc pw po:Option Addr}
theorem qc {P':cW}{k':aK}(hc:P'.c=P.c)(hq:P'.q=P.q)(h0:k'.c0=k.c0)(h1:k'.c1=k.c1)(h2:k'.c2=k.c2):ao (cj pp P' k') 3=ao (cj pp P k) 3:=
 ao.congr 3 fun i hi=>by
  unfold cj aK.ca
  rw[hc,hq,h0,h1,h2]
structure Cs (c:NC)(w:Nat)(s:aW)(k:aK)(x:cI):Prop where
 zo:w<c.n
 gs:s.gs.length=c.n
 ep:oT c.n s.ep s.gs
 room:(s.gs.getD w []).length≤1000000
 pl:cy (3*c.np) s.pl
 tb:dT c.nb (3*c.np) s.tb
 tick:0≤x.tick∧x.tick≤4294967295
 has:x.next≠1→1≤x.due.length
 id:1≤x.due.length→x.due.getD 0 0<3*c.np
 wh:Hx k
 word:x.next=2→x.word.ok
 ended:k.ended.length≤100000
 f1:(getM k.aS ((x.due.getD 0 0:Nat):Int)).proto≤255
 f2:(getM k.aS ((x.due.getD 0 0:Nat):Int)).addr<4294967296
 f3:(getM k.aS ((x.due.getD 0 0:Nat):Int)).port<65536
 drop:x.next=3→∃t,x.drop=some t∧br c.nb (3*c.np) t∧t.done=false
set_option maxHeartbeats 4000000 in
theorem Wd {w:Nat}(hc:c.Ok)(h:Cs c w s k x)(h1:1≤x.next)(h4:x.next≤4):
  Spec Tryz.prog 88 [.pointer pn,.int .i64 (w:Int),.pointer P.p,.pointer r] W (bn r x b*aN R.po P k (NH pn c R*bJ c R s F)) (fun _:az=> .tuple #[]) (fun z=>bn r (ie c w s k x).2.2 b*aN R.po {P with ended:=z} (ie c w s k x).2.1 (NH pn c R*bJ c R (ie c w s k x).1 F)):=by
 refine Spec.of Tryz.func88 rfl Tryz.ntmps88 rfl ?_
 have jr:=hc.ql
 have nI:=hc.n
 have cU:=hc.np
 have qu:=h.gs
 have gw:=h.ep
 have hw:=h.zo
 by_cases hA:x.next=1∧x.due=[]
 ·have es:ie c w s k x=(s,k,{x with on:=some ⟨0,true,0,0,false,false⟩,next:=5}):=by unfold ie;rw[if_pos hA]
  rw[es]
  obtain⟨e1,e2⟩:=hA
  have hl:x.due.length=0:=by rw[e2];rfl
  refine bn.open fun Q=> ?_
  simp only[dC,aN,bJ]
  refine aa ?_;intros
  refine af rfl (Spec.aL R.ep Nr) ?_
  intro z
  refine aa ?_;intros
  refine ae (dm rfl P.ended rfl (U.sat (bn.bl {Q with on:=z} (by rfl) ?_)))
  simp only[bF]
  exact ab
 have hl:1≤x.due.length:=by
  by_cases e:x.next=1
  ·rcases hd:x.due with _|⟨a,l⟩
   ·exact absurd ⟨e,hd⟩ hA
   ·simp
  ·exact h.has e
 have hid:=h.id hl
 have e0:x.due.getD 0 0=x.due.getD 0 0:=rfl
 rcases(show x.next=1∨x.next=2∨x.next=3∨x.next=4 by omega)with e|e|e|e
 ·have es:ie c w s k x=if(((bI s ((x.due.getD 0 0:Nat):Int)).sn+jZ (fx (x.due.getD 0 0/c.np)) (bI s ((x.due.getD 0 0:Nat):Int)).tr:Nat):Int)>x.tick then
    (s,fN k (fx (x.due.getD 0 0/c.np)) ((x.due.getD 0 0:Nat):Int) (bI s ((x.due.getD 0 0:Nat):Int)) x.tick,{x with word:=bI s ((x.due.getD 0 0:Nat):Int),due:=x.due.drop 1})
   else(s,k,{x with word:=bI s ((x.due.getD 0 0:Nat):Int),next:=2}):=by unfold ie;rw[if_neg hA];dsimp only;rw[if_pos e]
  rw[es]
  clear es
  have AQ:=fun G=>Wk (W:=W) (pn:=pn) (P:=P) (r:=r) (R:=R) (b:=b) (F:=G) (x:=x) (k:=k) hc h.pl hid h.tick h.wh hl
  by_cases hj:(((bI s ((x.due.getD 0 0:Nat):Int)).sn+jZ (fx (x.due.getD 0 0/c.np)) (bI s ((x.due.getD 0 0:Nat):Int)).tr:Nat):Int)>x.tick
  ·simp only[if_pos hj]at AQ
   rw[if_pos hj,tV]
   refine bn.open fun Q=> ?_
   simp only[dC,aN,bJ]
   refine aa ?_;intros
   refine af rfl (Spec.pre (AQ (ao (cj R.po P k) 3*(cQ dQ de P.m k.aS*(ad 5 1 P.told.1 k.bt.length P.told.2 (ar k.bt)*(ad 132 2 P.ended.1 k.ended.length P.ended.2 (cN k.ended)*(bB R.ep s.ep s.gs*(aB R.tb R.pl c.nb s.tb*(ao (bb c R s) 3*F)))))))) (bn.bl Q (by rfl) (ab))) ?_
   intro _
   refine aa ?_;intros
   refine aE (aF rfl P.ended rfl (U.sat ?_))
   rw[qc (P:=P) (P':={P with ended:=P.ended}) (k:=k) (k':={k with aD:=(fN k (fx (x.due.getD 0 0/c.np)) ((x.due.getD 0 0:Nat):Int) (bI s ((x.due.getD 0 0:Nat):Int)) x.tick).aD}) rfl rfl rfl rfl rfl]
   exact ab
  ·simp only[if_neg hj]at AQ
   rw[if_neg hj]
   refine bn.open fun Q=> ?_
   simp only[dC,aN,bJ]
   refine aa ?_;intros
   refine af rfl (Spec.pre (AQ (ao (cj R.po P k) 3*(cQ dQ de P.m k.aS*(ad 5 1 P.told.1 k.bt.length P.told.2 (ar k.bt)*(ad 132 2 P.ended.1 k.ended.length P.ended.2 (cN k.ended)*(bB R.ep s.ep s.gs*(aB R.tb R.pl c.nb s.tb*(ao (bb c R s) 3*F)))))))) (bn.bl Q (by rfl) (ab))) ?_
   intro _
   refine aa ?_;intros
   exact aE (aF rfl P.ended rfl (U.sat (ab)))
 ·have es:ie c w s k x=jY c s k x (x.due.getD 0 0):=by unfold ie;rw[if_neg hA];dsimp only;rw[if_neg (by omega),if_pos e];rfl
  rw[es]
  clear es
  have T0:=fun G=>Wm (W:=W) (pn:=pn) (P:=P) (r:=r) (R:=R) (b:=b) (F:=G) (x:=x) (k:=k) (s:=s) (id:=x.due.getD 0 0) hc h.pl hid (h.word e) h.ended h.f1 h.f2 h.f3
  have ek:(jY c s k x (x.due.getD 0 0)).1.ep=s.ep∧(jY c s k x (x.due.getD 0 0)).1.gs=s.gs∧(jY c s k x (x.due.getD 0 0)).1.tb=s.tb∧(jY c s k x (x.due.getD 0 0)).2.1.bt=k.bt∧(jY c s k x (x.due.getD 0 0)).2.1.aD=k.aD∧(jY c s k x (x.due.getD 0 0)).2.1.aS=k.aS:=by
   unfold jY
   split
   ·exact⟨(gN _ _ _ _).1,(gN _ _ _ _).2.1,(gN _ _ _ _).2.2.1,rfl,rfl,rfl⟩
   ·exact⟨rfl,rfl,rfl,rfl,rfl,rfl⟩
  have RR:∀z:az,ao (cj R.po {P with ended:=z} (jY c s k x (x.due.getD 0 0)).2.1) 3=ao (cj R.po P k) 3:=fun z=>by
   unfold jY
   split<;>exact qc rfl rfl rfl rfl rfl
  have RS:ao (bb c R (jY c s k x (x.due.getD 0 0)).1) 3=ao (bb c R s) 3:=by
   unfold jY
   split
   ·show ao (bb c R (bL _ _ _ _)) 3=_
    unfold bL;split<;>rfl
   ·rfl
  generalize jY c s k x (x.due.getD 0 0)=D at*
  obtain⟨k1,k2,k3,k4,k5,k6⟩:=ek
  refine bn.open fun Q=> ?_
  simp only[dC,aN,bJ,k1,k2,k3,k4,k5,k6,RR,RS]
  refine aa ?_;intros
  refine af rfl (Spec.pre (T0 (ao (cj R.po P k) 3*(ct P.wh k.aD*(ad 5 1 P.told.1 k.bt.length P.told.2 (ar k.bt)*(bB R.ep s.ep s.gs*(ao (bb c R s) 3*F)))))) (bn.bl Q (by rfl) (ab))) ?_
  intro z
  refine aa ?_;intros
  exact aE (aF rfl z rfl (U.sat (ab)))
 ·obtain⟨t,Jp,jI,uN⟩:=h.drop e
  have es:ie c w s k x=({s with tb:=(bO s.pl c.nb s.tb t).1},k,{x with drop:=some (bO s.pl c.nb s.tb t).2,next:=if(bO s.pl c.nb s.tb t).2.done=true then 4 else x.next}):=by
   unfold ie;rw[if_neg hA];dsimp only;rw[if_neg (by omega),if_neg (by omega),if_pos e,Jp,e]
  rw[es]
  clear es
  have ht:=h.tb
  have hp:=h.pl
  have gE:∀z,ao (bb c R {s with tb:=z}) 3=ao (bb c R s) 3:=fun _=>rfl
  refine bn.open fun Q=> ?_
  simp only[dC,aN,bJ,gE,Jp,bF]
  refine aa ?_;intros
  refine ay 99 (NH pn c R*(Obj r 128 (nv x Q)*1)) rfl rfl rfl ?_
  refine ah ?_
  refine aw rfl rfl rfl rfl rfl (Spec.vx Q.drop R.tb R.pl (zS jr ht hp jI uN)) (fun _=>ab) ?_
  intro _
  refine ah ?_
  generalize bO s.pl c.nb s.tb t=D at*
  obtain⟨eG,t'⟩:=D
  dsimp only at*
  cases hd:t'.done with
  |false=>
   rw[if_neg Bool.false_ne_true]
   refine aa ?_;intros
   refine aE (aF rfl P.ended rfl (U.sat (bn.bl Q (by rfl) ?_)))
   simp only[bF]
   exact ab
  |true=>
   rw[if_pos rfl]
   refine aa ?_;intros
   refine aE (aF rfl P.ended rfl (U.sat (bn.bl Q (by rfl) ?_)))
   simp only[bF]
   exact ab
 ·have es:ie c w s k x=({s with gs:=s.gs.set w (s.gs.getD w []++[(x.due.getD 0 0,s.ep.getD 0 0)])},{k with aS:=qh k.aS ((x.due.getD 0 0:Nat):Int)},{x with dying:= -1,due:=x.due.drop 1,next:=1}):=by
   unfold ie;rw[if_neg hA];dsimp only;rw[if_neg (by omega),if_neg (by omega),if_neg (by omega)]
  rw[es]
  clear es
  have gE:∀z,ao (bb c R {s with gs:=z}) 3=ao (bb c R s) 3:=fun _=>rfl
  refine bn.open fun Q=> ?_
  simp only[dC,aN,bJ,gE]
  refine aa ?_;intros
  refine af rfl (Spec.aL R.ep (Nw (by omega) (by omega) (by have:=gw.len;omega) h.room)) ?_
  intro _
  refine aa ?_;intros
  refine NI (OE (ek:=dQ) (ev:=de) (k:=((x.due.getD 0 0:Nat):Int)) rfl rfl rfl) ?_
  intro _
  refine aa ?_;intros
  refine ay 10 (Obj r 128 (nv x Q)*(ad 3 1 Q.due.1 x.due.length Q.due.2 (ba .i64 x.due)*1)) rfl rfl rfl ?_
  repeat(first|refine c5 ?_ |refine ax 0 rfl rfl rfl rfl (by decide+kernel) (ag) rfl ?_ |refine ax 1 rfl rfl rfl rfl (by decide+kernel) (ag) rfl ?_ |refine ax 2 rfl rfl rfl rfl (by decide+kernel) (ag) rfl ?_ |refine ax 3 rfl rfl rfl rfl (by decide+kernel) (ag) rfl ?_)
  have JG:1≤x.due.length:=hl
  refine qS (i:=7) (j:=10) (Gw rfl rfl (CS (i:=1) rfl rfl rfl JG) (ab) rfl ?_) (Gv rfl (cr rfl rfl rfl rfl rfl rfl) rfl ?_)
  ·(refine je rfl (cr rfl rfl rfl rfl rfl rfl) (by decide+kernel) rfl ?_);repeat(first|refine dy rfl rfl rfl (fY rfl rfl) (by decide+kernel) (by decide+kernel) rfl ?_ |refine dy rfl rfl rfl (eX rfl rfl) (by decide+kernel) (by decide+kernel) rfl ?_ |refine iP rfl rfl (cr rfl rfl rfl rfl rfl rfl) (by decide+kernel) (by decide+kernel) rfl ?_ |refine eD ?_)
   refine aa ?_;intros
   refine aE (aF rfl P.ended rfl (U.sat (bn.bl {Q with due:=(cZ Q.due.1 1 Q.due.2 1,Q.due.2-1)} (by unfold qY;rw[List.length_drop];rfl) ?_)))
   rw[show ri k.aS ((x.due.getD 0 0:Nat):Int)=qh k.aS ((x.due.getD 0 0:Nat):Int)from rfl,qc (P:=P) (P':={P with ended:=P.ended}) (k:=k) (k':={k with aS:=qh k.aS ((x.due.getD 0 0:Nat):Int)}) rfl rfl rfl rfl rfl]
   refine U.tail Q.due.1 hl ?_
   exact ab
  ·refine dy rfl rfl rfl (CS (i:=1) rfl rfl rfl JG) (by decide+kernel) (by decide+kernel) rfl ?_
   repeat(first|refine dy rfl rfl rfl (fY rfl rfl) (by decide+kernel) (by decide+kernel) rfl ?_ |refine dy rfl rfl rfl (eX rfl rfl) (by decide+kernel) (by decide+kernel) rfl ?_ |refine iP rfl rfl (cr rfl rfl rfl rfl rfl rfl) (by decide+kernel) (by decide+kernel) rfl ?_ |refine eD ?_)
   refine aa ?_;intros
   refine aE (aF rfl P.ended rfl (U.sat (bn.bl {Q with due:=(cZ Q.due.1 1 Q.due.2 1,Q.due.2-1)} (by unfold qY;rw[List.length_drop];rfl) ?_)))
   rw[show ri k.aS ((x.due.getD 0 0:Nat):Int)=qh k.aS ((x.due.getD 0 0:Nat):Int)from rfl,qc (P:=P) (P':={P with ended:=P.ended}) (k:=k) (k':={k with aS:=qh k.aS ((x.due.getD 0 0:Nat):Int)}) rfl rfl rfl rfl rfl]
   refine U.tail Q.due.1 hl ?_
   exact ab
end
section
open Go.RowKit
set_option maxRecDepth 10000
attribute [local irreducible] EK EX ER EN EL ES EG an aR aU
variable {W:World} {F G:SL} {X:Cx} {kk:List KI} {σ:Env} {pn r b:Option Addr} {x:cI} {c:NC} {R:dV} {s:aW} {k:aK} {P:cW} {pp:Nat→Option Addr} {pc pw po:Option Addr}
set_option maxHeartbeats 4000000 in
theorem St (hc:c.Ok)(hp:cy (3*c.np) s.pl)(hid:1≤x.aI.length→x.aI.getD 0 0<3*c.np)(e:x.next=7):
  Spec Tryz.prog 90 [.pointer pn,.pointer P.p,.pointer r] W (bn r x b*aN R.po P k (NH pn c R*(aG R.pl s.pl*(ao (bb c R s) 3*F)))) (fun _:Unit=> .tuple #[]) (fun _=>bn r (dO c s k x).2.2 b*aN R.po P k (NH pn c R*(aG R.pl s.pl*(ao (bb c R s) 3*F)))):=by
 refine Spec.of Tryz.func90 rfl Tryz.ntmps90 rfl ?_
 have es:(dO c s k x).2.2=if x.aI=[]then {x with done:=true}else {x with word:=bI s ((x.aI.getD 0 0:Nat):Int),next:=8}:=by
  unfold dO;rw[if_pos e];split<;>rfl
 rw[es]
 clear es
 refine bn.open fun Q=> ?_
 simp only[dC,aN]
 by_cases hA:x.aI=[]
 ·have hl:x.aI.length=0:=by rw[hA];rfl
  rw[if_pos hA]
  refine aa ?_;intros
  exact ae (dm rfl () rfl (U.sat (bn.bl Q (by rfl) (ab))))
 ·rw[if_neg hA]
  have hl:1≤x.aI.length:=by
   rcases hd:x.aI with _|⟨a,l⟩
   ·exact absurd hd hA
   ·simp
  have hid:=hid hl
  refine aa ?_;intros
  refine ay 15 (NH pn c R*(Obj r 128 (nv x Q)*(ad 3 1 Q.aI.1 x.aI.length Q.aI.2 (ba .i64 x.aI)*1))) rfl rfl rfl ?_
  repeat(first|refine c5 ?_ |refine ax 0 rfl rfl rfl rfl (by decide+kernel) (ag) rfl ?_ |refine ax 1 rfl rfl rfl rfl (by decide+kernel) (ag) rfl ?_ |refine ax 2 rfl rfl rfl rfl (by decide+kernel) (ag) rfl ?_ |refine ax 3 rfl rfl rfl rfl (by decide+kernel) (ag) rfl ?_)
  refine aw rfl rfl rfl rfl rfl (Spec.aL R.pl (tc (s:=s) hc hp (by omega) (by omega))) (fun _=>ab) ?_
  intro _
  repeat(first|refine c5 ?_ |refine ax 0 rfl rfl rfl rfl (by decide+kernel) (ag) rfl ?_ |refine ax 1 rfl rfl rfl rfl (by decide+kernel) (ag) rfl ?_ |refine ax 2 rfl rfl rfl rfl (by decide+kernel) (ag) rfl ?_ |refine ax 3 rfl rfl rfl rfl (by decide+kernel) (ag) rfl ?_)
  (refine je rfl (cr rfl rfl rfl rfl rfl rfl) (by decide+kernel) rfl ?_);repeat(first|refine dy rfl rfl rfl (fY rfl rfl) (by decide+kernel) (by decide+kernel) rfl ?_ |refine dy rfl rfl rfl (eX rfl rfl) (by decide+kernel) (by decide+kernel) rfl ?_ |refine iP rfl rfl (cr rfl rfl rfl rfl rfl rfl) (by decide+kernel) (by decide+kernel) rfl ?_ |refine eD ?_)
  refine aa ?_;intros
  generalize bI s ((x.aI.getD 0 0:Nat):Int)=w at*
  exact aE (aF rfl () rfl (U.sat (bn.bl Q (by rfl) (ab))))
theorem vC {d:Nat}(hd:d<3)(a:dH)(z:Option Addr):ao (cj pp {P with q:=fun i=>if i=d then z else P.q i} (k.cK d a)) 3*G=aY (P.c d) (pp d) a.h a.l (dR a.out z)*(bA (bc z) a.out*(ao (cA (cj pp P k) d) 3*G)):=by
 rw[ao.at 3 hd,SL.bP]
 have e:ao (cA (cj pp {P with q:=fun i=>if i=d then z else P.q i} (k.cK d a)) d) 3=ao (cA (cj pp P k) d) 3:=ao.congr 3 fun j hj=>by
  unfold cA
  split
  ·rfl
  ·rename_i h
   unfold cj
   rw[C9 k a hj hd h]
   dsimp only
   rw[if_neg h]
 rw[e]
 unfold cj
 dsimp only
 rw[zW k a hd,if_pos rfl,SL.bP]
set_option maxHeartbeats 4000000 in
theorem Su (hc:c.Ok)(hp:cy (3*c.np) s.pl)(hl:1≤x.aI.length)(hid:x.aI.getD 0 0<3*c.np)(hw:x.word.ok)(ho:(k.ca (x.aI.getD 0 0/c.np)).out=none)(hlen:(k.ca (x.aI.getD 0 0/c.np)).l.length≤16)(e:x.next=8):
  Spec Tryz.prog 90 [.pointer pn,.pointer P.p,.pointer r] W (bn r x b*aN R.po P k (NH pn c R*(aG R.pl s.pl*(ao (bb c R s) 3*F)))) (fun _:Option Addr=> .tuple #[]) (fun z=>bn r (dO c s k x).2.2 z*aN R.po {P with q:=fun i=>if i=x.aI.getD 0 0/c.np then z else P.q i} (dO c s k x).2.1 (NH pn c R*(aG R.pl (dO c s k x).1.pl*(ao (bb c R s) 3*F)))):=by
 refine Spec.of Tryz.func90 rfl Tryz.ntmps90 rfl ?_
 have cU:=hc.np
 haveI:Pos c.np:=⟨by omega⟩
 have es:dO c s k x=(bL s ((x.aI.getD 0 0:Nat):Int) x.word {x.word with st:=0},k.cK (x.aI.getD 0 0/c.np) (fO c.np (k.ca (x.aI.getD 0 0/c.np)) (x.aI.getD 0 0%c.np)).1,{x with aI:=x.aI.drop 1,back:=some (fO c.np (k.ca (x.aI.getD 0 0/c.np)) (x.aI.getD 0 0%c.np)).2,next:=9}):=by
  unfold dO;rw[if_neg (by omega),if_pos e]
 rw[es]
 clear es
 have oF:({x.word with st:=0}:bH).ok:=⟨by show 0≤3;decide,hw.2.1,hw.2.2.1,hw.2.2.2⟩
 generalize hI:x.aI.getD 0 0=id at*
 have lD:id/c.np<3:=Nat.div_lt_of_lt_mul (by rw[Nat.mul_comm];exact hid)
 obtain⟨k1,k2,k3,k4,k5,k6,k7,k8⟩:=nj k (id/c.np) (fO c.np (k.ca (id/c.np)) (id%c.np)).1
 refine bn.open fun Q=> ?_
 simp only[dC,aN,bq,k1,k2,k3,k4,k5,k6,k7,k8]
 refine aa ?_;intros
 rename_i y
 rw[hI]
 refine ay 99 (Obj y 117 (wL {x.word with st:=0} [])*(NH pn c R*(Obj r 128 (nv x Q)*1))) rfl rfl rfl ?_
 refine ah ?_
 refine aw rfl rfl rfl rfl rfl (Spec.aL R.pl (ta (id:=(id:Int)) (a:=x.word) (b:={x.word with st:=0}) hc hp (by omega) (by omega) hw oF)) (fun _=>ab) ?_
 intro _
 refine ah ?_
 refine aa ?_;intros
 obtain⟨g,hg⟩:∃g:cI,g={x with aI:=x.aI.drop 1}:=⟨_,rfl⟩
 obtain⟨Q2,jU⟩:∃Q2:pX,Q2={Q with aI:=(cZ Q.aI.1 1 Q.aI.2 1,Q.aI.2-1)}:=⟨_,rfl⟩
 rw[mb (k:=k) lD ho]
 refine iQ (G:=dC r g b Q2 (Obj P.p 126 (bq P k)*(aY (P.c (id/c.np)) (R.po (id/c.np)) (k.ca (id/c.np)).h (k.ca (id/c.np)).l none*(ao (cA (cj R.po P k) (id/c.np)) 3*(ct P.wh k.aD*(cQ dQ de P.m k.aS*(ad 5 1 P.told.1 k.bt.length P.told.2 (ar k.bt)*(ad 132 2 P.ended.1 k.ended.length P.ended.2 (cN k.ended)*(NH pn c R*(aG R.pl (bL s (id:Int) x.word {x.word with st:=0}).pl*(ao (bb c R s) 3*F))))))))))) (by
  rw[hg,jU]
  dsimp only[dC]
  refine U.obj r (by rw[List.length_drop]) ?_
  refine U.cons (U.cons (U.cons (U.tail Q.aI.1 hl ?_)))
  first|exact U.refl _|exact U.last|(repeat(first|refine U.cons ?_ |exact U.any|exact U.last))) ?_
 simp only[dC,bq]
 rcases(show id/c.np=0∨id/c.np=1∨id/c.np=2 by have h:=lD;generalize id/c.np=d at h ⊢;omega)with ev|ev|ev
 ·refine ay 22 (NH pn c R*(Obj P.p 126 [.pointer (P.c 0),.pointer (P.c 1),.pointer (P.c 2),.pointer P.wh,.map (some P.m),.pointer (dR k.frame P.fr),.pointer (dR k.aC P.sw),.slice P.told.1 k.bt.length P.told.2,.int .i64 (k.fh:Int),.bool k.any,.slice P.ended.1 k.ended.length P.ended.2]*(Obj r 128 (nv g Q2)*1))) rfl rfl rfl ?_
  repeat(first|refine c5 ?_ |refine ax 0 rfl rfl rfl rfl (by decide+kernel) (ag) rfl ?_ |refine ax 1 rfl rfl rfl rfl (by decide+kernel) (ag) rfl ?_ |refine ax 2 rfl rfl rfl rfl (by decide+kernel) (ag) rfl ?_ |refine ax 3 rfl rfl rfl rfl (by decide+kernel) (ag) rfl ?_)
  rw[ev]at lD ho hlen ⊢
  repeat(first|refine c5 ?_ |refine ax 0 rfl rfl rfl rfl (by decide+kernel) (ag) rfl ?_ |refine ax 1 rfl rfl rfl rfl (by decide+kernel) (ag) rfl ?_ |refine ax 2 rfl rfl rfl rfl (by decide+kernel) (ag) rfl ?_ |refine ax 3 rfl rfl rfl rfl (by decide+kernel) (ag) rfl ?_)
  rw[show((id:Int)%(c.np:Int))=((id%c.np:Nat):Int)by rw[Int.natCast_emod]]
  by_cases xV:(k.ca 0).l.length<16
  ·have o8:fO c.np (k.ca 0) (id%c.np)=({k.ca 0 with l:=(k.ca 0).l++[id%c.np]},⟨3,mz,false⟩):=by
    unfold fO
    rw[if_neg (by rw[la];omega)];rfl
   rw[o8]
   refine aw rfl rfl rfl rfl rfl (Spec.aL (P.c 0) (zL (id%c.np) xV)) (fun _=>ab) ?_
   intro v
   repeat(first|refine c5 ?_ |refine ax 0 rfl rfl rfl rfl (by decide+kernel) (ag) rfl ?_ |refine ax 1 rfl rfl rfl rfl (by decide+kernel) (ag) rfl ?_ |refine ax 2 rfl rfl rfl rfl (by decide+kernel) (ag) rfl ?_ |refine ax 3 rfl rfl rfl rfl (by decide+kernel) (ag) rfl ?_)
   (refine je rfl (cr rfl rfl rfl rfl rfl rfl) (by decide+kernel) rfl ?_);repeat(first|refine dy rfl rfl rfl (fY rfl rfl) (by decide+kernel) (by decide+kernel) rfl ?_ |refine dy rfl rfl rfl (eX rfl rfl) (by decide+kernel) (by decide+kernel) rfl ?_ |refine iP rfl rfl (cr rfl rfl rfl rfl rfl rfl) (by decide+kernel) (by decide+kernel) rfl ?_ |refine eD ?_)
   refine aa ?_;intros
   subst hg jU
   refine aE (aF rfl none rfl (U.sat (bn.bl {Q with aI:=(cZ Q.aI.1 1 Q.aI.2 1,Q.aI.2-1),back:=v} (by rfl) ?_)))
   rw[vC (k:=k) lD]
   simp only[bF,ho,gi,dY]
   rw[show fk v none ⟨3,mz,false⟩=db v 3 none false from rfl]
   exact ab
  ·have vN:(k.ca 0).l.length=16:=by omega
   have o8:fO c.np (k.ca 0) (id%c.np)=({k.ca 0 with l:=((k.ca 0).l++[id%c.np]).drop 8,out:=some (kU c.np ((((k.ca 0).l++[id%c.np]).take 8).map fun y:Nat=>(y:Int)))},⟨2,mz,false⟩):=by
    unfold fO
    rw[if_pos ⟨by rw[la];omega,by rw[ho];rfl⟩]
   rw[o8,ti (s:=s) (G:=F) lD]
   refine aw rfl rfl rfl rfl rfl (Spec.eZ (P.c 0) (R.po 0) (CV (id%c.np) vN cU.2)) (fun _=>ab) ?_
   intro v
   repeat(first|refine c5 ?_ |refine ax 0 rfl rfl rfl rfl (by decide+kernel) (ag) rfl ?_ |refine ax 1 rfl rfl rfl rfl (by decide+kernel) (ag) rfl ?_ |refine ax 2 rfl rfl rfl rfl (by decide+kernel) (ag) rfl ?_ |refine ax 3 rfl rfl rfl rfl (by decide+kernel) (ag) rfl ?_)
   (refine je rfl (cr rfl rfl rfl rfl rfl rfl) (by decide+kernel) rfl ?_);repeat(first|refine dy rfl rfl rfl (fY rfl rfl) (by decide+kernel) (by decide+kernel) rfl ?_ |refine dy rfl rfl rfl (eX rfl rfl) (by decide+kernel) (by decide+kernel) rfl ?_ |refine iP rfl rfl (cr rfl rfl rfl rfl rfl rfl) (by decide+kernel) (by decide+kernel) rfl ?_ |refine eD ?_)
   refine aa ?_;intros
   subst hg jU
   refine aE (aF rfl v.2 rfl (U.sat (bn.bl {Q with aI:=(cZ Q.aI.1 1 Q.aI.2 1,Q.aI.2-1),back:=v.1} (by rfl) ?_)))
   rw[vC (k:=k) lD]
   simp only[bF]
   rw[show fk v.1 v.2 ⟨2,mz,false⟩=db v.1 2 v.2 false from rfl,show dR (some (kU c.np ((((k.ca 0).l++[id%c.np]).take 8).map fun y:Nat=>(y:Int)))) v.2=v.2 from rfl]
   exact ab
 ·refine ay 22 (NH pn c R*(Obj P.p 126 [.pointer (P.c 0),.pointer (P.c 1),.pointer (P.c 2),.pointer P.wh,.map (some P.m),.pointer (dR k.frame P.fr),.pointer (dR k.aC P.sw),.slice P.told.1 k.bt.length P.told.2,.int .i64 (k.fh:Int),.bool k.any,.slice P.ended.1 k.ended.length P.ended.2]*(Obj r 128 (nv g Q2)*1))) rfl rfl rfl ?_
  repeat(first|refine c5 ?_ |refine ax 0 rfl rfl rfl rfl (by decide+kernel) (ag) rfl ?_ |refine ax 1 rfl rfl rfl rfl (by decide+kernel) (ag) rfl ?_ |refine ax 2 rfl rfl rfl rfl (by decide+kernel) (ag) rfl ?_ |refine ax 3 rfl rfl rfl rfl (by decide+kernel) (ag) rfl ?_)
  rw[ev]at lD ho hlen ⊢
  repeat(first|refine c5 ?_ |refine ax 0 rfl rfl rfl rfl (by decide+kernel) (ag) rfl ?_ |refine ax 1 rfl rfl rfl rfl (by decide+kernel) (ag) rfl ?_ |refine ax 2 rfl rfl rfl rfl (by decide+kernel) (ag) rfl ?_ |refine ax 3 rfl rfl rfl rfl (by decide+kernel) (ag) rfl ?_)
  rw[show((id:Int)%(c.np:Int))=((id%c.np:Nat):Int)by rw[Int.natCast_emod]]
  by_cases xV:(k.ca 1).l.length<16
  ·have o8:fO c.np (k.ca 1) (id%c.np)=({k.ca 1 with l:=(k.ca 1).l++[id%c.np]},⟨3,mz,false⟩):=by
    unfold fO
    rw[if_neg (by rw[la];omega)];rfl
   rw[o8]
   refine aw rfl rfl rfl rfl rfl (Spec.aL (P.c 1) (zL (id%c.np) xV)) (fun _=>ab) ?_
   intro v
   repeat(first|refine c5 ?_ |refine ax 0 rfl rfl rfl rfl (by decide+kernel) (ag) rfl ?_ |refine ax 1 rfl rfl rfl rfl (by decide+kernel) (ag) rfl ?_ |refine ax 2 rfl rfl rfl rfl (by decide+kernel) (ag) rfl ?_ |refine ax 3 rfl rfl rfl rfl (by decide+kernel) (ag) rfl ?_)
   (refine je rfl (cr rfl rfl rfl rfl rfl rfl) (by decide+kernel) rfl ?_);repeat(first|refine dy rfl rfl rfl (fY rfl rfl) (by decide+kernel) (by decide+kernel) rfl ?_ |refine dy rfl rfl rfl (eX rfl rfl) (by decide+kernel) (by decide+kernel) rfl ?_ |refine iP rfl rfl (cr rfl rfl rfl rfl rfl rfl) (by decide+kernel) (by decide+kernel) rfl ?_ |refine eD ?_)
   refine aa ?_;intros
   subst hg jU
   refine aE (aF rfl none rfl (U.sat (bn.bl {Q with aI:=(cZ Q.aI.1 1 Q.aI.2 1,Q.aI.2-1),back:=v} (by rfl) ?_)))
   rw[vC (k:=k) lD]
   simp only[bF,ho,gi,dY]
   rw[show fk v none ⟨3,mz,false⟩=db v 3 none false from rfl]
   exact ab
  ·have vN:(k.ca 1).l.length=16:=by omega
   have o8:fO c.np (k.ca 1) (id%c.np)=({k.ca 1 with l:=((k.ca 1).l++[id%c.np]).drop 8,out:=some (kU c.np ((((k.ca 1).l++[id%c.np]).take 8).map fun y:Nat=>(y:Int)))},⟨2,mz,false⟩):=by
    unfold fO
    rw[if_pos ⟨by rw[la];omega,by rw[ho];rfl⟩]
   rw[o8,ti (s:=s) (G:=F) lD]
   refine aw rfl rfl rfl rfl rfl (Spec.eZ (P.c 1) (R.po 1) (CV (id%c.np) vN cU.2)) (fun _=>ab) ?_
   intro v
   repeat(first|refine c5 ?_ |refine ax 0 rfl rfl rfl rfl (by decide+kernel) (ag) rfl ?_ |refine ax 1 rfl rfl rfl rfl (by decide+kernel) (ag) rfl ?_ |refine ax 2 rfl rfl rfl rfl (by decide+kernel) (ag) rfl ?_ |refine ax 3 rfl rfl rfl rfl (by decide+kernel) (ag) rfl ?_)
   (refine je rfl (cr rfl rfl rfl rfl rfl rfl) (by decide+kernel) rfl ?_);repeat(first|refine dy rfl rfl rfl (fY rfl rfl) (by decide+kernel) (by decide+kernel) rfl ?_ |refine dy rfl rfl rfl (eX rfl rfl) (by decide+kernel) (by decide+kernel) rfl ?_ |refine iP rfl rfl (cr rfl rfl rfl rfl rfl rfl) (by decide+kernel) (by decide+kernel) rfl ?_ |refine eD ?_)
   refine aa ?_;intros
   subst hg jU
   refine aE (aF rfl v.2 rfl (U.sat (bn.bl {Q with aI:=(cZ Q.aI.1 1 Q.aI.2 1,Q.aI.2-1),back:=v.1} (by rfl) ?_)))
   rw[vC (k:=k) lD]
   simp only[bF]
   rw[show fk v.1 v.2 ⟨2,mz,false⟩=db v.1 2 v.2 false from rfl,show dR (some (kU c.np ((((k.ca 1).l++[id%c.np]).take 8).map fun y:Nat=>(y:Int)))) v.2=v.2 from rfl]
   exact ab
 ·refine ay 22 (NH pn c R*(Obj P.p 126 [.pointer (P.c 0),.pointer (P.c 1),.pointer (P.c 2),.pointer P.wh,.map (some P.m),.pointer (dR k.frame P.fr),.pointer (dR k.aC P.sw),.slice P.told.1 k.bt.length P.told.2,.int .i64 (k.fh:Int),.bool k.any,.slice P.ended.1 k.ended.length P.ended.2]*(Obj r 128 (nv g Q2)*1))) rfl rfl rfl ?_
  repeat(first|refine c5 ?_ |refine ax 0 rfl rfl rfl rfl (by decide+kernel) (ag) rfl ?_ |refine ax 1 rfl rfl rfl rfl (by decide+kernel) (ag) rfl ?_ |refine ax 2 rfl rfl rfl rfl (by decide+kernel) (ag) rfl ?_ |refine ax 3 rfl rfl rfl rfl (by decide+kernel) (ag) rfl ?_)
  rw[ev]at lD ho hlen ⊢
  repeat(first|refine c5 ?_ |refine ax 0 rfl rfl rfl rfl (by decide+kernel) (ag) rfl ?_ |refine ax 1 rfl rfl rfl rfl (by decide+kernel) (ag) rfl ?_ |refine ax 2 rfl rfl rfl rfl (by decide+kernel) (ag) rfl ?_ |refine ax 3 rfl rfl rfl rfl (by decide+kernel) (ag) rfl ?_)
  rw[show((id:Int)%(c.np:Int))=((id%c.np:Nat):Int)by rw[Int.natCast_emod]]
  by_cases xV:(k.ca 2).l.length<16
  ·have o8:fO c.np (k.ca 2) (id%c.np)=({k.ca 2 with l:=(k.ca 2).l++[id%c.np]},⟨3,mz,false⟩):=by
    unfold fO
    rw[if_neg (by rw[la];omega)];rfl
   rw[o8]
   refine aw rfl rfl rfl rfl rfl (Spec.aL (P.c 2) (zL (id%c.np) xV)) (fun _=>ab) ?_
   intro v
   repeat(first|refine c5 ?_ |refine ax 0 rfl rfl rfl rfl (by decide+kernel) (ag) rfl ?_ |refine ax 1 rfl rfl rfl rfl (by decide+kernel) (ag) rfl ?_ |refine ax 2 rfl rfl rfl rfl (by decide+kernel) (ag) rfl ?_ |refine ax 3 rfl rfl rfl rfl (by decide+kernel) (ag) rfl ?_)
   (refine je rfl (cr rfl rfl rfl rfl rfl rfl) (by decide+kernel) rfl ?_);repeat(first|refine dy rfl rfl rfl (fY rfl rfl) (by decide+kernel) (by decide+kernel) rfl ?_ |refine dy rfl rfl rfl (eX rfl rfl) (by decide+kernel) (by decide+kernel) rfl ?_ |refine iP rfl rfl (cr rfl rfl rfl rfl rfl rfl) (by decide+kernel) (by decide+kernel) rfl ?_ |refine eD ?_)
   refine aa ?_;intros
   subst hg jU
   refine aE (aF rfl none rfl (U.sat (bn.bl {Q with aI:=(cZ Q.aI.1 1 Q.aI.2 1,Q.aI.2-1),back:=v} (by rfl) ?_)))
   rw[vC (k:=k) lD]
   simp only[bF,ho,gi,dY]
   rw[show fk v none ⟨3,mz,false⟩=db v 3 none false from rfl]
   exact ab
  ·have vN:(k.ca 2).l.length=16:=by omega
   have o8:fO c.np (k.ca 2) (id%c.np)=({k.ca 2 with l:=((k.ca 2).l++[id%c.np]).drop 8,out:=some (kU c.np ((((k.ca 2).l++[id%c.np]).take 8).map fun y:Nat=>(y:Int)))},⟨2,mz,false⟩):=by
    unfold fO
    rw[if_pos ⟨by rw[la];omega,by rw[ho];rfl⟩]
   rw[o8,ti (s:=s) (G:=F) lD]
   refine aw rfl rfl rfl rfl rfl (Spec.eZ (P.c 2) (R.po 2) (CV (id%c.np) vN cU.2)) (fun _=>ab) ?_
   intro v
   repeat(first|refine c5 ?_ |refine ax 0 rfl rfl rfl rfl (by decide+kernel) (ag) rfl ?_ |refine ax 1 rfl rfl rfl rfl (by decide+kernel) (ag) rfl ?_ |refine ax 2 rfl rfl rfl rfl (by decide+kernel) (ag) rfl ?_ |refine ax 3 rfl rfl rfl rfl (by decide+kernel) (ag) rfl ?_)
   (refine je rfl (cr rfl rfl rfl rfl rfl rfl) (by decide+kernel) rfl ?_);repeat(first|refine dy rfl rfl rfl (fY rfl rfl) (by decide+kernel) (by decide+kernel) rfl ?_ |refine dy rfl rfl rfl (eX rfl rfl) (by decide+kernel) (by decide+kernel) rfl ?_ |refine iP rfl rfl (cr rfl rfl rfl rfl rfl rfl) (by decide+kernel) (by decide+kernel) rfl ?_ |refine eD ?_)
   refine aa ?_;intros
   subst hg jU
   refine aE (aF rfl v.2 rfl (U.sat (bn.bl {Q with aI:=(cZ Q.aI.1 1 Q.aI.2 1,Q.aI.2-1),back:=v.1} (by rfl) ?_)))
   rw[vC (k:=k) lD]
   simp only[bF]
   rw[show fk v.1 v.2 ⟨2,mz,false⟩=db v.1 2 v.2 false from rfl,show dR (some (kU c.np ((((k.ca 2).l++[id%c.np]).take 8).map fun y:Nat=>(y:Int)))) v.2=v.2 from rfl]
   exact ab
end
section
open Go.RowKit
set_option maxRecDepth 10000
attribute [local irreducible] EK EX ER EN EL ES EG an aR aU
variable {W:World} {F G:SL} {X:Cx} {kk:List KI} {σ:Env} {pn r b:Option Addr} {x:cI} {c:NC} {R:dV} {s:aW} {k:aK} {P:cW} {pp:Nat→Option Addr} {pc pw po:Option Addr}
theorem Lf {x:Nat×Nat}(hx:x.2<4294967296):gL x 32=[]↔x.2=0:=by
 unfold gL
 rw[List.map_eq_nil_iff,List.filter_eq_nil_iff]
 constructor
 ·intro h
  refine Nat.eq_of_testBit_eq fun i=> ?_
  rw[Nat.zero_testBit]
  by_cases hi:i<32
  ·simpa using h i (List.mem_range.2 hi)
  ·refine Nat.testBit_lt_two_pow (Nat.lt_of_lt_of_le hx ?_)
   show 2^32≤2^i
   exact Nat.pow_le_pow_right (by decide) (by omega)
 ·intro h i _
  rw[h]
  simp
theorem VG {l:List (Nat×Nat)}(hm:∀p∈l,p.2<4294967296):decide (0<(nc l).length)=l.any fun p=>decide (p.2≠0):=by
 have e:(nc l).length=(fC l).length:=by unfold nc;rw[List.length_map,Fa]
 rw[e,Bool.eq_iff_iff,decide_eq_true_eq,List.any_eq_true,List.length_pos_iff]
 unfold fC
 constructor
 ·intro h
  by_cases hh:∃p∈l,p.2≠0
  ·obtain⟨p,h1,h2⟩:=hh
   exact⟨p,h1,decide_eq_true h2⟩
  ·exact absurd (List.flatMap_eq_nil_iff.2 fun p hp=>(Lf (hm p hp)).2 (Decidable.not_not.1 fun h0=>hh ⟨p,hp,h0⟩)) h
 ·rintro ⟨p,h1,h2⟩ h
  exact(of_decide_eq_true h2) ((Lf (hm p h1)).1 (List.flatMap_eq_nil_iff.1 h p h1))
theorem QQ {i:Nat}(hi:i<3):ao (cj pp P k) 3*G=aY (P.c i) (pp i) (k.ca i).h (k.ca i).l (dR (k.ca i).out (P.q i))*(bA (bc (P.q i)) (k.ca i).out*(ao (cA (cj pp P k) i) 3*G)):=by
 rw[ao.at 3 hi,SL.bP]
 show cj pp P k i*_=_
 unfold cj
 rw[SL.bP]
def nf (k:aK)(i:Nat):Bool:=match(k.ca i).out with
 |some o=>decide (o.parts.any fun p=>p.2≠0)
 |none=>false
def s8 (k:aK)(i:Nat):Nat:=match(k.ca i).out with
 |some o=>(nc o.parts).length
 |none=>0
def my (k:aK):Nat→Nat
 |0=>0
 |i+1=>if nf k i=true then i else my k i
theorem Ft (k:aK):my k 3=ew k:=by
 show(if nf k 2=true then 2 else if nf k 1=true then 1 else if nf k 0=true then 0 else 0)=(if nf k 2=true then 2 else if nf k 1=true then 1 else 0)
 split
 ·rfl
 ·split
  ·rfl
  ·split<;>rfl
theorem Fu (k:aK):∀i,i≤3→my k i<3
 |0,_=>by unfold my;decide
 |i+1,h=>by
  unfold my
  split
  ·omega
  ·exact Fu k i (by omega)
def w5 (m:Nat)(k:aK):Prop:=∀i,i<3→∀o,(k.ca i).out=some o→o.Ok m
theorem wb {m i:Nat}(h:w5 m k)(hi:i<3):decide (0<s8 k i)=nf k i:=by
 have h1:=h i hi
 unfold s8 nf
 cases ho:(k.ca i).out with
 |none=>rfl
 |some o=>
  dsimp only
  rw[VG fun p hp=>((h1 o ho).parts p hp).2]
  simp
theorem Wo {m i:Nat}(h:w5 m k)(hi:i<3)(hm:m≤32)(hl:∀o,(k.ca i).out=some o→o.parts.length≤1000):Spec Tryz.prog 141 [.pointer (P.c i)] W (cj pp P k i*F) (fun g:az=> .slice g.1 (s8 k i) g.2) (fun _=>cj pp P k i*F):=by
 have h1:=h i hi
 unfold cj s8
 cases ho:(k.ca i).out with
 |none=>
  rw[SL.bP,dY]
  exact Of.mono fun _=>⟨(none,0),rfl,U.refl _⟩
 |some o=>
  rw[SL.bP,bF]
  have uH:=h1 o ho
  refine(Og (hl o ho) fun p hp=> ?_).mono fun g=>⟨g,rfl,U.drop⟩
  have h3:=uH.parts p hp
  exact⟨by omega,by omega⟩
set_option maxHeartbeats 4000000 in
theorem Sv {m:Nat}{bk:jN}(hT:gC W)(hc:c.Ok)(h:w5 m k)(hm:m≤32)(hl:∀i,i<3→∀o,(k.ca i).out=some o→o.parts.length≤1000)(hw:∀i,i<3→ic m (s.po i))(hb:x.back=some bk)(DN:bk.done=false)(vO:bk.kind=3∨(bk.kind=2∧b=P.q (ew k)∧∃o,(k.ca (ew k)).out=some o))(e:x.next=9):
  Spec Tryz.prog 90 [.pointer pn,.pointer P.p,.pointer r] W (bn r x b*aN R.po P k (NH pn c R*(ao (bb c R s) 3*F))) (fun _:Unit=> .tuple #[]) (fun _=>bn r (dO c s k x).2.2 b*aN R.po P (dO c s k x).2.1 (NH pn c R*(ao (bb c R (dO c s k x).1) 3*F))):=by
 refine Spec.of Tryz.func90 rfl Tryz.ntmps90 rfl ?_
 have es:dO c s k x=(s.eV (ew k) (cX (s.po (ew k)) (k.ca (ew k)) bk).1,k.cK (ew k) (cX (s.po (ew k)) (k.ca (ew k)) bk).2.1,{x with back:=some (cX (s.po (ew k)) (k.ca (ew k)) bk).2.2,next:=if(cX (s.po (ew k)) (k.ca (ew k)) bk).2.2.done=true then 7 else x.next}):=by
  unfold dO;rw[if_neg (by omega),if_neg (by omega),hb,e]
 rw[es]
 clear es
 refine bn.open fun Q=> ?_
 simp only[dC,aN,hb,bF,bq]
 refine aa ?_;intros
 obtain⟨HH,xX⟩:∃HH:SL,HH=dC r x b Q (Obj P.p 126 (bq P k)*(ao (cj R.po P k) 3*(ct P.wh k.aD*(cQ dQ de P.m k.aS*(ad 5 1 P.told.1 k.bt.length P.told.2 (ar k.bt)*(ad 132 2 P.ended.1 k.ended.length P.ended.2 (cN k.ended)*(NH pn c R*(ao (bb c R s) 3*F)))))))):=⟨_,rfl⟩
 have nO:∀i,i<3→Spec Tryz.prog 141 [.pointer (P.c i)] W HH (fun g:az=> .slice g.1 (s8 k i) g.2) (fun _=>HH):=fun i hi=>by
  refine(Spec.pre (Wo (W:=W) (pp:=R.po) (P:=P) (k:=k) (F:=ao (cA (cj R.po P k) i) 3*dC r x b Q (Obj P.p 126 (bq P k)*(ct P.wh k.aD*(cQ dQ de P.m k.aS*(ad 5 1 P.told.1 k.bt.length P.told.2 (ar k.bt)*(ad 132 2 P.ended.1 k.ended.length P.ended.2 (cN k.ended)*(NH pn c R*(ao (bb c R s) 3*F)))))))) h hi hm (hl i hi)) ?_).mono fun g=>⟨g,rfl,?_⟩
  ·rw[←SL.bP,←ao.at 3 hi,xX]
   simp only[dC]
   exact ab
  ·rw[←SL.bP,←ao.at 3 hi,xX]
   simp only[dC]
   exact ab
 refine iQ (G:=HH) (by rw[xX];simp only[dC,hb,bF];exact ab) ?_
 refine fy (γ:=Nat) (fun i=>i≤3) (fun i=>[(0,.pointer pn),(1,.pointer P.p),(2,.pointer r),(8,.pointer (P.c (my k i))),(109,.agg #[.pointer (P.c 0),.pointer (P.c 1),.pointer (P.c 2)]),(110,.int .i64 (i:Int))]) (fun _=>HH) (fun i=>3-i) 0 (by decide) ⟨rfl,rfl,rfl,rfl,rfl,rfl,trivial⟩ (U.sat (U.refl _)) ?_
 intro i hi
 rcases(show i=0∨i=1∨i=2∨i=3 by omega)with rfl|rfl|rfl|rfl
 ·by_cases hv:0<s8 k 0
  ·have e1:my k (0+1)=0:=by show(if nf k 0=true then 0 else _)=_;rw[if_pos (by rw[←wb h (by decide)];exact decide_eq_true hv)]
   refine aa ?_;intros
   refine af rfl (nO 0 (by decide)) ?_
   intro z
   refine aa ?_;intros
   exact cJ (0+1) (by decide) (by decide) ⟨rfl,rfl,rfl,by rw[e1];rfl,rfl,rfl,trivial⟩ (U.sat (U.refl _))
  ·have e1:my k (0+1)=my k 0:=by show(if nf k 0=true then 0 else _)=_;rw[if_neg (by rw[←wb h (by decide)];simpa using hv)]
   refine aa ?_;intros
   refine af rfl (nO 0 (by decide)) ?_
   intro z
   refine aa ?_;intros
   exact cJ (0+1) (by decide) (by decide) ⟨rfl,rfl,rfl,by rw[e1];rfl,rfl,rfl,trivial⟩ (U.sat (U.refl _))
 ·by_cases hv:0<s8 k 1
  ·have e1:my k (1+1)=1:=by show(if nf k 1=true then 1 else _)=_;rw[if_pos (by rw[←wb h (by decide)];exact decide_eq_true hv)]
   refine aa ?_;intros
   refine af rfl (nO 1 (by decide)) ?_
   intro z
   refine aa ?_;intros
   exact cJ (1+1) (by decide) (by decide) ⟨rfl,rfl,rfl,by rw[e1];rfl,rfl,rfl,trivial⟩ (U.sat (U.refl _))
  ·have e1:my k (1+1)=my k 1:=by show(if nf k 1=true then 1 else _)=_;rw[if_neg (by rw[←wb h (by decide)];simpa using hv)]
   refine aa ?_;intros
   refine af rfl (nO 1 (by decide)) ?_
   intro z
   refine aa ?_;intros
   exact cJ (1+1) (by decide) (by decide) ⟨rfl,rfl,rfl,by rw[e1];rfl,rfl,rfl,trivial⟩ (U.sat (U.refl _))
 ·by_cases hv:0<s8 k 2
  ·have e1:my k (2+1)=2:=by show(if nf k 2=true then 2 else _)=_;rw[if_pos (by rw[←wb h (by decide)];exact decide_eq_true hv)]
   refine aa ?_;intros
   refine af rfl (nO 2 (by decide)) ?_
   intro z
   refine aa ?_;intros
   exact cJ (2+1) (by decide) (by decide) ⟨rfl,rfl,rfl,by rw[e1];rfl,rfl,rfl,trivial⟩ (U.sat (U.refl _))
  ·have e1:my k (2+1)=my k 2:=by show(if nf k 2=true then 2 else _)=_;rw[if_neg (by rw[←wb h (by decide)];simpa using hv)]
   refine aa ?_;intros
   refine af rfl (nO 2 (by decide)) ?_
   intro z
   refine aa ?_;intros
   exact cJ (2+1) (by decide) (by decide) ⟨rfl,rfl,rfl,by rw[e1];rfl,rfl,rfl,trivial⟩ (U.sat (U.refl _))
 ·rw[Ft]
  have hK:ew k<3:=by rw[←Ft];exact Fu k 3 (by decide)
  have Ub:=h (ew k) hK
  have UB:=hw (ew k) hK
  generalize ew k=K at*
  obtain⟨k1,k2,k3,k4,k5,k6,k7,k8⟩:=nj k K (cX (s.po K) (k.ca K) bk).2.1
  rw[xX]
  clear nO xX
  simp only[dC,aN,hb,bF,bq,k1,k2,k3,k4,k5,k6,k7,k8]
  clear k1 k2 k3 k4 k5 k6 k7 k8
  rw[QQ (k:=k) hK,ti (s:=s) (G:=F) hK,zX (k:=k) hK,uV (s:=s) hK]
  obtain⟨bkk,tW,bkd⟩:=bk
  dsimp only at DN vO hb
  subst DN
  rcases vO with D5|⟨nN,Tr,o,ho⟩
  ·subst D5
   rw[HY]
   dsimp only
   rw[show fk Q.back b ⟨3,tW,false⟩=db Q.back 3 none false from rfl]
   refine aa ?_;intros
   refine af rfl (Spec.eZ (P.c K) Q.back Gr) ?_
   intro _
   refine aa ?_;intros
   rw[if_pos rfl]
   refine aE (aF rfl () rfl (U.sat (bn.bl Q (by rfl) ?_)))
   simp only[bF]
   rw[show fk Q.back b ⟨3,tW,true⟩=db Q.back 3 none true from rfl]
   exact ab
  ·subst nN Tr
   have ec:cX (s.po K) (k.ca K) ⟨2,tW,false⟩=((bp (s.po K) o).1,{k.ca K with out:=if(bp (s.po K) o).2.done=true then none else some (bp (s.po K) o).2},⟨2,tW,(bp (s.po K) o).2.done⟩):=by
    simp[cX,ho]
   rw[ec,ho]
   have Uc:=Ub o ho
   dsimp only
   rw[show fk Q.back (P.q K) ⟨2,tW,false⟩=db Q.back 2 (P.q K) false from rfl,show dR (some o) (P.q K)=P.q K from rfl]
   simp only[bF]
   refine aa ?_;intros
   refine af rfl (Spec.eZ Q.back (P.q K) (Spec.pre (Nn (pc:=P.c K) (ps:=Q.back) (sp:=P.q K) (pp:=R.po K) (n:=c.np) (qo:=P.q K) (h:=(k.ca K).h) (l:=(k.ca K).l) hT UB Uc) (U.cons (U.cons (U.at (P.c K) rfl (U.at (R.po K) rfl (U.refl _))))))) ?_
   intro _
   generalize bp (s.po K) o=D at*
   obtain⟨wD,xD⟩:=D
   dsimp only at*
   cases hd:xD.done with
   |true=>
    refine aa ?_;intros
    refine aE (aF rfl () rfl (U.sat (bn.bl Q (by rfl) ?_)))
    simp only[bF,dY,if_true,gi]
    rw[show fk Q.back (P.q K) ⟨2,tW,true⟩=db Q.back 2 (P.q K) true from rfl]
    exact ab
   |false=>
    refine aa ?_;intros
    refine aE (aF rfl () rfl (U.sat (bn.bl Q (by rfl) ?_)))
    simp only[bF,dY,Bool.false_eq_true,if_false]
    rw[show fk Q.back (P.q K) ⟨2,tW,false⟩=db Q.back 2 (P.q K) false from rfl,show dR (some xD) (P.q K)=P.q K from rfl]
    exact ab
end
section
open Go.RowKit
set_option maxRecDepth 10000
attribute [local irreducible] EK EX ER EN EL ES EG an aR aU
variable {W:World} {F G:SL} {X:Cx} {kk:List KI} {σ:Env} {pn r b:Option Addr} {x:cI} {c:NC} {R:dV} {s:aW} {k:aK} {P:cW} {pp:Nat→Option Addr} {pc pw po:Option Addr}
set_option maxHeartbeats 4000000 in
theorem Yo {w:Nat}(hg:jx k.aD)(hn:k.aD.all.length≤300)(uJ:∀y∈(fP k.aD x.tick).1,0≤y.id)(hd:(fP k.aD x.tick).1.length≤300)(iW:x.due.length≤100000)(e:x.next=0):
  Spec Tryz.prog 60 [.pointer pn,.int .i64 (w:Int),.pointer P.p,.pointer r] W (bn r x b*aN R.po P k (NH pn c R*bJ c R s F)) (fun _:Unit=> .tuple #[]) (fun _=>bn r (cg c w s k x).2.2 b*aN R.po P (cg c w s k x).2.1 (NH pn c R*bJ c R (cg c w s k x).1 F)):=by
 refine Spec.of Tryz.func60 rfl Tryz.ntmps60 rfl ?_
 have es:cg c w s k x=(s,{k with aD:=(fP k.aD x.tick).2},{x with due:=x.due++(iZ (fP k.aD x.tick).1).map fun y=>y.id.toNat,next:=1}):=by unfold cg;rw[if_pos e]
 rw[es]
 clear es
 have xZ:=fun G=>Nq (W:=W) (F:=G) P.wh k.aD x.tick hg hn
 have kY:=B3 (fP k.aD x.tick).1
 have qz:∀y∈iZ (fP k.aD x.tick).1,0≤y.id:=fun y hy=>uJ y ((zc _).mem_iff.1 hy)
 generalize fP k.aD x.tick=D at*
 obtain⟨A,w2⟩:=D
 dsimp only at*
 rw[←kY]at xZ hd
 generalize iZ A=B at*
 have Dg:ao (cj R.po P {k with aD:=w2}) 3=ao (cj R.po P k) 3:=rfl
 refine bn.open fun Q=> ?_
 simp only[dC,aN,Dg]
 refine aa ?_;intros
 refine ay 99 (Obj P.p 126 (bq P k)*(Obj r 128 (nv x Q)*1)) rfl rfl rfl ?_
 refine ah ?_
 refine aw rfl rfl rfl rfl rfl (Spec.aL P.wh (xZ _)) (fun _=>ab) ?_
 intro z
 refine ah ?_
 refine aa ?_;intros
 refine fy (γ:=az×Nat) (fun g=>g.2≤B.length) (fun g=>[(0,.pointer pn),(1,.int .i64 (w:Int)),(2,.pointer P.p),(3,.pointer r),(26,.slice z.1 B.length z.2),(27,.int .i64 (B.length:Int)),(28,.int .i64 (g.2:Int))])
  (fun g=>ad 194 2 z.1 B.length z.2 (cN (na B))*(ct P.wh w2*dC r {x with due:=x.due++(B.take g.2).map fun y=>y.id.toNat} b {Q with due:=g.1} (Obj P.p 126 (bq P k)*(ao (cj R.po P k) 3*(cQ dQ de P.m k.aS*(ad 5 1 P.told.1 k.bt.length P.told.2 (ar k.bt)*(ad 132 2 P.ended.1 k.ended.length P.ended.2 (cN k.ended)*(NH pn c R*bJ c R s F)))))))) (fun g=>B.length-g.2) (Q.due,0) (Nat.zero_le _) ⟨rfl,rfl,rfl,rfl,rfl,rfl,rfl,trivial⟩ (U.sat (by
   rw[show x.due++(B.take 0).map (fun y=>y.id.toNat)=x.due by simp]
   simp only[dC]
   first|exact U.refl _|exact U.last|(repeat(first|refine U.cons ?_ |exact U.any|exact U.last)))) ?_
 intro ⟨q,i⟩ hi;dsimp only at hi ⊢
 obtain⟨g,jV⟩:∃g:cI,g={x with due:=x.due++(B.take i).map fun y=>y.id.toNat}:=⟨_,rfl⟩
 obtain⟨Q2,jU⟩:∃Q2:pX,Q2={Q with due:=q}:=⟨_,rfl⟩
 have AL:g.due.length≤200000:=by rw[jV];simp only[List.length_append,List.length_map,List.length_take];omega
 rw[←jV,←jU]
 simp only[dC]
 refine aa ?_;intros
 refine iB rfl (fun bY=> ?_) (fun mU=> ?_)
 ·have hm:i<B.length:=by omega
  have hIl:(na B).length=B.length:=E6 B
  refine aa ?_;intros
  rename_i y
  obtain⟨id,hid⟩:∃id:Nat,((na B).getD i (0,0)).1=(id:Int)∧(B.take i).map (fun y=>y.id.toNat)++[id]=(B.take (i+1)).map fun y=>y.id.toNat:=by
   have e1:(na B).getD i (0,0)=(B.getD i oa).item:=by
    simp only[na,List.getD_eq_getElem?_getD,List.getElem?_map,List.getElem?_eq_getElem hm,Option.map_some,Option.getD_some]
   have e2:B.getD i oa=B[i]:=by simp[List.getD_eq_getElem?_getD,List.getElem?_eq_getElem hm]
   have h0:=qz B[i] (List.getElem_mem hm)
   refine⟨B[i].id.toNat,?_,?_⟩
   ·rw[e1,e2];show B[i].id=_;omega
   ·rw[List.take_add_one,List.getElem?_eq_getElem hm,List.map_append];rfl
  generalize (na B).getD i (0,0)=v at*
  obtain⟨v1,v2⟩:=v
  obtain⟨Jy,TT⟩:=hid
  dsimp only at Jy
  subst Jy
  refine ay 11 (Obj r 128 (nv g Q2)*(Obj y 194 [.int .i64 (id:Int),.int .i64 v2]*1)) rfl rfl rfl ?_
  repeat(first|refine c5 ?_ |refine ax 0 rfl rfl rfl rfl (by decide+kernel) (ag) rfl ?_ |refine ax 1 rfl rfl rfl rfl (by decide+kernel) (ag) rfl ?_ |refine ax 2 rfl rfl rfl rfl (by decide+kernel) (ag) rfl ?_ |refine ax 3 rfl rfl rfl rfl (by decide+kernel) (ag) rfl ?_)
  refine bD ?_;intros
  refine aa ?_;intros
  rename_i q2
  have AK:x.due++(B.take (i+1)).map (fun y=>y.id.toNat)=g.due++[id]:=by rw[←TT,←List.append_assoc,jV]
  have T9:ba .i64 (g.due++[id])=ba .i64 g.due++[.int .i64 (id:Int)]:=by simp[ba]
  refine cJ (q2,i+1) (by dsimp only;omega) (by dsimp only;omega) ⟨rfl,rfl,rfl,rfl,rfl,rfl,rfl,trivial⟩ (U.sat ?_)
  dsimp only
  rw[AK,T9,la]
  subst jV jU
  exact ab
 ·have D1:i=B.length:=by omega
  subst D1
  refine aa ?_;intros
  subst jV jU
  refine aE (aF rfl () rfl (U.sat (bn.bl {Q with due:=q} (by unfold qY;rw[List.take_length];rfl) ?_)))
  rw[List.take_length]
  exact ab
end
end Go.Proofs.YtfkngchldmfpfaaGreatDoor
