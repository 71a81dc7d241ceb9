/-
  A part of a proof, joined by a program (wip/bundle3.py).
-/
import Derived.Test.YtfkngchldmfpfaaGreatDoorG15
set_option linter.unusedVariables false
set_option linter.unusedSimpArgs false
namespace Go.Proofs.YtfkngchldmfpfaaGreatDoor
section
open Go.RowKit
set_option maxRecDepth 10000
attribute [local irreducible] EK EX ER EN EL ES EG an aR aU
variable {W:World} {F G:SL} {X:Cx} {kk:List KI} {σ:Env} {pn q:Option Addr} {f:aM} {c:NC} {R:dV} {s:aW} {k:aK} {P:cW} {pp:Nat→Option Addr}
theorem mb {i:Nat}(hi:i<3)(ho:(k.ca i).out=none):ao (cj pp P k) 3*G=aY (P.c i) (pp i) (k.ca i).h (k.ca i).l none*(ao (cA (cj pp P k) i) 3*G):=by
 rw[ao.at 3 hi,SL.bP]
 show cj pp P k i*_=_
 unfold cj
 rw[ho,SL.bP,dY]
 rfl
theorem ti {i:Nat}(hi:i<3):ao (bb c R s) 3*G=bC (R.po i) c.np (s.po i)*(ao (cA (bb c R s) i) 3*G):=by
 rw[ao.at 3 hi,SL.bP]
 rfl
theorem C9 (k:aK)(a:dH){i j:Nat}(hj:j<3)(hi:i<3)(h:j≠i):(k.cK i a).ca j=k.ca j:=by
 unfold aK.cK aK.ca
 rcases(show i=0∨i=1∨i=2 by omega)with rfl|rfl|rfl<;>rcases(show j=0∨j=1∨j=2 by omega)with rfl|rfl|rfl<;>first|exact absurd rfl h|rfl
theorem zW (k:aK)(a:dH){i:Nat}(hi:i<3):(k.cK i a).ca i=a:=by
 unfold aK.cK aK.ca
 rcases(show i=0∨i=1∨i=2 by omega)with rfl|rfl|rfl<;>rfl
theorem zX {i:Nat}(hi:i<3)(a:dH):ao (cj pp P (k.cK i a)) 3*G=aY (P.c i) (pp i) a.h a.l (dR a.out (P.q i))*(bA (bc (P.q i)) a.out*(ao (cA (cj pp P k) i) 3*G)):=by
 rw[ao.at 3 hi,SL.bP]
 show cj pp P (k.cK i a) i*_=_
 have e:ao (cA (cj pp P (k.cK i a)) i) 3=ao (cA (cj pp P k) i) 3:=ao.congr 3 fun j hj=>by
  unfold cA
  split
  ·rfl
  ·rename_i h
   unfold cj
   rw[C9 k a hj hi h]
 rw[e]
 unfold cj
 rw[zW k a hi,SL.bP]
theorem Lm (s:aW)(w:List Nat){i j:Nat}(hj:j<3)(hi:i<3)(h:j≠i):(s.eV i w).po j=s.po j:=by
 unfold aW.eV aW.po
 rcases(show i=0∨i=1∨i=2 by omega)with rfl|rfl|rfl<;>rcases(show j=0∨j=1∨j=2 by omega)with rfl|rfl|rfl<;>first|exact absurd rfl h|rfl
theorem Ll (s:aW)(w:List Nat){i:Nat}(hi:i<3):(s.eV i w).po i=w:=by
 unfold aW.eV aW.po
 rcases(show i=0∨i=1∨i=2 by omega)with rfl|rfl|rfl<;>rfl
theorem uV {i:Nat}(hi:i<3)(w:List Nat):ao (bb c R (s.eV i w)) 3*G=bC (R.po i) c.np w*(ao (cA (bb c R s) i) 3*G):=by
 rw[ao.at 3 hi,SL.bP]
 have e:ao (cA (bb c R (s.eV i w)) i) 3=ao (cA (bb c R s) i) 3:=ao.congr 3 fun j hj=>by
  unfold cA
  split
  ·rfl
  ·rename_i h
   unfold bb
   rw[Lm s w hj hi h]
 rw[e]
 unfold bb
 rw[Ll s w hi]
theorem k9 (p:Nat):aH p<3:=by
 unfold aH
 split
 ·decide
 ·split<;>decide
theorem sP {Q:qT}(hp:f.ai.proto=1∨f.ai.proto=6∨f.ai.proto=17):Spec Tryz.prog 120 [.pointer q,.pointer P.p] W (Obj q 119 (cP f Q)*(Obj P.p 126 (bq P k)*F)) (fun _:Unit=> .pointer (P.c (aH f.ai.proto))) (fun _=>Obj q 119 (cP f Q)*(Obj P.p 126 (bq P k)*F)):=by
 refine Spec.of Tryz.func120 rfl Tryz.ntmps120 rfl ?_
 refine aa ?_;intros
 refine ay 99 (Obj q 119 (cP f Q)*(Obj P.p 126 (bq P k)*1)) rfl rfl rfl ?_
 refine ah ?_
 refine aw rfl rfl rfl rfl rfl (CI _) (fun _=>ab) ?_
 intro _
 rcases hp with e|e|e
 ·rw[e]
  rw[show gX ((1:Nat):Int)=((0:Nat):Int)from rfl,show aH 1=0 from rfl]
  refine ah ?_
  refine aa ?_;intros
  exact ae (aj rfl rfl () rfl (U.sat (ab)))
 ·rw[e]
  rw[show gX ((6:Nat):Int)=((1:Nat):Int)from rfl,show aH 6=1 from rfl]
  refine ah ?_
  refine aa ?_;intros
  exact ae (aj rfl rfl () rfl (U.sat (ab)))
 ·rw[e]
  rw[show gX ((17:Nat):Int)=((2:Nat):Int)from rfl,show aH 17=2 from rfl]
  refine ah ?_
  refine aa ?_;intros
  exact ae (aj rfl rfl () rfl (U.sat (ab)))
theorem KP (hc:c.Ok)(hp:f.ai.proto=1∨f.ai.proto=6∨f.ai.proto=17)(ho:(k.ca (aH f.ai.proto)).out=none)(hw:ic ((c.np+31)/32) (s.po (aH f.ai.proto))):
  Spec Tryz.prog 115 [.pointer pn,.pointer P.p,.pointer q] W (aA q f*(aN R.po P k (ao (bb c R s) 3*F))) (fun _:Unit=> .tuple #[]) (fun _=>aA q (f.vI c k)*(aN R.po P k (ao (bb c R s) 3*F))):=by
 refine Spec.of Tryz.func115 rfl Tryz.ntmps115 rfl ?_
 have bE:=k9 f.ai.proto
 refine aA.open fun Q=> ?_
 simp only[cm,aN]
 refine aa ?_;intros
 refine af rfl (Spec.eZ q P.p (sP (Q:=Q) (k:=k) (P:=P) hp)) ?_
 intro _
 have ef:f.vI c k={f with fill:=some (ou c.np (k.ca (aH f.ai.proto))),next:=6}:=rfl
 rw[ef]
 generalize aH f.ai.proto=kd at*
 rw[mb bE ho]
 by_cases hl:(k.ca kd).l=[]
 ·rw[ti bE,hl]
  refine aa ?_;intros
  refine af rfl (Spec.eZ (P.c kd) (R.po kd) (NZ (h:=(k.ca kd).h) hw)) ?_
  intro g
  refine aa ?_;intros
  have e2:ou c.np (k.ca kd)=⟨0,ke (k.ca kd).h 8 ((c.np+31)/32),false⟩:=by unfold ou;rw[if_neg (by rw[ho,hl];simp)]
  rw[e2]
  refine aE (aF rfl () rfl (U.sat (aA.bl {Q with fill:=g.1,fin:=g.2} (by rfl) ?_)))
  simp only[bF]
  rw[show fk g.1 g.2 ⟨0,ke (k.ca kd).h 8 ((c.np+31)/32),false⟩=db g.1 0 g.2 false*bc g.2 (ke (k.ca kd).h 8 ((c.np+31)/32))from rfl,SL.bP]
  exact ab
 ·have yr:0<(k.ca kd).l.length:=List.length_pos_iff.2 hl
  refine aa ?_;intros
  refine af rfl (Spec.aL (P.c kd) (NY yr)) ?_
  intro g
  refine aa ?_;intros
  have e2:ou c.np (k.ca kd)=zd:=by unfold ou;rw[if_pos (.inl hl)]
  rw[e2]
  refine aE (aF rfl () rfl (U.sat (aA.bl {Q with fill:=g} (by rfl) ?_)))
  simp only[bF]
  rw[show ∀i,fk g i zd=db g 3 none false from fun i=>rfl]
  exact ab
end
section
open Go.RowKit
set_option maxRecDepth 10000
attribute [local irreducible] EK EX ER EN EL ES EG an aR aU
variable {W:World} {F G:SL} {X:Cx} {kk:List KI} {σ:Env} {pn q:Option Addr} {f:aM} {c:NC} {R:dV} {s:aW} {k:aK} {P:cW} {pp:Nat→Option Addr}
structure oW (c:NC)(s:aW)(k:aK):Prop where
 out:∀i,i<3→(k.ca i).out=none
 words:∀i,i<3→ic ((c.np+31)/32) (s.po i)
def oz (p:Nat):Prop:=p=1∨p=6∨p=17
structure G6 (c:NC)(f:aM):Prop where
 fin:fX f
 fc:f.gJ=true→oz f.ai.proto
 find:f.next=2→∃t,f.find=some t∧br c.nb (3*c.np) t∧t.done=false
 id:f.next≠2→0≤f.id∧f.id<((3*c.np:Nat):Int)
 word:f.word.ok
 now:f.now.ok
set_option maxHeartbeats 2000000 in
theorem Wn (hc:c.Ok)(hp:cy (3*c.np) s.pl)(ht:dT c.nb (3*c.np) s.tb)(hk:oW c s k)(h:G6 c f)(h2:2≤f.next)(h5:f.next≤5):
  Spec Tryz.prog 82 [.pointer pn,.pointer P.p,.pointer q] W (aA q f*aN R.po P k (NH pn c R*(aG R.pl s.pl*(aB R.tb R.pl c.nb s.tb*(ao (bb c R s) 3*F))))) (fun _:Unit=> .tuple #[])
  (fun _=>aA q (gG c s k f).2*aN R.po P k (NH pn c R*(aG R.pl (gG c s k f).1.pl*(aB R.tb R.pl c.nb (gG c s k f).1.tb*(ao (bb c R s) 3*F))))):=by
 refine Spec.of Tryz.func82 rfl Tryz.ntmps82 rfl ?_
 have jr:=hc.ql
 have dj:=h.fin
 have kA:=h.word
 have El:=h.now
 refine aA.open fun Q=> ?_
 have jo:f.next=2∨f.next=3∨f.next=4∨f.next=5:=by omega
 rcases jo with e|e|e|e
 ·obtain⟨t,ml,jI,uN⟩:=h.find e
  have es:gG c s k f=({s with tb:=(bO s.pl c.nb s.tb t).1},if(bO s.pl c.nb s.tb t).2.done=false then {f with find:=some (bO s.pl c.nb s.tb t).2}else vE c k {f with find:=some (bO s.pl c.nb s.tb t).2} (bO s.pl c.nb s.tb t).2):=by
   unfold gG;rw[if_pos e,ml]
  rw[es]
  simp only[cm,aN,ml,bF]
  refine aa ?_;intros
  refine ay 99 (NH pn c R*(Obj q 119 (cP f Q)*1)) rfl rfl rfl ?_
  refine ah ?_
  refine aw rfl rfl rfl rfl rfl (Spec.vx Q.find R.tb R.pl (zS jr ht hp jI uN)) (fun _=>ab) ?_
  intro _
  refine ah ?_
  generalize bO s.pl c.nb s.tb t=D at*
  obtain⟨eG,t'⟩:=D
  dsimp only at*
  cases hd:t'.done with
  |false=>
   rw[if_pos rfl]
   refine aa ?_;intros
   refine ae (dm rfl () rfl (U.sat (aA.bl Q (by rfl) ?_)))
   simp only[bF]
   exact ab
  |true=>
   rw[if_neg (by decide)]
   obtain⟨g,hg⟩:∃g:aM,g={f with find:=some t'}:=⟨_,rfl⟩
   have sY:fX g:=by rw[hg];exact⟨dj.dz,dj.tick,dj.proto,dj.addr,dj.port,dj.flags⟩
   have uB:g.gJ=f.gJ:=by rw[hg]
   have TP:g.ai=f.ai:=by rw[hg]
   rw[←hg]
   refine iQ (G:=aA q g*aN R.po P k (NH pn c R*(aG R.pl s.pl*(aB R.tb R.pl c.nb eG*(ao (bb c R s) 3*F))))) (by rw[hg];exact(aA.bl Q (by rfl) (by(try simp only[bF]);exact ab))) ?_
   unfold vE
   by_cases h0:t'.end_=0
   ·rw[if_pos h0]
    have qv:g.find=some t':=by rw[hg]
    refine aA.open fun Q=> ?_
    simp only[cm,aN,qv,bF]
    refine aa ?_;intros
    refine af rfl (Spec.aL Q.find vk) ?_
    intro _
    refine aa ?_;intros
    refine af rfl (Spec.aL Q.find Cu) ?_
    intro _
    refine aa ?_;intros
    refine af rfl (Spec.pre (An (q:=q) (f:=g) (id:=t'.found) (w:=t'.aP) (F:=aN R.po P k (NH pn c R*(aG R.pl s.pl*(aB R.tb R.pl c.nb eG*(ao (bb c R s) 3*F)))))) (aA.bl Q (by rfl) (by rw[qv];(try simp only[bF]);exact ab))) ?_
    intro _
    refine aa ?_;intros
    exact aE (aF rfl () rfl (U.sat (ab)))
   ·rw[if_neg h0]
    by_cases hb:f.gJ=true
    ·rw[uB,if_pos hb]
     have qv:g.find=some t':=by rw[hg]
     have yg:g.gJ=true:=by rw[uB];exact hb
     have rE:=h.fc hb
     have bE:=k9 g.ai.proto
     refine aA.open fun Q=> ?_
     simp only[cm,aN,qv,yg,bF]
     refine aa ?_;intros
     refine af rfl (Spec.aL Q.find vk) ?_
     intro _
     refine aa ?_;intros
     refine af rfl (Spec.pre (KP (pn:=pn) (q:=q) (f:=g) (R:=R) (s:=s) (k:=k) (P:=P) (F:=NH pn c R*(aG R.pl s.pl*(aB R.tb R.pl c.nb eG*F))) hc (by rw[TP];exact rE) (hk.out _ bE) (hk.words _ bE)) (aA.bl Q (by unfold vl;rw[yg]) (by rw[qv];simp only[bF];exact ab))) ?_
     intro _
     refine aa ?_;intros
     exact aE (aF rfl () rfl (U.sat (ab)))
    ·rw[uB,if_neg hb]
     have qv:g.find=some t':=by rw[hg]
     have yg:g.gJ=false:=by rw[uB];simpa using hb
     refine aA.open fun Q=> ?_
     simp only[cm,aN,qv,yg,bF]
     refine aa ?_;intros
     refine af rfl (Spec.aL Q.find vk) ?_
     intro _
     refine aa ?_;intros
     refine af rfl (Spec.pre (Al (q:=q) (f:=g) (e:=7) (F:=aN R.po P k (NH pn c R*(aG R.pl s.pl*(aB R.tb R.pl c.nb eG*(ao (bb c R s) 3*F)))))) (aA.bl Q (by unfold vl;rw[yg]) (by rw[qv];simp only[bF];exact ab))) ?_
     intro _
     refine aa ?_;intros
     exact aE (aF rfl () rfl (U.sat (ab)))
 ·have es:gG c s k f=(bL s f.id f.word {f.word with st:=2},{f with next:=4}):=by unfold gG;rw[if_neg (by omega),if_pos e]
  rw[es]
  obtain⟨h0,h1⟩:=h.id (by omega)
  simp only[cm,aN]
  refine aa ?_;intros
  rename_i x
  have oF:({f.word with st:=2}:bH).ok:=⟨by show 2≤3;decide,kA.2.1,kA.2.2.1,kA.2.2.2⟩
  refine ay 99 (NH pn c R*(Obj q 119 (cP f Q)*(Obj x 117 (wL {f.word with st:=2} [])*1))) rfl rfl rfl ?_
  refine ah ?_
  refine aw rfl rfl rfl rfl rfl (Spec.aL R.pl (ta (id:=f.id) (a:=f.word) (b:={f.word with st:=2}) hc hp h0 h1 kA oF)) (fun _=>ab) ?_
  intro _
  refine ah ?_
  refine aa ?_;intros
  have o9:(bL s f.id f.word {f.word with st:=2}).tb=s.tb:=by unfold bL;split<;>rfl
  rw[o9]
  exact aE (aF rfl () rfl (U.sat (aA.bl Q (by rfl) (ab))))
 ·have es:gG c s k f=(s,wH c s f):=by unfold gG;rw[if_neg (by omega),if_neg (by omega),if_pos e]
  rw[es]
  obtain⟨h0,h1⟩:=h.id (by omega)
  simp only[cm,aN]
  refine aa ?_;intros
  refine af rfl (Spec.pre (WA (pn:=pn) (q:=q) (f:=f) (R:=R) (s:=s) (F:=aN R.po P k (ao (bb c R s) 3*F)) hc hp dj h0 h1) (aA.bl Q (by rfl) (by(try simp only[bF]);exact ab))) ?_
  intro _
  refine aa ?_;intros
  exact aE (aF rfl () rfl (U.sat (ab)))
 ·have es:gG c s k f=(bL s f.id f.word f.now,if jR s f.id f.word f.now=true then {f with next:=4}.goes c f.id else {f with next:=4}):=by unfold gG;rw[if_neg (by omega),if_neg (by omega),if_neg (by omega)]
  obtain⟨h0,h1⟩:=h.id (by omega)
  obtain⟨g,hg⟩:∃g:aM,g={f with next:=4}:=⟨_,rfl⟩
  have sY:fX g:=by rw[hg];exact⟨dj.dz,dj.tick,dj.proto,dj.addr,dj.port,dj.flags⟩
  have yi:g.id=f.id:=by rw[hg]
  have Jv:g.word=f.word:=by rw[hg]
  have yj:g.now=f.now:=by rw[hg]
  have Iy:gG c s k f=(bL s g.id g.word g.now,if jR s g.id g.word g.now=true then g.goes c g.id else g):=by rw[es,yi,Jv,yj,hg]
  rw[Iy]
  clear es Iy
  simp only[cm,aN]
  refine aa ?_;intros
  refine iQ (G:=cm q g Q (aN R.po P k (NH pn c R*(aG R.pl s.pl*(aB R.tb R.pl c.nb s.tb*(ao (bb c R s) 3*F)))))) (by rw[hg];exact ab) ?_
  simp only[cm,aN]
  refine ay 99 (NH pn c R*(Obj q 119 (cP g Q)*1)) rfl rfl rfl ?_
  refine ah ?_
  refine aw rfl rfl rfl rfl rfl (Spec.aL R.pl (ta (id:=g.id) (a:=g.word) (b:=g.now) hc hp (by omega) (by omega) (by rw[Jv];exact kA) (by rw[yj];exact El))) (fun _=>ab) ?_
  intro _
  refine ah ?_
  have o9:(bL s g.id g.word g.now).tb=s.tb:=by unfold bL;split<;>rfl
  rw[o9]
  generalize (bL s g.id g.word g.now).pl=Xa
  cases qs:jR s g.id g.word g.now with
  |true=>
   rw[if_pos rfl]
   refine aa ?_;intros
   refine af rfl (Spec.pre (Dr (pn:=pn) (q:=q) (f:=g) (R:=R) (id:=g.id) (F:=aN R.po P k (aG R.pl Xa*(aB R.tb R.pl c.nb s.tb*(ao (bb c R s) 3*F)))) hc sY (by omega) (by omega)) (aA.bl Q (by rfl) (ab))) ?_
   intro _
   refine aa ?_;intros
   exact aE (aF rfl () rfl (U.sat (ab)))
  |false=>
   rw[if_neg (by decide)]
   refine aa ?_;intros
   exact aE (aF rfl () rfl (U.sat (aA.bl Q (by rfl) (ab))))
end
section
open Go.RowKit
set_option maxRecDepth 10000
attribute [local irreducible] EK EX ER EN EL ES EG an aR aU
variable {W:World} {F G:SL} {X:Cx} {kk:List KI} {σ:Env} {pn q:Option Addr} {f:aM} {c:NC} {R:dV} {s:aW} {k:aK} {P:cW} {pp:Nat→Option Addr}
theorem nj (k:aK)(i:Nat)(a:dH):(k.cK i a).frame=k.frame∧(k.cK i a).aC=k.aC∧(k.cK i a).aD=k.aD∧(k.cK i a).aS=k.aS∧(k.cK i a).bt=k.bt∧(k.cK i a).fh=k.fh∧(k.cK i a).any=k.any∧(k.cK i a).ended=k.ended:=by
 unfold aK.cK
 split
 ·exact⟨rfl,rfl,rfl,rfl,rfl,rfl,rfl,rfl⟩
 ·split<;>exact⟨rfl,rfl,rfl,rfl,rfl,rfl,rfl,rfl⟩
theorem nV (s:aW)(i:Nat)(w:List Nat):(s.eV i w).pl=s.pl∧(s.eV i w).tb=s.tb∧(s.eV i w).ep=s.ep∧(s.eV i w).gs=s.gs:=by
 unfold aW.eV
 split
 ·exact⟨rfl,rfl,rfl,rfl⟩
 ·split<;>exact⟨rfl,rfl,rfl,rfl⟩
theorem M8 {ps:Option Addr}{b:Bool}:Spec Tryz.prog 122 [.pointer ps] W (db ps 3 none b*F) (fun _:Unit=> .bool false) (fun _=>db ps 3 none b*F):=by
 refine Spec.of Tryz.func122 rfl Tryz.ntmps122 rfl ?_
 refine aa ?_;intros
 exact ae (aj rfl rfl () rfl (U.sat (ab)))
theorem HX (ws:List Nat)(a:dH)(xi:bM):cX ws a ⟨0,xi,false⟩=((bp ws xi).1,(if(bp ws xi).2.done=true then {a with h:=if(bp ws xi).2.bK=[]then a.h else(bp ws xi).2.word,l:=a.l++(bp ws xi).2.bK.reverse}else a),⟨0,(bp ws xi).2,(bp ws xi).2.done⟩):=by
 simp[cX]
theorem HY (ws:List Nat)(a:dH)(xi:bM):cX ws a ⟨3,xi,false⟩=(ws,a,⟨3,xi,true⟩):=by
 simp[cX]
theorem HW (ws:List Nat)(a:dH)(xi:bM):cX ws a ⟨1,xi,false⟩=((bp ws xi).1,a,⟨1,(bp ws xi).2,(bp ws xi).2.done⟩):=by
 simp[cX]
theorem gi {α:Type}(a:Option Addr):dR (α:=α) none a=none:=rfl
structure sB (c:NC)(k:aK)(f:aM):Prop where
 fin:fX f
 fe:oz f.ai.proto
 fill:f.next=6→∃x,f.fill=some x∧x.done=false∧((x.kind=0∧x.dE.Ok ((c.np+31)/32))∨x.kind=3)
 find:f.next=7→∃t,f.find=some t∧br c.nb (3*c.np) t∧t.done=false
 mB:f.next=7→∃x,f.fill=some x∧x.kind=0∧x.done=true∧j6 x.dE=true∧x.dE.words.length≤1000
 again:f.next=8→∃x,f.again=some x∧x.kind=1∧x.done=false∧x.dE.Ok ((c.np+31)/32)
 id:f.next=10∨f.next=11→0≤f.id∧f.id<((3*c.np:Nat):Int)
 word:f.word.ok
 len:(k.ca (aH f.ai.proto)).l.length≤1000
 top:nY (k.ca (aH f.ai.proto))<c.np
abbrev iC (q pn:Option Addr)(c:NC)(R:dV)(P:cW)(F:SL)(r:aW×aK×aM):SL:=aA q r.2.2*aN R.po P r.2.1 (NH pn c R*(aG R.pl r.1.pl*(aB R.tb R.pl c.nb r.1.tb*(ao (bb c R r.1) 3*F))))
set_option maxHeartbeats 2000000 in
theorem SB (hT : gC W) (hc : c.Ok) (hk : oW c s k) (h : sB c k f) (e : f.next = 6) :
    Spec Tryz.prog 83 [.pointer pn, .pointer P.p, .pointer q] W (aA q f * aN R.po P k (NH pn c R * (aG R.pl s.pl * (aB R.tb R.pl c.nb s.tb * (ao (bb c R s) 3 * F))))) (fun _ : Unit => .tuple #[]) (fun _ => iC q pn c R P F (cM c s k f)) := by
  refine Spec.of Tryz.func83 rfl Tryz.ntmps83 rfl ?_
  have jr := hc.ql
  have dj := h.fin
  have ym := dj.proto
  have hlen := h.len
  have bE := k9 f.ai.proto
  have ho := hk.out _ bE
  have hw := hk.words _ bE
  obtain ⟨x, kv, Be, vZ⟩ := h.fill e
  have es : cM c s k f = ({ s.eV (aH f.ai.proto) (cX (s.po (aH f.ai.proto)) (k.ca (aH f.ai.proto)) x).1 with tb := s.tb }, k.cK (aH f.ai.proto) (cX (s.po (aH f.ai.proto)) (k.ca (aH f.ai.proto)) x).2.1,
        if (cX (s.po (aH f.ai.proto)) (k.ca (aH f.ai.proto)) x).2.2.done = false then { f with fill := some (cX (s.po (aH f.ai.proto)) (k.ca (aH f.ai.proto)) x).2.2 }
        else if qb (cX (s.po (aH f.ai.proto)) (k.ca (aH f.ai.proto)) x).2.2 = true then { f with fill := some (cX (s.po (aH f.ai.proto)) (k.ca (aH f.ai.proto)) x).2.2, find := some (kH c 0 f.ai (-1) 0), next := 7 }
        else { f with fill := some (cX (s.po (aH f.ai.proto)) (k.ca (aH f.ai.proto)) x).2.2, next := 9 }) := by
    unfold cM; rw [if_pos e, kv]
  rw [es]
  clear es
  generalize AB : cX (s.po (aH f.ai.proto)) (k.ca (aH f.ai.proto)) x = D
  obtain ⟨kg, a', x'⟩ := D
  refine aA.open fun Q => ?_
  simp only [cm, iC]
  simp only [aN]
  refine aa ?_; intros
  refine af rfl (Spec.eZ q P.p (sP (Q := Q) (k := k) (P := P) h.fe)) ?_
  intro _
  generalize aH f.ai.proto = kd at *
  obtain ⟨p1, p2, p3, p4⟩ := nV s kd kg
  obtain ⟨h1, h2, h3, h4, h5, h6, h7, h8⟩ := nj k kd a'
  have gE : ao (bb c R { s.eV kd kg with tb := s.tb }) 3 = ao (bb c R (s.eV kd kg)) 3 := rfl
  rw [gE, uV (s := s) bE kg, zX (k := k) bE a', p1]
  simp only [bq, h1, h2, h3, h4, h5, h6, h7, h8]
  rw [mb (k := k) bE ho, ti (s := s) (G := F) bE]
  rcases vZ with ⟨x0, wM⟩ | x3
  · obtain ⟨xk, xi, xd⟩ := x
    dsimp only at x0 wM Be kv
    subst x0 Be
    have eC : ∀ (a i : Option Addr) (y : bM) (d : Bool), fk a i ⟨0, y, d⟩ = db a 0 i d * bc i y := fun _ _ _ _ => rfl
    have hD := AB.symm.trans (HX (s.po kd) (k.ca kd) xi)
    simp only [Prod.mk.injEq] at hD
    obtain ⟨e1, e2, e3⟩ := hD
    rw [kv, bF, eC, SL.bP]
    refine aa ?_; intros
    refine af rfl (Spec.aL Q.fill (Spec.pre (No (pc := P.c kd) (ps := Q.fill) (sp := Q.fin) (pp := R.po kd) (n := c.np) (qo := none) (h := (k.ca kd).h) (l := (k.ca kd).l) hT hw wM hlen) (U.cons (U.at Q.fin rfl (U.at (P.c kd) rfl (U.at (R.po kd) rfl (U.refl _))))))) ?_
    intro _
    generalize bp (s.po kd) xi = D at *
    obtain ⟨wD, xD⟩ := D
    dsimp only at *
    subst e1 e2 e3
    cases hd : xD.done with
    | false =>
      rw [if_pos rfl, if_neg Bool.false_ne_true, if_neg Bool.false_ne_true]
      refine aa ?_; intros
      refine ae (dm rfl () rfl (U.sat (aA.bl Q (by rfl) ?_)))
      simp only [bF, dY, eC, ho, gi, ov, SL.bP, Bool.false_eq_true, if_true, if_false]
      exact ab
    | true =>
      rw [if_neg (fun hh => by cases hh), if_pos rfl, if_pos rfl]
      refine aa ?_; intros
      refine af rfl (Spec.eZ Q.fill Q.fin Gm) ?_
      intro _
      have eN : qb ⟨0, xD, true⟩ = j6 xD := by simp [qb]
      rw [eN]
      cases hn : j6 xD with
      | true =>
        rw [if_pos rfl]
        refine aa ?_; intros
        obtain ⟨g, hg⟩ : ∃ g : aM, g = { f with fill := some ⟨0, xD, true⟩, next := 9 } := ⟨_, rfl⟩
        have iI : g.ai = f.ai := by rw [hg]
        have iu : g.find = f.find := by rw [hg]
        refine iQ (G := Obj q 119 (cP g Q) * (ad 5 1 Q.b.1 f.b.length Q.b.2 (ar f.b) * (bA (cx Q.cb) f.cb * (bA (aq Q.find) f.find * (db Q.fill 0 Q.fin true * (bc Q.fin xD * (bA (fk Q.again Q.oY) f.again * (bA (aq Q.enter) f.enter * (ad 5 1 Q.gH.1 f.gD.length Q.gH.2 (ar f.gD) * (Obj P.p 126 (bq P k) * (aY (P.c kd) (R.po kd) (ov (k.ca kd).h xD) ((k.ca kd).l ++ xD.bK.reverse) none * (bC (R.po kd) c.np kg * (ao (cA (cj R.po P k) kd) 3 * (ct P.wh k.aD * (cQ dQ de P.m k.aS * (ad 5 1 P.told.1 k.bt.length P.told.2 (ar k.bt) * (ad 132 2 P.ended.1 k.ended.length P.ended.2 (cN k.ended) * (NH pn c R * (aG R.pl s.pl * (aB R.tb R.pl c.nb s.tb * (ao (cA (bb c R s) kd) 3 * F))))))))))))))))))))) (by rw [hg]; exact ab) ?_
        refine ay 13 (NH pn c R * (Obj q 119 (cP g Q) * 1)) rfl rfl rfl ?_
        repeat (first | refine c5 ?_ | refine ax 0 rfl rfl rfl rfl (by decide +kernel) (ag) rfl ?_ | refine ax 1 rfl rfl rfl rfl (by decide +kernel) (ag) rfl ?_ | refine ax 2 rfl rfl rfl rfl (by decide +kernel) (ag) rfl ?_ | refine ax 3 rfl rfl rfl rfl (by decide +kernel) (ag) rfl ?_)
        rw [iI]
        refine aw rfl rfl rfl rfl rfl (Spec.aL R.tb (Hs jr (by omega) dj.addr dj.port)) (fun _ => ab) ?_
        intro z
        repeat (first | refine c5 ?_ | refine ax 0 rfl rfl rfl rfl (by decide +kernel) (ag) rfl ?_ | refine ax 1 rfl rfl rfl rfl (by decide +kernel) (ag) rfl ?_ | refine ax 2 rfl rfl rfl rfl (by decide +kernel) (ag) rfl ?_ | refine ax 3 rfl rfl rfl rfl (by decide +kernel) (ag) rfl ?_)
        (refine je rfl (cr rfl rfl rfl rfl rfl rfl) (by decide +kernel) rfl ?_); repeat (first | refine dy rfl rfl rfl (fY rfl rfl) (by decide +kernel) (by decide +kernel) rfl ?_ | refine dy rfl rfl rfl (eX rfl rfl) (by decide +kernel) (by decide +kernel) rfl ?_ | refine iP rfl rfl (cr rfl rfl rfl rfl rfl rfl) (by decide +kernel) (by decide +kernel) rfl ?_ | refine eD ?_)
        refine aa ?_; intros
        subst hg
        refine aE (aF rfl () rfl (U.sat (aA.bl { Q with find := z } (by rfl) ?_)))
        dsimp only [kH]
        simp only [bF, dY, eC, ho, gi, ov, SL.bP, Bool.false_eq_true, if_true, if_false]
        exact ab
      | false =>
        rw [if_neg Bool.false_ne_true]
        refine aa ?_; intros
        refine aE (aF rfl () rfl (U.sat (aA.bl Q (by rfl) ?_)))
        simp only [bF, dY, eC, ho, gi, ov, SL.bP, Bool.false_eq_true, if_true, if_false]
        exact ab
  · obtain ⟨xk, xi, xd⟩ := x
    dsimp only at x3 Be kv
    subst x3 Be
    have eC : ∀ (a i : Option Addr) (y : bM) (d : Bool), fk a i ⟨3, y, d⟩ = db a 3 none d := fun _ _ _ _ => rfl
    have hD := AB.symm.trans (HY (s.po kd) (k.ca kd) xi)
    simp only [Prod.mk.injEq] at hD
    obtain ⟨e1, e2, e3⟩ := hD
    subst e1 e2 e3
    rw [kv, bF, eC]
    rw [if_neg (fun hh => by cases hh)]
    have eN : qb ⟨3, xi, true⟩ = false := by simp [qb]
    rw [eN, if_neg Bool.false_ne_true]
    refine aa ?_; intros
    refine af rfl (Spec.eZ (P.c kd) Q.fill Gr) ?_
    intro _
    refine aa ?_; intros
    refine af rfl (Spec.aL Q.fill M8) ?_
    intro _
    refine aa ?_; intros
    refine aE (aF rfl () rfl (U.sat (aA.bl Q (by rfl) ?_)))
    simp only [bF, dY, eC, ho, gi, ov, SL.bP, Bool.false_eq_true, if_true, if_false]
    exact ab
end
section
open Go.RowKit
set_option maxRecDepth 10000
attribute [local irreducible] EK EX ER EN EL ES EG an aR aU
variable {W:World} {F G:SL} {X:Cx} {kk:List KI} {σ:Env} {pn q:Option Addr} {f:aM} {c:NC} {R:dV} {s:aW} {k:aK} {P:cW} {pp:Nat→Option Addr}
theorem Xe {i:Nat}(hi:i<3){w:List Nat}:(s.eV i w).po i=w:=by
 rcases(show i=0∨i=1∨i=2 by omega)with rfl|rfl|rfl<;>rfl
set_option maxHeartbeats 2000000 in
theorem SC (hc : c.Ok) (hp : cy (3 * c.np) s.pl) (ht : dT c.nb (3 * c.np) s.tb) (hk : oW c s k) (h : sB c k f) (e : f.next = 7) :
    Spec Tryz.prog 83 [.pointer pn, .pointer P.p, .pointer q] W (aA q f * aN R.po P k (NH pn c R * (aG R.pl s.pl * (aB R.tb R.pl c.nb s.tb * (ao (bb c R s) 3 * F))))) (fun _ : Unit => .tuple #[]) (fun _ => iC q pn c R P F (cM c s k f)) := by
  refine Spec.of Tryz.func83 rfl Tryz.ntmps83 rfl ?_
  have jr := hc.ql
  have dj := h.fin
  have ym := dj.proto
  have rE := h.fe
  have bE := k9 f.ai.proto
  have ho := hk.out _ bE
  obtain ⟨t, ml, jI, uN⟩ := h.find e
  obtain ⟨x, kv, x0, x1, xn, xl⟩ := h.mB e
  obtain ⟨xk, xi, xd⟩ := x
  dsimp only at x0 x1 xn xl kv
  subst x0 x1
  have eC : ∀ (a i : Option Addr) (y : bM) (d : Bool), fk a i ⟨0, y, d⟩ = db a 0 i d * bc i y := fun _ _ _ _ => rfl
  have vG : ∀ (a i : Option Addr) (y : bM) (d : Bool), fk a i ⟨1, y, d⟩ = db a 1 i d * bc i y := fun _ _ _ _ => rfl
  have es : cM c s k f = ({ s with tb := (bO s.pl c.nb s.tb t).1 }, k, if (bO s.pl c.nb s.tb t).2.done = false then { f with find := some (bO s.pl c.nb s.tb t).2 }
        else if (bO s.pl c.nb s.tb t).2.end_ = 0 then { f with find := some (bO s.pl c.nb s.tb t).2 }.jW (bO s.pl c.nb s.tb t).2.found (bO s.pl c.nb s.tb t).2.aP
        else { f with find := some (bO s.pl c.nb s.tb t).2, again := some ⟨1, pK xi, false⟩, next := 8 }) := by
    unfold cM; rw [if_neg (by omega), if_pos e, ml, kv]; rfl
  rw [es]
  clear es
  refine aA.open fun Q => ?_
  have gE : ∀ z, ao (bb c R { s with tb := z }) 3 = ao (bb c R s) 3 := fun _ => rfl
  simp only [cm, iC, aN, ml, kv, bF, eC, SL.bP, gE]
  refine aa ?_; intros
  refine af rfl (Spec.eZ q P.p (sP (Q := Q) (k := k) (P := P) h.fe)) ?_
  intro _
  refine aa ?_; intros
  refine ay 99 (NH pn c R * (Obj q 119 (cP f Q) * 1)) rfl rfl rfl ?_
  refine ah ?_
  refine aw rfl rfl rfl rfl rfl (Spec.vx Q.find R.tb R.pl (zS jr ht hp jI uN)) (fun _ => ab) ?_
  intro _
  refine ah ?_
  generalize bO s.pl c.nb s.tb t = D at *
  obtain ⟨eG, t'⟩ := D
  dsimp only at *
  cases hd : t'.done with
  | false =>
    rw [if_pos rfl]
    refine aa ?_; intros
    refine ae (dm rfl () rfl (U.sat (aA.bl Q (by rfl) ?_)))
    simp only [kv]
    simp only [bF, dY, eC, ho, gi, ov, SL.bP, Bool.false_eq_true, if_true, if_false]
    exact ab
  | true =>
    rw [if_neg (fun hh => by cases hh)]
    refine aa ?_; intros
    refine af rfl (Spec.aL Q.find vk) ?_
    intro _
    by_cases h0 : t'.end_ = 0
    · rw [if_pos h0]
      refine aa ?_; intros
      refine af rfl (Spec.aL Q.find Cu) ?_
      intro _
      refine aa ?_; intros
      refine af rfl (Spec.pre (An (q := q) (f := { f with find := some t' }) (id := t'.found) (w := t'.aP) (F := aN R.po P k (NH pn c R * (aG R.pl s.pl * (aB R.tb R.pl c.nb eG * (ao (bb c R s) 3 * F)))))) (aA.bl Q (by rfl) (by simp only [kv]; simp only [bF, dY, eC, ho, gi, ov, SL.bP, Bool.false_eq_true, if_true, if_false]; exact ab))) ?_
      intro _
      refine aa ?_; intros
      exact ae (dm rfl () rfl (U.sat (by rw [← kv]; simp only [aN]; exact ab)))
    · rw [if_neg h0]
      rw [mb (k := k) bE ho, mb (k := k) bE ho, ti (s := s) (G := F) bE]
      refine aa ?_; intros
      refine af rfl (Spec.aL Q.fill (Spec.pre (MZ (q := Q.fin) (pc := P.c (aH f.ai.proto)) (ps := Q.fill) (pp := R.po (aH f.ai.proto)) (n := c.np) (h := (k.ca (aH f.ai.proto)).h) (l := (k.ca (aH f.ai.proto)).l) (qo := none) xn xl) (U.cons (U.at Q.fin rfl (U.at (P.c (aH f.ai.proto)) rfl (U.at (R.po (aH f.ai.proto)) rfl (U.refl _))))))) ?_
      intro z
      refine aa ?_; intros
      refine aE (aF rfl () rfl (U.sat (aA.bl { Q with again := z.1, oY := z.2 } (by rfl) ?_)))
      simp only [kv]
      simp only [bF, dY, eC, ho, gi, ov, SL.bP, Bool.false_eq_true, if_true, if_false]
      simp only [vG, SL.bP]
      exact ab
set_option maxHeartbeats 2000000 in
theorem SD (hT:gC W)(hc:c.Ok)(hk:oW c s k)(h:sB c k f)(e:f.next=8):
  Spec Tryz.prog 83 [.pointer pn,.pointer P.p,.pointer q] W (aA q f*aN R.po P k (NH pn c R*(aG R.pl s.pl*(aB R.tb R.pl c.nb s.tb*(ao (bb c R s) 3*F))))) (fun _:Unit=> .tuple #[]) (fun _=>iC q pn c R P F (cM c s k f)):=by
 refine Spec.of Tryz.func83 rfl Tryz.ntmps83 rfl ?_
 have jr:=hc.ql
 have dj:=h.fin
 have ym:=dj.proto
 have rE:=h.fe
 have bE:=k9 f.ai.proto
 have ho:=hk.out _ bE
 have hw:=hk.words _ bE
 obtain⟨x,kv,x0,xd,wM⟩:=h.again e
 obtain⟨xk,xi,xd'⟩:=x
 dsimp only at x0 xd wM kv
 subst x0 xd
 have vG:∀(a i:Option Addr) (y:bM) (d:Bool),fk a i ⟨1,y,d⟩=db a 1 i d*bc i y:=fun _ _ _ _=>rfl
 have es:cM c s k f=(s.eV (aH f.ai.proto) (bp (s.po (aH f.ai.proto)) xi).1,k,
   if(bp (s.po (aH f.ai.proto)) xi).2.done=false then {f with again:=some ⟨1,(bp (s.po (aH f.ai.proto)) xi).2,(bp (s.po (aH f.ai.proto)) xi).2.done⟩}
   else if(bp (s.po (aH f.ai.proto)) xi).2.alike=true then {f with again:=some ⟨1,(bp (s.po (aH f.ai.proto)) xi).2,(bp (s.po (aH f.ai.proto)) xi).2.done⟩}.fin [] 8
   else {f with again:=some ⟨1,(bp (s.po (aH f.ai.proto)) xi).2,(bp (s.po (aH f.ai.proto)) xi).2.done⟩}.vI c k):=by
  unfold cM;rw[if_neg (by omega),if_neg (by omega),if_pos e,kv];dsimp only;rw[HW]
 rw[es]
 clear es
 obtain⟨UE,aeq⟩:=xF hw wM
 refine aA.open fun Q=> ?_
 obtain⟨p1,p2,p3,p4⟩:=nV s (aH f.ai.proto) (bp (s.po (aH f.ai.proto)) xi).1
 simp only[cm,iC,aN,kv,bF,vG,SL.bP,p1,p2]
 rw[uV (s:=s) bE,ti (s:=s) (G:=F) bE]
 generalize AB:bp (s.po (aH f.ai.proto)) xi=D at*
 rw[mb (k:=k) bE ho,mb (k:=k) bE ho]
 refine aa ?_;intros
 refine af rfl (Spec.eZ q P.p (sP (Q:=Q) (k:=k) (P:=P) h.fe)) ?_
 intro _
 refine aa ?_;intros
 refine af rfl (Spec.aL Q.again (Spec.pre (Nl (pc:=P.c (aH f.ai.proto)) (ps:=Q.again) (sp:=Q.oY) (pp:=R.po (aH f.ai.proto)) (n:=c.np) (qo:=none) (h:=(k.ca (aH f.ai.proto)).h) (l:=(k.ca (aH f.ai.proto)).l) hT hw wM) (U.cons (U.at Q.oY rfl (U.at (P.c (aH f.ai.proto)) rfl (U.at (R.po (aH f.ai.proto)) rfl (U.refl _))))))) ?_
 intro _
 rw[AB]
 obtain⟨kg,xD⟩:=D
 dsimp only at*
 cases hd:xD.done with
 |false=>
  rw[if_pos rfl]
  refine aa ?_;intros
  refine ae (dm rfl () rfl (U.sat (aA.bl Q (by rfl) ?_)))
  simp only[kv,bF,SL.bP]
  simp only[vG,SL.bP]
  exact ab
 |true=>
  rw[if_neg (fun hh=>by cases hh)]
  refine aa ?_;intros
  refine af rfl (Spec.eZ Q.again Q.oY Na) ?_
  intro _
  cases ha:xD.alike with
  |true=>
   rw[if_pos rfl]
   refine aa ?_;intros
   refine af rfl (Spec.pre (Al (q:=q) (f:={f with again:=some ⟨1,xD,true⟩}) (e:=8) (F:=aN R.po P k (NH pn c R*(aG R.pl s.pl*(aB R.tb R.pl c.nb s.tb*(ao (bb c R (s.eV (aH f.ai.proto) kg)) 3*F)))))) (aA.bl Q (by rfl) (by simp only[bF,vG,SL.bP,aN];rw[uV (s:=s) bE,mb (k:=k) bE ho];exact ab))) ?_
   intro _
   refine aa ?_;intros
   refine ae (dm rfl () rfl (U.sat ?_))
   simp only[aN];rw[uV (s:=s) bE,mb (k:=k) bE ho]
   exact ab
  |false=>
   rw[if_neg Bool.false_ne_true]
   refine aa ?_;intros
   refine af rfl (Spec.pre (KP (pn:=pn) (q:=q) (f:={f with again:=some ⟨1,xD,true⟩}) (R:=R) (s:=s.eV (aH f.ai.proto) kg) (k:=k) (P:=P) (F:=NH pn c R*(aG R.pl s.pl*(aB R.tb R.pl c.nb s.tb*F))) hc rE ho (by rw[Xe bE];exact UE)) (aA.bl Q (by rfl) (by simp only[bF,vG,SL.bP,aN];rw[uV (s:=s) bE,mb (k:=k) bE ho];exact ab))) ?_
   intro _
   refine aa ?_;intros
   refine aE (aF rfl () rfl (U.sat ?_))
   simp only[aN];rw[uV (s:=s) bE,mb (k:=k) bE ho]
   exact ab
end
section
open Go.RowKit
set_option maxRecDepth 10000
attribute [local irreducible] EK EX ER EN EL ES EG an aR aU
variable {W:World} {F G:SL} {X:Cx} {kk:List KI} {σ:Env} {pn q:Option Addr} {f:aM} {c:NC} {R:dV} {s:aW} {k:aK} {P:cW} {pp:Nat→Option Addr}
theorem Wl {p:Option Addr}{id:Int}(hc:c.Ok)(hp:cy (3*c.np) s.pl)(h0:0≤id)(h1:id<((3*c.np:Nat):Int))(dj:fX f):Spec Tryz.prog 127 [.pointer p,.int .i64 id,.agg #[.int .i64 (f.ai.proto:Int),.int .u32 (f.ai.addr:Int),.int .u16 (f.ai.port:Int)]] W (aG p s.pl*F) (fun _:Unit=> .int .i64 0) (fun _=>aG p (oO s id f.ai).pl*F):=by
 have cU:=hc.np
 have h3:=dj.proto
 have h:=PS (W:=W) (F:=F) (p:=p) (ws:=s.pl) (n:=3*c.np) (i:=id.toNat) (a:=f.ai.proto) (b:=f.ai.addr) (c:=f.ai.port) hp.len (by omega) (by omega) (by omega) dj.addr dj.port
 rw[show((id.toNat:Nat):Int)=id by omega]at h
 exact h
set_option maxHeartbeats 2000000 in
theorem Sz (hc:c.Ok)(hp:cy (3*c.np) s.pl)(hk:oW c s k)(h:sB c k f)(e:f.next=10):
  Spec Tryz.prog 83 [.pointer pn,.pointer P.p,.pointer q] W (aA q f*aN R.po P k (NH pn c R*(aG R.pl s.pl*(aB R.tb R.pl c.nb s.tb*(ao (bb c R s) 3*F))))) (fun _:Unit=> .tuple #[]) (fun _=>iC q pn c R P F (cM c s k f)):=by
 refine Spec.of Tryz.func83 rfl Tryz.ntmps83 rfl ?_
 have dj:=h.fin
 have rE:=h.fe
 have bE:=k9 f.ai.proto
 obtain⟨h0,h1⟩:=h.id (Or.inl e)
 have es:cM c s k f=(oO s f.id f.ai,k,{f with next:=11}):=by unfold cM;rw[if_neg (by omega),if_neg (by omega),if_neg (by omega),if_neg (by omega),if_pos e]
 rw[es]
 clear es
 refine aA.open fun Q=> ?_
 have gE:ao (bb c R (oO s f.id f.ai)) 3=ao (bb c R s) 3:=rfl
 have o9:(oO s f.id f.ai).tb=s.tb:=rfl
 simp only[cm,iC,aN,gE,o9]
 refine aa ?_;intros
 refine af rfl (Spec.eZ q P.p (sP (Q:=Q) (k:=k) (P:=P) h.fe)) ?_
 intro _
 refine aa ?_;intros
 refine ay 12 (NH pn c R*(Obj q 119 (cP f Q)*1)) rfl rfl rfl ?_
 refine ah ?_
 refine lp rfl rfl rfl rfl (Spec.aL R.pl (Wl (s:=s) hc hp h0 h1 dj)) ?_
 intro _
 refine ah ?_
 refine aa ?_;intros
 exact aE (aF rfl () rfl (U.sat (aA.bl Q (by rfl) (ab))))
theorem Vq (hp:oz f.ai.proto):gX (f.ai.proto:Int)=((aH f.ai.proto:Nat):Int):=by
 rcases hp with e|e|e<;>rw[e]<;>rfl
set_option maxHeartbeats 2000000 in
theorem SE (hc:c.Ok)(hp:cy (3*c.np) s.pl)(hk:oW c s k)(h:sB c k f)(e:f.next=9):
  Spec Tryz.prog 83 [.pointer pn,.pointer P.p,.pointer q] W (aA q f*aN R.po P k (NH pn c R*(aG R.pl s.pl*(aB R.tb R.pl c.nb s.tb*(ao (bb c R s) 3*F))))) (fun _:Unit=> .tuple #[]) (fun _=>iC q pn c R P F (cM c s k f)):=by
 refine Spec.of Tryz.func83 rfl Tryz.ntmps83 rfl ?_
 have dj:=h.fin
 have rE:=h.fe
 have bE:=k9 f.ai.proto
 have ho:=hk.out _ bE
 have hlen:=h.len
 have Uv:=h.top
 have cU:=hc.np
 have AR:=Vq rE
 have es:cM c s k f=(s,k,{f with id:=((aH f.ai.proto*c.np+nY (k.ca (aH f.ai.proto)):Nat):Int),word:=bI s ((aH f.ai.proto*c.np+nY (k.ca (aH f.ai.proto)):Nat):Int),next:=10}):=by unfold cM;rw[if_neg (by omega),if_neg (by omega),if_neg (by omega),if_pos e]
 rw[es]
 clear es
 refine aA.open fun Q=> ?_
 simp only[cm,iC,aN]
 refine aa ?_;intros
 refine af rfl (Spec.eZ q P.p (sP (Q:=Q) (k:=k) (P:=P) h.fe)) ?_
 intro _
 rw[mb (k:=k) bE ho]
 generalize aH f.ai.proto=kd at*
 refine aa ?_;intros
 refine af rfl (Spec.aL (P.c kd) (Hv (by omega))) ?_
 intro _
 unfold wF
 have et:(k.ca kd).l.getD ((k.ca kd).l.length-1) 0=nY (k.ca kd):=rfl
 rw[et]
 generalize nY (k.ca kd)=tp at*
 refine aa ?_;intros
 refine ay 16 (NH pn c R*(Obj q 119 (cP f Q)*1)) rfl rfl rfl ?_
 repeat(first|refine c5 ?_ |refine ax 0 rfl rfl rfl rfl (by decide+kernel) (ag) rfl ?_ |refine ax 1 rfl rfl rfl rfl (by decide+kernel) (ag) rfl ?_ |refine ax 2 rfl rfl rfl rfl (by decide+kernel) (ag) rfl ?_ |refine ax 3 rfl rfl rfl rfl (by decide+kernel) (ag) rfl ?_)
 refine aw rfl rfl rfl rfl rfl (CI _) (fun _=>ab) ?_
 intro _
 rw[AR]
 have hm:((kd:Int)*(c.np:Int))=((kd*c.np:Nat):Int):=by simp
 have AU:kd*c.np≤2*c.np:=Nat.mul_le_mul_right _ (by omega)
 repeat(first|refine c5 ?_ |refine ax 0 rfl rfl rfl rfl (by decide+kernel) (ag) rfl ?_ |refine ax 1 rfl rfl rfl rfl (by decide+kernel) (ag) rfl ?_ |refine ax 2 rfl rfl rfl rfl (by decide+kernel) (ag) rfl ?_ |refine ax 3 rfl rfl rfl rfl (by decide+kernel) (ag) rfl ?_)
 (refine je rfl (cr rfl rfl rfl rfl rfl rfl) (by decide+kernel) rfl ?_);repeat(first|refine dy rfl rfl rfl (fY rfl rfl) (by decide+kernel) (by decide+kernel) rfl ?_ |refine dy rfl rfl rfl (eX rfl rfl) (by decide+kernel) (by decide+kernel) rfl ?_ |refine iP rfl rfl (cr rfl rfl rfl rfl rfl rfl) (by decide+kernel) (by decide+kernel) rfl ?_ |refine eD ?_)
 rw[show((kd:Int)*(c.np:Int)+(tp:Int))=((kd*c.np+tp:Nat):Int)by rw[hm];simp]
 obtain⟨id,hid⟩:∃id:Int,id=((kd*c.np+tp:Nat):Int):=⟨_,rfl⟩
 have h0:0≤id:=by omega
 have h1:id<((3*c.np:Nat):Int):=by omega
 rw[←hid]
 clear hm AU hid
 refine aa ?_;intros
 obtain⟨g,hg⟩:∃g:aM,g={f with id:=id}:=⟨_,rfl⟩
 have iI:g.id=id:=by rw[hg]
 refine iQ (G:=Obj q 119 (cP g Q)*(ad 5 1 Q.b.1 f.b.length Q.b.2 (ar f.b)*(bA (cx Q.cb) f.cb*(bA (aq Q.find) f.find*(bA (fk Q.fill Q.fin) f.fill*(bA (fk Q.again Q.oY) f.again*(bA (aq Q.enter) f.enter*(ad 5 1 Q.gH.1 f.gD.length Q.gH.2 (ar f.gD)*(Obj P.p 126 (bq P k)*(aY (P.c kd) (R.po kd) (k.ca kd).h (k.ca kd).l none*(ao (cA (cj R.po P k) kd) 3*(ct P.wh k.aD*(cQ dQ de P.m k.aS*(ad 5 1 P.told.1 k.bt.length P.told.2 (ar k.bt)*(ad 132 2 P.ended.1 k.ended.length P.ended.2 (cN k.ended)*(NH pn c R*(aG R.pl s.pl*(aB R.tb R.pl c.nb s.tb*(ao (bb c R s) 3*F))))))))))))))))))) (by rw[hg];exact ab) ?_
 refine ay 13 (NH pn c R*(Obj q 119 (cP g Q)*1)) rfl rfl rfl ?_
 repeat(first|refine c5 ?_ |refine ax 0 rfl rfl rfl rfl (by decide+kernel) (ag) rfl ?_ |refine ax 1 rfl rfl rfl rfl (by decide+kernel) (ag) rfl ?_ |refine ax 2 rfl rfl rfl rfl (by decide+kernel) (ag) rfl ?_ |refine ax 3 rfl rfl rfl rfl (by decide+kernel) (ag) rfl ?_)
 rw[iI]
 refine aw rfl rfl rfl rfl rfl (Spec.aL R.pl (tc hc hp h0 h1)) (fun _=>ab) ?_
 intro _
 repeat(first|refine c5 ?_ |refine ax 0 rfl rfl rfl rfl (by decide+kernel) (ag) rfl ?_ |refine ax 1 rfl rfl rfl rfl (by decide+kernel) (ag) rfl ?_ |refine ax 2 rfl rfl rfl rfl (by decide+kernel) (ag) rfl ?_ |refine ax 3 rfl rfl rfl rfl (by decide+kernel) (ag) rfl ?_)
 (refine je rfl (cr rfl rfl rfl rfl rfl rfl) (by decide+kernel) rfl ?_);repeat(first|refine dy rfl rfl rfl (fY rfl rfl) (by decide+kernel) (by decide+kernel) rfl ?_ |refine dy rfl rfl rfl (eX rfl rfl) (by decide+kernel) (by decide+kernel) rfl ?_ |refine iP rfl rfl (cr rfl rfl rfl rfl rfl rfl) (by decide+kernel) (by decide+kernel) rfl ?_ |refine eD ?_)
 refine aa ?_;intros
 subst hg
 exact aE (aF rfl () rfl (U.sat (aA.bl Q (by rfl) (ab))))
end
section
open Go.RowKit
set_option maxRecDepth 10000
attribute [local irreducible] EK EX ER EN EL ES EG an aR aU
variable {W:World} {F G:SL} {X:Cx} {kk:List KI} {σ:Env} {pn q:Option Addr} {f:aM} {c:NC} {R:dV} {s:aW} {k:aK} {P:cW} {pp:Nat→Option Addr} {pc pw po:Option Addr}
def kD (f:aM):bH:=⟨1,(f.word.gen+1)%65536,mw f.ai.proto 0 true f.part.flags,f.tick.toNat⟩
set_option maxHeartbeats 2000000 in
theorem Wp {h:Nat}{l:List Nat}(hc:c.Ok)(hp:cy (3*c.np) s.pl)(dj:fX f)(h0:0≤f.id)(h1:f.id<((3*c.np:Nat):Int))(hw:f.word.ok)(hl:l.length≤100000):
  Spec Tryz.prog 128 [.pointer pn,.pointer pc,.pointer pw,.pointer q] W (aA q f*(NH pn c R*(aG R.pl s.pl*(aB R.tb R.pl c.nb s.tb*(aY pc po h l none*F))))) (fun _:Unit=> .tuple #[])
   (fun _=>aA q (if jR s f.id f.word (kD f)=true then {f with word:=kD f,made:=true,iJ:=f.id.toNat,enter:=some (kH c 1 f.ai f.id 0),next:=12}else {f with next:=9})*(NH pn c R*(aG R.pl (bL s f.id f.word (kD f)).pl*(aB R.tb R.pl c.nb s.tb*(aY pc po h (if jR s f.id f.word (kD f)=true then l.take (l.length-1)else l) none*F))))):=by
 refine Spec.of Tryz.func128 rfl Tryz.ntmps128 rfl ?_
 have jr:=hc.ql
 have ym:=dj.proto
 have Jz:=dj.flags
 have hg:=hw.2.1
 have qA:((f.tick.toNat:Nat):Int)=f.tick:=by have:=dj.tick;omega
 have hL:wL (kD f) []=[.int .i64 1,.int .i64 (bits .and .i64 ((f.word.gen:Int)+1) 65535),.int .i64 (mw f.ai.proto 0 true f.part.flags:Int),.int .i64 f.tick]:=by
  show [Value.int .i64 1,.int .i64 (((f.word.gen+1)%65536:Nat):Int),.int .i64 (mw f.ai.proto 0 true f.part.flags:Int),.int .i64 (f.tick.toNat:Int)]=_
  rw[qA,IZ hg]
 have gV:(kD f).ok:=⟨by show 1≤3;decide,by show(f.word.gen+1)%65536≤65535;omega,by have:=Fj (proto:=f.ai.proto) (s:=0) (flags:=f.part.flags) (out:=true) (by decide);show mw f.ai.proto 0 true f.part.flags≤_;omega,by show f.tick.toNat≤4294967295;have:=dj.tick;omega⟩
 refine aA.open fun Q=> ?_
 simp only[cm]
 refine pS ?_
 refine kh (γ:=Option Addr) (fun _=>True) (fun y=>[(0,.pointer pn),(1,.pointer pc),(2,.pointer pw),(3,.pointer q),(8,.pointer y)]) (fun y=>Obj y 117 (wL (kD f) [])*cm q f Q (NH pn c R*(aG R.pl s.pl*(aB R.tb R.pl c.nb s.tb*(aY pc po h l none*F))))) ?_ ?_
 ·refine aa ?_;intros
  refine ay 24 (NH pn c R*(Obj q 119 (cP f Q)*1)) rfl rfl rfl ?_
  refine ah ?_
  refine qS (i:=17) (j:=23) (su rfl rfl rfl rfl (CM f.ai.proto 0 f.part.flags true (by decide) Jz ym) (fun _=>ab) ?_) (tO rfl rfl (sF rfl) rfl (fun _=>ab) ?_)
  ·intro _
   refine bD ?_;intros
   rename_i y
   refine aa ?_;intros
   exact dI y trivial ⟨rfl,rfl,rfl,rfl,rfl,trivial⟩ (U.sat (by rw[hL];exact ab))
  ·intro y
   refine aw rfl rfl rfl rfl rfl (CM f.ai.proto 0 f.part.flags true (by decide) Jz ym) (fun _=>ab) ?_
   intro _
   refine bD ?_;intros
   refine aa ?_;intros
   exact dI y trivial ⟨rfl,rfl,rfl,rfl,rfl,trivial⟩ (U.sat (by rw[hL];exact ab))
 intro y _
 clear hL
 generalize kD f=w at*
 simp only[cm]
 refine aa ?_;intros
 refine ay 99 (Obj y 117 (wL w [])*(NH pn c R*(Obj q 119 (cP f Q)*1))) rfl rfl rfl ?_
 refine ah ?_
 refine aw rfl rfl rfl rfl rfl (Spec.aL R.pl (ta (id:=f.id) (a:=f.word) (b:=w) hc hp h0 h1 hw gV)) (fun _=>ab) ?_
 intro _
 refine ah ?_
 cases jq:jR s f.id f.word w with
 |false=>
  rw[if_neg Bool.false_ne_true,if_neg Bool.false_ne_true]
  refine aa ?_;intros
  exact ae (dm rfl () rfl (U.sat (aA.bl Q (by rfl) (ab))))
 |true=>
  rw[if_pos rfl,if_pos rfl]
  refine aa ?_;intros
  refine af rfl (Spec.aL pc (PG hl)) ?_
  intro _
  refine aa ?_;intros
  refine ay 10 (Obj y 117 (wL w [])*(Obj q 119 (cP f Q)*1)) rfl rfl rfl ?_
  repeat(first|refine c5 ?_ |refine ax 0 rfl rfl rfl rfl (by decide+kernel) (ag) rfl ?_ |refine ax 1 rfl rfl rfl rfl (by decide+kernel) (ag) rfl ?_ |refine ax 2 rfl rfl rfl rfl (by decide+kernel) (ag) rfl ?_ |refine ax 3 rfl rfl rfl rfl (by decide+kernel) (ag) rfl ?_)
  (refine je rfl (cr rfl rfl rfl rfl rfl rfl) (by decide+kernel) rfl ?_);repeat(first|refine dy rfl rfl rfl (fY rfl rfl) (by decide+kernel) (by decide+kernel) rfl ?_ |refine dy rfl rfl rfl (eX rfl rfl) (by decide+kernel) (by decide+kernel) rfl ?_ |refine iP rfl rfl (cr rfl rfl rfl rfl rfl rfl) (by decide+kernel) (by decide+kernel) rfl ?_ |refine eD ?_)
  refine aa ?_;intros
  obtain⟨g,hg⟩:∃g:aM,g={f with word:=w,made:=true,iJ:=f.id.toNat}:=⟨_,rfl⟩
  have iI:g.ai=f.ai:=by rw[hg]
  have iu:g.id=f.id:=by rw[hg]
  have AV:((f.id.toNat:Nat):Int)=f.id:=by omega
  refine iQ (G:=Obj q 119 (cP g Q)*(ad 5 1 Q.b.1 f.b.length Q.b.2 (ar f.b)*(bA (cx Q.cb) f.cb*(bA (aq Q.find) f.find*(bA (fk Q.fill Q.fin) f.fill*(bA (fk Q.again Q.oY) f.again*(bA (aq Q.enter) f.enter*(ad 5 1 Q.gH.1 f.gD.length Q.gH.2 (ar f.gD)*(aY pc po h (l.take (l.length-1)) none*(NH pn c R*(aG R.pl (bL s f.id f.word w).pl*(aB R.tb R.pl c.nb s.tb*F)))))))))))) (by rw[hg];dsimp only[cP];rw[AV];exact ab) ?_
  refine ay 17 (NH pn c R*(Obj q 119 (cP g Q)*1)) rfl rfl rfl ?_
  repeat(first|refine c5 ?_ |refine ax 0 rfl rfl rfl rfl (by decide+kernel) (ag) rfl ?_ |refine ax 1 rfl rfl rfl rfl (by decide+kernel) (ag) rfl ?_ |refine ax 2 rfl rfl rfl rfl (by decide+kernel) (ag) rfl ?_ |refine ax 3 rfl rfl rfl rfl (by decide+kernel) (ag) rfl ?_)
  rw[iI,iu]
  refine aw rfl rfl rfl rfl rfl (Spec.aL R.tb (PX jr (by omega) dj.addr dj.port)) (fun _=>ab) ?_
  intro z
  repeat(first|refine c5 ?_ |refine ax 0 rfl rfl rfl rfl (by decide+kernel) (ag) rfl ?_ |refine ax 1 rfl rfl rfl rfl (by decide+kernel) (ag) rfl ?_ |refine ax 2 rfl rfl rfl rfl (by decide+kernel) (ag) rfl ?_ |refine ax 3 rfl rfl rfl rfl (by decide+kernel) (ag) rfl ?_)
  (refine je rfl (cr rfl rfl rfl rfl rfl rfl) (by decide+kernel) rfl ?_);repeat(first|refine dy rfl rfl rfl (fY rfl rfl) (by decide+kernel) (by decide+kernel) rfl ?_ |refine dy rfl rfl rfl (eX rfl rfl) (by decide+kernel) (by decide+kernel) rfl ?_ |refine iP rfl rfl (cr rfl rfl rfl rfl rfl rfl) (by decide+kernel) (by decide+kernel) rfl ?_ |refine eD ?_)
  refine aa ?_;intros
  subst hg
  refine aE (aF rfl () rfl (U.sat (aA.bl {Q with enter:=z} (by rfl) ?_)))
  dsimp only[kH]
  simp only[bF]
  exact ab
set_option maxHeartbeats 2000000 in
theorem SA (hc:c.Ok)(hp:cy (3*c.np) s.pl)(hk:oW c s k)(h:sB c k f)(e:f.next=11):
  Spec Tryz.prog 83 [.pointer pn,.pointer P.p,.pointer q] W (aA q f*aN R.po P k (NH pn c R*(aG R.pl s.pl*(aB R.tb R.pl c.nb s.tb*(ao (bb c R s) 3*F))))) (fun _:Unit=> .tuple #[]) (fun _=>iC q pn c R P F (cM c s k f)):=by
 refine Spec.of Tryz.func83 rfl Tryz.ntmps83 rfl ?_
 have dj:=h.fin
 have rE:=h.fe
 have bE:=k9 f.ai.proto
 have ho:=hk.out _ bE
 have hlen:=h.len
 obtain⟨h0,h1⟩:=h.id (Or.inr e)
 have es:cM c s k f=if jR s f.id f.word (kD f)=true then
   (bL s f.id f.word (kD f),k.cK (aH f.ai.proto) {k.ca (aH f.ai.proto)with l:=(k.ca (aH f.ai.proto)).l.take ((k.ca (aH f.ai.proto)).l.length-1)},
    {f with word:=kD f,made:=true,iJ:=f.id.toNat,enter:=some (kH c 1 f.ai f.id 0),next:=12})
  else(s,k,{f with next:=9}):=by unfold cM;rw[if_neg (by omega),if_neg (by omega),if_neg (by omega),if_neg (by omega),if_neg (by omega)];rfl
 rw[es]
 clear es
 have yx:=fun G=>Wp (W:=W) (pn:=pn) (pc:=P.c (aH f.ai.proto)) (pw:=P.p) (q:=q) (f:=f) (c:=c) (R:=R) (s:=s) (po:=R.po (aH f.ai.proto)) (h:=(k.ca (aH f.ai.proto)).h) (l:=(k.ca (aH f.ai.proto)).l) (F:=G) hc hp dj h0 h1 h.word (by omega)
 refine aA.open fun Q=> ?_
 simp only[cm,aN]
 refine aa ?_;intros
 refine af rfl (Spec.eZ q P.p (sP (Q:=Q) (k:=k) (P:=P) h.fe)) ?_
 intro _
 rw[mb (k:=k) bE ho]
 generalize vT:aH f.ai.proto=kd at*
 refine aa ?_;intros
 refine af rfl (Spec.pre (yx (Obj P.p 126 (bq P k)*(ao (cA (cj R.po P k) kd) 3*(ct P.wh k.aD*(cQ dQ de P.m k.aS*(ad 5 1 P.told.1 k.bt.length P.told.2 (ar k.bt)*(ad 132 2 P.ended.1 k.ended.length P.ended.2 (cN k.ended)*(ao (bb c R s) 3*F)))))))) (aA.bl Q (by rfl) (ab))) ?_
 intro _
 refine aa ?_;intros
 refine aE (aF rfl () rfl (U.sat ?_))
 cases jq:jR s f.id f.word (kD f)with
 |false=>
  have ep:bL s f.id f.word (kD f)=s:=by unfold bL;rw[jq];rfl
  rw[if_neg Bool.false_ne_true,if_neg Bool.false_ne_true,if_neg Bool.false_ne_true,ep]
  simp only[iC,aN]
  rw[mb (k:=k) bE ho]
  exact ab
 |true=>
  rw[if_pos rfl,if_pos rfl,if_pos rfl]
  have o9:(bL s f.id f.word (kD f)).tb=s.tb:=by unfold bL;split<;>rfl
  have gE:ao (bb c R (bL s f.id f.word (kD f))) 3=ao (bb c R s) 3:=by unfold bL;split<;>rfl
  obtain⟨h1,h2,h3,h4,h5,h6,h7,h8⟩:=nj k kd {k.ca kd with l:=(k.ca kd).l.take ((k.ca kd).l.length-1)}
  simp only[iC,aN,bq,h1,h2,h3,h4,h5,h6,h7,h8,o9,gE]
  rw[zX (k:=k) bE]
  simp only[ho,gi,dY]
  exact ab
end
section
open Go.RowKit
set_option maxRecDepth 10000
attribute [local irreducible] EK EX ER EN EL ES EG an aR aU
variable {W:World} {F G:SL} {X:Cx} {kk:List KI} {σ:Env} {pn q:Option Addr} {f:aM} {c:NC} {R:dV} {s:aW} {k:aK} {P:cW} {pp:Nat→Option Addr} {pc pw po:Option Addr}
theorem Wi (hT:gC W)(hc:c.Ok)(hp:cy (3*c.np) s.pl)(ht:dT c.nb (3*c.np) s.tb)(hk:oW c s k)(h:sB c k f)(h6:6≤f.next)(Tb:f.next≤11):
  Spec Tryz.prog 83 [.pointer pn,.pointer P.p,.pointer q] W (aA q f*aN R.po P k (NH pn c R*(aG R.pl s.pl*(aB R.tb R.pl c.nb s.tb*(ao (bb c R s) 3*F))))) (fun _:Unit=> .tuple #[]) (fun _=>iC q pn c R P F (cM c s k f)):=by
 rcases(show f.next=6∨f.next=7∨f.next=8∨f.next=9∨f.next=10∨f.next=11 by omega)with e|e|e|e|e|e
 ·exact SB hT hc hk h e
 ·exact SC hc hp ht hk h e
 ·exact SD hT hc hk h e
 ·exact SE hc hp hk h e
 ·exact Sz hc hp hk h e
 ·exact SA hc hp hk h e
theorem yT (hc:c.Ok){i:Nat}(hi:i<3*c.np):uX c.cfg (i:Int)=(((fx (i/c.np):Nat):Int),(c.lo:Int)+((i%c.np:Nat):Int)):=by
 have hp:=hc.bK
 unfold uX
 rw[hp,if_neg (by omega),←Int.natCast_ediv,←Int.natCast_emod]
 generalize i/c.np=a
 unfold wm fx
 rcases a with _|_|a
 ·rfl
 ·rfl
 ·rw[if_neg (by omega),if_neg (by omega),if_neg (by omega),if_neg (by omega)];rfl
theorem tV (k:aK)(p:Nat)(id:Int)(w:bH)(t:Int):fN k p id w t={k with aD:=(fN k p id w t).aD}:=by
 unfold fN
 split
 ·split<;>rfl
 ·split<;>rfl
theorem Kq (proto s:Nat):jZ proto s≤7440:=by
 unfold jZ
 split
 ·omega
 ·split
  ·omega
  ·split
   ·split<;>omega
   ·omega
set_option maxHeartbeats 2000000 in
theorem KH {id:Int}{w:bH}{t:Int}(hc:c.Ok)(h0:0≤id)(h1:id<((3*c.np:Nat):Int))(hw:w.sn≤4294967295)(qB:w.tr≤4)(ht:0≤t∧t≤4294967295)(hg:jx k.aD)(hn:k.aD.all.length≤1000)(J5:k.aD.av≤1000000):
  Spec Tryz.prog 129 [.pointer pn,.pointer P.p,.int .i64 id,ju w,.int .i64 t] W (NH pn c R*(Obj P.p 126 (bq P k)*(ct P.wh k.aD*F))) (fun _:Unit=> .tuple #[])
   (fun _=>NH pn c R*(Obj P.p 126 (bq P k)*(ct P.wh (fN k (fx (id.toNat/c.np)) id w t).aD*F))):=by
 refine Spec.of Tryz.func129 rfl Tryz.ntmps129 rfl ?_
 obtain⟨i,rfl⟩:∃i:Nat,id=(i:Int):=⟨id.toNat,by omega⟩
 have kX:=yT hc (i:=i) (by omega)
 have hi:((i:Int).toNat)=i:=by omega
 rw[hi]
 have A3:fx (i/c.np)<256:=by unfold fx;split;decide;split<;>decide
 generalize fx (i/c.np)=pr at*
 refine aa ?_;intros
 rename_i y
 refine af rfl (zK c.cfg hc.fit (i:Int)) ?_
 intro _
 rw[kX]
 dsimp only
 have vU:=Kq pr w.tr
 unfold fN
 by_cases e:pr=6
 ·rw[if_neg (by omega)]
  have e':((pr:Nat):Int)=6:=by omega
  refine aa ?_;intros
  rw[if_pos ht.2]
  rw[show t=((t.toNat:Nat):Int)by omega]
  refine af rfl (Spec.aL P.wh (Gl P.wh k.aD (i:Int) t.toNat hg (by omega) hn J5)) ?_
  intro _
  refine aa ?_;intros
  rw[show(((t.toNat:Nat):Int).toNat)=t.toNat by omega]
  exact aE (aF rfl () rfl (U.sat (ab)))
 ·rw[if_pos e]
  have e':¬((pr:Nat):Int)=6:=by omega
  refine aa ?_;intros
  refine ay 99 (Obj y 117 (wL w [])*1) rfl rfl rfl ?_
  refine ah ?_
  refine aw rfl rfl rfl rfl rfl (G9 pr w.tr A3 qB) (fun _=>ab) ?_
  intro _
  refine ah ?_
  refine aa ?_;intros
  rw[show((w.sn:Int)+(jZ pr w.tr:Int))=((w.sn+jZ pr w.tr:Nat):Int)by omega]
  by_cases h2:w.sn+jZ pr w.tr≤4294967295
  ·rw[if_pos h2]
   refine af rfl (Spec.aL P.wh (Gl P.wh k.aD (i:Int) (w.sn+jZ pr w.tr) hg (by omega) hn J5)) ?_
   intro _
   refine aa ?_;intros
   exact aE (aF rfl () rfl (U.sat (ab)))
  ·rw[if_neg h2]
   refine af rfl (Spec.aL P.wh (MY P.wh k.aD (i:Int) ((w.sn+jZ pr w.tr:Nat):Int) (by omega))) ?_
   intro _
   refine aa ?_;intros
   exact aE (aF rfl () rfl (U.sat (ab)))
end
section
open Go.RowKit
set_option maxRecDepth 10000
attribute [local irreducible] EK EX ER EN EL ES EG an aR aU
variable {W:World} {F G:SL} {X:Cx} {kk:List KI} {σ:Env} {pn q:Option Addr} {f:aM} {c:NC} {R:dV} {s:aW} {k:aK} {P:cW} {pp:Nat→Option Addr} {pc pw po:Option Addr}
instance :xj Tryz.prog 123 3 72:=⟨by kernel_rfl⟩
theorem Lv:∀ {l:List (Int×dU)} {i:Int} {v:dU},(l.map (·.1)).Nodup→lg l i v=iL l i v
 |[],i,v,_=>rfl
 |p::l,i,v,h=>by
  have h1:(p.1∉l.map (·.1))∧(l.map (·.1)).Nodup:=List.nodup_cons.1 h
  have ih:=Lv (i:=i) (v:=v) h1.2
  unfold lg
  unfold iL
  by_cases e:p.1=i
  ·rw[if_pos e,if_pos (by simp[e])]
   have hn:∀x∈l,¬x.1=i:=fun x hx hh=>h1.1 (List.mem_map.2 ⟨x,hx,by rw[hh,e]⟩)
   rw[List.map_cons,if_pos e]
   congr 1
   symm
   conv=>rhs;rw[←List.map_id l]
   exact List.map_congr_left fun x hx=>by rw[if_neg (hn x hx)];rfl
  ·rw[if_neg e]
   by_cases ha:l.any (fun p=>decide (p.1=i))=true
   ·rw[if_pos (by simp only[List.any_cons,ha,Bool.or_true])]
    rw[List.map_cons,if_neg e,ih]
    unfold iL
    rw[if_pos ha]
   ·rw[if_neg (by simp only[List.any_cons,e,decide_false,Bool.false_or];exact ha)]
    rw[ih]
    unfold iL
    rw[if_neg ha]
    rfl
structure wR (c:NC)(k:aK)(f:aM):Prop where
 fin:fX f
 fe:oz f.ai.proto
 enter:f.next=12→∃t,f.enter=some t∧br c.nb (3*c.np) t∧t.done=false
 back:f.next=14→∃t,f.enter=some t
 id:0≤f.id∧f.id<((3*c.np:Nat):Int)
 word:f.word.ok
 tr:f.word.tr≤4
 aD:jx k.aD
 all:k.aD.all.length≤1000
 av:k.aD.av≤1000000
 keys:(k.aS.map (·.1)).Nodup
 room:f.next=14→(k.ca (aH f.ai.proto)).l.length<16
set_option maxHeartbeats 2000000 in
theorem RV (hc:c.Ok)(hp:cy (3*c.np) s.pl)(ht:dT c.nb (3*c.np) s.tb)(h:wR c k f)(e:f.next=12):
  Spec Tryz.prog 84 [.pointer pn,.pointer P.p,.pointer q] W (aA q f*aN R.po P k (NH pn c R*(aG R.pl s.pl*(aB R.tb R.pl c.nb s.tb*(ao (bb c R s) 3*F))))) (fun _:Unit=> .tuple #[]) (fun _=>iC q pn c R P F (fQ c s k f)):=by
 refine Spec.of Tryz.func84 rfl Tryz.ntmps84 rfl ?_
 have jr:=hc.ql
 obtain⟨t,ml,jI,uN⟩:=h.enter e
 have es:fQ c s k f=({s with tb:=(bO s.pl c.nb s.tb t).1},k,if(bO s.pl c.nb s.tb t).2.done=false then {f with enter:=some (bO s.pl c.nb s.tb t).2}else {f with enter:=some (bO s.pl c.nb s.tb t).2,next:=if(bO s.pl c.nb s.tb t).2.end_=0 then 13 else 14}):=by
  unfold fQ;rw[if_pos e,ml]
 rw[es]
 clear es
 refine aA.open fun Q=> ?_
 have gE:∀z,ao (bb c R {s with tb:=z}) 3=ao (bb c R s) 3:=fun _=>rfl
 simp only[cm,iC,aN,ml,bF,SL.bP,gE]
 refine aa ?_;intros
 refine ay 99 (NH pn c R*(Obj q 119 (cP f Q)*1)) rfl rfl rfl ?_
 refine ah ?_
 refine aw rfl rfl rfl rfl rfl (Spec.vx Q.enter R.tb R.pl (zS jr ht hp jI uN)) (fun _=>ab) ?_
 intro _
 refine ah ?_
 generalize bO s.pl c.nb s.tb t=D at*
 obtain⟨eG,t'⟩:=D
 dsimp only at*
 cases hd:t'.done with
 |false=>
  rw[if_pos rfl]
  refine aa ?_;intros
  refine ae (dm rfl () rfl (U.sat (aA.bl Q (by rfl) ?_)))
  simp only[bF]
  exact ab
 |true=>
  rw[if_neg (fun hh=>by cases hh)]
  refine aa ?_;intros
  refine af rfl (Spec.aL Q.enter vk) ?_
  intro _
  by_cases h0:t'.end_=0
  ·rw[if_pos h0]
   refine aa ?_;intros
   refine aE (aF rfl () rfl (U.sat (aA.bl Q (by rfl) ?_)))
   simp only[bF]
   exact ab
  ·rw[if_neg h0]
   refine aa ?_;intros
   refine aE (aF rfl () rfl (U.sat (aA.bl Q (by rfl) ?_)))
   simp only[bF]
   exact ab
set_option maxHeartbeats 2000000 in
theorem RW (hc:c.Ok)(hp:cy (3*c.np) s.pl)(h:wR c k f)(e:f.next=13):
  Spec Tryz.prog 84 [.pointer pn,.pointer P.p,.pointer q] W (aA q f*aN R.po P k (NH pn c R*(aG R.pl s.pl*(aB R.tb R.pl c.nb s.tb*(ao (bb c R s) 3*F))))) (fun _:Unit=> .tuple #[]) (fun _=>iC q pn c R P F (fQ c s k f)):=by
 refine Spec.of Tryz.func84 rfl Tryz.ntmps84 rfl ?_
 have dj:=h.fin
 have kA:=h.word
 obtain⟨h0,h1⟩:=h.id
 have es:fQ c s k f=(bL s f.id f.word {f.word with st:=2},fN {k with aS:=iL k.aS f.id f.ai} (fx (f.id.toNat/c.np)) f.id f.word f.tick,f.goes c f.id):=by
  unfold fQ;rw[if_neg (by omega),if_pos e]
 rw[es,tV]
 clear es
 obtain⟨wh,Ka⟩:∃wh,wh=(fN {k with aS:=iL k.aS f.id f.ai} (fx (f.id.toNat/c.np)) f.id f.word f.tick).aD:=⟨_,rfl⟩
 have Ek:∀G,Spec Tryz.prog 129 [.pointer pn,.pointer P.p,.int .i64 f.id,ju f.word,.int .i64 f.tick] W (NH pn c R*(Obj P.p 126 (bq P k)*(ct P.wh k.aD*G))) (fun _:Unit=> .tuple #[]) (fun _=>NH pn c R*(Obj P.p 126 (bq P k)*(ct P.wh wh*G))):=fun G=>by
  rw[Ka]
  exact KH (W:=W) (pn:=pn) (R:=R) (P:=P) (k:={k with aS:=iL k.aS f.id f.ai}) (F:=G) hc h0 h1 kA.2.2.2 h.tr dj.tick h.aD h.all h.av
 rw[←Ka]
 have Dg:ao (cj R.po P {k with aS:=iL k.aS f.id f.ai,aD:=wh}) 3=ao (cj R.po P k) 3:=rfl
 have oF:({f.word with st:=2}:bH).ok:=⟨by show 2≤3;decide,kA.2.1,kA.2.2.1,kA.2.2.2⟩
 have o9:(bL s f.id f.word {f.word with st:=2}).tb=s.tb:=by unfold bL;split<;>rfl
 have gE:ao (bb c R (bL s f.id f.word {f.word with st:=2})) 3=ao (bb c R s) 3:=by unfold bL;split<;>rfl
 refine aA.open fun Q=> ?_
 simp only[cm,iC,aN,o9,gE,Dg]
 refine aa ?_;intros
 rename_i y
 refine aa ?_;intros
 refine ay 99 (Obj y 117 (wL {f.word with st:=2} [])*(NH pn c R*(Obj q 119 (cP f Q)*1))) rfl rfl rfl ?_
 refine ah ?_
 refine aw rfl rfl rfl rfl rfl (Spec.aL R.pl (ta (id:=f.id) (a:=f.word) (b:={f.word with st:=2}) hc hp h0 h1 kA oF)) (fun _=>ab) ?_
 intro _
 refine ah ?_
 refine aa ?_;intros
 refine ay 12 (Obj P.p 126 (bq P k)*(Obj q 119 (cP f Q)*1)) rfl rfl rfl ?_
 refine ah ?_
 refine Cn rfl (OF (ek:=dQ) (ev:=de) (k:=f.id) (v:=f.ai) rfl rfl rfl rfl) (by decide+kernel) (by decide+kernel) ?_
 rw[Lv h.keys]
 refine aa ?_;intros
 refine ay 99 (NH pn c R*(Obj q 119 (cP f Q)*1)) rfl rfl rfl ?_
 refine ah ?_
 refine aw rfl rfl rfl rfl rfl (Spec.vx pn P.p P.wh (Ek _)) (fun _=>ab) ?_
 intro _
 refine ah ?_
 refine aa ?_;intros
 refine af rfl (Spec.pre (Dr (pn:=pn) (q:=q) (f:=f) (R:=R) (id:=f.id) (F:=Obj P.p 126 (bq P k)*(ao (cj R.po P k) 3*(ct P.wh wh*(cQ dQ de P.m (iL k.aS f.id f.ai)*(ad 5 1 P.told.1 k.bt.length P.told.2 (ar k.bt)*(ad 132 2 P.ended.1 k.ended.length P.ended.2 (cN k.ended)*(aG R.pl (bL s f.id f.word {f.word with st:=2}).pl*(aB R.tb R.pl c.nb s.tb*(ao (bb c R s) 3*F))))))))) hc dj h0 h1) (aA.bl Q (by rfl) (ab))) ?_
 intro _
 refine aa ?_;intros
 exact aE (aF rfl () rfl (U.sat (ab)))
set_option maxHeartbeats 2000000 in
theorem RX (hc : c.Ok) (hp : cy (3 * c.np) s.pl) (hk : oW c s k) (h : wR c k f) (e : f.next = 14) :
    Spec Tryz.prog 84 [.pointer pn, .pointer P.p, .pointer q] W (aA q f * aN R.po P k (NH pn c R * (aG R.pl s.pl * (aB R.tb R.pl c.nb s.tb * (ao (bb c R s) 3 * F))))) (fun _ : Unit => .tuple #[]) (fun _ => iC q pn c R P F (fQ c s k f)) := by
  refine Spec.of Tryz.func84 rfl Tryz.ntmps84 rfl ?_
  have dj := h.fin
  have kA := h.word
  have rE := h.fe
  have uK := h.room e
  have bE := k9 f.ai.proto
  have ho := hk.out _ bE
  obtain ⟨h0, h1⟩ := h.id
  have cU := hc.np
  haveI : Pos c.np := ⟨by omega⟩
  obtain ⟨i, hi⟩ : ∃ i : Nat, f.id = (i : Int) := ⟨f.id.toNat, by omega⟩
  have yk : f.id.toNat = i := by omega
  obtain ⟨t, ml⟩ := h.back e
  have Jl : (fO c.np (k.ca (aH f.ai.proto)) (i % c.np)).1 = { k.ca (aH f.ai.proto) with l := (k.ca (aH f.ai.proto)).l ++ [i % c.np] } := by
    unfold fO
    rw [if_neg (by rw [la]; omega)]
  have es : fQ c s k f = (bL s f.id f.word { f.word with st := 0 }, k.cK (aH f.ai.proto) { k.ca (aH f.ai.proto) with l := (k.ca (aH f.ai.proto)).l ++ [i % c.np] },
        if t.end_ = 10 then { f with made := false }.jW t.found t.aP else { f with made := false }.fin [] 9) := by
    unfold fQ; rw [if_neg (by omega), if_neg (by omega), ml, yk, Jl]
  rw [es]
  clear es Jl
  have oF : ({ f.word with st := 0 } : bH).ok := ⟨by show 0 ≤ 3; decide, kA.2.1, kA.2.2.1, kA.2.2.2⟩
  have o9 : (bL s f.id f.word { f.word with st := 0 }).tb = s.tb := by unfold bL; split <;> rfl
  have gE : ao (bb c R (bL s f.id f.word { f.word with st := 0 })) 3 = ao (bb c R s) 3 := by unfold bL; split <;> rfl
  refine aA.open fun Q => ?_
  obtain ⟨k1, k2, k3, k4, k5, k6, k7, k8⟩ := nj k (aH f.ai.proto) { k.ca (aH f.ai.proto) with l := (k.ca (aH f.ai.proto)).l ++ [i % c.np] }
  simp only [cm, iC, aN, bq, k1, k2, k3, k4, k5, k6, k7, k8, o9, gE, ml, bF]
  rw [zX (k := k) bE, mb (k := k) bE ho]
  simp only [ho, gi, dY]
  refine aa ?_; intros
  rename_i y
  refine ay 99 (Obj y 117 (wL { f.word with st := 0 } []) * (NH pn c R * (Obj q 119 (cP f Q) * 1))) rfl rfl rfl ?_
  refine ah ?_
  refine aw rfl rfl rfl rfl rfl (Spec.aL R.pl (ta (id := f.id) (a := f.word) (b := { f.word with st := 0 }) hc hp h0 h1 kA oF)) (fun _ => ab) ?_
  intro _
  refine ah ?_
  refine aa ?_; intros
  refine ay 99 (NH pn c R * (Obj q 119 (cP f Q) * (Obj P.p 126 (bq P k) * 1))) rfl rfl rfl ?_
  refine ah ?_
  refine aw rfl rfl rfl rfl rfl (Spec.eZ q P.p (sP (Q := Q) (k := k) (P := P) h.fe)) (fun _ => ab) ?_
  intro _
  refine ah ?_
  rw [show (f.id % (c.np : Int)) = ((i % c.np : Nat) : Int) by rw [hi, Int.natCast_emod]]
  refine aw rfl rfl rfl rfl rfl (Spec.aL (P.c (aH f.ai.proto)) (zL (i % c.np) uK)) (fun _ => ab) ?_
  intro z
  refine ah ?_
  refine aa ?_; intros
  refine af rfl (Spec.aL Q.enter vk) ?_
  intro _
  by_cases Ay : t.end_ = 10
  · rw [if_pos Ay]
    refine aa ?_; intros
    refine af rfl (Spec.aL Q.enter Cu) ?_
    intro _
    refine aa ?_; intros
    refine af rfl (Spec.pre (An (q := q) (f := { f with made := false }) (id := t.found) (w := t.aP) (F := Obj P.p 126 (bq P k) * (aY (P.c (aH f.ai.proto)) (R.po (aH f.ai.proto)) (k.ca (aH f.ai.proto)).h ((k.ca (aH f.ai.proto)).l ++ [i % c.np]) none * (ao (cA (cj R.po P k) (aH f.ai.proto)) 3 * (ct P.wh k.aD * (cQ dQ de P.m k.aS * (ad 5 1 P.told.1 k.bt.length P.told.2 (ar k.bt) * (ad 132 2 P.ended.1 k.ended.length P.ended.2 (cN k.ended) * (NH pn c R * (aG R.pl (bL s f.id f.word { f.word with st := 0 }).pl * (aB R.tb R.pl c.nb s.tb * (ao (bb c R s) 3 * F)))))))))))) (aA.bl Q (by rfl) (by simp only [ml, bF]; exact ab))) ?_
    intro _
    refine aa ?_; intros
    exact ae (dm rfl () rfl (U.sat (by rw [← ml]; exact ab)))
  · rw [if_neg Ay]
    refine aa ?_; intros
    refine af rfl (Spec.pre (Al (q := q) (f := { f with made := false }) (e := 9) (F := Obj P.p 126 (bq P k) * (aY (P.c (aH f.ai.proto)) (R.po (aH f.ai.proto)) (k.ca (aH f.ai.proto)).h ((k.ca (aH f.ai.proto)).l ++ [i % c.np]) none * (ao (cA (cj R.po P k) (aH f.ai.proto)) 3 * (ct P.wh k.aD * (cQ dQ de P.m k.aS * (ad 5 1 P.told.1 k.bt.length P.told.2 (ar k.bt) * (ad 132 2 P.ended.1 k.ended.length P.ended.2 (cN k.ended) * (NH pn c R * (aG R.pl (bL s f.id f.word { f.word with st := 0 }).pl * (aB R.tb R.pl c.nb s.tb * (ao (bb c R s) 3 * F)))))))))))) (aA.bl Q (by rfl) (by simp only [ml, bF]; exact ab))) ?_
    intro _
    refine aa ?_; intros
    exact aE (aF rfl () rfl (U.sat (by rw [← ml]; exact ab)))
theorem We (hc:c.Ok)(hp:cy (3*c.np) s.pl)(ht:dT c.nb (3*c.np) s.tb)(hk:oW c s k)(h:wR c k f)(Az:12≤f.next)(h14:f.next≤14):
  Spec Tryz.prog 84 [.pointer pn,.pointer P.p,.pointer q] W (aA q f*aN R.po P k (NH pn c R*(aG R.pl s.pl*(aB R.tb R.pl c.nb s.tb*(ao (bb c R s) 3*F))))) (fun _:Unit=> .tuple #[]) (fun _=>iC q pn c R P F (fQ c s k f)):=by
 rcases(show f.next=12∨f.next=13∨f.next=14 by omega)with e|e|e
 ·exact RV hc hp ht h e
 ·exact RW hc hp h e
 ·exact RX hc hp hk h e
end
section
open Go.RowKit
set_option maxRecDepth 10000
attribute [local irreducible] EK EX ER EN EL ES EG an aR aU
variable {W:World} {F G:SL} {X:Cx} {kk:List KI} {σ:Env} {pn q:Option Addr} {f:aM} {c:NC} {R:dV} {s:aW} {k:aK} {P:cW} {pp:Nat→Option Addr} {pc pw po:Option Addr}
structure GN (c:NC)(f:aM):Prop where
 fin:fX f
 id:0≤f.id∧f.id<((3*c.np:Nat):Int)
 word:f.word.ok
 now:f.now.ok
 tr:f.word.tr≤4
 addr:f.next=17→f.eH.addr<4294967296
 port:f.next=17→f.eH.port<65536
theorem KQ {p:Option Addr}{id:Int}(hc:c.Ok)(hp:cy (3*c.np) s.pl)(h0:0≤id)(h1:id<((3*c.np:Nat):Int)):Spec Tryz.prog 56 [.pointer p,.int .i64 id] W (aG p s.pl*F) (fun _:Unit=> .agg #[.int .i64 ((ox (qC s id)).proto:Int),.int .u32 ((ox (qC s id)).addr:Int),.int .u16 ((ox (qC s id)).port:Int)]) (fun _=>aG p s.pl*F):=by
 have cU:=hc.np
 have h:=CT (W:=W) (F:=F) (p:=p) (i:=id.toNat) hp.len (by omega) (by omega) hp.w
 rw[show((id.toNat:Nat):Int)=id by omega]at h
 exact h
set_option maxHeartbeats 2000000 in
theorem Wj (hc:c.Ok)(hp:cy (3*c.np) s.pl)(h:GN c f)(h15:15≤f.next)(vN:f.next≤17):
  Spec Tryz.prog 85 [.pointer pn,.pointer q] W (aA q f*(NH pn c R*(aG R.pl s.pl*F))) (fun _:Unit=> .tuple #[]) (fun _=>aA q (gW c s f).2*(NH pn c R*(aG R.pl (gW c s f).1.pl*F))):=by
 refine Spec.of Tryz.func85 rfl Tryz.ntmps85 rfl ?_
 have dj:=h.fin
 have kA:=h.word
 have El:=h.now
 have oB:=dj.dz
 have qB:=h.tr
 obtain⟨h0,h1⟩:=h.id
 rcases(show f.next=15∨f.next=16∨f.next=17 by omega)with e|e|e
 ·have es:gW c s f=(s,if(bI s f.id).st≠2 then {f with word:=bI s f.id,next:=16}.fin [] 7 else {f with word:=bI s f.id,next:=16}):=by unfold gW;rw[if_pos e]
  rw[es]
  clear es
  refine aA.open fun Q=> ?_
  simp only[cm]
  refine aa ?_;intros
  refine ay 13 (NH pn c R*(Obj q 119 (cP f Q)*1)) rfl rfl rfl ?_
  repeat(first|refine c5 ?_ |refine ax 0 rfl rfl rfl rfl (by decide+kernel) (ag) rfl ?_ |refine ax 1 rfl rfl rfl rfl (by decide+kernel) (ag) rfl ?_ |refine ax 2 rfl rfl rfl rfl (by decide+kernel) (ag) rfl ?_ |refine ax 3 rfl rfl rfl rfl (by decide+kernel) (ag) rfl ?_)
  refine aw rfl rfl rfl rfl rfl (Spec.aL R.pl (tc hc hp h0 h1)) (fun _=>ab) ?_
  intro _
  repeat(first|refine c5 ?_ |refine ax 0 rfl rfl rfl rfl (by decide+kernel) (ag) rfl ?_ |refine ax 1 rfl rfl rfl rfl (by decide+kernel) (ag) rfl ?_ |refine ax 2 rfl rfl rfl rfl (by decide+kernel) (ag) rfl ?_ |refine ax 3 rfl rfl rfl rfl (by decide+kernel) (ag) rfl ?_)
  (refine je rfl (cr rfl rfl rfl rfl rfl rfl) (by decide+kernel) rfl ?_);repeat(first|refine dy rfl rfl rfl (fY rfl rfl) (by decide+kernel) (by decide+kernel) rfl ?_ |refine dy rfl rfl rfl (eX rfl rfl) (by decide+kernel) (by decide+kernel) rfl ?_ |refine iP rfl rfl (cr rfl rfl rfl rfl rfl rfl) (by decide+kernel) (by decide+kernel) rfl ?_ |refine eD ?_)
  generalize bI s f.id=w at*
  by_cases hw:w.st=2
  ·rw[if_neg (by omega)]
   refine aa ?_;intros
   exact aE (aF rfl () rfl (U.sat (aA.bl Q (by rfl) (ab))))
  ·rw[if_pos hw]
   refine aa ?_;intros
   refine af rfl (Spec.pre (Al (q:=q) (f:={f with word:=w,next:=16}) (e:=7) (F:=(NH pn c R*(aG R.pl s.pl*F)))) (aA.bl Q (by rfl) (ab))) ?_
   intro _
   refine aa ?_;intros
   exact aE (aF rfl () rfl (U.sat (ab)))
 ·have es:gW c s f=(s,{f with eH:=ox (qC s f.id),now:=f.jL f.word,next:=17}):=by unfold gW;rw[if_neg (by omega),if_pos e]
  rw[es]
  clear es
  refine aA.open fun Q=> ?_
  simp only[cm]
  refine aa ?_;intros
  refine ay 20 (NH pn c R*(Obj q 119 (cP f Q)*1)) rfl rfl rfl ?_
  repeat(first|refine c5 ?_ |refine ax 0 rfl rfl rfl rfl (by decide+kernel) (ag) rfl ?_ |refine ax 1 rfl rfl rfl rfl (by decide+kernel) (ag) rfl ?_ |refine ax 2 rfl rfl rfl rfl (by decide+kernel) (ag) rfl ?_ |refine ax 3 rfl rfl rfl rfl (by decide+kernel) (ag) rfl ?_)
  refine aw rfl rfl rfl rfl rfl (Spec.aL R.pl (KQ hc hp h0 h1)) (fun _=>ab) ?_
  intro _
  repeat(first|refine c5 ?_ |refine ax 0 rfl rfl rfl rfl (by decide+kernel) (ag) rfl ?_ |refine ax 1 rfl rfl rfl rfl (by decide+kernel) (ag) rfl ?_ |refine ax 2 rfl rfl rfl rfl (by decide+kernel) (ag) rfl ?_ |refine ax 3 rfl rfl rfl rfl (by decide+kernel) (ag) rfl ?_)
  refine aw rfl rfl rfl rfl rfl (Spec.aL q (IY (P:=Q) dj qB)) (fun _=>ab) ?_
  intro _
  repeat(first|refine c5 ?_ |refine ax 0 rfl rfl rfl rfl (by decide+kernel) (ag) rfl ?_ |refine ax 1 rfl rfl rfl rfl (by decide+kernel) (ag) rfl ?_ |refine ax 2 rfl rfl rfl rfl (by decide+kernel) (ag) rfl ?_ |refine ax 3 rfl rfl rfl rfl (by decide+kernel) (ag) rfl ?_)
  (refine je rfl (cr rfl rfl rfl rfl rfl rfl) (by decide+kernel) rfl ?_);repeat(first|refine dy rfl rfl rfl (fY rfl rfl) (by decide+kernel) (by decide+kernel) rfl ?_ |refine dy rfl rfl rfl (eX rfl rfl) (by decide+kernel) (by decide+kernel) rfl ?_ |refine iP rfl rfl (cr rfl rfl rfl rfl rfl rfl) (by decide+kernel) (by decide+kernel) rfl ?_ |refine eD ?_)
  refine aa ?_;intros
  generalize f.jL f.word=w
  generalize ox (qC s f.id)=u
  exact aE (aF rfl () rfl (U.sat (aA.bl Q (by rfl) (ab))))
 ·have Jx:=h.addr e
  have yo:=h.port e
  refine aA.open fun Q=> ?_
  simp only[cm]
  refine aa ?_;intros
  refine ay 99 (Obj q 119 (cP f Q)*1) rfl rfl rfl ?_
  refine ah ?_
  rw[Gh]
  by_cases heq:f.now=f.word
  ·have es:gW c s f=(s,if bI s f.id=f.word then {f with next:=15}.fin (kF f.b false f.eH.addr f.eH.port) (y9 f.b)else {f with next:=15}):=by unfold gW;rw[if_neg (by omega),if_neg (by omega),if_pos heq]
   rw[es,decide_eq_true heq]
   clear es
   refine aa ?_;intros
   refine ay 99 (NH pn c R*(Obj q 119 (cP f Q)*1)) rfl rfl rfl ?_
   refine ah ?_
   refine aw rfl rfl rfl rfl rfl (Spec.aL R.pl (tc hc hp h0 h1)) (fun _=>ab) ?_
   intro _
   refine ah ?_
   rw[Gh]
   by_cases AT:bI s f.id=f.word
   ·rw[if_pos AT,decide_eq_true AT]
    refine aa ?_;intros
    obtain⟨g,hg⟩:∃g:aM,g={f with next:=15}:=⟨_,rfl⟩
    have iI:g.b=f.b:=by rw[hg]
    have iu:g.eH=f.eH:=by rw[hg]
    have sY:g.b.length≤140737488355328:=by rw[iI];exact oB
    refine iQ (G:=cm q g Q (NH pn c R*(aG R.pl s.pl*F))) (by rw[hg];exact ab) ?_
    simp only[cm]
    refine ay 18 (NH pn c R*(Obj q 119 (cP g Q)*1)) rfl rfl rfl ?_
    refine ah ?_
    refine aw rfl rfl rfl rfl rfl (GO (l:=g.b) sY g.eH.addr g.eH.port (by rw[iu];exact Jx) (by rw[iu];exact yo)) (fun _=>ab) ?_
    intro z
    refine ah ?_
    simp only[xa]
    refine lp rfl rfl rfl rfl (Spec.pre (Am (q:=q) (f:=g) (l:=kF g.b false g.eH.addr g.eH.port) (z:=z) (e:=eA g.b) (F:=NH pn c R*(aG R.pl s.pl*F))) (U.cons (aA.bl Q (by rfl) (ab)))) ?_
    intro _
    refine ah ?_
    refine aa ?_;intros
    rw[iI,iu,hg]
    exact aE (aF rfl () rfl (U.sat (ab)))
   ·rw[if_neg AT,decide_eq_false AT]
    refine aa ?_;intros
    exact aE (aF rfl () rfl (U.sat (aA.bl Q (by rfl) (ab))))
  ·have es:gW c s f=(bL s f.id f.word f.now,if jR s f.id f.word f.now=true then {f with next:=15}.fin (kF f.b false f.eH.addr f.eH.port) (y9 f.b)else {f with next:=15}):=by unfold gW;rw[if_neg (by omega),if_neg (by omega),if_neg heq]
   rw[es,decide_eq_false heq]
   clear es
   refine aa ?_;intros
   refine ay 99 (NH pn c R*(Obj q 119 (cP f Q)*1)) rfl rfl rfl ?_
   refine ah ?_
   refine aw rfl rfl rfl rfl rfl (Spec.aL R.pl (ta (id:=f.id) (a:=f.word) (b:=f.now) hc hp h0 h1 kA El)) (fun _=>ab) ?_
   intro _
   refine ah ?_
   cases jq:jR s f.id f.word f.now with
   |true=>
    rw[if_pos rfl]
    refine aa ?_;intros
    obtain⟨g,hg⟩:∃g:aM,g={f with next:=15}:=⟨_,rfl⟩
    have iI:g.b=f.b:=by rw[hg]
    have iu:g.eH=f.eH:=by rw[hg]
    have sY:g.b.length≤140737488355328:=by rw[iI];exact oB
    refine iQ (G:=cm q g Q (NH pn c R*(aG R.pl (bL s f.id f.word f.now).pl*F))) (by rw[hg];exact ab) ?_
    simp only[cm]
    refine ay 18 (NH pn c R*(Obj q 119 (cP g Q)*1)) rfl rfl rfl ?_
    refine ah ?_
    refine aw rfl rfl rfl rfl rfl (GO (l:=g.b) sY g.eH.addr g.eH.port (by rw[iu];exact Jx) (by rw[iu];exact yo)) (fun _=>ab) ?_
    intro z
    refine ah ?_
    simp only[xa]
    refine lp rfl rfl rfl rfl (Spec.pre (Am (q:=q) (f:=g) (l:=kF g.b false g.eH.addr g.eH.port) (z:=z) (e:=eA g.b) (F:=NH pn c R*(aG R.pl (bL s f.id f.word f.now).pl*F))) (U.cons (aA.bl Q (by rfl) (ab)))) ?_
    intro _
    refine ah ?_
    refine aa ?_;intros
    rw[iI,iu,hg]
    exact aE (aF rfl () rfl (U.sat (ab)))
   |false=>
    rw[if_neg Bool.false_ne_true]
    refine aa ?_;intros
    exact aE (aF rfl () rfl (U.sat (aA.bl Q (by rfl) (ab))))
end
end Go.Proofs.YtfkngchldmfpfaaGreatDoor
