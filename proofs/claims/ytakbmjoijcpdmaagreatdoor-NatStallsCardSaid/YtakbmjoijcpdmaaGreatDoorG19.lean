/-
  A part of a proof, joined by a program (wip/bundle3.py).
-/
import Derived.Test.YtakbmjoijcpdmaaGreatDoorG7
import Derived.Test.YtakbmjoijcpdmaaGreatDoorG9
import Derived.Test.YtakbmjoijcpdmaaGreatDoorG17
import Derived.Test.YtakbmjoijcpdmaaGreatDoorG18
set_option linter.unusedVariables false
set_option linter.unusedSimpArgs false
namespace Go.Proofs.YtakbmjoijcpdmaaGreatDoor
section
open Go.RowKit
set_option maxRecDepth 10000
attribute [local irreducible] EK EX ER EN EL ES EG az ba bf
variable {W:World} {F G:SL} {X:Cx} {kk:List KI} {σ:Env} {pn:Option Addr} {c:NC} {R:eJ} {n:bm} {k:aR} {P:dS} {b:Option Addr} {w:Nat}
theorem Pf (hc:c.Ok){i:Nat}(hi:i<3*c.np):Spec Tryz.prog 28 [c.cfg.val,.int .i64 (i:Int)] W F (fun _:Unit=> .tuple #[.int .i64 ((jY (i/c.np):Nat):Int),.int .i64 ((c.lo:Int)+((i%c.np:Nat):Int))]) (fun _=>F):=by
 have h:=GQ (W:=W) (F:=F) c.cfg hc.fit (i:Int)
 rw[EA hc hi]at h
 exact h
set_option maxHeartbeats 1000000 in
theorem AX (hc:c.Ok)(hp:cK (3*c.np) n.sh.pl):Spec Tryz.prog 13 [.pointer pn] W (cM pn c n*F) (fun z:aP=> .slice z.1 (mJ c n.sh).length z.2) (fun z=>ao 55 6 z.1 (mJ c n.sh).length z.2 (nu (mJ c n.sh))*(cM pn c n*F)):=by
 unfold mJ
 refine Spec.sT fun R=> ?_
 refine Spec.of Tryz.func13 rfl Tryz.ntmps13 rfl ?_
 have c3:=hc.np
 have DV:=hc.p
 have iZ:U (dh pn c n R*F) (cM pn c n*F):=U.ex R (U.refl _)
 rw[dh.eq]at iZ ⊢
 obtain⟨G,hG⟩:∃G,G=ao 66 1 R.ws.1 c.n R.ws.2 (c9 c.n fun i=>(R.wk i).p)*(aE (gN R n.wk) c.n*(bP R.ep n.sh.ep n.sh.gs*(aK R.tb R.pl c.nb n.sh.tb*(aE (bI c R n.sh) 3*F)))):=⟨_,rfl⟩
 have iZ:U (NH pn c R*(aM R.pl n.sh.pl*G)) (cM pn c n*F):=U.trans (by rw[hG];simp only[dj];exact ad) iZ
 refine jE (G:=NH pn c R*(aM R.pl n.sh.pl*G)) (by rw[hG];simp only[dj];exact ad) ?_
 have hz:=GL (W:=W) (p:=R.pl) (ws:=n.sh.pl) (F:=NH pn c R*G) hp.len (by omega)
 repeat first|refine aa ?_ |intro
 refine ag rfl (Spec.pre hz (ad)) ?_
 intro _
 repeat first|refine aa ?_ |intro
 refine ff (γ:=Nat×aP) (fun g=>g.1≤3*c.np) (fun g=>[(0,.pointer pn),(3,.slice g.2.1 (kn c n.sh g.1).length g.2.2),(14,.int .i64 ((3*c.np:Nat):Int)),(15,.int .i64 (g.1:Int))])
  (fun g=>ao 55 6 g.2.1 (kn c n.sh g.1).length g.2.2 (nu (kn c n.sh g.1))*(NH pn c R*(aM R.pl n.sh.pl*G))) (fun g=>3*c.np-g.1) (0,(none,0)) (Nat.zero_le _) ⟨rfl,rfl,rfl,rfl,trivial⟩ (U.sat (U.none (ad))) ?_
 intro ⟨i,z⟩ h1;dsimp only at h1 ⊢
 have oc:=Qb c n.sh i
 by_cases hi:i<3*c.np
 ·have S9:=tB (W:=W) (p:=R.pl) (s:=n.sh) (F:=ao 55 6 z.1 (kn c n.sh i).length z.2 (nu (kn c n.sh i))*(NH pn c R*G)) hc hp (id:=(i:Int)) (by omega) (by omega)
  have S5:=fun G=>KG (W:=W) (p:=R.pl) (s:=n.sh) (F:=G) hc hp (id:=(i:Int)) (by omega) (by omega)
  have Jl:=EA hc hi
  have wT:=Qc c n.sh i
  generalize kn c n.sh i=L at*
  generalize bC n.sh (i:Int)=v at*
  generalize nC (o9 n.sh (i:Int))=fl at*
  repeat first|refine aa ?_ |intro
  refine ag rfl (Spec.pre S9 (ad)) ?_
  intro _
  repeat first|refine aa ?_ |intro
  rename_i y
  refine mA rfl (fun TP=> ?_) (fun TP=> ?_)
  ·have cJ:v.st=2:=by omega
   rw[if_pos cJ]at wT
   repeat first|refine aa ?_ |intro
   refine ag rfl (Spec.pre (Pf (W:=W) hc hi (F:=Obj y 78 [.int .i64 (v.st:Int),.int .i64 (v.gen:Int),.int .i64 (v.tr:Int),.int .i64 (v.sn:Int)]*(ao 55 6 z.1 L.length z.2 (nu L)*(NH pn c R*(aM R.pl n.sh.pl*G))))) (ad)) ?_
   intro _
   repeat first|refine aa ?_ |intro
   refine aL 99 (Obj y 78 [.int .i64 (v.st:Int),.int .i64 (v.gen:Int),.int .i64 (v.tr:Int),.int .i64 (v.sn:Int)]*(NH pn c R*1)) rfl rfl rfl ?_
   repeat(first|refine aq ?_ |refine eD ?_)
   refine aI rfl rfl rfl rfl rfl (Spec.aV R.pl (S5 _)) (fun _=>ad) ?_
   intro _
   repeat(first|refine aq ?_ |refine eD ?_)
   repeat(first|refine bQ ?_ |(refine bU ?_;intro)|refine bR ?_ |refine bS ?_ |refine bT ?_ |refine eD ?_)
   repeat first|refine aa ?_ |intro
   rename_i z2
   have e1:(kn c n.sh (i+1)).length=L.length+1:=by rw[wT,List.length_append];rfl
   have e2:nu (kn c n.sh (i+1))=nu L++[.int .i64 (fl.proto:Int),.int .u32 (fl.addr:Int),.int .u16 (fl.port:Int),.int .i64 ((c.lo:Int)+((i%c.np:Nat):Int)),.int .i64 (v.tr:Int),.int .i64 (v.sn:Int)]:=by rw[wT,P0];rfl
   refine cT (i+1,z2) (Nat.succ_le_of_lt hi) (by dsimp only;omega) ⟨rfl,by dsimp only;rw[e1];rfl,rfl,rfl,trivial⟩ (U.sat ?_)
   dsimp only
   rw[e1,e2]
   exact ad
  ·have cJ:¬v.st=2:=by omega
   rw[if_neg cJ]at wT
   repeat first|refine aa ?_ |intro
   have e1:kn c n.sh (i+1)=L:=by rw[wT,List.append_nil]
   refine cT (i+1,z) (Nat.succ_le_of_lt hi) (by dsimp only;omega) ⟨rfl,by dsimp only;rw[e1];rfl,rfl,rfl,trivial⟩ (U.sat ?_)
   dsimp only
   rw[e1]
   exact ad
 ·have e:i=3*c.np:=by omega
  subst e
  repeat first|refine aa ?_ |intro
  exact ae (aw rfl rfl z rfl (U.sat (U.cons (U.trans (ad) iZ))))
end
section
open Go.RowKit
set_option maxRecDepth 10000
attribute [local irreducible] EK EX ER EN EL ES EG az ba bf
variable {W:World} {F G:SL} {pn:Option Addr} {c:NC}
theorem U.LZ {f g:Nat→SL}:∀n,(∀i,i<n→U (f i) (g i))→U (aE f n) (aE g n)
 |0,_=>U.refl _
 |n+1,h=>by
  rw[aE.succ,aE.succ]
  exact U.star (h n (by omega)) (U.LZ n fun i hi=>h i (by omega))
theorem U.VN {κ ν:Type}{ek:κ→Value}{ev:ν→Value}{m:Nat}{H G:SL}(k:U H (SL.cH m (.map #[] 0)*G)):U H (fU ek ev m ([]:List (κ×ν))*G):=by
 unfold fU
 refine U.ex (#[],0) ?_
 rw[SL.cb]
 exact U.pure iQ.nil k
def ZC (x:mF):dS:=⟨x.p,fun i=>if i=0 then x.c0 else if i=1 then x.c1 else x.c2,fun _=>none,x.wh,x.m,none,none,(none,0),(none,0)⟩
def rP (R:pN):eJ:=⟨R.ep,R.pl,R.tb,fun i=>if i=0 then R.p0 else if i=1 then R.p1 else R.p2,R.ws,fun i=>ZC (R.wk i)⟩
theorem ZB (R:pN)(w:Nat):U (kT R.p0 R.p1 R.p2 R.wk w) (rb (rP R).po ((rP R).wk w) (jB w)):=by
 rw[←SL.oD (kT R.p0 R.p1 R.p2 R.wk w),←SL.oD (rb _ _ _),kT.eq,rb.eq]
 simp only[jB,ia,br]
 refine U.star (U.refl _) ?_
 have e3:∀(f:Nat→SL) (H:SL),aE f 3*H=f 0*(f 1*(f 2*H)):=fun f H=>by
  rw[aE.succ,aE.succ,aE.succ]
  show(f 2*(f 1*(f 0*1)))*H=_
  rw[SL.oD]
  ac_rfl
 rw[e3]
 have eC:∀i,i<3→∀H,eG (rP R).po ((rP R).wk w) (jB w) i*H=bj (((rP R).wk w).c i) ((rP R).po i) w [] none*H:=fun i hi H=>by
  unfold eG
  have:(jB w).ca i=pV w:=by unfold aR.ca jB;dsimp only;split<;>(try split)<;>rfl
  rw[this,SL.cb]
  show _*(bu _ none*H)=_
  rw[ia]
  rfl
 have yQ:=eC
 unfold jB at yQ
 rw[yQ 0 (by omega),yQ 1 (by omega),yQ 2 (by omega)]
 show U (bj (R.wk w).c0 R.p0 w [] none*(bj (R.wk w).c1 R.p1 w [] none*(bj (R.wk w).c2 R.p2 w [] none*(dR (R.wk w).wh kI*(SL.cH (R.wk w).m (.map #[] 0)*1))))) (bj (R.wk w).c0 R.p0 w [] none*(bj (R.wk w).c1 R.p1 w [] none*(bj (R.wk w).c2 R.p2 w [] none*(dR (R.wk w).wh kI*(fU iq gy (R.wk w).m []*(ao 5 1 none 0 0 []*(ao 287 2 none 0 0 []*1)))))))
 refine U.cons (U.cons (U.cons (U.cons (U.VN (U.cons (U.none (U.none (U.refl _))))))))
theorem V2 (R:pN):U (sF pn c R*F) (cM pn c (dI c)*F):=by
 refine U.ex (rP R) ?_
 rw[sF.eq,dh.eq]
 have es:U (aE (kT R.p0 R.p1 R.p2 R.wk) c.n) (aE (gN (rP R) (dI c).wk) c.n):=U.LZ c.n fun i hi=>by
  unfold gN
  have:(dI c).wk.getD i ax=jB i:=by
   show((List.range c.n).map jB).getD i ax=_
   rw[List.getD_eq_getElem?_getD,List.getElem?_map,List.getElem?_range hi];rfl
  rw[this]
  exact ZB R i
 have e3:∀(f:Nat→SL) (H:SL),aE f 3*H=f 0*(f 1*(f 2*H)):=fun f H=>by
  rw[aE.succ,aE.succ,aE.succ]
  show(f 2*(f 1*(f 0*1)))*H=_
  rw[SL.oD]
  ac_rfl
 unfold dj
 rw[e3]
 refine U.star (U.refl _) (U.star (U.refl _) (U.star es ?_))
 show U (bP R.ep (List.replicate (c.n+1) 0) (List.replicate c.n [])*(bD R.p0 c.np (dy c.np)*(bD R.p1 c.np (dy c.np)*(bD R.p2 c.np (dy c.np)*(aM R.pl (List.replicate (2*(3*c.np)) 0)*(aK R.tb R.pl c.nb (List.replicate (c.nb+1) 0)*F)))))) (bP R.ep (List.replicate (c.n+1) 0) (List.replicate c.n [])*(aM R.pl (List.replicate (2*(3*c.np)) 0)*(aK R.tb R.pl c.nb (List.replicate (c.nb+1) 0)*(bD R.p0 c.np (dy c.np)*(bD R.p1 c.np (dy c.np)*(bD R.p2 c.np (dy c.np)*F))))))
 exact U.of_eq (by ac_rfl)
theorem OY (hc:c.Ok):Spec Tryz.prog 18 [c.cfg.val] W F (fun z:Option Addr=> .tuple #[.pointer z,.int .i64 0]) (fun z=>cM z c (dI c)*F):=
 (OZ (W:=W) (F:=F) hc).mono fun z=>⟨z.1,rfl,V2 z.2⟩
end
section
open Go.RowKit
set_option maxRecDepth 10000
attribute [local irreducible] EK EX ER EN EL ES EG az ba bf
variable {W:World} {F G:SL} {X:Cx} {kk:List KI} {σ:Env} {c:NC}
abbrev dL (nn:Option Addr)(c:NC)(jp:Option Addr)(jn jc:Nat)(next:Int)(ev:aP)(evn wn:Nat)(d s t e:aP)(clock:Int):List Value:=[.pointer nn,.int .i64 (c.n:Int),.int .u32 (c.o:Int),.int .i64 (c.lo:Int),.int .i64 (c.hi:Int),.int .i64 (c.nb:Int),.int .i64 (c.r:Int),.slice jp jn jc,.int .i64 next,.slice ev.1 evn ev.2,.slice d.1 wn d.2,.slice s.1 wn s.2,.slice t.1 wn t.2,.slice e.1 wn e.2,.int .i64 clock]
theorem cM.nn {pn:Option Addr}{n:bm}{w:World}(h:Sat W w (cM pn c n*F)):pn≠none:=by
 obtain⟨R,h⟩:=h.iX
 rw[dh.eq]at h
 exact(Obj.root pn 100 (Es c R)).nn W w _ h
theorem Kz (cf:fS):Spec Tryz.prog 16 [cf.val] W F (fun _:Unit=>cf.val) (fun _=>F):=by
 refine Spec.of Tryz.func16 rfl Tryz.ntmps16 rfl ?_
 repeat first|refine aa ?_ |intro
 refine ae (kO (rv:= .cell 2 58) rfl ⟨_,rfl,bc.agg rfl⟩ () rfl (U.sat ?_))
 exact ad
def tN (n:Nat)(v:Int):List Value:=List.replicate n (.int .i64 v)
abbrev ew (wn:Nat)(d s t e:aP)(F:SL):SL:=ao 3 1 d.1 wn d.2 (tN wn (-1))*(ao 3 1 s.1 wn s.2 (tN wn 0)*(ao 3 1 t.1 wn t.2 (tN wn 0)*(ao 3 1 e.1 wn e.2 (tN wn 0)*F)))
abbrev tT:Bool:=true
abbrev fF:Bool:=false
abbrev WG:Type:=(aP×aP×aP×aP)×Option Addr×Option Addr×Option Addr×Option Addr
abbrev fM (b8 nn wo:Option Addr)(i:Nat):Env:=[(8,.pointer b8),(9,.pointer nn),(10,.int .i64 0),(11,.pointer wo),(12,.int .i64 (i:Int)),(42,.pointer wo),(43,.pointer wo),(44,.pointer wo),(45,.pointer wo)]
abbrev cP (q:Option Addr)(v:Int):SL:=ao 3 1 q 1 1 [.int .i64 v]
abbrev aT (z:aP)(n:Nat)(v:Int):SL:=ao 3 1 z.1 n z.2 (tN n v)
abbrev fL (b8 nn:Option Addr)(c:NC)(F:SL):SL:=Obj b8 34 [.int .i64 (c.n:Int),.int .u32 (c.o:Int),.int .i64 (c.lo:Int),.int .i64 (c.hi:Int),.int .i64 (c.nb:Int),.int .i64 (c.r:Int)]*(cM nn c (dI c)*F)
abbrev fK (wo nn:Option Addr)(c:NC)(p:Option Addr)(i j cap:Nat)(a1 a2 a3 a4:aP):SL:=Obj wo 39 [.pointer nn,.int .i64 (c.n:Int),.int .u32 (c.o:Int),.int .i64 (c.lo:Int),.int .i64 (c.hi:Int),.int .i64 (c.nb:Int),.int .i64 (c.r:Int),.slice p j cap,.int .i64 0,.slice none 0 0,.slice a1.1 i a1.2,.slice a2.1 i a2.2,.slice a3.1 i a3.2,.slice a4.1 i a4.2,.int .i64 0]
theorem wN {σ1 σ2:Env}(h:Env.within σ1 σ2:=by repeat(first|exact trivial|refine⟨rfl,?_⟩)):Env.within σ1 σ2:=h
set_option maxHeartbeats 4000000 in
theorem Cl (hc:c.Ok){x y z:Int}(hC:∀F,Spec Tryz.prog 17 [.int .i64 x,.int .i64 y,.int .i64 z] W F (fun _:Unit=>c.cfg.val) (fun _=>F)){p:Option Addr}{n cap j:Nat}{most:Int}(hj:min (n:Int) most=(j:Int))(wz:j≤n)[r:Room W F p n cap]:
  Spec Tryz.prog 5 [.agg #[.int .i64 x,.int .i64 y,.int .i64 z],.slice p n cap,.int .i64 most] W F (fun g:(Option Addr×Option Addr)×aP×aP×aP×aP=> .tuple #[.pointer g.1.1,.bool true])
   (fun g=>Obj g.1.1 39 (dL g.1.2 c p j cap 0 (none,0) 0 c.n g.2.1 g.2.2.1 g.2.2.2.1 g.2.2.2.2 0)*ew c.n g.2.1 g.2.2.1 g.2.2.2.1 g.2.2.2.2 (cM g.1.2 c (dI c)*F)):=by
 refine Spec.of Tryz.func5 rfl Tryz.ntmps5 rfl ?_
 repeat first|refine aa ?_ |intro
 refine ag rfl (hC _) ?_
 intro _
 repeat first|refine aa ?_ |intro
 rename_i b3 _ b8
 refine ag rfl (Kz c.cfg) ?_
 intro _
 repeat first|refine aa ?_ |intro
 refine ag rfl (OY hc) ?_
 intro nn
 repeat first|refine aa ?_ |intro
 refine A0 (φ:=nn≠none) (fun w hs=>cM.nn hs) (fun zC=> ?_)
 haveI:bo (min (n:Int) most) j:=⟨hj⟩
 refine aL 99 (Obj b8 34 [.int .i64 c.cfg.w,.int .u32 c.cfg.o,.int .i64 c.cfg.lo,.int .i64 c.cfg.hi,.int .i64 c.cfg.b,.int .i64 c.cfg.r]*F) rfl rfl rfl ?_
 repeat(first|refine aq ?_ |refine eD ?_)
 repeat(first|refine bQ ?_ |(refine bU ?_;intro)|refine bR ?_ |refine bS ?_ |refine bT ?_ |refine eD ?_)
 repeat first|refine aa ?_ |intro
 rename_i wo
 refine ff (γ:=Nat×aP×aP×aP×aP) (fun g=>g.1≤c.n) (fun g=>[(8,.pointer b8),(9,.pointer nn),(10,.int .i64 0),(11,.pointer wo),(12,.int .i64 (g.1:Int))])
  (fun g=>Obj wo 39 (dL nn c p j cap 0 (none,0) 0 g.1 g.2.1 g.2.2.1 g.2.2.2.1 g.2.2.2.2 0)*ew g.1 g.2.1 g.2.2.1 g.2.2.2.1 g.2.2.2.2 (Obj b8 34 [.int .i64 (c.n:Int),.int .u32 (c.o:Int),.int .i64 (c.lo:Int),.int .i64 (c.hi:Int),.int .i64 (c.nb:Int),.int .i64 (c.r:Int)]*(cM nn c (dI c)*F)))
  (fun g=>c.n-g.1) (0,(none,0),(none,0),(none,0),(none,0)) (Nat.zero_le _) ⟨rfl,rfl,rfl,rfl,rfl,trivial⟩ (U.sat (U.obj wo rfl (U.none (U.none (U.none (U.none (U.obj b8 rfl (ad)))))))) ?_
 intro ⟨i,a1,a2,a3,a4⟩ h1;dsimp only at h1 ⊢
 have To:=hc.n
 by_cases hi:i<c.n
 ·repeat first|refine aa ?_ |intro
  simp only[dL,ew]
  refine aL 30 (Obj wo 39 [.pointer nn,.int .i64 (c.n:Int),.int .u32 (c.o:Int),.int .i64 (c.lo:Int),.int .i64 (c.hi:Int),.int .i64 (c.nb:Int),.int .i64 (c.r:Int),.slice p j cap,.int .i64 0,.slice none 0 0,.slice a1.1 i a1.2,.slice a2.1 i a2.2,.slice a3.1 i a3.2,.slice a4.1 i a4.2,.int .i64 0]*1) rfl rfl rfl ?_
  --REGION7
  refine eX 0 rfl rfl rfl (gP rfl) (by decide+kernel) (ad) rfl ?_
  refine aY 0 rfl rfl rfl rfl (by decide+kernel) (ad) rfl ?_
  refine aY 0 rfl rfl rfl rfl (by decide+kernel) (ad) rfl ?_
  refine aY 0 rfl rfl rfl rfl (by decide+kernel) (ad) rfl ?_
  refine eX 0 rfl rfl rfl (gP rfl) (by decide+kernel) (ad) rfl ?_
  refine eX 0 rfl rfl rfl (iy rfl rfl) (by decide+kernel) (ad) rfl ?_
  refine eX 0 rfl rfl rfl (ix rfl rfl) (by decide+kernel) (ad) rfl ?_
  refine eX 0 rfl rfl rfl (qW rfl rfl rfl) (by decide+kernel) (ad) rfl ?_
  refine eX 2 rfl rfl rfl (gP rfl) (by decide+kernel) (ad) rfl ?_
  refine eX 2 rfl rfl rfl (iy rfl rfl) (by decide+kernel) (ad) rfl ?_
  refine eX 2 rfl rfl rfl (ix rfl rfl) (by decide+kernel) (ad) rfl ?_
  refine eX 2 rfl rfl rfl (qW rfl rfl rfl) (by decide+kernel) (ad) rfl ?_
  refine eX 4 rfl rfl rfl (gP rfl) (by decide+kernel) (ad) rfl ?_
  refine eX 4 rfl rfl rfl (iy rfl rfl) (by decide+kernel) (ad) rfl ?_
  refine eX 4 rfl rfl rfl (ix rfl rfl) (by decide+kernel) (ad) rfl ?_
  refine eX 4 rfl rfl rfl (qW rfl rfl rfl) (by decide+kernel) (ad) rfl ?_
  refine eX 6 rfl rfl rfl (gP rfl) (by decide+kernel) (ad) rfl ?_
  refine eX 6 rfl rfl rfl (iy rfl rfl) (by decide+kernel) (ad) rfl ?_
  refine eX 6 rfl rfl rfl (ix rfl rfl) (by decide+kernel) (ad) rfl ?_
  refine eX 6 rfl rfl rfl (qW rfl rfl rfl) (by decide+kernel) (ad) (ls:= #[tT,tT,tT,tT,tT,tT,tT,tT,fF,fF,tT,tT,tT,tT,fF,fF,tT,tT,tT,tT,fF,fF,tT,tT,tT,tT,fF,fF,fF,fF,fF,fF,fF,fF,fF,fF,fF,fF,fF,fF]) rfl ?_
  have eW:∀v,tN (i+1) v=tN i v++[.int .i64 v]:=fun v=>List.replicate_succ'
  refine fy (γ:=WG) (fuel':=12) (ls':= #[tT,tT,tT,tT,tT,tT,tT,tT,tT,tT,tT,tT,tT,tT,tT,tT,tT,tT,tT,tT,tT,tT,tT,tT,tT,tT,tT,tT,fF,fF,fF,fF,fF,fF,fF,fF,fF,fF,fF,fF]) (fun _=>True)
   (fun g=>(51,.slice g.1.1.1 (i+1) g.1.1.2)::(57,.slice g.1.2.1.1 (i+1) g.1.2.1.2)::(63,.slice g.1.2.2.1.1 (i+1) g.1.2.2.1.2)::(69,.slice g.1.2.2.2.1 (i+1) g.1.2.2.2.2)::fM b8 nn wo i)
   (fun g=>fK wo nn c p i j cap a1 a2 a3 a4*(aT (g.1.1) (i+1) (-1)*(aT (g.1.2.1) (i+1) 0*(aT (g.1.2.2.1) (i+1) 0*(aT (g.1.2.2.2) (i+1) 0*fL b8 nn c F))))) ?_ (fun K4=> ?_)
  ·intro ⟨⟨z1,z2,z3,z4⟩,b1,b2,b3,b4⟩ _
   dsimp only
   refine eX 0 rfl rfl rfl (iy rfl rfl) (by decide+kernel) (ad) rfl ?_
   refine eX 0 rfl rfl rfl (ix rfl rfl) (by decide+kernel) (ad) rfl ?_
   (refine my rfl (di rfl rfl rfl rfl rfl rfl) (by decide+kernel) rfl ?_);repeat(first|refine gu rfl rfl rfl (iy rfl rfl) (by decide+kernel) (by decide+kernel) rfl ?_ |refine gu rfl rfl rfl (ix rfl rfl) (by decide+kernel) (by decide+kernel) rfl ?_ |refine mz rfl rfl (di rfl rfl rfl rfl rfl rfl) (by decide+kernel) (by decide+kernel) rfl ?_ |refine eD ?_)
   repeat first|refine aa ?_ |intro
   refine cT (i+1,z1,z2,z3,z4) (Nat.succ_le_of_lt hi) (by dsimp only;omega) ⟨rfl,rfl,rfl,rfl,rfl,trivial⟩ (U.sat ?_)
   dsimp only
   exact ad
  refine fy (γ:=WG) (fuel':=13) (ls':= #[tT,tT,tT,tT,tT,tT,tT,tT,tT,tT,tT,tT,tT,tT,tT,tT,tT,tT,tT,tT,tT,tT,tT,tT,tT,tT,tT,fF,fF,fF,fF,fF,fF,fF,fF,fF,fF,fF,fF,fF]) (fun _=>True)
   (fun g=>(51,.slice g.1.1.1 (i+1) g.1.1.2)::(57,.slice g.1.2.1.1 (i+1) g.1.2.1.2)::(63,.slice g.1.2.2.1.1 (i+1) g.1.2.2.1.2)::(67,.slice a4.1 i a4.2)::(68,.slice g.2.2.2.2 1 1)::fM b8 nn wo i)
   (fun g=>fK wo nn c p i j cap a1 a2 a3 a4*(cP (g.2.2.2.2) 0*(aT (g.1.1) (i+1) (-1)*(aT (g.1.2.1) (i+1) 0*(aT (g.1.2.2.1) (i+1) 0*(aT a4 i 0*fL b8 nn c F)))))) ?_ (fun Gq=> ?_)
  ·intro ⟨⟨z1,z2,z3,z4⟩,b1,b2,b3,b4⟩ _
   dsimp only
   refine fA (i:=27) (l:=[]) ⟨?_,trivial⟩
   ·exact b9 rfl rfl rfl (j6 rfl rfl rfl (by omega) (by decide)) rfl (fun _=>ad) (fun x=>b7 (K4 ⟨⟨z1,z2,z3,x⟩,b1,b2,b3,b4⟩ trivial) wN (by dsimp only;simp only[aT,eW];exact ad))
  refine fy (γ:=WG) (fuel':=14) (ls':= #[tT,tT,tT,tT,tT,tT,tT,tT,tT,tT,tT,tT,tT,tT,tT,tT,tT,tT,tT,tT,tT,tT,tT,tT,tT,tT,fF,fF,fF,fF,fF,fF,fF,fF,fF,fF,fF,fF,fF,fF]) (fun _=>True)
   (fun g=>(51,.slice g.1.1.1 (i+1) g.1.1.2)::(57,.slice g.1.2.1.1 (i+1) g.1.2.1.2)::(63,.slice g.1.2.2.1.1 (i+1) g.1.2.2.1.2)::(67,.slice a4.1 i a4.2)::fM b8 nn wo i)
   (fun g=>fK wo nn c p i j cap a1 a2 a3 a4*(aT (g.1.1) (i+1) (-1)*(aT (g.1.2.1) (i+1) 0*(aT (g.1.2.2.1) (i+1) 0*(aT a4 i 0*fL b8 nn c F))))) ?_ (fun K3=> ?_)
  ·intro ⟨⟨z1,z2,z3,z4⟩,b1,b2,b3,b4⟩ _
   dsimp only
   refine fA (i:=26) (l:=[]) ⟨?_,trivial⟩
   ·exact b9 rfl rfl rfl (cG rfl rfl rfl (by decide) (by decide)) rfl (fun _=>ad) (fun x=>b7 (Gq ⟨⟨z1,z2,z3,z4⟩,b1,b2,b3,x⟩ trivial) wN (ad))
  refine fy (γ:=WG) (fuel':=14) (ls':= #[tT,tT,tT,tT,tT,tT,tT,tT,tT,tT,tT,tT,tT,tT,tT,tT,tT,tT,tT,tT,tT,fF,tT,tT,tT,tT,tT,fF,fF,fF,fF,fF,fF,fF,fF,fF,fF,fF,fF,fF]) (fun _=>True)
   (fun g=>(51,.slice g.1.1.1 (i+1) g.1.1.2)::(57,.slice g.1.2.1.1 (i+1) g.1.2.1.2)::(61,.slice a3.1 i a3.2)::(67,.slice a4.1 i a4.2)::(62,.slice g.2.2.2.1 1 1)::(68,.slice g.2.2.2.2 1 1)::fM b8 nn wo i)
   (fun g=>fK wo nn c p i j cap a1 a2 a3 a4*(cP (g.2.2.2.1) 0*(cP (g.2.2.2.2) 0*(aT (g.1.1) (i+1) (-1)*(aT (g.1.2.1) (i+1) 0*(aT a3 i 0*(aT a4 i 0*fL b8 nn c F))))))) ?_ (fun Bg=> ?_)
  ·intro ⟨⟨z1,z2,z3,z4⟩,b1,b2,b3,b4⟩ _
   dsimp only
   refine fA (i:=21) (l:=[]) ⟨?_,trivial⟩
   ·exact b9 rfl rfl rfl (j6 rfl rfl rfl (by omega) (by decide)) rfl (fun _=>ad) (fun x=>b7 (Gq ⟨⟨z1,z2,x,z4⟩,b1,b2,b3,b4⟩ trivial) wN (by dsimp only;simp only[aT,eW];exact ad))
  refine fy (γ:=WG) (fuel':=15) (ls':= #[tT,tT,tT,tT,tT,tT,tT,tT,tT,tT,tT,tT,tT,tT,tT,tT,tT,tT,tT,tT,tT,fF,tT,tT,tT,tT,fF,fF,fF,fF,fF,fF,fF,fF,fF,fF,fF,fF,fF,fF]) (fun _=>True)
   (fun g=>(51,.slice g.1.1.1 (i+1) g.1.1.2)::(57,.slice g.1.2.1.1 (i+1) g.1.2.1.2)::(61,.slice a3.1 i a3.2)::(67,.slice a4.1 i a4.2)::(62,.slice g.2.2.2.1 1 1)::fM b8 nn wo i)
   (fun g=>fK wo nn c p i j cap a1 a2 a3 a4*(cP (g.2.2.2.1) 0*(aT (g.1.1) (i+1) (-1)*(aT (g.1.2.1) (i+1) 0*(aT a3 i 0*(aT a4 i 0*fL b8 nn c F)))))) ?_ (fun Gn=> ?_)
  ·intro ⟨⟨z1,z2,z3,z4⟩,b1,b2,b3,b4⟩ _
   dsimp only
   refine fA (i:=21) (l:=[26]) ⟨?_,?_,trivial⟩
   ·exact b9 rfl rfl rfl (j6 rfl rfl rfl (by omega) (by decide)) rfl (fun _=>ad) (fun x=>b7 (K3 ⟨⟨z1,z2,x,z4⟩,b1,b2,b3,b4⟩ trivial) wN (by dsimp only;simp only[aT,eW];exact ad))
   ·exact b9 rfl rfl rfl (cG rfl rfl rfl (by decide) (by decide)) rfl (fun _=>ad) (fun x=>b7 (Bg ⟨⟨z1,z2,z3,z4⟩,b1,b2,b3,x⟩ trivial) wN (ad))
  refine fy (γ:=WG) (fuel':=15) (ls':= #[tT,tT,tT,tT,tT,tT,tT,tT,tT,tT,tT,tT,tT,tT,tT,tT,tT,tT,tT,tT,fF,fF,tT,tT,tT,tT,tT,fF,fF,fF,fF,fF,fF,fF,fF,fF,fF,fF,fF,fF]) (fun _=>True)
   (fun g=>(51,.slice g.1.1.1 (i+1) g.1.1.2)::(57,.slice g.1.2.1.1 (i+1) g.1.2.1.2)::(61,.slice a3.1 i a3.2)::(67,.slice a4.1 i a4.2)::(68,.slice g.2.2.2.2 1 1)::fM b8 nn wo i)
   (fun g=>fK wo nn c p i j cap a1 a2 a3 a4*(cP (g.2.2.2.2) 0*(aT (g.1.1) (i+1) (-1)*(aT (g.1.2.1) (i+1) 0*(aT a3 i 0*(aT a4 i 0*fL b8 nn c F)))))) ?_ (fun Gp=> ?_)
  ·intro ⟨⟨z1,z2,z3,z4⟩,b1,b2,b3,b4⟩ _
   dsimp only
   refine fA (i:=20) (l:=[]) ⟨?_,trivial⟩
   ·exact b9 rfl rfl rfl (cG rfl rfl rfl (by decide) (by decide)) rfl (fun _=>ad) (fun x=>b7 (Bg ⟨⟨z1,z2,z3,z4⟩,b1,b2,x,b4⟩ trivial) wN (ad))
  refine fy (γ:=WG) (fuel':=16) (ls':= #[tT,tT,tT,tT,tT,tT,tT,tT,tT,tT,tT,tT,tT,tT,tT,tT,tT,tT,tT,tT,fF,fF,tT,tT,tT,tT,fF,fF,fF,fF,fF,fF,fF,fF,fF,fF,fF,fF,fF,fF]) (fun _=>True)
   (fun g=>(51,.slice g.1.1.1 (i+1) g.1.1.2)::(57,.slice g.1.2.1.1 (i+1) g.1.2.1.2)::(61,.slice a3.1 i a3.2)::(67,.slice a4.1 i a4.2)::fM b8 nn wo i)
   (fun g=>fK wo nn c p i j cap a1 a2 a3 a4*(aT (g.1.1) (i+1) (-1)*(aT (g.1.2.1) (i+1) 0*(aT a3 i 0*(aT a4 i 0*fL b8 nn c F))))) ?_ (fun K2=> ?_)
  ·intro ⟨⟨z1,z2,z3,z4⟩,b1,b2,b3,b4⟩ _
   dsimp only
   refine fA (i:=20) (l:=[26]) ⟨?_,?_,trivial⟩
   ·exact b9 rfl rfl rfl (cG rfl rfl rfl (by decide) (by decide)) rfl (fun _=>ad) (fun x=>b7 (Gn ⟨⟨z1,z2,z3,z4⟩,b1,b2,x,b4⟩ trivial) wN (ad))
   ·exact b9 rfl rfl rfl (cG rfl rfl rfl (by decide) (by decide)) rfl (fun _=>ad) (fun x=>b7 (Gp ⟨⟨z1,z2,z3,z4⟩,b1,b2,b3,x⟩ trivial) wN (ad))
  refine fy (γ:=WG) (fuel':=15) (ls':= #[tT,tT,tT,tT,tT,tT,tT,tT,tT,tT,tT,tT,tT,tT,tT,fF,tT,tT,tT,tT,tT,fF,tT,tT,tT,tT,tT,fF,fF,fF,fF,fF,fF,fF,fF,fF,fF,fF,fF,fF]) (fun _=>True)
   (fun g=>(51,.slice g.1.1.1 (i+1) g.1.1.2)::(55,.slice a2.1 i a2.2)::(61,.slice a3.1 i a3.2)::(67,.slice a4.1 i a4.2)::(56,.slice g.2.2.1 1 1)::(62,.slice g.2.2.2.1 1 1)::(68,.slice g.2.2.2.2 1 1)::fM b8 nn wo i)
   (fun g=>fK wo nn c p i j cap a1 a2 a3 a4*(cP (g.2.2.1) 0*(cP (g.2.2.2.1) 0*(cP (g.2.2.2.2) 0*(aT (g.1.1) (i+1) (-1)*(aT a2 i 0*(aT a3 i 0*(aT a4 i 0*fL b8 nn c F)))))))) ?_ (fun yp=> ?_)
  ·intro ⟨⟨z1,z2,z3,z4⟩,b1,b2,b3,b4⟩ _
   dsimp only
   refine fA (i:=15) (l:=[]) ⟨?_,trivial⟩
   ·exact b9 rfl rfl rfl (j6 rfl rfl rfl (by omega) (by decide)) rfl (fun _=>ad) (fun x=>b7 (Bg ⟨⟨z1,x,z3,z4⟩,b1,b2,b3,b4⟩ trivial) wN (by dsimp only;simp only[aT,eW];exact ad))
  refine fy (γ:=WG) (fuel':=16) (ls':= #[tT,tT,tT,tT,tT,tT,tT,tT,tT,tT,tT,tT,tT,tT,tT,fF,tT,tT,tT,tT,tT,fF,tT,tT,tT,tT,fF,fF,fF,fF,fF,fF,fF,fF,fF,fF,fF,fF,fF,fF]) (fun _=>True)
   (fun g=>(51,.slice g.1.1.1 (i+1) g.1.1.2)::(55,.slice a2.1 i a2.2)::(61,.slice a3.1 i a3.2)::(67,.slice a4.1 i a4.2)::(56,.slice g.2.2.1 1 1)::(62,.slice g.2.2.2.1 1 1)::fM b8 nn wo i)
   (fun g=>fK wo nn c p i j cap a1 a2 a3 a4*(cP (g.2.2.1) 0*(cP (g.2.2.2.1) 0*(aT (g.1.1) (i+1) (-1)*(aT a2 i 0*(aT a3 i 0*(aT a4 i 0*fL b8 nn c F))))))) ?_ (fun Bd=> ?_)
  ·intro ⟨⟨z1,z2,z3,z4⟩,b1,b2,b3,b4⟩ _
   dsimp only
   refine fA (i:=15) (l:=[26]) ⟨?_,?_,trivial⟩
   ·exact b9 rfl rfl rfl (j6 rfl rfl rfl (by omega) (by decide)) rfl (fun _=>ad) (fun x=>b7 (Gn ⟨⟨z1,x,z3,z4⟩,b1,b2,b3,b4⟩ trivial) wN (by dsimp only;simp only[aT,eW];exact ad))
   ·exact b9 rfl rfl rfl (cG rfl rfl rfl (by decide) (by decide)) rfl (fun _=>ad) (fun x=>b7 (yp ⟨⟨z1,z2,z3,z4⟩,b1,b2,b3,x⟩ trivial) wN (ad))
  refine fy (γ:=WG) (fuel':=16) (ls':= #[tT,tT,tT,tT,tT,tT,tT,tT,tT,tT,tT,tT,tT,tT,tT,fF,tT,tT,tT,tT,fF,fF,tT,tT,tT,tT,tT,fF,fF,fF,fF,fF,fF,fF,fF,fF,fF,fF,fF,fF]) (fun _=>True)
   (fun g=>(51,.slice g.1.1.1 (i+1) g.1.1.2)::(55,.slice a2.1 i a2.2)::(61,.slice a3.1 i a3.2)::(67,.slice a4.1 i a4.2)::(56,.slice g.2.2.1 1 1)::(68,.slice g.2.2.2.2 1 1)::fM b8 nn wo i)
   (fun g=>fK wo nn c p i j cap a1 a2 a3 a4*(cP (g.2.2.1) 0*(cP (g.2.2.2.2) 0*(aT (g.1.1) (i+1) (-1)*(aT a2 i 0*(aT a3 i 0*(aT a4 i 0*fL b8 nn c F))))))) ?_ (fun Be=> ?_)
  ·intro ⟨⟨z1,z2,z3,z4⟩,b1,b2,b3,b4⟩ _
   dsimp only
   refine fA (i:=15) (l:=[20]) ⟨?_,?_,trivial⟩
   ·exact b9 rfl rfl rfl (j6 rfl rfl rfl (by omega) (by decide)) rfl (fun _=>ad) (fun x=>b7 (Gp ⟨⟨z1,x,z3,z4⟩,b1,b2,b3,b4⟩ trivial) wN (by dsimp only;simp only[aT,eW];exact ad))
   ·exact b9 rfl rfl rfl (cG rfl rfl rfl (by decide) (by decide)) rfl (fun _=>ad) (fun x=>b7 (yp ⟨⟨z1,z2,z3,z4⟩,b1,b2,x,b4⟩ trivial) wN (ad))
  refine fy (γ:=WG) (fuel':=16) (ls':= #[tT,tT,tT,tT,tT,tT,tT,tT,tT,tT,tT,tT,tT,tT,fF,fF,tT,tT,tT,tT,tT,fF,tT,tT,tT,tT,tT,fF,fF,fF,fF,fF,fF,fF,fF,fF,fF,fF,fF,fF]) (fun _=>True)
   (fun g=>(51,.slice g.1.1.1 (i+1) g.1.1.2)::(55,.slice a2.1 i a2.2)::(61,.slice a3.1 i a3.2)::(67,.slice a4.1 i a4.2)::(62,.slice g.2.2.2.1 1 1)::(68,.slice g.2.2.2.2 1 1)::fM b8 nn wo i)
   (fun g=>fK wo nn c p i j cap a1 a2 a3 a4*(cP (g.2.2.2.1) 0*(cP (g.2.2.2.2) 0*(aT (g.1.1) (i+1) (-1)*(aT a2 i 0*(aT a3 i 0*(aT a4 i 0*fL b8 nn c F))))))) ?_ (fun Bf=> ?_)
  ·intro ⟨⟨z1,z2,z3,z4⟩,b1,b2,b3,b4⟩ _
   dsimp only
   refine fA (i:=14) (l:=[]) ⟨?_,trivial⟩
   ·exact b9 rfl rfl rfl (cG rfl rfl rfl (by decide) (by decide)) rfl (fun _=>ad) (fun x=>b7 (yp ⟨⟨z1,z2,z3,z4⟩,b1,x,b3,b4⟩ trivial) wN (ad))
  refine fy (γ:=WG) (fuel':=17) (ls':= #[tT,tT,tT,tT,tT,tT,tT,tT,tT,tT,tT,tT,tT,tT,tT,fF,tT,tT,tT,tT,fF,fF,tT,tT,tT,tT,fF,fF,fF,fF,fF,fF,fF,fF,fF,fF,fF,fF,fF,fF]) (fun _=>True)
   (fun g=>(51,.slice g.1.1.1 (i+1) g.1.1.2)::(55,.slice a2.1 i a2.2)::(61,.slice a3.1 i a3.2)::(67,.slice a4.1 i a4.2)::(56,.slice g.2.2.1 1 1)::fM b8 nn wo i)
   (fun g=>fK wo nn c p i j cap a1 a2 a3 a4*(cP (g.2.2.1) 0*(aT (g.1.1) (i+1) (-1)*(aT a2 i 0*(aT a3 i 0*(aT a4 i 0*fL b8 nn c F)))))) ?_ (fun Gk=> ?_)
  ·intro ⟨⟨z1,z2,z3,z4⟩,b1,b2,b3,b4⟩ _
   dsimp only
   refine fA (i:=15) (l:=[20,26]) ⟨?_,?_,?_,trivial⟩
   ·exact b9 rfl rfl rfl (j6 rfl rfl rfl (by omega) (by decide)) rfl (fun _=>ad) (fun x=>b7 (K2 ⟨⟨z1,x,z3,z4⟩,b1,b2,b3,b4⟩ trivial) wN (by dsimp only;simp only[aT,eW];exact ad))
   ·exact b9 rfl rfl rfl (cG rfl rfl rfl (by decide) (by decide)) rfl (fun _=>ad) (fun x=>b7 (Bd ⟨⟨z1,z2,z3,z4⟩,b1,b2,x,b4⟩ trivial) wN (ad))
   ·exact b9 rfl rfl rfl (cG rfl rfl rfl (by decide) (by decide)) rfl (fun _=>ad) (fun x=>b7 (Be ⟨⟨z1,z2,z3,z4⟩,b1,b2,b3,x⟩ trivial) wN (ad))
  refine fy (γ:=WG) (fuel':=17) (ls':= #[tT,tT,tT,tT,tT,tT,tT,tT,tT,tT,tT,tT,tT,tT,fF,fF,tT,tT,tT,tT,tT,fF,tT,tT,tT,tT,fF,fF,fF,fF,fF,fF,fF,fF,fF,fF,fF,fF,fF,fF]) (fun _=>True)
   (fun g=>(51,.slice g.1.1.1 (i+1) g.1.1.2)::(55,.slice a2.1 i a2.2)::(61,.slice a3.1 i a3.2)::(67,.slice a4.1 i a4.2)::(62,.slice g.2.2.2.1 1 1)::fM b8 nn wo i)
   (fun g=>fK wo nn c p i j cap a1 a2 a3 a4*(cP (g.2.2.2.1) 0*(aT (g.1.1) (i+1) (-1)*(aT a2 i 0*(aT a3 i 0*(aT a4 i 0*fL b8 nn c F)))))) ?_ (fun Gl=> ?_)
  ·intro ⟨⟨z1,z2,z3,z4⟩,b1,b2,b3,b4⟩ _
   dsimp only
   refine fA (i:=14) (l:=[26]) ⟨?_,?_,trivial⟩
   ·exact b9 rfl rfl rfl (cG rfl rfl rfl (by decide) (by decide)) rfl (fun _=>ad) (fun x=>b7 (Bd ⟨⟨z1,z2,z3,z4⟩,b1,x,b3,b4⟩ trivial) wN (ad))
   ·exact b9 rfl rfl rfl (cG rfl rfl rfl (by decide) (by decide)) rfl (fun _=>ad) (fun x=>b7 (Bf ⟨⟨z1,z2,z3,z4⟩,b1,b2,b3,x⟩ trivial) wN (ad))
  refine fy (γ:=WG) (fuel':=17) (ls':= #[tT,tT,tT,tT,tT,tT,tT,tT,tT,tT,tT,tT,tT,tT,fF,fF,tT,tT,tT,tT,fF,fF,tT,tT,tT,tT,tT,fF,fF,fF,fF,fF,fF,fF,fF,fF,fF,fF,fF,fF]) (fun _=>True)
   (fun g=>(51,.slice g.1.1.1 (i+1) g.1.1.2)::(55,.slice a2.1 i a2.2)::(61,.slice a3.1 i a3.2)::(67,.slice a4.1 i a4.2)::(68,.slice g.2.2.2.2 1 1)::fM b8 nn wo i)
   (fun g=>fK wo nn c p i j cap a1 a2 a3 a4*(cP (g.2.2.2.2) 0*(aT (g.1.1) (i+1) (-1)*(aT a2 i 0*(aT a3 i 0*(aT a4 i 0*fL b8 nn c F)))))) ?_ (fun Gm=> ?_)
  ·intro ⟨⟨z1,z2,z3,z4⟩,b1,b2,b3,b4⟩ _
   dsimp only
   refine fA (i:=14) (l:=[20]) ⟨?_,?_,trivial⟩
   ·exact b9 rfl rfl rfl (cG rfl rfl rfl (by decide) (by decide)) rfl (fun _=>ad) (fun x=>b7 (Be ⟨⟨z1,z2,z3,z4⟩,b1,x,b3,b4⟩ trivial) wN (ad))
   ·exact b9 rfl rfl rfl (cG rfl rfl rfl (by decide) (by decide)) rfl (fun _=>ad) (fun x=>b7 (Bf ⟨⟨z1,z2,z3,z4⟩,b1,b2,x,b4⟩ trivial) wN (ad))
  refine fy (γ:=WG) (fuel':=18) (ls':= #[tT,tT,tT,tT,tT,tT,tT,tT,tT,tT,tT,tT,tT,tT,fF,fF,tT,tT,tT,tT,fF,fF,tT,tT,tT,tT,fF,fF,fF,fF,fF,fF,fF,fF,fF,fF,fF,fF,fF,fF]) (fun _=>True)
   (fun g=>(51,.slice g.1.1.1 (i+1) g.1.1.2)::(55,.slice a2.1 i a2.2)::(61,.slice a3.1 i a3.2)::(67,.slice a4.1 i a4.2)::fM b8 nn wo i)
   (fun g=>fK wo nn c p i j cap a1 a2 a3 a4*(aT (g.1.1) (i+1) (-1)*(aT a2 i 0*(aT a3 i 0*(aT a4 i 0*fL b8 nn c F))))) ?_ (fun K1=> ?_)
  ·intro ⟨⟨z1,z2,z3,z4⟩,b1,b2,b3,b4⟩ _
   dsimp only
   refine fA (i:=14) (l:=[20,26]) ⟨?_,?_,?_,trivial⟩
   ·exact b9 rfl rfl rfl (cG rfl rfl rfl (by decide) (by decide)) rfl (fun _=>ad) (fun x=>b7 (Gk ⟨⟨z1,z2,z3,z4⟩,b1,x,b3,b4⟩ trivial) wN (ad))
   ·exact b9 rfl rfl rfl (cG rfl rfl rfl (by decide) (by decide)) rfl (fun _=>ad) (fun x=>b7 (Gl ⟨⟨z1,z2,z3,z4⟩,b1,b2,x,b4⟩ trivial) wN (ad))
   ·exact b9 rfl rfl rfl (cG rfl rfl rfl (by decide) (by decide)) rfl (fun _=>ad) (fun x=>b7 (Gm ⟨⟨z1,z2,z3,z4⟩,b1,b2,b3,x⟩ trivial) wN (ad))
  refine fy (γ:=WG) (fuel':=16) (ls':= #[tT,tT,tT,tT,tT,tT,tT,tT,tT,fF,tT,tT,tT,tT,tT,fF,tT,tT,tT,tT,tT,fF,tT,tT,tT,tT,tT,fF,fF,fF,fF,fF,fF,fF,fF,fF,fF,fF,fF,fF]) (fun _=>True)
   (fun g=>(49,.slice a1.1 i a1.2)::(55,.slice a2.1 i a2.2)::(61,.slice a3.1 i a3.2)::(67,.slice a4.1 i a4.2)::(50,.slice g.2.1 1 1)::(56,.slice g.2.2.1 1 1)::(62,.slice g.2.2.2.1 1 1)::(68,.slice g.2.2.2.2 1 1)::fM b8 nn wo i)
   (fun g=>fK wo nn c p i j cap a1 a2 a3 a4*(cP (g.2.1) (-1)*(cP (g.2.2.1) 0*(cP (g.2.2.2.1) 0*(cP (g.2.2.2.2) 0*(aT a1 i (-1)*(aT a2 i 0*(aT a3 i 0*(aT a4 i 0*fL b8 nn c F))))))))) ?_ (fun yo=> ?_)
  ·intro ⟨⟨z1,z2,z3,z4⟩,b1,b2,b3,b4⟩ _
   dsimp only
   refine fA (i:=9) (l:=[]) ⟨?_,trivial⟩
   ·exact b9 rfl rfl rfl (j6 rfl rfl rfl (by omega) (by decide)) rfl (fun _=>ad) (fun x=>b7 (yp ⟨⟨x,z2,z3,z4⟩,b1,b2,b3,b4⟩ trivial) wN (by dsimp only;simp only[aT,eW];exact ad))
  refine fy (γ:=WG) (fuel':=17) (ls':= #[tT,tT,tT,tT,tT,tT,tT,tT,tT,fF,tT,tT,tT,tT,tT,fF,tT,tT,tT,tT,tT,fF,tT,tT,tT,tT,fF,fF,fF,fF,fF,fF,fF,fF,fF,fF,fF,fF,fF,fF]) (fun _=>True)
   (fun g=>(49,.slice a1.1 i a1.2)::(55,.slice a2.1 i a2.2)::(61,.slice a3.1 i a3.2)::(67,.slice a4.1 i a4.2)::(50,.slice g.2.1 1 1)::(56,.slice g.2.2.1 1 1)::(62,.slice g.2.2.2.1 1 1)::fM b8 nn wo i)
   (fun g=>fK wo nn c p i j cap a1 a2 a3 a4*(cP (g.2.1) (-1)*(cP (g.2.2.1) 0*(cP (g.2.2.2.1) 0*(aT a1 i (-1)*(aT a2 i 0*(aT a3 i 0*(aT a4 i 0*fL b8 nn c F)))))))) ?_ (fun A9=> ?_)
  ·intro ⟨⟨z1,z2,z3,z4⟩,b1,b2,b3,b4⟩ _
   dsimp only
   refine fA (i:=9) (l:=[26]) ⟨?_,?_,trivial⟩
   ·exact b9 rfl rfl rfl (j6 rfl rfl rfl (by omega) (by decide)) rfl (fun _=>ad) (fun x=>b7 (Bd ⟨⟨x,z2,z3,z4⟩,b1,b2,b3,b4⟩ trivial) wN (by dsimp only;simp only[aT,eW];exact ad))
   ·exact b9 rfl rfl rfl (cG rfl rfl rfl (by decide) (by decide)) rfl (fun _=>ad) (fun x=>b7 (yo ⟨⟨z1,z2,z3,z4⟩,b1,b2,b3,x⟩ trivial) wN (ad))
  refine fy (γ:=WG) (fuel':=17) (ls':= #[tT,tT,tT,tT,tT,tT,tT,tT,tT,fF,tT,tT,tT,tT,tT,fF,tT,tT,tT,tT,fF,fF,tT,tT,tT,tT,tT,fF,fF,fF,fF,fF,fF,fF,fF,fF,fF,fF,fF,fF]) (fun _=>True)
   (fun g=>(49,.slice a1.1 i a1.2)::(55,.slice a2.1 i a2.2)::(61,.slice a3.1 i a3.2)::(67,.slice a4.1 i a4.2)::(50,.slice g.2.1 1 1)::(56,.slice g.2.2.1 1 1)::(68,.slice g.2.2.2.2 1 1)::fM b8 nn wo i)
   (fun g=>fK wo nn c p i j cap a1 a2 a3 a4*(cP (g.2.1) (-1)*(cP (g.2.2.1) 0*(cP (g.2.2.2.2) 0*(aT a1 i (-1)*(aT a2 i 0*(aT a3 i 0*(aT a4 i 0*fL b8 nn c F)))))))) ?_ (fun Ba=> ?_)
  ·intro ⟨⟨z1,z2,z3,z4⟩,b1,b2,b3,b4⟩ _
   dsimp only
   refine fA (i:=9) (l:=[20]) ⟨?_,?_,trivial⟩
   ·exact b9 rfl rfl rfl (j6 rfl rfl rfl (by omega) (by decide)) rfl (fun _=>ad) (fun x=>b7 (Be ⟨⟨x,z2,z3,z4⟩,b1,b2,b3,b4⟩ trivial) wN (by dsimp only;simp only[aT,eW];exact ad))
   ·exact b9 rfl rfl rfl (cG rfl rfl rfl (by decide) (by decide)) rfl (fun _=>ad) (fun x=>b7 (yo ⟨⟨z1,z2,z3,z4⟩,b1,b2,x,b4⟩ trivial) wN (ad))
  refine fy (γ:=WG) (fuel':=17) (ls':= #[tT,tT,tT,tT,tT,tT,tT,tT,tT,fF,tT,tT,tT,tT,fF,fF,tT,tT,tT,tT,tT,fF,tT,tT,tT,tT,tT,fF,fF,fF,fF,fF,fF,fF,fF,fF,fF,fF,fF,fF]) (fun _=>True)
   (fun g=>(49,.slice a1.1 i a1.2)::(55,.slice a2.1 i a2.2)::(61,.slice a3.1 i a3.2)::(67,.slice a4.1 i a4.2)::(50,.slice g.2.1 1 1)::(62,.slice g.2.2.2.1 1 1)::(68,.slice g.2.2.2.2 1 1)::fM b8 nn wo i)
   (fun g=>fK wo nn c p i j cap a1 a2 a3 a4*(cP (g.2.1) (-1)*(cP (g.2.2.2.1) 0*(cP (g.2.2.2.2) 0*(aT a1 i (-1)*(aT a2 i 0*(aT a3 i 0*(aT a4 i 0*fL b8 nn c F)))))))) ?_ (fun Bb=> ?_)
  ·intro ⟨⟨z1,z2,z3,z4⟩,b1,b2,b3,b4⟩ _
   dsimp only
   refine fA (i:=9) (l:=[14]) ⟨?_,?_,trivial⟩
   ·exact b9 rfl rfl rfl (j6 rfl rfl rfl (by omega) (by decide)) rfl (fun _=>ad) (fun x=>b7 (Bf ⟨⟨x,z2,z3,z4⟩,b1,b2,b3,b4⟩ trivial) wN (by dsimp only;simp only[aT,eW];exact ad))
   ·exact b9 rfl rfl rfl (cG rfl rfl rfl (by decide) (by decide)) rfl (fun _=>ad) (fun x=>b7 (yo ⟨⟨z1,z2,z3,z4⟩,b1,x,b3,b4⟩ trivial) wN (ad))
  refine fy (γ:=WG) (fuel':=17) (ls':= #[tT,tT,tT,tT,tT,tT,tT,tT,fF,fF,tT,tT,tT,tT,tT,fF,tT,tT,tT,tT,tT,fF,tT,tT,tT,tT,tT,fF,fF,fF,fF,fF,fF,fF,fF,fF,fF,fF,fF,fF]) (fun _=>True)
   (fun g=>(49,.slice a1.1 i a1.2)::(55,.slice a2.1 i a2.2)::(61,.slice a3.1 i a3.2)::(67,.slice a4.1 i a4.2)::(56,.slice g.2.2.1 1 1)::(62,.slice g.2.2.2.1 1 1)::(68,.slice g.2.2.2.2 1 1)::fM b8 nn wo i)
   (fun g=>fK wo nn c p i j cap a1 a2 a3 a4*(cP (g.2.2.1) 0*(cP (g.2.2.2.1) 0*(cP (g.2.2.2.2) 0*(aT a1 i (-1)*(aT a2 i 0*(aT a3 i 0*(aT a4 i 0*fL b8 nn c F)))))))) ?_ (fun Bc=> ?_)
  ·intro ⟨⟨z1,z2,z3,z4⟩,b1,b2,b3,b4⟩ _
   dsimp only
   refine fA (i:=8) (l:=[]) ⟨?_,trivial⟩
   ·exact b9 rfl rfl rfl (cG rfl rfl rfl (by decide) (by decide)) rfl (fun _=>ad) (fun x=>b7 (yo ⟨⟨z1,z2,z3,z4⟩,x,b2,b3,b4⟩ trivial) wN (ad))
  refine fy (γ:=WG) (fuel':=18) (ls':= #[tT,tT,tT,tT,tT,tT,tT,tT,tT,fF,tT,tT,tT,tT,tT,fF,tT,tT,tT,tT,fF,fF,tT,tT,tT,tT,fF,fF,fF,fF,fF,fF,fF,fF,fF,fF,fF,fF,fF,fF]) (fun _=>True)
   (fun g=>(49,.slice a1.1 i a1.2)::(55,.slice a2.1 i a2.2)::(61,.slice a3.1 i a3.2)::(67,.slice a4.1 i a4.2)::(50,.slice g.2.1 1 1)::(56,.slice g.2.2.1 1 1)::fM b8 nn wo i)
   (fun g=>fK wo nn c p i j cap a1 a2 a3 a4*(cP (g.2.1) (-1)*(cP (g.2.2.1) 0*(aT a1 i (-1)*(aT a2 i 0*(aT a3 i 0*(aT a4 i 0*fL b8 nn c F))))))) ?_ (fun Gd=> ?_)
  ·intro ⟨⟨z1,z2,z3,z4⟩,b1,b2,b3,b4⟩ _
   dsimp only
   refine fA (i:=9) (l:=[20,26]) ⟨?_,?_,?_,trivial⟩
   ·exact b9 rfl rfl rfl (j6 rfl rfl rfl (by omega) (by decide)) rfl (fun _=>ad) (fun x=>b7 (Gk ⟨⟨x,z2,z3,z4⟩,b1,b2,b3,b4⟩ trivial) wN (by dsimp only;simp only[aT,eW];exact ad))
   ·exact b9 rfl rfl rfl (cG rfl rfl rfl (by decide) (by decide)) rfl (fun _=>ad) (fun x=>b7 (A9 ⟨⟨z1,z2,z3,z4⟩,b1,b2,x,b4⟩ trivial) wN (ad))
   ·exact b9 rfl rfl rfl (cG rfl rfl rfl (by decide) (by decide)) rfl (fun _=>ad) (fun x=>b7 (Ba ⟨⟨z1,z2,z3,z4⟩,b1,b2,b3,x⟩ trivial) wN (ad))
  refine fy (γ:=WG) (fuel':=18) (ls':= #[tT,tT,tT,tT,tT,tT,tT,tT,tT,fF,tT,tT,tT,tT,fF,fF,tT,tT,tT,tT,tT,fF,tT,tT,tT,tT,fF,fF,fF,fF,fF,fF,fF,fF,fF,fF,fF,fF,fF,fF]) (fun _=>True)
   (fun g=>(49,.slice a1.1 i a1.2)::(55,.slice a2.1 i a2.2)::(61,.slice a3.1 i a3.2)::(67,.slice a4.1 i a4.2)::(50,.slice g.2.1 1 1)::(62,.slice g.2.2.2.1 1 1)::fM b8 nn wo i)
   (fun g=>fK wo nn c p i j cap a1 a2 a3 a4*(cP (g.2.1) (-1)*(cP (g.2.2.2.1) 0*(aT a1 i (-1)*(aT a2 i 0*(aT a3 i 0*(aT a4 i 0*fL b8 nn c F))))))) ?_ (fun Ge=> ?_)
  ·intro ⟨⟨z1,z2,z3,z4⟩,b1,b2,b3,b4⟩ _
   dsimp only
   refine fA (i:=9) (l:=[14,26]) ⟨?_,?_,?_,trivial⟩
   ·exact b9 rfl rfl rfl (j6 rfl rfl rfl (by omega) (by decide)) rfl (fun _=>ad) (fun x=>b7 (Gl ⟨⟨x,z2,z3,z4⟩,b1,b2,b3,b4⟩ trivial) wN (by dsimp only;simp only[aT,eW];exact ad))
   ·exact b9 rfl rfl rfl (cG rfl rfl rfl (by decide) (by decide)) rfl (fun _=>ad) (fun x=>b7 (A9 ⟨⟨z1,z2,z3,z4⟩,b1,x,b3,b4⟩ trivial) wN (ad))
   ·exact b9 rfl rfl rfl (cG rfl rfl rfl (by decide) (by decide)) rfl (fun _=>ad) (fun x=>b7 (Bb ⟨⟨z1,z2,z3,z4⟩,b1,b2,b3,x⟩ trivial) wN (ad))
  refine fy (γ:=WG) (fuel':=18) (ls':= #[tT,tT,tT,tT,tT,tT,tT,tT,tT,fF,tT,tT,tT,tT,fF,fF,tT,tT,tT,tT,fF,fF,tT,tT,tT,tT,tT,fF,fF,fF,fF,fF,fF,fF,fF,fF,fF,fF,fF,fF]) (fun _=>True)
   (fun g=>(49,.slice a1.1 i a1.2)::(55,.slice a2.1 i a2.2)::(61,.slice a3.1 i a3.2)::(67,.slice a4.1 i a4.2)::(50,.slice g.2.1 1 1)::(68,.slice g.2.2.2.2 1 1)::fM b8 nn wo i)
   (fun g=>fK wo nn c p i j cap a1 a2 a3 a4*(cP (g.2.1) (-1)*(cP (g.2.2.2.2) 0*(aT a1 i (-1)*(aT a2 i 0*(aT a3 i 0*(aT a4 i 0*fL b8 nn c F))))))) ?_ (fun Gf=> ?_)
  ·intro ⟨⟨z1,z2,z3,z4⟩,b1,b2,b3,b4⟩ _
   dsimp only
   refine fA (i:=9) (l:=[14,20]) ⟨?_,?_,?_,trivial⟩
   ·exact b9 rfl rfl rfl (j6 rfl rfl rfl (by omega) (by decide)) rfl (fun _=>ad) (fun x=>b7 (Gm ⟨⟨x,z2,z3,z4⟩,b1,b2,b3,b4⟩ trivial) wN (by dsimp only;simp only[aT,eW];exact ad))
   ·exact b9 rfl rfl rfl (cG rfl rfl rfl (by decide) (by decide)) rfl (fun _=>ad) (fun x=>b7 (Ba ⟨⟨z1,z2,z3,z4⟩,b1,x,b3,b4⟩ trivial) wN (ad))
   ·exact b9 rfl rfl rfl (cG rfl rfl rfl (by decide) (by decide)) rfl (fun _=>ad) (fun x=>b7 (Bb ⟨⟨z1,z2,z3,z4⟩,b1,b2,x,b4⟩ trivial) wN (ad))
  refine fy (γ:=WG) (fuel':=18) (ls':= #[tT,tT,tT,tT,tT,tT,tT,tT,fF,fF,tT,tT,tT,tT,tT,fF,tT,tT,tT,tT,tT,fF,tT,tT,tT,tT,fF,fF,fF,fF,fF,fF,fF,fF,fF,fF,fF,fF,fF,fF]) (fun _=>True)
   (fun g=>(49,.slice a1.1 i a1.2)::(55,.slice a2.1 i a2.2)::(61,.slice a3.1 i a3.2)::(67,.slice a4.1 i a4.2)::(56,.slice g.2.2.1 1 1)::(62,.slice g.2.2.2.1 1 1)::fM b8 nn wo i)
   (fun g=>fK wo nn c p i j cap a1 a2 a3 a4*(cP (g.2.2.1) 0*(cP (g.2.2.2.1) 0*(aT a1 i (-1)*(aT a2 i 0*(aT a3 i 0*(aT a4 i 0*fL b8 nn c F))))))) ?_ (fun Gg=> ?_)
  ·intro ⟨⟨z1,z2,z3,z4⟩,b1,b2,b3,b4⟩ _
   dsimp only
   refine fA (i:=8) (l:=[26]) ⟨?_,?_,trivial⟩
   ·exact b9 rfl rfl rfl (cG rfl rfl rfl (by decide) (by decide)) rfl (fun _=>ad) (fun x=>b7 (A9 ⟨⟨z1,z2,z3,z4⟩,x,b2,b3,b4⟩ trivial) wN (ad))
   ·exact b9 rfl rfl rfl (cG rfl rfl rfl (by decide) (by decide)) rfl (fun _=>ad) (fun x=>b7 (Bc ⟨⟨z1,z2,z3,z4⟩,b1,b2,b3,x⟩ trivial) wN (ad))
  refine fy (γ:=WG) (fuel':=18) (ls':= #[tT,tT,tT,tT,tT,tT,tT,tT,fF,fF,tT,tT,tT,tT,tT,fF,tT,tT,tT,tT,fF,fF,tT,tT,tT,tT,tT,fF,fF,fF,fF,fF,fF,fF,fF,fF,fF,fF,fF,fF]) (fun _=>True)
   (fun g=>(49,.slice a1.1 i a1.2)::(55,.slice a2.1 i a2.2)::(61,.slice a3.1 i a3.2)::(67,.slice a4.1 i a4.2)::(56,.slice g.2.2.1 1 1)::(68,.slice g.2.2.2.2 1 1)::fM b8 nn wo i)
   (fun g=>fK wo nn c p i j cap a1 a2 a3 a4*(cP (g.2.2.1) 0*(cP (g.2.2.2.2) 0*(aT a1 i (-1)*(aT a2 i 0*(aT a3 i 0*(aT a4 i 0*fL b8 nn c F))))))) ?_ (fun Gi=> ?_)
  ·intro ⟨⟨z1,z2,z3,z4⟩,b1,b2,b3,b4⟩ _
   dsimp only
   refine fA (i:=8) (l:=[20]) ⟨?_,?_,trivial⟩
   ·exact b9 rfl rfl rfl (cG rfl rfl rfl (by decide) (by decide)) rfl (fun _=>ad) (fun x=>b7 (Ba ⟨⟨z1,z2,z3,z4⟩,x,b2,b3,b4⟩ trivial) wN (ad))
   ·exact b9 rfl rfl rfl (cG rfl rfl rfl (by decide) (by decide)) rfl (fun _=>ad) (fun x=>b7 (Bc ⟨⟨z1,z2,z3,z4⟩,b1,b2,x,b4⟩ trivial) wN (ad))
  refine fy (γ:=WG) (fuel':=18) (ls':= #[tT,tT,tT,tT,tT,tT,tT,tT,fF,fF,tT,tT,tT,tT,fF,fF,tT,tT,tT,tT,tT,fF,tT,tT,tT,tT,tT,fF,fF,fF,fF,fF,fF,fF,fF,fF,fF,fF,fF,fF]) (fun _=>True)
   (fun g=>(49,.slice a1.1 i a1.2)::(55,.slice a2.1 i a2.2)::(61,.slice a3.1 i a3.2)::(67,.slice a4.1 i a4.2)::(62,.slice g.2.2.2.1 1 1)::(68,.slice g.2.2.2.2 1 1)::fM b8 nn wo i)
   (fun g=>fK wo nn c p i j cap a1 a2 a3 a4*(cP (g.2.2.2.1) 0*(cP (g.2.2.2.2) 0*(aT a1 i (-1)*(aT a2 i 0*(aT a3 i 0*(aT a4 i 0*fL b8 nn c F))))))) ?_ (fun Gj=> ?_)
  ·intro ⟨⟨z1,z2,z3,z4⟩,b1,b2,b3,b4⟩ _
   dsimp only
   refine fA (i:=8) (l:=[14]) ⟨?_,?_,trivial⟩
   ·exact b9 rfl rfl rfl (cG rfl rfl rfl (by decide) (by decide)) rfl (fun _=>ad) (fun x=>b7 (Bb ⟨⟨z1,z2,z3,z4⟩,x,b2,b3,b4⟩ trivial) wN (ad))
   ·exact b9 rfl rfl rfl (cG rfl rfl rfl (by decide) (by decide)) rfl (fun _=>ad) (fun x=>b7 (Bc ⟨⟨z1,z2,z3,z4⟩,b1,x,b3,b4⟩ trivial) wN (ad))
  refine fy (γ:=WG) (fuel':=19) (ls':= #[tT,tT,tT,tT,tT,tT,tT,tT,tT,fF,tT,tT,tT,tT,fF,fF,tT,tT,tT,tT,fF,fF,tT,tT,tT,tT,fF,fF,fF,fF,fF,fF,fF,fF,fF,fF,fF,fF,fF,fF]) (fun _=>True)
   (fun g=>(49,.slice a1.1 i a1.2)::(55,.slice a2.1 i a2.2)::(61,.slice a3.1 i a3.2)::(67,.slice a4.1 i a4.2)::(50,.slice g.2.1 1 1)::fM b8 nn wo i)
   (fun g=>fK wo nn c p i j cap a1 a2 a3 a4*(cP (g.2.1) (-1)*(aT a1 i (-1)*(aT a2 i 0*(aT a3 i 0*(aT a4 i 0*fL b8 nn c F)))))) ?_ (fun OK=> ?_)
  ·intro ⟨⟨z1,z2,z3,z4⟩,b1,b2,b3,b4⟩ _
   dsimp only
   refine fA (i:=9) (l:=[14,20,26]) ⟨?_,?_,?_,?_,trivial⟩
   ·exact b9 rfl rfl rfl (j6 rfl rfl rfl (by omega) (by decide)) rfl (fun _=>ad) (fun x=>b7 (K1 ⟨⟨x,z2,z3,z4⟩,b1,b2,b3,b4⟩ trivial) wN (by dsimp only;simp only[aT,eW];exact ad))
   ·exact b9 rfl rfl rfl (cG rfl rfl rfl (by decide) (by decide)) rfl (fun _=>ad) (fun x=>b7 (Gd ⟨⟨z1,z2,z3,z4⟩,b1,x,b3,b4⟩ trivial) wN (ad))
   ·exact b9 rfl rfl rfl (cG rfl rfl rfl (by decide) (by decide)) rfl (fun _=>ad) (fun x=>b7 (Ge ⟨⟨z1,z2,z3,z4⟩,b1,b2,x,b4⟩ trivial) wN (ad))
   ·exact b9 rfl rfl rfl (cG rfl rfl rfl (by decide) (by decide)) rfl (fun _=>ad) (fun x=>b7 (Gf ⟨⟨z1,z2,z3,z4⟩,b1,b2,b3,x⟩ trivial) wN (ad))
  refine fy (γ:=WG) (fuel':=19) (ls':= #[tT,tT,tT,tT,tT,tT,tT,tT,fF,fF,tT,tT,tT,tT,tT,fF,tT,tT,tT,tT,fF,fF,tT,tT,tT,tT,fF,fF,fF,fF,fF,fF,fF,fF,fF,fF,fF,fF,fF,fF]) (fun _=>True)
   (fun g=>(49,.slice a1.1 i a1.2)::(55,.slice a2.1 i a2.2)::(61,.slice a3.1 i a3.2)::(67,.slice a4.1 i a4.2)::(56,.slice g.2.2.1 1 1)::fM b8 nn wo i)
   (fun g=>fK wo nn c p i j cap a1 a2 a3 a4*(cP (g.2.2.1) 0*(aT a1 i (-1)*(aT a2 i 0*(aT a3 i 0*(aT a4 i 0*fL b8 nn c F)))))) ?_ (fun OL=> ?_)
  ·intro ⟨⟨z1,z2,z3,z4⟩,b1,b2,b3,b4⟩ _
   dsimp only
   refine fA (i:=8) (l:=[20,26]) ⟨?_,?_,?_,trivial⟩
   ·exact b9 rfl rfl rfl (cG rfl rfl rfl (by decide) (by decide)) rfl (fun _=>ad) (fun x=>b7 (Gd ⟨⟨z1,z2,z3,z4⟩,x,b2,b3,b4⟩ trivial) wN (ad))
   ·exact b9 rfl rfl rfl (cG rfl rfl rfl (by decide) (by decide)) rfl (fun _=>ad) (fun x=>b7 (Gg ⟨⟨z1,z2,z3,z4⟩,b1,b2,x,b4⟩ trivial) wN (ad))
   ·exact b9 rfl rfl rfl (cG rfl rfl rfl (by decide) (by decide)) rfl (fun _=>ad) (fun x=>b7 (Gi ⟨⟨z1,z2,z3,z4⟩,b1,b2,b3,x⟩ trivial) wN (ad))
  refine fy (γ:=WG) (fuel':=19) (ls':= #[tT,tT,tT,tT,tT,tT,tT,tT,fF,fF,tT,tT,tT,tT,fF,fF,tT,tT,tT,tT,tT,fF,tT,tT,tT,tT,fF,fF,fF,fF,fF,fF,fF,fF,fF,fF,fF,fF,fF,fF]) (fun _=>True)
   (fun g=>(49,.slice a1.1 i a1.2)::(55,.slice a2.1 i a2.2)::(61,.slice a3.1 i a3.2)::(67,.slice a4.1 i a4.2)::(62,.slice g.2.2.2.1 1 1)::fM b8 nn wo i)
   (fun g=>fK wo nn c p i j cap a1 a2 a3 a4*(cP (g.2.2.2.1) 0*(aT a1 i (-1)*(aT a2 i 0*(aT a3 i 0*(aT a4 i 0*fL b8 nn c F)))))) ?_ (fun OM=> ?_)
  ·intro ⟨⟨z1,z2,z3,z4⟩,b1,b2,b3,b4⟩ _
   dsimp only
   refine fA (i:=8) (l:=[14,26]) ⟨?_,?_,?_,trivial⟩
   ·exact b9 rfl rfl rfl (cG rfl rfl rfl (by decide) (by decide)) rfl (fun _=>ad) (fun x=>b7 (Ge ⟨⟨z1,z2,z3,z4⟩,x,b2,b3,b4⟩ trivial) wN (ad))
   ·exact b9 rfl rfl rfl (cG rfl rfl rfl (by decide) (by decide)) rfl (fun _=>ad) (fun x=>b7 (Gg ⟨⟨z1,z2,z3,z4⟩,b1,x,b3,b4⟩ trivial) wN (ad))
   ·exact b9 rfl rfl rfl (cG rfl rfl rfl (by decide) (by decide)) rfl (fun _=>ad) (fun x=>b7 (Gj ⟨⟨z1,z2,z3,z4⟩,b1,b2,b3,x⟩ trivial) wN (ad))
  refine fy (γ:=WG) (fuel':=19) (ls':= #[tT,tT,tT,tT,tT,tT,tT,tT,fF,fF,tT,tT,tT,tT,fF,fF,tT,tT,tT,tT,fF,fF,tT,tT,tT,tT,tT,fF,fF,fF,fF,fF,fF,fF,fF,fF,fF,fF,fF,fF]) (fun _=>True)
   (fun g=>(49,.slice a1.1 i a1.2)::(55,.slice a2.1 i a2.2)::(61,.slice a3.1 i a3.2)::(67,.slice a4.1 i a4.2)::(68,.slice g.2.2.2.2 1 1)::fM b8 nn wo i)
   (fun g=>fK wo nn c p i j cap a1 a2 a3 a4*(cP (g.2.2.2.2) 0*(aT a1 i (-1)*(aT a2 i 0*(aT a3 i 0*(aT a4 i 0*fL b8 nn c F)))))) ?_ (fun ON=> ?_)
  ·intro ⟨⟨z1,z2,z3,z4⟩,b1,b2,b3,b4⟩ _
   dsimp only
   refine fA (i:=8) (l:=[14,20]) ⟨?_,?_,?_,trivial⟩
   ·exact b9 rfl rfl rfl (cG rfl rfl rfl (by decide) (by decide)) rfl (fun _=>ad) (fun x=>b7 (Gf ⟨⟨z1,z2,z3,z4⟩,x,b2,b3,b4⟩ trivial) wN (ad))
   ·exact b9 rfl rfl rfl (cG rfl rfl rfl (by decide) (by decide)) rfl (fun _=>ad) (fun x=>b7 (Gi ⟨⟨z1,z2,z3,z4⟩,b1,x,b3,b4⟩ trivial) wN (ad))
   ·exact b9 rfl rfl rfl (cG rfl rfl rfl (by decide) (by decide)) rfl (fun _=>ad) (fun x=>b7 (Gj ⟨⟨z1,z2,z3,z4⟩,b1,b2,x,b4⟩ trivial) wN (ad))
  refine fA (i:=8) (l:=[14,20,26]) ⟨?_,?_,?_,?_,trivial⟩
  ·exact b9 rfl rfl rfl (cG rfl rfl rfl (by decide) (by decide)) rfl (fun _=>ad) (fun x=>b7 (OK ⟨⟨(none,0),(none,0),(none,0),(none,0)⟩,x,none,none,none⟩ trivial) wN (ad))
  ·exact b9 rfl rfl rfl (cG rfl rfl rfl (by decide) (by decide)) rfl (fun _=>ad) (fun x=>b7 (OL ⟨⟨(none,0),(none,0),(none,0),(none,0)⟩,none,x,none,none⟩ trivial) wN (ad))
  ·exact b9 rfl rfl rfl (cG rfl rfl rfl (by decide) (by decide)) rfl (fun _=>ad) (fun x=>b7 (OM ⟨⟨(none,0),(none,0),(none,0),(none,0)⟩,none,none,x,none⟩ trivial) wN (ad))
  ·exact b9 rfl rfl rfl (cG rfl rfl rfl (by decide) (by decide)) rfl (fun _=>ad) (fun x=>b7 (ON ⟨⟨(none,0),(none,0),(none,0),(none,0)⟩,none,none,none,x⟩ trivial) wN (ad))
  --END7
 ·have e:i=c.n:=by omega
  subst e
  repeat first|refine aa ?_ |intro
  have hd:decide (nn=none)=false:=decide_eq_false zC
  rw[hd]
  exact ae (eU rfl rfl rfl ((wo,nn),a1,a2,a3,a4) rfl (U.sat (ad)))
end
section
def kG (c:NC)(w:Nat):Nat→bm→bm
 |0,n=>n
 |k+1,n=>kG c w k (de c w n).1
def ig (c:NC)(w:Nat)(k:Nat)(n n':bm)(b:Bool):Prop:=0<k∧kG c w k n=n'∧(∀j,j+1<k→(de c w (kG c w j n)).2=false)∧(de c w (kG c w (k-1) n)).2=b
theorem Ad (c:NC)(w:Nat):∀(j k:Nat) (n:bm),kG c w (j+k) n=kG c w k (kG c w j n)
 |0,k,n=>by rw[Nat.zero_add];rfl
 |j+1,k,n=>by
  rw[show j+1+k=(j+k)+1 by omega]
  exact Ad c w j k _
theorem ig.one {c:NC}{w:Nat}{n n':bm}{b:Bool}(h:de c w n=(n',b)):ig c w 1 n n' b:=⟨by decide,by show kG c w 0 _=_;rw[h];rfl,fun j hj=>by omega,by show(de c w n).2=b;rw[h]⟩
theorem ig.trans {c:NC}{w j k:Nat}{n n' uP:bm}{b:Bool}(h:ig c w j n n' false)(g:ig c w k n' uP b):ig c w (j+k) n uP b:=by
 obtain⟨h1,h2,h3,h4⟩:=h
 obtain⟨g1,g2,g3,g4⟩:=g
 refine⟨by omega,by rw[Ad,h2];exact g2,fun i hi=> ?_,?_⟩
 ·rcases Nat.lt_or_ge (i+1) j with e|e
  ·exact h3 i e
  ·rcases Nat.lt_or_ge i j with e'|e'
   ·obtain rfl:i=j-1:=by omega
    exact h4
   ·rw[show i=j+(i-j)by omega,Ad,h2]
    exact g3 _ (by omega)
 ·rw[show j+k-1=j+(k-1)by omega,Ad,h2]
  exact g4
theorem ig.step {c:NC}{w k:Nat}{n n' uP:bm}{b:Bool}(h:de c w n=(n',false))(g:ig c w k n' uP b):ig c w (k+1) n uP b:=by
 have:=(ig.one h).trans g
 rwa[Nat.add_comm]at this
def bm.with (n:bm)(w:Nat)(s:aW)(k:aR):bm:=⟨s,n.wk.set w k⟩
theorem FJ {l:List aR}{w:Nat}{k:aR}(h:w<l.length):(l.set w k).getD w ax=k:=by
 simp[List.getD_eq_getElem?_getD,h]
theorem AT {n:bm}{w:Nat}{s:aW}{k:aR}(h:w<n.wk.length):((n.with w s k).wk.getD w ax)=k:=FJ h
theorem ZA {n:bm}{w:Nat}{s:aW}{k:aR}:(n.with w s k).wk.length=n.wk.length:=by simp[bm.with]
theorem Q2 {c:NC}{w:Nat}{n:bm}{f f':aH}{k k':aR}{s':aW}(hw:w<n.wk.length)(hk:n.wk.getD w ax=k)(hf:k.frame=some f)(h:bZ c w n.sh k f=(s',k',f'))(hd:f'.done=false):
  de c w n=(n.with w s' {k' with frame:=some f'},false):=by
 unfold de
 rw[if_neg (by omega),hk,hf]
 dsimp only
 rw[h]
 dsimp only
 rw[hd,if_neg (by decide)]
 rfl
theorem Q3 {c:NC}{w:Nat}{n:bm}{f f':aH}{k k':aR}{s':aW}(hw:w<n.wk.length)(hk:n.wk.getD w ax=k)(hf:k.frame=some f)(h:bZ c w n.sh k f=(s',k',f'))(hd:f'.done=true)(hs:k'.aX=none):
  de c w n=(n.with w s' {k' with cj:=f'.fD,iM:=f'.lH,any:=true,frame:=none},true):=by
 unfold de
 rw[if_neg (by omega),hk,hf]
 dsimp only
 rw[h]
 dsimp only
 rw[hd,if_pos rfl]
 unfold aR.busy
 dsimp only
 rw[hs]
 rfl
end
section
open Go.RowKit
set_option maxRecDepth 10000
attribute [local irreducible] EK EX ER EN EL ES EG az ba bf
variable {W:World} {F G:SL} {X:Cx} {kk:List KI} {σ:Env} {c:NC} {n n':bm} {K B w m:Nat}
theorem Et (c:NC)(w:Nat):∀(k:Nat) (n:bm),kG c w (k+1) n=(de c w (kG c w k n)).1
 |0,_=>rfl
 |k+1,n=>Et c w k (de c w n).1
def qI (c:NC)(w m:Nat)(n:bm):Prop:=∀k,k<m→∃f,((kG c w k n).wk.getD w ax).frame=some f
theorem Safe.E8 (hc:c.Ok)(hw:w<c.n)(h:Safe c K B n)(ha:qI c w m n):∀k,k≤m→K+k≤65000→Safe c (K+k) B (kG c w k n)
 |0,_,_=>h
 |k+1,hm,hk=>by
  rw[Et]
  obtain⟨f,hf⟩:=ha k (by omega)
  exact(Safe.E8 hc hw h ha k (by omega) (by omega)).HP hc (by omega) hw hf
theorem Safe.yS (hc:c.Ok)(hw:w<c.n)(h:Safe c K B n)(hk:K+m≤65000){b:Bool}(g:ig c w m n n' b)(ha:qI c w m n):Safe c (K+m) B n':=by
 have:=Safe.E8 hc hw h ha m (Nat.le_refl _) hk
 rwa[g.2.1]at this
theorem Safe.len (h:Safe c K B n):n.wk.length=c.n:=h.wl
theorem vB (hT:gE W)(hc:c.Ok)(h:Safe c K B n)(hB:B≤300)(hw:w<c.n)(hm:m<20000)(hK:K+m≤65000)(g:ig c w m n n' true)(ha:qI c w m n){wo nn jp:Option Addr}{jn jc evn wn:Nat}{next clock:Int}{ev d s t e:aP}:
  Spec Tryz.prog 11 [.pointer wo,.int .i64 (w:Int)] W (Obj wo 39 (dL nn c jp jn jc next ev evn wn d s t e clock)*(cM nn c n*F)) (fun _:Unit=> .int .i64 (m:Int))
   (fun _=>Obj wo 39 (dL nn c jp jn jc next ev evn wn d s t e clock)*(cM nn c n'*F)):=by
 refine Spec.of Tryz.func11 rfl Tryz.ntmps11 rfl ?_
 repeat first|refine aa ?_ |intro
 refine ff (γ:=Nat) (fun k=>k<m) (fun k=>[(0,.pointer wo),(1,.int .i64 (w:Int)),(5,.int .i64 ((k+1:Nat):Int))])
  (fun k=>Obj wo 39 (dL nn c jp jn jc next ev evn wn d s t e clock)*(cM nn c (kG c w k n)*F))
  (fun k=>m-k) 0 g.1 ⟨rfl,rfl,rfl,trivial⟩ (U.sat (ad)) ?_
 intro k h1;dsimp only at h1 ⊢
 have Jp:=Safe.E8 hc hw h ha k (by omega) (by omega)
 obtain⟨f,IW⟩:=ha k h1
 have cJ:=Jp.AF hc (by omega) hB hw IW
 have og:=Gz (W:=W) (F:=Obj wo 39 (dL nn c jp jn jc next ev evn wn d s t e clock)*F) (pn:=nn) hT hc Jp.len hw IW cJ.1 cJ.2
 have zE:=Et c w k n
 by_cases hk:k+1<m
 ·have hf:=g.2.2.1 k hk
  repeat first|refine aa ?_ |intro
  refine ag rfl (Spec.pre og (ad)) ?_
  intro _
  rw[hf,←zE]
  repeat first|refine aa ?_ |intro
  exact cT (k+1) hk (by omega) ⟨rfl,rfl,rfl,trivial⟩ (U.sat (ad))
 ·have e:k+1=m:=by omega
  have hf:=g.2.2.2
  rw[show m-1=k by omega]at hf
  have nG:=g.2.1
  rw[←e]at nG
  repeat first|refine aa ?_ |intro
  refine ag rfl (Spec.pre og (ad)) ?_
  intro _
  rw[hf,←zE,nG]
  repeat first|refine aa ?_ |intro
  exact ae (aw rfl rfl () (by rw[e]) (U.sat (ad)))
end
section
def xL (c:NC)(w:Nat):Nat→bm→Nat→Option (Nat×bm)
 |0,_,_=>none
 |f+1,n,k=>if(n.wk.getD w ax).frame.isSome=false then none else if(de c w n).2=true then some (k+1,(de c w n).1)else xL c w f (de c w n).1 (k+1)
theorem Fc {c:NC}{w:Nat}:∀ {f k m:Nat} {n n':bm},xL c w f n k=some (m,n')→k<m∧m≤k+f∧ig c w (m-k) n n' true∧qI c w (m-k) n
 |0,_,_,_,_,h=>by cases h
 |f+1,k,m,n,n',h=>by
  unfold xL at h
  split at h
  ·cases h
  rename_i c5
  have c5:∃f,(n.wk.getD w ax).frame=some f:=by
   cases e:(n.wk.getD w ax).frame with
   |none=>rw[e]at c5;exact absurd rfl c5
   |some f=>exact⟨f,rfl⟩
  split at h
  ·rename_i hb
   injection h with h
   injection h with h1 h2
   subst h1 h2
   refine⟨by omega,by omega,?_,?_⟩
   ·rw[Nat.add_sub_cancel_left]
    exact ig.one (Prod.ext rfl hb)
   ·intro j hj
    obtain rfl:j=0:=by omega
    exact c5
  ·rename_i hb
   obtain⟨g1,g2,g3,g4⟩:=Fc h
   refine⟨by omega,by omega,?_,?_⟩
   ·have:=ig.step (Prod.ext rfl (by simpa using hb):de c w n=((de c w n).1,false)) g3
    rwa[show m-(k+1)+1=m-k by omega]at this
   ·intro j hj
    cases j with
    |zero=>exact c5
    |succ j=>exact g4 j (by omega)
def dn:NC:=⟨2,3221225985,1000,1009,4,4⟩
def Me:Option (Nat×bm):=xL dn 0 300 (fp (dI dn) 0 true eQ 1).1 0
def Fz (n:bm):Option (Nat×bm):=xL dn 1 300 (fp n 1 true eQ 2).1 0
def xE (l:List UInt8):Nat:=if dz l=0 then(mh l).sp else 0
def AL (a b:Nat×bm):Bool:=decide ((fp (dI dn) 0 true eQ 1).2=0∧(fp a.2 1 true eQ 2).2=0∧(a.2.wk.getD 1 ax).busy=false∧(dX b.2 0).2.1=0∧(dX b.2 0).2.2=true∧(dX b.2 1).2.1=0∧(dX b.2 1).2.2=true)&&decide (1000≤xE (dX b.2 0).1∧(dX b.2 0).1=(dX b.2 1).1∧(b.2.wk.getD 0 ax).cj.length≤1000∧(b.2.wk.getD 1 ax).cj.length≤1000∧(mJ dn b.2.sh).length=1∧((mJ dn b.2.sh).getD 0 Hk).seen=2)
set_option maxRecDepth 100000 in
theorem Yy:(Me.bind fun a=>(Fz a.2).map fun b=>AL a b)=some true:=by decide+kernel
structure Pv (m1:Nat)(n1:bm)(m2:Nat)(n2:bm):Prop where
 a1:qI dn 0 m1 (fp (dI dn) 0 true eQ 1).1
 a2:qI dn 1 m2 (fp n1 1 true eQ 2).1
 g1:ig dn 0 m1 (fp (dI dn) 0 true eQ 1).1 n1 true
 l1:0<m1∧m1≤300
 g2:ig dn 1 m2 (fp n1 1 true eQ 2).1 n2 true
 l2:0<m2∧m2≤300
 b1:(fp (dI dn) 0 true eQ 1).2=0
 b2:(fp n1 1 true eQ 2).2=0
 idle:(n1.wk.getD 1 ax).busy=false
 e1:(dX n2 0).2.1=0
 i1:(dX n2 0).2.2=true
 e2:(dX n2 1).2.1=0
 i2:(dX n2 1).2.2=true
 own:1000≤xE (dX n2 0).1
 same:(dX n2 0).1=(dX n2 1).1
 t1:(n2.wk.getD 0 ax).cj.length≤1000
 t2:(n2.wk.getD 1 ax).cj.length≤1000
 one:(mJ dn n2.sh).length=1
 seen:((mJ dn n2.sh).getD 0 Hk).seen=2
theorem Yx:∃m1 n1 m2 n2,Pv m1 n1 m2 n2:=by
 have h:=Yy
 cases h1:Me with
 |none=>rw[h1]at h;cases h
 |some a=>
  rw[h1]at h
  obtain⟨m1,n1⟩:=a
  have h:((Fz n1).map fun b=>AL (m1,n1) b)=some true:=h
  cases h2:Fz n1 with
  |none=>rw[h2]at h;cases h
  |some b=>
   rw[h2]at h
   obtain⟨m2,n2⟩:=b
   have h:AL (m1,n1) (m2,n2)=true:=Option.some.inj h
   unfold AL at h
   rw[Bool.and_eq_true]at h
   obtain⟨p1,p2,p3,p4,p5,p6,p7⟩:=of_decide_eq_true h.1
   obtain⟨q1,q2,q3,q4,q5,q6⟩:=of_decide_eq_true h.2
   obtain⟨x1,x2,x3,x4⟩:=Fc h1
   obtain⟨y1,y2,y3,y4⟩:=Fc h2
   exact⟨m1,n1,m2,n2,x4,y4,x3,⟨x1,by omega⟩,y3,⟨y1,by omega⟩,p1,p2,p3,p4,p5,p6,p7,q1,q2,q3,q4,q5,q6⟩
theorem tx:dn.Ok:=⟨by decide,by decide,by decide,by unfold iI;decide,by decide⟩
end
section
open Go.RowKit
set_option maxRecDepth 10000
attribute [local irreducible] EK EX ER EN EL ES EG az ba bf
variable {W:World} {F G:SL} {X:Cx} {kk:List KI} {σ:Env} {c:NC} {n n':bm} {K B w m:Nat} {p:Option Addr} {l:List UInt8} {cap:Nat}
theorem Pa (hl:l.length≤140737488355328)[s:Src W F p l.length (aA l)][r:Room W F p l.length cap]:Spec Tryz.prog 20 [.slice p l.length cap] W F (fun _:Unit=> .int .i64 (xE l:Int)) (fun _=>F):=by
 refine Spec.of Tryz.func20 rfl Tryz.ntmps20 rfl ?_
 repeat first|refine aa ?_ |intro
 refine ag rfl (Xa hl) ?_
 intro _
 repeat first|refine aa ?_ |intro
 have rO:(mh l).sp<65536:=by
  unfold mh
  split
  ·exact(qY.of _ _).sp
  ·decide
 by_cases h:dz l=0
 ·rw[show decide (dz l=0)=true from decide_eq_true h]
  repeat first|refine aa ?_ |intro
  exact ae (aw rfl rfl () (by unfold xE;rw[if_pos h]) (U.sat (ad)))
 ·rw[show decide (dz l=0)=false from decide_eq_false h]
  repeat first|refine aa ?_ |intro
  exact ae (aw rfl rfl () (by unfold xE;rw[if_neg h];rfl) (U.sat (ad)))
theorem N0:Spec Tryz.prog 17 [.int .i64 1,.int .i64 9,.int .i64 1] W F (fun _:Unit=>dn.cfg.val) (fun _=>F):=by
 refine Spec.of Tryz.func17 rfl Tryz.ntmps17 rfl ?_
 repeat first|refine aa ?_ |intro
 refine ae (kO (rv:= .cell 6 34) rfl ⟨_,rfl,bc.agg rfl⟩ () rfl (U.sat ?_))
 exact ad
theorem Safe.fp (h:Safe c K B n)(hw:w<c.n)(out:Bool){b:List UInt8}(hb:b.length≤140737488355328)(tick:Int):Safe c K (B+1) (fp n w out b tick).1:=by
 unfold Go.Proofs.YtakbmjoijcpdmaaGreatDoor.fp
 split
 ·exact h.room
 ·rename_i lU
  exact h.begin hw (by simpa using lU) out hb tick
set_option maxHeartbeats 2000000 in
theorem MA (hT:gE W):Spec Tryz.prog 6 [] W F (fun _:Unit=> .bool true) (fun _=>F):=by
 refine Spec.of Tryz.func6 rfl Tryz.ntmps6 rfl ?_
 obtain⟨m1,n1,m2,n2,T⟩:=Yx
 repeat first|refine aa ?_ |intro
 refine ag rfl (Cl (c:=dn) tx (x:=1) (y:=9) (z:=1) (fun _=>N0) (p:=none) (n:=0) (cap:=0) (j:=0) (most:=0) rfl (Nat.le_refl _) (r:=⟨fun _ _=>Nat.le_refl _⟩)) ?_
 intro ⟨⟨wo,nn⟩,d,s,t,e⟩
 dsimp only
 repeat first|refine aa ?_ |intro
 refine ag rfl Pn ?_
 intro f
 repeat first|refine aa ?_ |intro
 have s0:=Safe.new tx
 have adM:eQ.length=28:=by unfold eQ;rw[RU];rfl
 have rI:eQ.length≤1000000:=by omega
 have s1:=s0.fp (w:=0) (by decide) true (b:=eQ) (by omega) 1
 have l1:=T.l1
 have l2:=T.l2
 have s2:=Safe.yS tx (by decide) s1 (by omega) T.g1 T.a1
 have s3:=s2.fp (w:=1) (by decide) true (b:=eQ) (by omega) 2
 have s4:=Safe.yS tx (by decide) s3 (by omega) T.g2 T.a2
 refine ag rfl (Spec.pre (vi (c:=dn) (n:=dI dn) (w:=0) (out:=true) (q:=f.1) (l:=eQ) (cap:=f.2) (tick:=1) (F:=ao 5 1 f.1 eQ.length f.2 (aA eQ)*(Obj wo 39 (dL nn dn none 0 0 0 (none,0) 0 dn.n d s t e 0)*(ew dn.n d s t e F))) rI s0.len (by decide)) (ad)) ?_
 intro _
 rw[T.b1]
 repeat first|refine aa ?_ |intro
 refine ag rfl (Spec.pre (vB (w:=0) (nn:=nn) (jp:=none) (jn:=0) (jc:=0) (evn:=0) (wn:=dn.n) (next:=0) (clock:=0) (ev:=(none,0)) (d:=d) (s:=s) (t:=t) (e:=e) (F:=ao 5 1 f.1 eQ.length f.2 (aA eQ)*(ew dn.n d s t e F)) hT tx s1 (by omega) (by decide) (by omega) (by omega) T.g1 T.a1) (ad)) ?_
 intro _
 repeat first|refine aa ?_ |intro
 refine ag rfl (Spec.pre (vi (c:=dn) (n:=n1) (w:=1) (out:=true) (q:=f.1) (l:=eQ) (cap:=f.2) (tick:=2) (F:=ao 5 1 f.1 eQ.length f.2 (aA eQ)*(Obj wo 39 (dL nn dn none 0 0 0 (none,0) 0 dn.n d s t e 0)*(ew dn.n d s t e F))) rI s2.len (by decide)) (ad)) ?_
 intro _
 rw[T.b2]
 repeat first|refine aa ?_ |intro
 refine ag rfl (Spec.pre (vB (w:=1) (nn:=nn) (jp:=none) (jn:=0) (jc:=0) (evn:=0) (wn:=dn.n) (next:=0) (clock:=0) (ev:=(none,0)) (d:=d) (s:=s) (t:=t) (e:=e) (F:=ao 5 1 f.1 eQ.length f.2 (aA eQ)*(ew dn.n d s t e F)) hT tx s3 (by omega) (by decide) (by omega) (by omega) T.g2 T.a2) (ad)) ?_
 intro _
 repeat first|refine aa ?_ |intro
 have uI:=T.t1
 have uJ:=T.t2
 refine ag rfl (Spec.pre (vF (c:=dn) (n:=n2) (w:=0) (F:=ao 5 1 f.1 eQ.length f.2 (aA eQ)*(Obj wo 39 (dL nn dn none 0 0 0 (none,0) 0 dn.n d s t e 0)*(ew dn.n d s t e F))) (by decide) (by omega)) (ad)) ?_
 intro x
 have zF:=T.own
 have tq:=T.same
 have hlen:(dX n2 0).1.length≤1000:=by
  unfold dX
  split
  ·exact uI
  ·exact Nat.zero_le _
 rw[T.e1,T.i1]
 repeat first|refine aa ?_ |intro
 rename_i px
 refine ag rfl (Spec.pre (vF (c:=dn) (n:=n2) (w:=1) (F:=ao 5 1 x.1 (dX n2 0).1.length x.2 (aA (dX n2 0).1)*(Obj px 46 [.slice x.1 (dX n2 0).1.length x.2,.int .i64 ((0:Nat):Int)]*(ao 5 1 f.1 eQ.length f.2 (aA eQ)*(Obj wo 39 (dL nn dn none 0 0 0 (none,0) 0 dn.n d s t e 0)*(ew dn.n d s t e F))))) (by decide) (by omega)) (ad)) ?_
 intro y
 rw[T.e2,T.i2,←tq]
 repeat first|refine aa ?_ |intro
 rename_i py
 refine ag rfl (Spec.pre (AX (c:=dn) (n:=n2) (F:=ao 5 1 x.1 (dX n2 0).1.length x.2 (aA (dX n2 0).1)*(Obj px 46 [.slice x.1 (dX n2 0).1.length x.2,.int .i64 ((0:Nat):Int)]*(ao 5 1 y.1 (dX n2 0).1.length y.2 (aA (dX n2 0).1)*(Obj py 46 [.slice y.1 (dX n2 0).1.length y.2,.int .i64 ((0:Nat):Int)]*(ao 5 1 f.1 eQ.length f.2 (aA eQ)*(Obj wo 39 (dL nn dn none 0 0 0 (none,0) 0 dn.n d s t e 0)*(ew dn.n d s t e F))))))) tx s4.sh.pl) (ad)) ?_
 intro z
 obtain⟨b,hb⟩:∃b,mJ dn n2.sh=[b]:=List.length_eq_one_iff.1 T.one
 have zL:=T.seen
 rw[hb]at zL ⊢
 have zL:b.seen=2:=zL
 have eb:nu [b]=[.int .i64 (b.ar.proto:Int),.int .u32 (b.ar.addr:Int),.int .u16 (b.ar.port:Int),.int .i64 (b.port:Int),.int .i64 (b.pA:Int),.int .i64 (b.seen:Int)]:=rfl
 rw[eb,zL,List.length_singleton]
 generalize (dX n2 0).1=l at*
 repeat first|refine aa ?_ |intro
 refine ag rfl (Pa (by omega)) ?_
 intro _
 repeat first|refine aa ?_ |intro
 rw[show decide (l=l)=true from decide_eq_true rfl]
 haveI:Pos 1:=⟨by decide⟩
 haveI:eK [.int .i64 (b.ar.proto:Int),.int .u32 (b.ar.addr:Int),.int .u16 (b.ar.port:Int),.int .i64 (b.port:Int),.int .i64 (b.pA:Int),.int .i64 ((2:Nat):Int)] 0 6 5 (.int .i64 ((2:Nat):Int)) (0<1):=⟨fun _=>rfl⟩
 repeat first|refine aa ?_ |intro
 exact ae (aw rfl rfl () rfl (U.sat (ad)))
end
section
def pd:Option Nat→Nat
 | .none=>0
 | .some x=>iO 0 (x:Int)
theorem E5 (i:Nat):bM 0 i= -1:=by unfold bM;rw[Nat.zero_div];rfl
theorem Sa:cZ 0=false:=by decide
theorem En {x:Nat}(hx:x<4000){i:Nat}(hi:i<4):bM (pd (some x)) i=if i=0 then(x:Int)else-1:=by
 have e:pd (some x)=kV 0 0 (x+1):=by
  show kV 0 (dY 0 (-1)).toNat ((x:Int)+1).toNat=_
  rw[show dY 0 (-1)=0 from rfl,show((x:Int)+1).toNat=x+1 by omega]
  rfl
 rw[e,CA (by decide) (by decide) (by omega) hi]
 split
 ·omega
 ·exact E5 i
theorem xm {x:Nat}(hx:x<4000):pd (some x)≠0:=fun h=>by
 have:=En hx (i:=0) (by decide)
 rw[h,E5,if_pos rfl]at this
 omega
structure Cj (nb a:Nat)(x:Option Nat)(tb:List Nat):Prop where
 len:tb.length=nb+1
 at_:tb.getD a 0=pd x
 ne:∀j,j≠a→tb.getD j 0=0
def kj (g:Nat)(v1 v:aJ):Prop:=v.gen=g∧(v=v1∨v.st=2)
structure GN (pl:List Nat)(key g:Nat)(v1:aJ)(x:Nat):Prop where
 made:v1.st=1∧v1.gen=g
 xM:kj g v1 (aJ.of (pl.getD (2*x) 0))
 ky:pl.getD (2*x+1) 0=key
structure mE (a b:Nat)(x:Option Nat)(key g:Nat)(v1:aJ)(kind:Nat)(id:Int)(t:aU):Prop where
 tk:t.kind=kind
 ti:t.id=id
 ty:gz t.f1 t.f2 t.f3=key
 ta:t.a=a
 tb:t.b=b
 td:t.done=false
 tn:t.next≤5
 n1:t.next=1→t.at_=0∧∃y,t.first=pd y∧t.word=pd y∧(y=none∨y=x)∧(y=none→t.half=false)∧(t.half=true→kj g v1 t.seen)
 n2:2≤t.next→t.first=0
 n3:t.next=3→t.at_=0∧t.word=0∧t.half=false
 n4:t.next=4→kind=0
 n5:t.next=5→kind=1
def mn (a:Nat)(tb:List Nat)(t:aU):Nat:=if t.next=0 then(if tb.getD a 0=0 then 8 else 3)else if t.next=1 then(if t.word=0 then 7 else if t.half=true then 1 else 2)else if t.next=2 then 6 else if t.next=3 then 5 else 4
theorem Fx (a:Nat)(tb:List Nat)(t:aU):mn a tb t≤8:=by
 unfold mn
 repeat' split
 all_goals omega
theorem LV (id:Int):gn 0 id 4 0=4:=by
 simp[gn,E5]
theorem XW {x:Nat}(hx:x<4000){id:Int}(hid:id≠(x:Int)):gn (pd (some x)) id 4 0=0:=by
 unfold gn
 rw[if_neg]
 rw[En hx (by decide),if_pos rfl]
 omega
inductive Pu (a b:Nat) (nb:Nat) (x:Option Nat) (key g:Nat) (v1:aJ) (kind:Nat) (id:Int) (tb xR:List Nat) (t t':aU):Prop
 |on (h:mE a b x key g v1 kind id t') (e:xR=tb) (hm:mn a tb t'<mn a tb t)
 |fj (y:Nat) (hy:x=some y) (hd:t'.done=true) (he:t'.end_=if kind=1 then 10 else 0) (hf:t'.found=(y:Int)) (hs:kj g v1 t'.aQ) (e:xR=tb)
 |none (hk:kind=0) (hx:x=Option.none) (hd:t'.done=true) (he:t'.end_=7) (e:xR=tb)
 |put (hk:kind=1) (hx:x=Option.none) (hd:t'.done=true) (he:t'.end_=0) (h:Cj nb a (some id.toNat) xR)
theorem Ma {c:Nat}{x:Option Nat}{key g:Nat}{v1:aJ}{kind f1 f2 f3:Nat}{id:Int}(hk:gz f1 f2 f3=key):mE (gq key c).1 (gq key c).2 x key g v1 kind id (pk kind f1 f2 f3 id 0 c) where
 tk:=rfl
 ti:=rfl
 ty:=hk
 ta:=by unfold pk;rw[hk]
 tb:=by unfold pk;rw[hk]
 td:=rfl
 tn:=by show 0≤5;omega
 n1:=fun h=>by have h:0=1:=h;omega
 n2:=fun h=>by have h:2≤0:=h;omega
 n3:=fun h=>by have h:0=3:=h;omega
 n4:=fun h=>by have h:0=4:=h;omega
 n5:=fun h=>by have h:0=5:=h;omega
theorem mE.link {a b:Nat}{key g g':Nat}{v1 YR:aJ}{kind:Nat}{id:Int}{t:aU}{y:Nat}(h:mE a b none key g v1 kind id t):mE a b (some y) key g' YR kind id t where
 tk:=h.tk
 ti:=h.ti
 ty:=h.ty
 ta:=h.ta
 tb:=h.tb
 td:=h.td
 tn:=h.tn
 n1:=fun e=>by
  obtain⟨e1,z,e2,e3,e4,e5,e6⟩:=h.n1 e
  obtain rfl:z=none:=by rcases e4 with e4|e4<;>exact e4
  exact⟨e1,none,e2,e3,.inl rfl,e5,fun hh=>by rw[e5 rfl]at hh;cases hh⟩
 n2:=h.n2
 n3:=h.n3
 n4:=h.n4
 n5:=h.n5
theorem Mb {nb a b:Nat}{x:Option Nat}{key g:Nat}{v1:aJ}{kind:Nat}{id:Int}{tb pl:List Nat}{t:aU}(h:mE a b x key g v1 kind id t)(hk:kind≤1)(Sz:a≠b)(ha:a<nb)(hT:Cj nb a x tb)
  (hx:∀y,x=some y→y<4000∧GN pl key g v1 y∧(y:Int)≠id) (hid:kind=1→0≤id∧id<4000):Pu a b nb x key g v1 kind id tb (bA pl nb tb t).1 t (bA pl nb tb t).2:=by
 obtain⟨k1,k2,k3,k4,k5,k6,k7,n1,n2,n3,n4,n5⟩:=h
 have e0:bA pl nb tb t=ib tb pl t:=by
  unfold bA
  rw[if_neg (by rw[k6];decide),if_neg (by omega),if_neg (by omega),if_neg (by omega)]
 rw[e0]
 unfold ib
 by_cases h0:t.next=0
 ·rw[if_pos h0]
  refine .on ⟨k1,k2,k3,k4,k5,k6,by show 1≤5;omega,fun _=>⟨rfl,x,?_,?_,.inr rfl,fun _=>rfl,fun hh=>(by cases hh)⟩,fun hh=>by have hh:2≤1:=hh;omega,fun hh=>by have hh:1=3:=hh;omega,fun hh=>by have hh:1=4:=hh;omega,fun hh=>by have hh:1=5:=hh;omega⟩ rfl (by simp[mn,nQ,h0,k4];split<;>omega)
  ·show tb.getD t.a 0=_;rw[k4];exact hT.at_
  ·show tb.getD t.a 0=_;rw[k4];exact hT.at_
 rw[if_neg h0]
 by_cases h1:t.next=1
 ·rw[if_pos h1]
  obtain⟨e1,y,e2,e3,e4,e5,e6⟩:=n1 h1
  cases y with
  |none=>
   have e3:t.word=0:=e3
   have e2:t.first=0:=e2
   have el:dx pl t=({t with at_:=4},true):=by
    unfold dx
    rw[e3,e1,k2,LV]
    rfl
   rw[el,if_pos rfl]
   refine .on ⟨k1,k2,k3,k4,k5,k6,by show 2≤5;omega,fun hh=>by have hh:2=1:=hh;omega,fun _=>e2,fun hh=>by have hh:2=3:=hh;omega,fun hh=>by have hh:2=4:=hh;omega,fun hh=>by have hh:2=5:=hh;omega⟩ rfl (by simp[mn,h1,e3])
  |some y=>
   have ex:x=some y:=by
    rcases e4 with e4|e4
    ·cases e4
    ·exact e4.symm
   obtain⟨hy,hP,dc⟩:=hx y ex
   have er:bM t.word 0=(y:Int):=by rw[e3,En hy (by decide),if_pos rfl]
   have es:gn t.word t.id 4 t.at_=0:=by rw[e3,e1,k2];exact XW hy (fun e=>dc e.symm)
   have cJ:(aJ.of (pl.getD (2*y) 0)).st=1∨(aJ.of (pl.getD (2*y) 0)).st=2:=by
    rcases hP.xM.2 with e|e
    ·left;rw[e];exact hP.made.1
    ·exact .inr e
   cases hh:t.half with
   |false=>
    have el:dx pl t=({t with at_:=0,seen:=aJ.of (pl.getD (2*y) 0),half:=true},false):=by
     unfold dx
     rw[es]
     unfold jv
     dsimp only
     rw[if_neg (show ¬(0=4)by decide),hh,if_pos rfl,er,Int.toNat_natCast,if_pos cJ]
    rw[el,if_neg Bool.false_ne_true]
    exact .on ⟨k1,k2,k3,k4,k5,k6,by show t.next≤5;omega,fun _=>⟨rfl,some y,e2,e3,.inr ex.symm,fun e=>(by cases e),fun _=>hP.xM⟩,fun hq=>by have hq:2≤t.next:=hq;omega,fun hq=>by have hq:t.next=3:=hq;omega,fun hq=>by have hq:t.next=4:=hq;omega,fun hq=>by have hq:t.next=5:=hq;omega⟩ rfl (by simp[mn,h1,e3,hh,xm hy])
   |true=>
    have el:dx pl t=({t with at_:=0,half:=false,found:=(y:Int),aQ:=t.seen,done:=true,end_:=if t.kind=1 then 10 else 0},false):=by
     unfold dx
     rw[es]
     unfold jv
     dsimp only
     rw[if_neg (show ¬(0=4)by decide),hh,if_neg (by decide),er,Int.toNat_natCast,k3,if_pos hP.ky]
    rw[el,if_neg Bool.false_ne_true]
    exact .fj y ex rfl (by rw[←k1]) rfl (e6 hh) rfl
 rw[if_neg h1]
 have hf:=n2 (by omega)
 by_cases h2:t.next=2
 ·rw[if_pos h2]
  refine .on ⟨k1,k2,k3,k4,k5,k6,by show 3≤5;omega,fun hh=>by have hh:3=1:=hh;omega,fun _=>hf,fun _=>⟨rfl,?_,rfl⟩,fun hh=>by have hh:3=4:=hh;omega,fun hh=>by have hh:3=5:=hh;omega⟩ rfl (by simp[mn,nQ,h2])
  show tb.getD t.b 0=0
  rw[k5];exact hT.ne b (fun e=>Sz e.symm)
 rw[if_neg h2]
 by_cases h3:t.next=3
 ·rw[if_pos h3]
  obtain⟨e1,e2,e3⟩:=n3 h3
  have el:dx pl t=({t with at_:=4},true):=by
   unfold dx
   rw[e2,e1,k2,LV]
   rfl
  rw[el]
  dsimp only
  rw[if_pos rfl]
  have eb:nv {t with at_:=4}=if kind=0 then 4 else 5:=by
   unfold nv
   dsimp only
   rw[k1,hf,Sa]
   rfl
  rw[eb]
  by_cases om:kind=0
  ·rw[if_pos om]
   exact .on ⟨k1,k2,k3,k4,k5,k6,by show 4≤5;omega,fun hh=>by have hh:4=1:=hh;omega,fun _=>hf,fun hh=>by have hh:4=3:=hh;omega,fun _=>om,fun hh=>by have hh:4=5:=hh;omega⟩ rfl (by simp[mn,h3])
  ·rw[if_neg om]
   exact .on ⟨k1,k2,k3,k4,k5,k6,by show 5≤5;omega,fun hh=>by have hh:5=1:=hh;omega,fun _=>hf,fun hh=>by have hh:5=3:=hh;omega,fun hh=>by have hh:5=4:=hh;omega,fun _=>by omega⟩ rfl (by simp[mn,h3])
 rw[if_neg h3]
 by_cases h4:t.next=4
 ·rw[if_pos h4,k4,hT.at_,hf]
  have om:=n4 h4
  cases x with
  |none=>
   rw[if_pos (show pd none=0 from rfl)]
   exact .none om rfl rfl rfl rfl
  |some y=>
   rw[if_neg (xm (hx y rfl).1)]
   exact .on ⟨k1,k2,k3,rfl,k5,k6,by show 1≤5;omega,fun _=>⟨rfl,some y,rfl,rfl,.inr rfl,fun e=>(by cases e),fun hh=>(by cases hh)⟩,fun hh=>by have hh:2≤1:=hh;omega,fun hh=>by have hh:1=3:=hh;omega,fun hh=>by have hh:1=4:=hh;omega,fun hh=>by have hh:1=5:=hh;omega⟩ rfl (by simp[mn,nQ,h4,xm (hx y rfl).1])
 rw[if_neg h4]
 have h5:t.next=5:=by omega
 have wB:=n5 h5
 rw[k4,hT.at_,hf]
 cases x with
 |none=>
  rw[if_pos (show pd none=0 from rfl)]
  obtain⟨i1,i2⟩:=hid wB
  refine .put wB rfl rfl rfl ⟨?_,?_,fun j hj=> ?_⟩
  ·show(tb.set a _).length=_;rw[List.length_set];exact hT.len
  ·show(tb.set a (iO 0 t.id)).getD a 0=pd (some id.toNat)
   have hl:=hT.len
   rw[List.getD_eq_getElem?_getD,List.getElem?_set]
   rw[if_pos rfl,if_pos (by omega),Option.getD_some]
   show iO 0 t.id=iO 0 ((id.toNat:Nat):Int)
   rw[k2,Int.toNat_of_nonneg i1]
  ·show(tb.set a _).getD j 0=0
   rw[List.getD_eq_getElem?_getD,List.getElem?_set,if_neg (fun e=>hj e.symm),←List.getD_eq_getElem?_getD]
   exact hT.ne j hj
 |some y=>
  rw[if_neg (xm (hx y rfl).1)]
  exact .on ⟨k1,k2,k3,rfl,k5,k6,by show 0≤5;omega,fun hh=>by have hh:0=1:=hh;omega,fun hh=>by have hh:2≤0:=hh;omega,fun hh=>by have hh:0=3:=hh;omega,fun hh=>by have hh:0=4:=hh;omega,fun hh=>by have hh:0=5:=hh;omega⟩ rfl (by have q:tb.getD a 0≠0:=(by rw[hT.at_];exact xm (hx y rfl).1);rw[List.getD_eq_getElem?_getD]at q;simp[mn,nQ,h5,q])
end
end Go.Proofs.YtakbmjoijcpdmaaGreatDoor
