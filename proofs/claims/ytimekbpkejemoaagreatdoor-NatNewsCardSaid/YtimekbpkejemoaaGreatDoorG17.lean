/-
  Joined by a program (wip/bundle2.py).
-/
import Derived.Test.YtimekbpkejemoaaGreatDoorG4
import Derived.Test.YtimekbpkejemoaaGreatDoorG5
import Derived.Test.YtimekbpkejemoaaGreatDoorG7
import Derived.Test.YtimekbpkejemoaaGreatDoorG12
import Derived.Test.YtimekbpkejemoaaGreatDoorG16
set_option linter.unusedVariables false
set_option linter.unusedSimpArgs false
namespace Go.Proofs.YtimekbpkejemoaaGreatDoor
section
open Go.RowKit
set_option maxRecDepth 10000
attribute [local irreducible] EK EX ER EN EL ES EG av aV aY
variable {W:World} {F G:SL} {X:Cx} {kk:List KI} {σ:Env} {pn:Option Addr} {c:NC} {R:dW} {s:bc} {k:aU} {P:dt} {b:Option Addr} {f:aP}
theorem Bd (k:aU)(i:Nat)(a:dD):(k.c6 i a).frame=k.frame∧(k.c6 i a).bn=k.bn:=⟨(nX k i a).1,(nX k i a).2.1⟩
theorem He {w:Nat}:(c7 c w s k f).2.1.frame=k.frame∧(c7 c w s k f).2.1.bn=k.bn:=by
 have ha:∀p i v t,(iW {k with b9:=gX k.b9 f.id f.ao} p i v t).frame=k.frame∧(iW {k with b9:=gX k.b9 f.id f.ao} p i v t).bn=k.bn:=fun p i v t=>by
  rw[yS];exact⟨rfl,rfl⟩
 unfold c7
 repeat' split
 all_goals first|exact⟨rfl,rfl⟩|skip
 ·unfold cq
  repeat' split
  all_goals first|exact⟨rfl,rfl⟩|exact Bd _ _ _|(dsimp only;split<;>first|exact⟨rfl,rfl⟩|exact Bd _ _ _)
 ·unfold e9
  repeat' split
  all_goals first|exact⟨rfl,rfl⟩|exact Bd _ _ _|exact ha _ _ _ _
def ei (k:aU)(f:aP):aU:=if f.done=true then {k with cR:=f.fj,kC:=f.lP,any:=true,frame:=none}else {k with frame:=some f}
theorem QI {w:Nat}(hT:fU W)(hc:c.Ok)(hw:w<c.n)(hP:R.wk w=P)(hf:k.frame=some f)(h:sH c w s k f):
  Spec Tryz.prog 39 [.pointer pn,.int .i64 (w:Int)] W (aA P.fr f*bf R.po P k (NH pn c R*eV c R s (bt (fun x=>mw P.sw x b) k.bn*(an 129 1 R.ws.1 c.n R.ws.2 (dA c.n fun i=>(R.wk i).p)*F)))) (fun _:aO=> .bool (!(ei (c7 c w s k f).2.1 (c7 c w s k f).2.2).busy))
   (fun z=>bf R.po {P with told:=z} (ei (c7 c w s k f).2.1 (c7 c w s k f).2.2) (bt (aA P.fr) (ei (c7 c w s k f).2.1 (c7 c w s k f).2.2).frame*(NH pn c R*eV c R (c7 c w s k f).1 (bt (fun x=>mw P.sw x b) k.bn*(an 129 1 R.ws.1 c.n R.ws.2 (dA c.n fun i=>(R.wk i).p)*F))))):=by
 refine Spec.of Tryz.func39 rfl Tryz.ntmps39 rfl ?_
 obtain⟨r1,r2⟩:=He (c:=c) (w:=w) (s:=s) (k:=k) (f:=f)
 have dS:=fun G=>QJ (W:=W) (F:=G) (pn:=pn) (q:=P.fr) (R:=R) (P:=P) hT hc h
 have qF:=fun G=>AS (W:=W) (F:=G) (pn:=pn) (R:=R) hw
 rw[hP]at qF
 generalize c7 c w s k f=D at*
 obtain⟨s2,k2,f2⟩:=D
 dsimp only at*
 rw[hf]at r1
 have rz:k.busy=true:=by unfold aU.busy;rw[hf];rfl
 have mN:=fun G=>tS (W:=W) (P:=P) (k:=k) (b:=b) (F:=G)
 have ep:kv (some f) P.fr=P.fr:=rfl
 simp only[hf,cd,cS,rz,ep]at mN
 simp only[bf,eV,cS,hf,r1,ep]at dS
 simp only[bf,eV,cS,hf,ep]
 repeat first|refine aa ?_ |intro
 refine af rfl (Spec.pre (qF (aA P.fr f*(Obj P.p 148 [.pointer (P.c 0),.pointer (P.c 1),.pointer (P.c 2),.pointer P.wh,.map (some P.m),.pointer P.fr,.pointer (kv k.bn P.sw),.slice P.told.1 k.cR.length P.told.2,.int .i64 (k.kC:Int),.bool k.any,.slice P.ended.1 k.ended.length P.ended.2]*(bt (fun x=>mw P.sw x b) k.bn*(aE (ec R.po P k) 3*(di P.wh k.bb*(fh gD fA P.m k.b9*(an 5 1 P.told.1 k.cR.length P.told.2 (aD k.cR)*(an 93 2 P.ended.1 k.ended.length P.ended.2 (kV k.ended)*(bO R.ep s.ep s.gs*(aJ R.pl s.pl*(aF R.tb R.pl c.nb s.tb*(aE (bC c R s) 3*F))))))))))))) (ab)) ?_
 intro _
 repeat first|refine aa ?_ |intro
 refine af rfl (Spec.pre (mN (NH pn c R*(an 129 1 R.ws.1 c.n R.ws.2 (dA c.n fun i=>(R.wk i).p)*(aE (ec R.po P k) 3*(di P.wh k.bb*(fh gD fA P.m k.b9*(an 5 1 P.told.1 k.cR.length P.told.2 (aD k.cR)*(an 93 2 P.ended.1 k.ended.length P.ended.2 (kV k.ended)*(bO R.ep s.ep s.gs*(aJ R.pl s.pl*(aF R.tb R.pl c.nb s.tb*(aE (bC c R s) 3*F)))))))))))) (ab)) ?_
 intro _
 repeat first|refine aa ?_ |intro
 refine af rfl (Spec.pre (dS (bt (fun x=>mw P.sw x b) k.bn*(an 129 1 R.ws.1 c.n R.ws.2 (dA c.n fun i=>(R.wk i).p)*F))) (ab)) ?_
 intro _
 refine aA.ia fun Q=> ?_
 simp only[bW]
 rw[←r2]
 cases hd:f2.done with
 |true=>
  have eD:ei k2 f2={k2 with cR:=f2.fj,kC:=f2.lP,any:=true,frame:=none}:=if_pos hd
  rw[eD]
  have s6:=fun G=>tS (W:=W) (P:={P with told:=Q.fi}) (k:={k2 with cR:=f2.fj,kC:=f2.lP,any:=true,frame:=none}) (b:=b) (F:=G)
  simp only[gE,cS,j2]at s6
  repeat first|refine aa ?_ |intro
  refine af rfl (Spec.pre (s6 (an 5 1 Q.fi.1 f2.fj.length Q.fi.2 (aD f2.fj)*(aE (ec R.po P k2) 3*(di P.wh k2.bb*(fh gD fA P.m k2.b9*(an 93 2 P.ended.1 k2.ended.length P.ended.2 (kV k2.ended)*(NH pn c R*(bO R.ep s2.ep s2.gs*(aJ R.pl s2.pl*(aF R.tb R.pl c.nb s2.tb*(aE (bC c R s2) 3*(an 129 1 R.ws.1 c.n R.ws.2 (dA c.n fun i=>(R.wk i).p)*F)))))))))))) (ab)) ?_
  intro _
  repeat first|refine aa ?_ |intro
  refine ae (ar rfl rfl Q.fi rfl (U.sat ?_))
  rw[yX (P:=P) (P':={P with told:=Q.fi}) (k:=k2) (k':={k2 with cR:=f2.fj,kC:=f2.lP,any:=true,frame:=none}) rfl rfl rfl rfl rfl]
  simp only[gE,cS,j2]
  exact ab
 |false=>
  have eD:ei k2 f2={k2 with frame:=some f2}:=if_neg (by rw[hd];decide)
  rw[eD]
  have s6:=fun G=>tS (W:=W) (P:=P) (k:={k2 with frame:=some f2}) (b:=b) (F:=G)
  simp only[cd,cS,show kv (some f2) P.fr=P.fr from rfl]at s6
  repeat first|refine aa ?_ |intro
  refine af rfl (Spec.pre (s6 (an 5 1 P.told.1 k2.cR.length P.told.2 (aD k2.cR)*(aE (ec R.po P k2) 3*(di P.wh k2.bb*(fh gD fA P.m k2.b9*(an 93 2 P.ended.1 k2.ended.length P.ended.2 (kV k2.ended)*(NH pn c R*(bO R.ep s2.ep s2.gs*(aJ R.pl s2.pl*(aF R.tb R.pl c.nb s2.tb*(aE (bC c R s2) 3*(an 129 1 R.ws.1 c.n R.ws.2 (dA c.n fun i=>(R.wk i).p)*F)))))))))))) (U.at P.p rfl (aA.bH Q (by unfold q8;rw[hd]) (ab)))) ?_
  intro _
  repeat first|refine aa ?_ |intro
  refine ae (ar rfl rfl P.told rfl (U.sat ?_))
  rw[yX (P:=P) (P':={P with told:=P.told}) (k:=k2) (k':={k2 with frame:=some f2}) rfl rfl rfl rfl rfl]
  simp only[cd,cS,show kv (some f2) P.fr=P.fr from rfl]
  exact ab
end
section
open Go.RowKit
set_option maxRecDepth 10000
attribute [local irreducible] EK EX ER EN EL ES EG av aV aY
variable {W:World} {F G:SL} {X:Cx} {kk:List KI} {σ:Env} {pn:Option Addr} {c:NC} {R:dW} {n:dx} {s:bc} {k:aU} {P:dt} {b:Option Addr} {f:aP} {x:fT} {w:Nat}
theorem Spec.vc {Q:Program}{g:FuncId}{vs:List Value}{α β:Type}{P:β→SL}{r:α→Value}{H':α→SL}(h:∀a,Spec Q g vs W (P a*F) r H'):Spec Q g vs W (SL.ex P*F) r H':=fun w hs=>by
 obtain⟨a,hs⟩:=hs.gQ
 exact h a w hs
def IY (P:dt)(k:aU)(x:fT)(b:Option Addr):Prop:=∀bk,x.back=some bk→bk.kind=2→bk.done=false→∀i,i<3→(k.ca i).out.isSome=true→b=P.q i
def lJ (P:dt)(k:aU)(x:fT):SL:=SL.ex fun b:{b:Option Addr//IY P k x b}=>mw P.sw x b.1
def oR (pp:Nat→Option Addr)(P:dt)(k:aU):SL:=sJ pp P k*(bt (aA P.fr) k.frame*bt (lJ P k) k.bn)
theorem oR.eq (pp:Nat→Option Addr)(P:dt)(k:aU)(F:SL):oR pp P k*F=bf pp P k (bt (aA P.fr) k.frame*(bt (lJ P k) k.bn*F)):=by
 unfold oR
 rw[SL.bU,sJ.eq,SL.bU]
def jo (R:dW)(l:List aU)(i:Nat):SL:=oR R.po (R.wk i) (l.getD i bF)
def fQ (pn:Option Addr)(c:NC)(n:dx)(R:dW):SL:=NH pn c R*(an 129 1 R.ws.1 c.n R.ws.2 (dA c.n fun i=>(R.wk i).p)*(aE (jo R n.wk) c.n*sG c R n.sh))
def fG (pn:Option Addr)(c:NC)(n:dx):SL:=SL.ex (fQ pn c n)
theorem fQ.eq (n:dx)(R:dW)(F:SL):fQ pn c n R*F=NH pn c R*(an 129 1 R.ws.1 c.n R.ws.2 (dA c.n fun i=>(R.wk i).p)*(aE (jo R n.wk) c.n*eV c R n.sh F)):=by
 unfold fQ
 simp only[SL.bU]
 rw[sG.eq]
theorem fQ.at (hw:w<c.n)(F:SL):fQ pn c n R*F=NH pn c R*(an 129 1 R.ws.1 c.n R.ws.2 (dA c.n fun i=>(R.wk i).p)*(bf R.po (R.wk w) (n.wk.getD w bF) (bt (aA (R.wk w).fr) (n.wk.getD w bF).frame*(bt (lJ (R.wk w) (n.wk.getD w bF)) (n.wk.getD w bF).bn*(aE (dw (jo R n.wk) w) c.n*eV c R n.sh F))))):=by
 rw[fQ.eq,aE.at c.n hw,SL.bU]
 unfold jo
 rw[oR.eq]
def pP (f:Nat→dt)(w:Nat)(P:dt):Nat→dt:=fun i=>if i=w then P else f i
theorem rp (l:List aU)(w i:Nat)(k:aU)(h:w<l.length):(l.set w k).getD i bF=if i=w then k else l.getD i bF:=by
 simp only[List.getD_eq_getElem?_getD,List.getElem?_set]
 by_cases e:i=w
 ·subst e;simp[h]
 ·rw[if_neg (fun h:w=i=>e h.symm),if_neg e]
theorem fQ.put (hl:n.wk.length=c.n)(hw:w<c.n)(P':dt)(k':aU)(s':bc)(hp:P'.p=(R.wk w).p)(F:SL):fQ pn c ⟨s',n.wk.set w k'⟩ {R with wk:=pP R.wk w P'}*F=NH pn c R*(an 129 1 R.ws.1 c.n R.ws.2 (dA c.n fun i=>(R.wk i).p)*(bf R.po P' k' (bt (aA P'.fr) k'.frame*(bt (lJ P' k') k'.bn*(aE (dw (jo R n.wk) w) c.n*eV c R s' F))))):=by
 rw[fQ.at hw]
 have e1:pP R.wk w P' w=P':=if_pos rfl
 have e2:(n.wk.set w k').getD w bF=k':=by rw[rp _ _ _ _ (by omega),if_pos rfl]
 have e3:aE (dw (jo {R with wk:=pP R.wk w P'} (n.wk.set w k')) w) c.n=aE (dw (jo R n.wk) w) c.n:=aE.congr c.n fun i hi=>by
  unfold dw
  by_cases e:i=w
  ·rw[if_pos e,if_pos e]
  ·rw[if_neg e,if_neg e]
   unfold jo
   rw[rp _ _ _ _ (by omega),if_neg e]
   have:pP R.wk w P' i=R.wk i:=if_neg e
   dsimp only
   rw[this]
 have e4:(dA c.n fun i=>(pP R.wk w P' i).p)=dA c.n fun i=>(R.wk i).p:=Gz fun i hi=>by
  unfold pP
  split
  ·rename_i e;rw[hp,e]
  ·rfl
 dsimp only
 rw[e1,e2,e3,e4]
 rfl
theorem F2 (hl:n.wk.length=c.n)(hw:w<c.n)(hf:(n.wk.getD w bF).frame=some f):iI c w n=(⟨(c7 c w n.sh (n.wk.getD w bF) f).1,n.wk.set w (ei (c7 c w n.sh (n.wk.getD w bF) f).2.1 (c7 c w n.sh (n.wk.getD w bF) f).2.2)⟩, !(ei (c7 c w n.sh (n.wk.getD w bF) f).2.1 (c7 c w n.sh (n.wk.getD w bF) f).2.2).busy):=by
 unfold iI
 rw[if_neg (by omega)]
 simp only[hf]
 rfl
theorem G5 (k:aU)(d i:Nat)(hd:d<3)(hi:i<3)(a:dD):(k.c6 d a).ca i=if i=d then a else k.ca i:=by
 split
 ·rename_i e;subst e;exact yV k a hd
 ·rename_i e;exact CZ k a hi hd e
theorem JQ (hT:fU W)(hc:c.Ok)(hl:n.wk.length=c.n)(hw:w<c.n)(hf:(n.wk.getD w bF).frame=some f)(hs:(n.wk.getD w bF).bn=none)(h:sH c w n.sh (n.wk.getD w bF) f):Spec Tryz.prog 39 [.pointer pn,.int .i64 (w:Int)] W (fG pn c n*F) (fun _:Unit=> .bool (iI c w n).2) (fun _=>fG pn c (iI c w n).1*F):=by
 refine Spec.vc fun R=> ?_
 rw[fQ.at hw]
 rw[F2 hl hw hf]
 obtain⟨r1,r2⟩:=He (c:=c) (w:=w) (s:=n.sh) (k:=n.wk.getD w bF) (f:=f)
 have qu:=QI (W:=W) (pn:=pn) (R:=R) (b:=none) (F:=aE (dw (jo R n.wk) w) c.n*F) hT hc hw (P:=R.wk w) rfl hf h
 simp only[hf,hs,gE,cd]at qu ⊢
 refine(Spec.pre qu (by simp only[bf,eV];exact ab)).mono fun z=>⟨(),rfl,?_⟩
 refine U.ex {R with wk:=pP R.wk w {R.wk w with told:=z}} ?_
 rw[fQ.put hl hw {R.wk w with told:=z} _ _ rfl]
 have pj:(ei (c7 c w n.sh (n.wk.getD w bF) f).2.1 (c7 c w n.sh (n.wk.getD w bF) f).2.2).bn=none:=by
  unfold ei
  split<;>(dsimp only;rw[r2,hs])
 rw[pj,gE]
 generalize c7 c w n.sh (n.wk.getD w bF) f=D
 obtain⟨s2,k2,f2⟩:=D
 simp only[bf,eV]
 exact ab
end
section
open Go.RowKit
set_option maxRecDepth 10000
attribute [local irreducible] EK EX ER EN EL ES EG av aV aY
variable {W:World} {F G:SL} {X:Cx} {kk:List KI} {σ:Env} {pn:Option Addr} {c:NC} {R:dW} {n:dx} {k:aU} {P:dt} {b:Option Addr} {w:Nat}
attribute [local simp] mF
theorem BC {q:Option Addr}{cap:Nat}{l:List UInt8}[s:Src W F q l.length (aD l)](hn:l.length≤1000000):
  Spec Tryz.prog 52 [.slice q l.length cap] W F (fun g:aO=> .slice g.1 l.length g.2) (fun g=>an 5 1 g.1 l.length g.2 (aD l)*F):=by
 refine Spec.of Tryz.func52 rfl Tryz.ntmps52 rfl ?_
 repeat first|refine aa ?_ |intro
 refine bS (uN rfl rfl) rfl ?_
 repeat first|refine aa ?_ |intro
 refine il rfl (fun hp=> ?_) (fun hp=> ?_)
 ·subst hp
  refine BI (φ:=l.length=0) (fun w hw=>by
   rcases Nat.eq_zero_or_pos l.length with h|h
   ·exact h
   ·exact absurd rfl (s.nn w hw h)) fun h0=> ?_
  obtain rfl:=List.eq_nil_of_length_eq_zero h0
  repeat first|refine aa ?_ |intro
  exact ae (ar rfl rfl ((none,0):aO) rfl (U.sat (U.none (U.refl _))))
 ·repeat first|refine aa ?_ |intro
  rename_i q0 g
  refine ae (ar rfl rfl g ?_ (U.sat (U.row g.1 ?_ ?_ ?_)))
  ·simp
  ·simp
  ·simp
  ·repeat(first|exact U.last|refine U.cons ?_ |refine U.assoc ?_)
def ir (n:dx)(w:Nat)(out:Bool)(b:List UInt8)(tick:Int):dx×Nat:=if(n.wk.getD w bF).busy=true then(n,10)else(⟨n.sh,n.wk.set w {(n.wk.getD w bF)with frame:=some (qp out b tick)}⟩,0)
def dZ (n:dx)(w:Nat):List UInt8×Nat×Bool:=if(n.wk.getD w bF).any=true then((n.wk.getD w bF).cR,(n.wk.getD w bF).kC,true)else([],0,false)
abbrev oS (pp:Nat→Option Addr)(P:dt)(k:aU)(F:SL):SL:=aE (ec pp P k) 3*(di P.wh k.bb*(fh gD fA P.m k.b9*(an 5 1 P.told.1 k.cR.length P.told.2 (aD k.cR)*(an 93 2 P.ended.1 k.ended.length P.ended.2 (kV k.ended)*F))))
theorem K8 {P:dt}{k:aU}:Spec Tryz.prog 51 [.pointer P.p] W (Obj P.p 148 (cS P k)*(bt (aA P.fr) k.frame*(bt (lJ P k) k.bn*F))) (fun _:Unit=> .bool k.busy) (fun _=>Obj P.p 148 (cS P k)*(bt (aA P.fr) k.frame*(bt (lJ P k) k.bn*F))):=by
 cases hx:k.bn with
 |none=>
  have h:=tS (W:=W) (P:=P) (k:=k) (b:=none) (F:=F)
  rw[hx]at h
  exact h
 |some x=>
  refine Spec.pre (G:=lJ P k x*(Obj P.p 148 (cS P k)*(bt (aA P.fr) k.frame*F))) ?_ (by rw[cd];exact ab)
  refine Spec.vc fun b=> ?_
  have h:=tS (W:=W) (P:=P) (k:=k) (b:=b.1) (F:=F)
  rw[hx,cd]at h
  refine(Spec.pre h (ab)).mono fun _=>⟨(),rfl,?_⟩
  rw[cd]
  refine U.trans (B:=lJ P k x*(Obj P.p 148 (cS P k)*(bt (aA P.fr) k.frame*F))) (U.ex b (ab)) (ab)
abbrev kE (pn:Option Addr)(c:NC)(R:dW)(n:dx)(w:Nat)(k:aU)(F:SL):SL:=NH pn c R*(an 129 1 R.ws.1 c.n R.ws.2 (dA c.n fun i=>(R.wk i).p)*(Obj (R.wk w).p 148 (cS (R.wk w) k)*(bt (aA (R.wk w).fr) k.frame*(bt (lJ (R.wk w) k) k.bn*(oS R.po (R.wk w) k (aE (dw (jo R n.wk) w) c.n*eV c R n.sh F))))))
theorem fQ.Gf (hw:w<c.n):U (fQ pn c n R*F) (kE pn c R n w (n.wk.getD w bF) F)∧U (kE pn c R n w (n.wk.getD w bF) F) (fQ pn c n R*F):=by
 rw[fQ.at hw]
 simp only[kE,oS,bf]
 generalize n.wk.getD w bF=k
 exact⟨ab,ab⟩
theorem Spec.F7 {f:FuncId}{vs:List Value}{α:Type}{r:α→Value}{H':α→SL}(hw:w<c.n)(h:∀R:dW,Spec Tryz.prog f vs W (kE pn c R n w (n.wk.getD w bF) F) r fun x=>H' x):Spec Tryz.prog f vs W (fG pn c n*F) r H':=Spec.vc fun R=>Spec.pre (h R) (fQ.Gf hw).1
theorem kE.back (hw:w<c.n):U (kE pn c R n w (n.wk.getD w bF) F) (fG pn c n*F):=U.trans (fQ.Gf hw).2 (U.ex R (U.refl _))
theorem kE.put (hl:n.wk.length=c.n)(hw:w<c.n)(P':dt)(k':aU)(hp:P'.p=(R.wk w).p):U (NH pn c R*(an 129 1 R.ws.1 c.n R.ws.2 (dA c.n fun i=>(R.wk i).p)*(Obj P'.p 148 (cS P' k')*(bt (aA P'.fr) k'.frame*(bt (lJ P' k') k'.bn*(oS R.po P' k' (aE (dw (jo R n.wk) w) c.n*eV c R n.sh F))))))) (fG pn c ⟨n.sh,n.wk.set w k'⟩*F):=by
 refine U.ex {R with wk:=pP R.wk w P'} ?_
 rw[fQ.put hl hw P' k' n.sh hp]
 simp only[bf,eV,oS]
 exact ab
theorem La {k:aU}(h:¬k.busy=true):k.frame=none∧k.bn=none:=by
 unfold aU.busy at h
 cases hf:k.frame with
 |some f=>rw[hf]at h;exact absurd rfl h
 |none=>
  cases hs:k.bn with
  |some x=>rw[hf,hs]at h;exact absurd rfl h
  |none=>exact⟨rfl,rfl⟩
theorem Bz {out:Bool}{q:Option Addr}{l:List UInt8}{cap:Nat}{tick:Int}[s:Src W F q l.length (aD l)](hb:l.length≤1000000)(hl:n.wk.length=c.n)(hw:w<c.n):
  Spec Tryz.prog 15 [.pointer pn,.int .i64 (w:Int),.bool out,.slice q l.length cap,.int .i64 tick] W (fG pn c n*F) (fun _:Unit=> .int .i64 ((ir n w out l tick).2:Int)) (fun _=>fG pn c (ir n w out l tick).1*F):=by
 refine Spec.F7 hw fun R=> ?_
 refine Spec.of Tryz.func15 rfl Tryz.ntmps15 rfl ?_
 have qF:=fun G=>AS (W:=W) (F:=G) (pn:=pn) (R:=R) hw
 have mN:=fun G=>K8 (W:=W) (P:=R.wk w) (k:=n.wk.getD w bF) (F:=G)
 unfold ir
 repeat first|refine aa ?_ |intro
 refine af rfl (qF _) ?_
 intro _
 repeat first|refine aa ?_ |intro
 refine af rfl (Spec.pre (mN (NH pn c R*(an 129 1 R.ws.1 c.n R.ws.2 (dA c.n fun i=>(R.wk i).p)*(oS R.po (R.wk w) (n.wk.getD w bF) (aE (dw (jo R n.wk) w) c.n*eV c R n.sh F))))) (ab)) ?_
 intro _
 by_cases rz:(n.wk.getD w bF).busy=true
 ·rw[rz,if_pos rfl]
  repeat first|refine aa ?_ |intro
  exact ae (ar rfl rfl () rfl (U.sat (U.trans (B:=kE pn c R n w (n.wk.getD w bF) F) (ab) (kE.back hw))))
 ·obtain⟨hf,hs⟩:=La rz
  rw[if_neg rz,Bool.eq_false_iff.2 rz]
  have N2:=fun P' k' hp=>kE.put (F:=F) (pn:=pn) (R:=R) (n:=n) hl hw P' k' hp
  generalize n.wk.getD w bF=k at*
  simp only[cS,hf,hs,gE,j2]
  repeat first|refine aa ?_ |intro
  refine af rfl (BC (q:=q) (l:=l) hb) ?_
  intro z
  repeat first|refine aa ?_ |intro
  rename_i y
  refine ae (ar rfl rfl () rfl (U.sat (U.trans ?_ (N2 {R.wk w with fr:=y} {k with frame:=some (qp out l tick),bn:=none} rfl))))
  simp only[hs,gE,cd,cS,j2,show kv (some (qp out l tick)) y=y from rfl]
  refine U.trans (B:=aA y (qp out l tick)*(NH pn c R*(an 129 1 R.ws.1 c.n R.ws.2 (dA c.n fun i=>(R.wk i).p)*(Obj (R.wk w).p 148 [.pointer ((R.wk w).c 0),.pointer ((R.wk w).c 1),.pointer ((R.wk w).c 2),.pointer (R.wk w).wh,.map (some (R.wk w).m),.pointer y,.pointer none,.slice (R.wk w).told.1 k.cR.length (R.wk w).told.2,.int .i64 (k.kC:Int),.bool k.any,.slice (R.wk w).ended.1 k.ended.length (R.wk w).ended.2]*(oS R.po (R.wk w) k (aE (dw (jo R n.wk) w) c.n*eV c R n.sh F)))))) ?_ ?_
  ·refine aA.bH ⟨z,none,none,none,none,none,none,none,(none,0)⟩ (by rfl) ?_
   simp only[qp,gE]
   refine U.cons ?_
   refine U.none ?_
   exact ab
  ·simp only[oS]
   rw[yX (P:=R.wk w) (P':={R.wk w with fr:=y}) (k:=k) (k':={k with frame:=some (qp out l tick),bn:=none}) rfl rfl rfl rfl rfl]
   exact ab
theorem Cw (hw:w<c.n)(hb:(n.wk.getD w bF).cR.length≤1000000):
  Spec Tryz.prog 16 [.pointer pn,.int .i64 (w:Int)] W (fG pn c n*F) (fun z:aO=> .tuple #[.agg #[.slice z.1 (dZ n w).1.length z.2,.int .i64 ((dZ n w).2.1:Int)],.bool (dZ n w).2.2]) (fun z=>an 5 1 z.1 (dZ n w).1.length z.2 (aD (dZ n w).1)*(fG pn c n*F)):=by
 refine Spec.F7 hw fun R=> ?_
 refine Spec.of Tryz.func16 rfl Tryz.ntmps16 rfl ?_
 have qF:=fun G=>AS (W:=W) (F:=G) (pn:=pn) (R:=R) hw
 have nE:=kE.back (F:=F) (pn:=pn) (R:=R) (n:=n) hw
 unfold dZ
 generalize n.wk.getD w bF=k at*
 repeat first|refine aa ?_ |intro
 rename_i y
 refine af rfl (Spec.pre (qF (Obj y 54 [.slice none 0 0,.int .i64 0]*(Obj (R.wk w).p 148 (cS (R.wk w) k)*(bt (aA (R.wk w).fr) k.frame*(bt (lJ (R.wk w) k) k.bn*(oS R.po (R.wk w) k (aE (dw (jo R n.wk) w) c.n*eV c R n.sh F))))))) (ab)) ?_
 intro _
 cases ha:k.any with
 |true=>
  rw[if_pos rfl]
  simp only[kE,cS,ha]at nE ⊢
  repeat first|refine aa ?_ |intro
  refine aG 12 (Obj (R.wk w).p 148 [.pointer ((R.wk w).c 0),.pointer ((R.wk w).c 1),.pointer ((R.wk w).c 2),.pointer (R.wk w).wh,.map (some (R.wk w).m),.pointer (kv k.frame (R.wk w).fr),.pointer (kv k.bn (R.wk w).sw),.slice (R.wk w).told.1 k.cR.length (R.wk w).told.2,.int .i64 (k.kC:Int),.bool true,.slice (R.wk w).ended.1 k.ended.length (R.wk w).ended.2]*1) rfl rfl rfl ?_
  repeat(first|refine ak ?_ |refine aQ 0 rfl rfl rfl rfl (by decide+kernel) (az) rfl ?_ |refine aQ 1 rfl rfl rfl rfl (by decide+kernel) (az) rfl ?_ |refine aQ 2 rfl rfl rfl rfl (by decide+kernel) (az) rfl ?_ |refine aQ 3 rfl rfl rfl rfl (by decide+kernel) (az) rfl ?_)
  refine aC rfl rfl rfl rfl rfl (BC hb) (fun _=>ab) ?_
  intro z
  repeat(first|refine ak ?_ |refine aQ 0 rfl rfl rfl rfl (by decide+kernel) (az) rfl ?_ |refine aQ 1 rfl rfl rfl rfl (by decide+kernel) (az) rfl ?_ |refine aQ 2 rfl rfl rfl rfl (by decide+kernel) (az) rfl ?_ |refine aQ 3 rfl rfl rfl rfl (by decide+kernel) (az) rfl ?_)
  (refine kG rfl (cK rfl rfl rfl rfl rfl rfl) (by decide+kernel) rfl ?_);repeat(first|refine fo rfl rfl rfl (gx rfl rfl) (by decide+kernel) (by decide+kernel) rfl ?_ |refine fo rfl rfl rfl (gw rfl rfl) (by decide+kernel) (by decide+kernel) rfl ?_ |refine kH rfl rfl (cK rfl rfl rfl rfl rfl rfl) (by decide+kernel) (by decide+kernel) rfl ?_ |refine eD ?_)
  repeat(first|refine bJ ?_ |(refine bN ?_;intro)|refine bK ?_ |refine bL ?_ |refine bM ?_ |refine eD ?_)
  repeat first|refine aa ?_ |intro
  exact ae (aZ (rs:=[.cell 4 54,.tmp 5]) (v:= .agg #[.slice z.1 k.cR.length z.2,.int .i64 (k.kC:Int)]) (u:= .bool true) (vs:=[]) rfl ⟨⟨_,rfl,aT.agg rfl⟩,rfl,trivial⟩ z rfl (U.sat (U.cons (U.trans (ab) nE))))
 |false=>
  rw[if_neg (by decide)]
  simp only[kE,cS,ha]at nE ⊢
  repeat first|refine aa ?_ |intro
  exact ae (aZ (rs:=[.cell 4 54,.tmp 5]) (v:= .agg #[.slice none 0 0,.int .i64 0]) (u:= .bool false) (vs:=[]) rfl ⟨⟨_,rfl,aT.agg rfl⟩,rfl,trivial⟩ ((none,0):aO) rfl (U.sat (U.none (U.trans (ab) nE))))
end
section
open Go.RowKit
def CT (c:NC)(s:bc)(x:Nat):oy:=⟨lr (mT s (x:Int)),c.lo+x%c.np,(cb s (x:Int)).tr,(cb s (x:Int)).sn⟩
def wX (s:bc)(x:Nat):Bool:=decide ((cb s (x:Int)).st=2)
def jv (c:NC)(s:bc)(i:Nat):List oy:=((List.range i).filter (wX s)).map (CT c s)
def lS (c:NC)(s:bc):List oy:=jv c s (3*c.np)
theorem KX (c:NC)(s:bc)(i:Nat):jv c s (i+1)=jv c s i++if(cb s (i:Int)).st=2 then [⟨lr (mT s (i:Int)),c.lo+i%c.np,(cb s (i:Int)).tr,(cb s (i:Int)).sn⟩]else []:=by
 unfold jv
 rw[List.range_succ,List.filter_append,List.map_append]
 congr 1
 by_cases h:(cb s (i:Int)).st=2<;>simp[wX,CT,h]
theorem KW (c:NC)(s:bc)(i:Nat):(jv c s i).length≤i:=by
 have:=List.length_filter_le (wX s) (List.range i)
 rw[List.length_range]at this
 unfold jv
 rw[List.length_map];exact this
section
variable {β:Type} {N y:Nat} {P P':Nat→Bool} {B B':Nat→β}
end
end
section
open Go.RowKit
theorem Cz {ps:List (Nat×Nat)}(z y:Nat)(h:y∈jd ps∨y=z):y∈jd (addPart ps z):=by
 unfold addPart
 split
 ·rename_i i hi
  have cN:=Gn hi
  have zM:=Gm hi
  rw[nS]
  have vL:∀v,v∈ps.set i v:=fun v=>List.mem_iff_getElem.2 ⟨i,by simpa using cN,by simp⟩
  rcases h with h|rfl
  ·obtain⟨x,hx,h1,h2⟩:=nS.1 h
   obtain⟨j,hj,rfl⟩:=List.getElem_of_mem hx
   by_cases e:i=j
   ·subst e
    refine⟨_,vL _,?_,?_⟩
    ·rw[h1,List.getD_eq_getElem?_getD,List.getElem?_eq_getElem hj];rfl
    ·dsimp only
     rw[Nat.testBit_or,List.getD_eq_getElem?_getD,List.getElem?_eq_getElem hj]
     simp[h2]
   ·exact⟨ps[j],List.mem_iff_getElem.2 ⟨j,by simpa using hj,by rw[List.getElem_set_ne e]⟩,h1,h2⟩
  ·refine⟨_,vL _,zM.symm,?_⟩
   dsimp only
   rw[Nat.testBit_or,Nat.testBit_two_pow_self,Bool.or_true]
 ·rw[nS]
  rcases h with h|rfl
  ·obtain⟨x,hx,h1,h2⟩:=nS.1 h
   exact⟨x,List.mem_append_left _ hx,h1,h2⟩
  ·exact⟨_,List.mem_append_right _ (List.mem_singleton.2 rfl),rfl,Nat.testBit_two_pow_self⟩
theorem DI (n:Nat):∀(l:List Int) (ps:List (Nat×Nat)) (y:Nat),(y∈jd ps∨((y:Int)∈l∧y<n))→y∈jd (l.foldl (j9 n) ps)
 |[],ps,y,h=>h.elim id fun h=>absurd h.1 (by simp)
 |z::l,ps,y,h=>by
  rw[List.foldl_cons]
  refine DI n l _ y ?_
  by_cases hy:(y:Int)∈l∧y<n
  ·exact .inr hy
  ·refine .inl ?_
   unfold j9
   rcases h with h|⟨h1,h2⟩
   ·split
    ·exact Cz _ _ (.inl h)
    ·exact h
   ·rcases List.mem_cons.1 h1 with h1|h1
    ·rw[if_pos ⟨by omega,by omega⟩]
     exact Cz _ _ (.inr (by omega))
    ·exact absurd ⟨h1,h2⟩ hy
theorem Qf (n:Nat)(l:List Nat)(y:Nat):y∈jd (oU n (l.map fun(x:Nat)=>(x:Int)))↔y∈l∧y<n:=by
 have hm:((y:Int)∈l.map fun(x:Nat)=>(x:Int))↔y∈l:=by
  rw[List.mem_map]
  exact⟨fun⟨a,h1,h2⟩=>by rwa[show y=a by omega],fun h=>⟨y,h,rfl⟩⟩
 constructor
 ·intro h
  obtain⟨h1,h2⟩:=(CJ n _).2 y h
  exact⟨hm.1 h1,h2⟩
 ·rintro ⟨h1,h2⟩
  exact DI n _ [] y (.inr ⟨hm.2 h1,h2⟩)
end
section
open Go.RowKit
variable {m n k w x:Nat} {ws o:List Nat} {s:bG}
inductive I1 where
 |idle
 |still
 |fill (s:bG)
 |back (s:bG)
structure I3 where
 home:Nat
 l:List Nat
 run:I1
def one (p:Prop)[Decidable p]:Nat:=if p then 1 else 0
def Lt:I3:=⟨0,[],.idle⟩
theorem Qg {c:Nat}:x∈fc ws c↔x<c∧gC ws x=true:=by unfold fc;rw[List.mem_filter,List.mem_range]
end
section
open Go.RowKit
section
variable {np:Nat} {ws:List Nat} {s:bG}
abbrev mW (np:Nat):Nat:=(np+31)/32
structure p9 (np:Nat)(ws:List Nat):Prop where
 words:gm (mW np) ws
 tail:∀x,np≤x→x<mW np*32→gC ws x=false
theorem p9.new (h1:1≤np)(h2:np≤1024):p9 np (cJ np):=⟨wi h1 h2,fun x h3 h4=>(F8 h1).2 h3 h4⟩
structure nt (np:Nat)(s:bG):Prop where
 ok:s.Ok (mW np)
 kind:s.kind=0
 most:s.most≤8
 none:s.done=false→s.bo=[]
 lt:∀g∈s.bo,g<np
 sT:s.bo.length≤8
theorem Sd (ws:List Nat)(s:bG):(iK ws s).2.most=s.most∧(s.bo=[]→(iK ws s).2.bo.length≤s.most):=by
 unfold iK
 repeat' split
 all_goals refine⟨rfl,fun e=> ?_⟩
 ·show((dN s.seen s.most).map (s.word*32+ ·)).length≤_
  unfold dN
  rw[List.length_map,List.length_take]
  omega
 all_goals (show s.bo.length≤_;rw[e];simp)
theorem nt.LX (hp:p9 np ws)(h:nt np s)(hd:s.done=false):p9 np (bz ws s).1∧nt np (bz ws s).2:=by
 obtain⟨q1,q2⟩:=u6 hp.words h.ok
 have sS:=Sf hp.words h.ok h.kind hd (h.none hd)
 have e:bz ws s=iK ws s:=by unfold bz;rw[if_neg (by simp[hd]),if_pos h.kind]
 obtain⟨m1,m2⟩:=Sd ws s
 refine⟨⟨q1,fun x h1 h2=> ?_⟩,⟨q2,sS.kind,by rw[e,m1];exact h.most,sS.none,fun g hg=> ?_,?_⟩⟩
 ·have:=(sS.after x)
  cases hf:gC (bz ws s).1 x with
  |false=>rfl
  |true=>rw[hp.tail x h1 h2]at this;exact absurd (this.1 hf).1 (by decide)
 ·have h1:=sS.free g hg
  have h2:=sS.small g hg
  rw[hp.words.len]at h2
  rcases Nat.lt_or_ge g np with h3|h3
  ·exact h3
  ·rw[hp.tail g h3 h2]at h1;cases h1
 ·have:=m2 (h.none hd)
  have:=h.most
  rw[e];omega
theorem nt.new (h1:1≤np)(hd:Int):nt np (ij hd 8 (mW np)):=
 ⟨Sc hd 8 (by unfold mW;omega),rfl,by show(min (max (8:Int) 1) 32).toNat≤8;decide,fun _=>rfl,fun g hg=>(by cases hg),(by show 0≤8;decide)⟩
structure uA (np:Nat)(s:bG):Prop where
 ok:s.Ok (mW np)
 kind:s.kind=2
 done:s.done=false
 len:s.parts.length≤8
 ne:s.parts≠ []
 nz:∀p∈s.parts,p.2≠0
 lt:∀y∈jd s.parts,y<np
theorem uA.new {l:List Nat}(cg:np≤1024)(hl:∀x∈l,x<np)(h0:l≠ [])(h8:l.length≤8):uA np (oT np (l.map fun y:Nat=>(y:Int))):=by
 obtain⟨p1,p2⟩:=CJ np (l.map fun y:Nat=>(y:Int))
 refine⟨KF (by unfold mW;omega) _,rfl,rfl,?_,?_,p1.ne,fun y hy=>(p2 y hy).2⟩
 ·have:=KG np (l.map fun y:Nat=>(y:Int))
  rw[List.length_map]at this
  show(oU _ _).length≤8
  omega
 ·intro e
  obtain⟨x,hx⟩:=List.exists_mem_of_ne_nil l h0
  have:=(Qf np l x).2 ⟨hx,hl x hx⟩
  have e:oU np (l.map fun(x:Nat)=>(x:Int))=[]:=e
  rw[e]at this
  simp[jd]at this
structure jq (np:Nat)(a:dD):Prop where
 len:a.l.length≤16
 lt:∀x∈a.l,x<np
 out:∀o,a.out=some o→uA np o
theorem jq.new (h:Nat):jq np (qf h):=⟨(by show 0≤16;decide),fun x hx=>(by cases hx),fun o h=>(by cases h)⟩
theorem jq.pop {a:dD}(h:jq np a):jq np {a with l:=a.l.take (a.l.length-1)}∧(a.l.take (a.l.length-1)).length≤15:=by
 have:=h.len
 refine⟨⟨by rw[List.length_take];omega,fun x hx=>h.lt x (List.mem_of_mem_take hx),h.out⟩,by rw[List.length_take];omega⟩
theorem jq.put {a:dD}(h:jq np a)(cg:np≤1024){x:Nat}(hx:x<np)(ho:a.out=none):
  jq np (ke np a x).1∧(((ke np a x).1.out=none∧(ke np a x).2=ui)∨((∃o,(ke np a x).1.out=some o)∧(ke np a x).2=⟨2,AZ,false⟩)):=by
 have hl:=h.len
 have cN:∀y∈a.l++[x],y<np:=fun y hy=>by
  rcases List.mem_append.1 hy with hy|hy
  ·exact h.lt y hy
  ·rw[List.mem_singleton.1 hy];exact hx
 unfold ke
 split
 ·rename_i hh
  refine⟨⟨by dsimp only;rw[List.length_drop,List.length_append,List.length_singleton];omega,fun y hy=>cN y (List.mem_of_mem_drop hy),fun o e=> ?_⟩,.inr ⟨⟨_,rfl⟩,rfl⟩⟩
  injection e with e
  subst e
  refine uA.new cg (fun y hy=>cN y (List.mem_of_mem_take hy)) (fun e=> ?_) (by rw[List.length_take];omega)
  have:((a.l++[x]).take 8).length=0:=by rw[e];rfl
  rw[List.length_take,List.length_append,List.length_singleton]at this
  rw[List.length_append,List.length_singleton]at hh
  omega
 ·rename_i hh
  rw[ho]at hh
  simp only[Option.isSome_none,and_true]at hh
  exact⟨⟨by dsimp only;omega,cN,h.out⟩,.inl ⟨ho,rfl⟩⟩
theorem jq.Re {a:dD}(h:jq np a){x:Nat}(hl:a.l.length≤15):(ke np a x).1.out=a.out:=by
 unfold ke
 rw[if_neg (by rw[List.length_append,List.length_singleton];omega)]
theorem Le {a:dD}{b:jO}(hd:b.done=false)(hk:b.kind=3):dI ws a b=(ws,a,{b with done:=true}):=by
 unfold dI
 rw[if_neg (by simp[hd]),if_pos hk]
end
section
variable {c:NC} {s:bc} {n:Nat} {pl:List Nat}
theorem cp.put {i:Nat}{v:br}(h:cp n pl)(hv:v.ok)(ht:v.tr≤4):cp n (pl.set (2*i) v.num) where
 len:=by rw[List.length_set];exact h.len
 w:=vZ h.w (br.QK hv)
 tr:=fun x=>by
  by_cases e:i=x
  ·subst e
   rcases Nat.lt_or_ge (2*i) pl.length with hl|hl
   ·rw[o8 hl,br.QR hv];exact ht
   ·rw[List.set_eq_of_length_le hl];exact h.tr i
  ·rw[kO (by omega)];exact h.tr x
theorem cp.key {i v:Nat}(h:cp n pl)(hv:v<18446744073709551616):cp n (pl.set (2*i+1) v) where
 len:=by rw[List.length_set];exact h.len
 w:=vZ h.w hv
 tr:=fun x=>by rw[kO (by omega)];exact h.tr x
theorem cp.bV {id:Int}{a b:br}(h:cp n s.pl)(hb:b.ok)(ht:b.tr≤4):cp n (bV s id a b).pl:=by
 unfold Go.Proofs.YtimekbpkejemoaaGreatDoor.bV
 split
 ·exact h.put hb ht
 ·exact h
theorem cp.nY {id:Int}{f:dE}(h:cp n s.pl)(h1:f.proto<256)(h2:f.addr<4294967296)(h3:f.port<65536):cp n (nY s id f).pl:=by
 unfold Go.Proofs.YtimekbpkejemoaaGreatDoor.nY
 exact h.key (by unfold E3 fM;omega)
theorem cp.cb {id:Int}(h:cp n s.pl):(cb s id).ok∧(cb s id).tr≤4:=by
 unfold Go.Proofs.YtimekbpkejemoaaGreatDoor.cb
 exact⟨br.Ge (h.w _),h.tr _⟩
theorem ME (v:Nat)(h:v<18446744073709551616):(lr v).addr<4294967296∧(lr v).port<65536:=⟨Nat.mod_lt _ (by decide),Nat.mod_lt _ (by decide)⟩
end
section
variable {n:Nat} {cs pl:List Nat} {s:aR}
theorem vY:(dL pl s).1.kind=s.kind:=by
 unfold dL je
 dsimp only
 repeat' split
 all_goals rfl
theorem RX (v x:Nat):(s.gZ v x).kind=s.kind:=by
 unfold aR.gZ
 repeat' split
 all_goals rfl
theorem G6 (v x:Nat):(s.ga v x).kind=s.kind:=by
 unfold aR.ga
 repeat' split
 all_goals rfl
theorem nR {p:Prop}[Decidable p]{a b:aR}{k:Nat}(ha:a.kind=k)(hb:b.kind=k):(if p then a else b).kind=k:=by split<;>assumption
theorem ft {p:Prop}[Decidable p]{a b:List Nat×aR}{k:Nat}(ha:a.2.kind=k)(hb:b.2.kind=k):(if p then a else b).2.kind=k:=by split<;>assumption
theorem RS:(gG cs pl s).2.kind=s.kind:=by
 unfold gG
 refine ft rfl (ft (nR vY vY) (ft rfl (ft (nR vY vY) (ft (nR rfl rfl) (ft rfl rfl)))))
theorem LN:(bY pl n cs s).2.kind=s.kind:=by
 unfold bY
 refine ft rfl (ft rfl (ft (RX _ _) (ft (nR (G6 _ _) (G6 _ _)) (ft rfl (ft (nR rfl (nR (nR rfl rfl) rfl)) (ft rfl rfl))))))
theorem Nu:(fx pl n cs s).2.kind=s.kind:=by
 unfold fx
 refine ft (nR rfl rfl) (ft rfl (ft rfl (ft rfl (ft rfl ?_))))
 unfold u0
 exact ft rfl (ft rfl (ft rfl (ft rfl (ft rfl rfl))))
theorem Gk:(pB s).kind=s.kind:=by
 unfold pB
 exact nR rfl rfl
theorem L1:(oV cs s).2.kind=s.kind:=by
 unfold oV
 exact ft (ft Gk rfl) (ft rfl Gk)
theorem Hf:(bI pl n cs s).2.kind=s.kind:=by
 unfold bI
 split
 ·rfl
 split
 ·exact L1
 split
 ·exact Nu
 split
 ·exact LN
 ·exact RS
end
end
section
open Go.RowKit
structure su (f:dE):Prop where
 proto:f.proto<256
 addr:f.addr<4294967296
 port:f.port<65536
structure cW (c:NC)(K:Nat)(ca:Nat→dD)(f:aP):Prop where
 le:f.next≤18
 done:f.done=false
 cH:f.b.length≤140737488355328
 fin:f.next≠0→eH f
 dM:f.fq=true→lu f.ao.proto
 bR:f.next=1→∃e,f.bR=some e∧e.Ok c.n∧e.done=false∧e.seen≤K∧e.lN=false
 start:f.next=0→f.fq=false
 me:f.next=1→f.out=false→0≤f.id∧f.id<((3*c.np:Nat):Int)
 find:f.next=2∨f.next=7→∃t,f.find=some t∧ba c.nb (3*c.np) t∧t.done=false∧t.kind=0
 id:(3≤f.next∧f.next≤5)∨(10≤f.next∧f.next≤17)→0≤f.id∧f.id<((3*c.np:Nat):Int)
 word:f.word.ok
 tr:f.word.tr≤4
 now:f.now.ok
 cE:f.now.tr≤4
 dy:6≤f.next→f.next≤14→lu f.ao.proto
 fill:f.next=6→∃x,f.fill=some x∧x.done=false∧((x.kind=0∧nt c.np x.cU∧x.cU.done=false∧(ca (aB f.ao.proto)).l=[])∨x.kind=3)
 j4:f.next=7→∃x,f.fill=some x∧x.kind=0∧x.done=true∧hY x.cU=true∧x.cU.Ok (mW c.np)∧x.cU.kind=0
 again:f.next=8→∃x,f.again=some x∧x.kind=1∧x.done=false∧x.cU.Ok (mW c.np)∧x.cU.kind=1∧x.cU.done=false
 enter:f.next=12→∃t,f.enter=some t∧ba c.nb (3*c.np) t∧t.done=false
 back:f.next=14→∃t,f.enter=some t∧ba c.nb (3*c.np) t∧t.done=true
 pop:12≤f.next→f.next≤14→(ca (aB f.ao.proto)).l.length≤15
 addr:f.next=17→f.dm.addr<4294967296∧f.dm.port<65536
structure uW (c:NC)(K:Nat)(ca:Nat→dD)(x:fT):Prop where
 le:x.next≤9
 done:x.done=false
 tick:0≤x.tick∧x.tick≤4294967295
 due:∀y∈x.due,y<3*c.np
 word:x.word.ok
 tr:x.word.tr≤4
 has:2≤x.next→x.next≤4→x.due≠ []
 drop:x.next=3→∃t,x.drop=some t∧ba c.nb (3*c.np) t∧t.done=false
 on:x.next=5→∃p,x.on=some p∧p.Ok c.n∧p.done=false∧p.seen≤K∧p.lN=true∧p.at_≤c.n+1
 early:x.next≤6→x.fk=[]
 fk:∀y∈x.fk,y<3*c.np
 cl:x.fk.length≤K
 c8:x.next=8→x.fk≠ []
 out:x.next≠9→∀i,i<3→(ca i).out=none
 back:x.next=9→∃b,x.back=some b∧b.done=false∧((b.kind=3∧∀i,i<3→(ca i).out=none)∨(b.kind=2∧∃d,d<3∧(∃o,(ca d).out=some o)∧∀i,i<3→i≠d→(ca i).out=none))
def gH (o:Option aP):Nat:=match o with
 |some f=>if f.next=18 then 0 else 1
 |none=>0
def qV (o:Option fT):Nat:=match o with
 |some x=>x.due.length
 |none=>0
structure lM (c:NC)(K B:Nat)(k:aU):Prop where
 ca:∀i,i<3→jq c.np (k.ca i)
 bb:lj k.bb
 aK:k.bb.aK≤K
 ids:∀y∈k.bb.all,0≤y.id∧y.id<((3*c.np:Nat):Int)
 keys:(k.b9.map (·.1)).Nodup
 b9:∀p∈k.b9,su p.2
 ended:k.ended.length≤K
 kb:k.bb.all.length+gH k.frame+qV k.bn≤B
 one:k.frame.isSome=true→k.bn=none
 frame:∀f,k.frame=some f→cW c K k.ca f
 bn:∀x,k.bn=some x→uW c K k.ca x
 out:k.bn=none→∀i,i<3→(k.ca i).out=none
structure oF (c:NC)(K:Nat)(ep:List Nat)(gs:List (List (Nat×Nat))):Prop where
 len:ep.length=c.n+1
 qq:gs.length=c.n
 now:ep.getD 0 0≤K
 pins:∀j,ep.getD j 0≤K+1
 ids:∀w t,t∈gs.getD w []→t.1<3*c.np∧t.2≤K
 sT:∀w,(gs.getD w []).length≤K
structure gy (c:NC)(K:Nat)(s:bc):Prop where
 pl:cp (3*c.np) s.pl
 tb:cV c.nb (3*c.np) s.tb
 po:∀i,i<3→p9 c.np (s.po i)
 ep:oF c K s.ep s.gs
structure ns (H:Nat→List Nat)(k:aU):Prop where
 find:∀f t,k.frame=some f→f.next=2∨f.next=7→f.find=some t→fI H t
 enter:∀f t,k.frame=some f→f.next=12→f.enter=some t→fI H t
 drop:∀x t,k.bn=some x→x.next=3→x.drop=some t→fI H t
structure Safe (c:NC)(K B:Nat)(n:dx):Prop where
 wl:n.wk.length=c.n
 sh:gy c K n.sh
 wk:∀w,w<c.n→lM c K B (n.wk.getD w bF)
 gB:∃H,dF c.nb n.sh.tb H K∧∀w,w<c.n→ns H (n.wk.getD w bF)
section
variable {c:NC} {K B w:Nat} {s:bc} {k:aU} {f:aP} {H:Nat→List Nat}
theorem oF.more (h:oF c K s.ep s.gs):oF c (K+1) s.ep s.gs:=⟨h.len,h.qq,by have:=h.now;omega,fun j=>by have:=h.pins j;omega,fun w t ht=>⟨(h.ids w t ht).1,by have:=(h.ids w t ht).2;omega⟩,fun w=>by have:=h.sT w;omega⟩
theorem oF.ok (h:oF c K s.ep s.gs)(hc:c.Ok)(hK:K<65000):sq c.n s.ep s.gs where
 len:=h.len
 n1:=hc.n.2
 qq:=h.qq
 w:=fun j=>by have:=h.pins j;omega
 g:=fun i t ht=>by
  have:=h.ids i t ht
  have:=hc.np
  omega
theorem cW.more (h:cW c K k.ca f):cW c (K+1) k.ca f:={h with
 bR:=fun e=>by
  obtain⟨x,a1,a2,a3,a4,a5⟩:=h.bR e
  exact⟨x,a1,a2,a3,by omega,a5⟩}
theorem uW.more {x:fT}(h:uW c K k.ca x):uW c (K+1) k.ca x:={h with
 on:=fun e=>by
  obtain⟨x,a1,a2,a3,a4,a5⟩:=h.on e
  exact⟨x,a1,a2,a3,by omega,a5⟩
 cl:=by have:=h.cl;omega}
theorem lM.more (h:lM c K B k):lM c (K+1) B k:={h with
 aK:=by have:=h.aK;omega
 ended:=by have:=h.ended;omega
 frame:=fun f e=>(h.frame f e).more
 bn:=fun x e=>(h.bn x e).more}
theorem ns.ext {H':Nat→List Nat}(h:ns H k)(hk:lM c K B k)(e:dV c.nb H H'):ns H' k where
 find:=fun f t h1 h2 h3=>by
  obtain⟨t',q1,q2,_⟩:=(hk.frame f h1).find h2
  rw[h3]at q1
  injection q1 with q1
  subst q1
  exact(h.find f t h1 h2 h3).ext e q2.m
 enter:=fun f t h1 h2 h3=>by
  obtain⟨t',q1,q2,_⟩:=(hk.frame f h1).enter h2
  rw[h3]at q1
  injection q1 with q1
  subst q1
  exact(h.enter f t h1 h2 h3).ext e q2.m
 drop:=fun x t h1 h2 h3=>by
  obtain⟨t',q1,q2,_⟩:=(hk.bn x h1).drop h2
  rw[h3]at q1
  injection q1 with q1
  subst q1
  exact(h.drop x t h1 h2 h3).ext e q2.m
structure Kept (c:NC)(K B:Nat)(H:Nat→List Nat)(s:bc)(k:aU):Prop where
 sh:gy c (K+1) s
 wk:lM c (K+1) B k
 gB:∃H',dV c.nb H H'∧dF c.nb s.tb H' (K+1)∧ns H' k
structure cv (c:NC)(K B:Nat)(H:Nat→List Nat)(s:bc)(k:aU):Prop where
 ok:c.Ok
 hK:K<65000
 sh:gy c K s
 wk:lM c K B k
 gB:dF c.nb s.tb H K
 Bl:ns H k
theorem za (hd:f.done=false):ei k f={k with frame:=some f}:=if_neg (by rw[hd];decide)
theorem cv.jx (h:cv c K B H s k)(hf:k.frame=some f){f':aP}(hn:cW c (K+1) k.ca f')(hw:gH (some f')≤gH (some f))(ht:f'.next≠2∧f'.next≠7∧f'.next≠12){s':bc}(hs:gy c (K+1) s')(jY:s'.tb=s.tb):Kept c K B H s' (ei k f'):=by
 rw[za hn.done]
 have hk:=h.wk
 have fy:k.bn=none:=hk.one (by rw[hf];rfl)
 refine⟨hs,?_,H,dV.refl _ _,by rw[jY];exact h.gB.more (by omega),⟨fun g t e1 e2 e3=> ?_,fun g t e1 e2 e3=> ?_,fun x t e1=> ?_⟩⟩
 ·have hm:=hk.more
  have hb:=hk.kb
  rw[hf]at hb
  exact {hm with
   kb:=by show k.bb.all.length+gH (some f')+qV k.bn≤B;omega
   one:=fun _=>fy
   frame:=fun g e=>by injection e with e;subst e;exact hn
   bn:=fun x e=>by
    have e:k.bn=some x:=e
    rw[fy]at e;cases e
   out:=hk.out}
 ·injection e1 with e1;subst e1;omega
 ·injection e1 with e1;subst e1;omega
 ·have e1:k.bn=some x:=e1
  rw[fy]at e1;cases e1
theorem cv.rm (h:cv c K B H s k)(hf:k.frame=some f){f':aP}(hn:cW c (K+1) k.ca f')(hw:gH (some f')≤gH (some f)){s':bc}(hs:gy c (K+1) s')
  {H':Nat→List Nat} (he:dV c.nb H H') (hh:dF c.nb s'.tb H' (K+1)) (ht:∀t,f'.next=2∨f'.next=7→f'.find=some t→fI H' t) (rI:∀t,f'.next=12→f'.enter=some t→fI H' t):Kept c K B H s' (ei k f'):=by
 rw[za hn.done]
 have hk:=h.wk
 have fy:k.bn=none:=hk.one (by rw[hf];rfl)
 refine⟨hs,?_,H',he,hh,⟨fun g t e1 e2 e3=> ?_,fun g t e1 e2 e3=> ?_,fun x t e1=> ?_⟩⟩
 ·have hm:=hk.more
  have hb:=hk.kb
  rw[hf]at hb
  exact {hm with
   kb:=by show k.bb.all.length+gH (some f')+qV k.bn≤B;omega
   one:=fun _=>fy
   frame:=fun g e=>by injection e with e;subst e;exact hn
   bn:=fun x e=>by
    have e:k.bn=some x:=e
    rw[fy]at e;cases e
   out:=hk.out}
 ·injection e1 with e1;subst e1;exact ht t e2 e3
 ·injection e1 with e1;subst e1;exact rI t e2 e3
 ·have e1:k.bn=some x:=e1
  rw[fy]at e1;cases e1
theorem gy.more (h:gy c K s):gy c (K+1) s:=⟨h.pl,h.tb,h.po,h.ep.more⟩
theorem gr (f f':aP)(h:f.next≠18):gH (some f')≤gH (some f):=by
 unfold gH
 dsimp only
 rw[if_neg h]
 split<;>omega
theorem eH.same {f':aP}(h:eH f)(h1:f'.b=f.b)(h2:f'.tick=f.tick)(h3:f'.ao=f.ao)(h4:f'.part=f.part):eH f':=⟨by rw[h1];exact h.cH,by rw[h2];exact h.tick,by rw[h3];exact h.proto,by rw[h3];exact h.addr,by rw[h3];exact h.port,by rw[h4];exact h.flags⟩
theorem cW.nB (hd:f.done=false)(hb:f.b.length≤140737488355328)(hi:eH f)(qt:f.fq=true→lu f.ao.proto)(h1:f.word.ok)(h2:f.word.tr≤4)(h3:f.now.ok)(h4:f.now.tr≤4)(l:List UInt8)(e:Nat):cW c K k.ca (f.fin l e) where
 le:=by show 18≤18;omega
 done:=hd
 cH:=hb
 fin:=fun _=>hi.same rfl rfl rfl rfl
 dM:=qt
 bR:=fun e=>by have e:18=1:=e;omega
 start:=fun e=>by have e:18=0:=e;omega
 me:=fun e=>by have e:18=1:=e;omega
 find:=fun e=>by have e:18=2∨18=7:=e;omega
 id:=fun e=>by have e:(3≤18∧18≤5)∨(10≤18∧18≤17):=e;omega
 word:=h1
 tr:=h2
 now:=h3
 cE:=h4
 dy:=fun _ e=>by have e:18≤14:=e;omega
 fill:=fun e=>by have e:18=6:=e;omega
 j4:=fun e=>by have e:18=7:=e;omega
 again:=fun e=>by have e:18=8:=e;omega
 enter:=fun e=>by have e:18=12:=e;omega
 back:=fun e=>by have e:18=14:=e;omega
 pop:=fun _ e=>by have e:18≤14:=e;omega
 addr:=fun e=>by have e:18=17:=e;omega
theorem cW.vx (hd:f.done=false)(hb:f.b.length≤140737488355328)(hi:eH f)(qt:f.fq=true→lu f.ao.proto)(h3:f.now.ok)(h4:f.now.tr≤4){id:Int}{v:br}(hv:v.ok)(ht:v.tr≤4)(i0:0≤id)(i1:id<((3*c.np:Nat):Int)):cW c K k.ca (f.iA id v):=by
 have hx:(f.iA id v).next=3∨(f.iA id v).next=4:=by unfold aP.iA;dsimp only;split<;>omega
 refine {
  le:=by omega
  done:=hd
  cH:=hb
  fin:=fun _=>hi.same rfl rfl rfl rfl
  dM:=qt
  bR:=fun e=>by omega
  start:=fun e=>by omega
  me:=fun e=>by omega
  find:=fun e=>by omega
  id:=fun _=>⟨i0,i1⟩
  word:=hv
  tr:=ht
  now:=h3
  cE:=h4
  dy:=fun e=>by omega
  fill:=fun e=>by omega
  j4:=fun e=>by omega
  again:=fun e=>by omega
  enter:=fun e=>by omega
  back:=fun e=>by omega
  pop:=fun e=>by omega
  addr:=fun e=>by omega}
theorem vy (id:Int)(v:br):(f.iA id v).next=3∨(f.iA id v).next=4:=by unfold aP.iA;dsimp only;split<;>omega
theorem Hg (hc:c.Ok){fl:dE}(h1:fl.proto<256)(h2:fl.addr<4294967296)(h3:fl.port<65536):ba c.nb (3*c.np) (kA c 0 fl (-1) 0):=
 Hh hc.nb.1 (by have:=hc.np;omega) (by omega) h2 h3 (by omega) (by have:=hc.np;omega) (by decide) (fun e=>absurd rfl e) (.inl rfl)
theorem Sb (hc:c.Ok){fl:dE}(h1:fl.proto<256)(h2:fl.addr<4294967296)(h3:fl.port<65536){id:Int}(i0:0≤id)(i1:id<((3*c.np:Nat):Int)):ba c.nb (3*c.np) (kA c 1 fl id 0):=
 Hh hc.nb.1 (by have:=hc.np;omega) (by omega) h2 h3 (by omega) i1 (by decide) (fun _=>i0) (.inl rfl)
theorem wR {kind next:Nat}{fl:dE}{id:Int}(hx:next=0∨next=23):fI H (kA c kind fl id next):=Sh hx
theorem cW.E7 (hc:c.Ok)(hd:f.done=false)(hb:f.b.length≤140737488355328)(hi:eH f)(qt:f.fq=true→lu f.ao.proto)(h1:f.word.ok)(h2:f.word.tr≤4)(h3:f.now.ok)(h4:f.now.tr≤4):cW c K k.ca (f.look c) where
 le:=by show 2≤18;omega
 done:=hd
 cH:=hb
 fin:=fun _=>hi.same rfl rfl rfl rfl
 dM:=qt
 bR:=fun e=>by have e:2=1:=e;omega
 start:=fun e=>by have e:2=0:=e;omega
 me:=fun e=>by have e:2=1:=e;omega
 find:=fun _=>⟨_,rfl,Hg hc hi.proto hi.addr hi.port,rfl,rfl⟩
 id:=fun e=>by have e:(3≤2∧2≤5)∨(10≤2∧2≤17):=e;omega
 word:=h1
 tr:=h2
 now:=h3
 cE:=h4
 dy:=fun e=>by have e:6≤2:=e;omega
 fill:=fun e=>by have e:2=6:=e;omega
 j4:=fun e=>by have e:2=7:=e;omega
 again:=fun e=>by have e:2=8:=e;omega
 enter:=fun e=>by have e:2=12:=e;omega
 back:=fun e=>by have e:2=14:=e;omega
 pop:=fun e=>by have e:12≤2:=e;omega
 addr:=fun e=>by have e:2=17:=e;omega
theorem cW.Dw (hc:c.Ok)(hk:(k.ca (aB f.ao.proto)).out=none)(hd:f.done=false)(hb:f.b.length≤140737488355328)(hi:eH f)(hg:lu f.ao.proto)(h1:f.word.ok)(h2:f.word.tr≤4)(h3:f.now.ok)(h4:f.now.tr≤4):cW c K k.ca (f.rl c k) where
 le:=by show 6≤18;omega
 done:=hd
 cH:=hb
 fin:=fun _=>hi.same rfl rfl rfl rfl
 dM:=fun _=>hg
 bR:=fun e=>by have e:6=1:=e;omega
 start:=fun e=>by have e:6=0:=e;omega
 me:=fun e=>by have e:6=1:=e;omega
 find:=fun e=>by have e:6=2∨6=7:=e;omega
 id:=fun e=>by have e:(3≤6∧6≤5)∨(10≤6∧6≤17):=e;omega
 word:=h1
 tr:=h2
 now:=h3
 cE:=h4
 dy:=fun _ _=>hg
 fill:=fun _=>by
  refine⟨_,rfl,?_⟩
  show(ln c.np (k.ca (aB f.ao.proto))).done=false∧(((ln c.np (k.ca (aB f.ao.proto))).kind=0∧nt c.np (ln c.np (k.ca (aB f.ao.proto))).cU∧(ln c.np (k.ca (aB f.ao.proto))).cU.done=false∧(k.ca (aB f.ao.proto)).l=[])∨(ln c.np (k.ca (aB f.ao.proto))).kind=3)
  unfold ln
  split
  ·exact⟨rfl,.inr rfl⟩
  ·rename_i hh
   have hl:(k.ca (aB f.ao.proto)).l=[]:=Classical.byContradiction fun e=>hh (.inl e)
   exact⟨rfl,.inl ⟨rfl,nt.new hc.np.1 _,rfl,hl⟩⟩
 j4:=fun e=>by have e:6=7:=e;omega
 again:=fun e=>by have e:6=8:=e;omega
 enter:=fun e=>by have e:6=12:=e;omega
 back:=fun e=>by have e:6=14:=e;omega
 pop:=fun e=>by have e:12≤6:=e;omega
 addr:=fun e=>by have e:6=17:=e;omega
end
end
section
open Go.RowKit
section
variable {c:NC} {K B w:Nat} {s:bc} {k:aU} {f:aP} {H:Nat→List Nat}
theorem KM {out:Bool}{b:List UInt8}(h:lR out b=true):lu (da out b).proto:=by
 unfold lR at h
 simp only[Bool.and_eq_true,decide_eq_true_eq,Bool.not_eq_true']at h
 obtain⟨⟨⟨h1,h2⟩,h3⟩,h4⟩:=h
 subst h1
 have e1:c5 false b=0:=by
  unfold dv at h2
  split at h2
  ·assumption
  ·exact absurd h2 (by assumption)
 have e2:ic (aW b) b=0:=by
  unfold dv at h2
  rwa[if_pos e1]at h2
 have e3:(da true b).proto=(aW b).proto:=by
  unfold da vU
  rw[if_pos rfl,if_neg (by rw[h3];decide)]
 rw[e3]
 unfold ic at e2
 unfold lu
 split at e2
 ·omega
 split at e2
 ·omega
 split at e2
 ·omega
 ·cases e2
theorem Q4 (hc:c.Ok)(proto port:Int)(h:0≤fN c.cfg proto port):fN c.cfg proto port<((3*c.np:Nat):Int):=by
 have hp:=hc.bo
 have cg:=hc.np
 have e:c.cfg.lo=(c.lo:Int):=rfl
 have e2:c.cfg.hi=(c.hi:Int):=rfl
 have hk:ff proto≤2:=by unfold ff;repeat' split<;>omega
 unfold fN at h ⊢
 rw[hp]at h ⊢
 split at h
 ·omega
 rename_i hh
 rw[if_neg hh]
 rw[e,e2]at hh
 rw[e]at h ⊢
 have hn:c.np=c.hi+1-c.lo:=rfl
 have h0:0≤ff proto:=by omega
 have h1:ff proto=0∨ff proto=1∨ff proto=2:=by omega
 rcases h1 with h1|h1|h1<;>rw[h1]<;>omega
theorem eH.QS (hb:f.b.length≤140737488355328)(ht:¬(f.tick<0∨f.tick>4294967295))(h1:f.ao=da f.out f.b)(h2:f.part=dY f.b):eH f:=by
 obtain⟨p1,p2,p3⟩:=HD f.out f.b
 exact⟨hb,by omega,by rw[h1];exact p1,by rw[h1];exact p2,by rw[h1];exact p3,by rw[h2];exact(oL.of (aW f.b) f.b).flags⟩
theorem L7 {e:iT}(hk:oF c K s.ep s.gs)(ho:e.Ok c.n)(hs:e.seen≤K)(ha:e.lN=false)(hd:e.done=false)(hK:K<65000):oF c (K+1) (du c.n s.ep e).1 s.gs∧(du c.n s.ep e).2.Ok c.n∧(du c.n s.ep e).2.seen≤K+1∧(du c.n s.ep e).2.lN=false∧(du c.n s.ep e).2.worker=e.worker:=by
 unfold du
 rw[if_neg (by rw[hd];decide),if_neg (by rw[ha];decide)]
 unfold lq
 have hn:=hk.now
 split
 ·exact⟨hk.more,⟨ho.worker,by show 1≤100;omega,fun _=>by show 1≤2;omega,by show s.ep.getD 0 0<_;have:=hk.pins 0;have:=ho.seen;omega⟩,by show s.ep.getD 0 0≤_;omega,ha,rfl⟩
 split
 ·refine⟨?_,⟨ho.worker,by show 2≤100;omega,fun _=>by show 2≤2;omega,ho.seen⟩,by show e.seen≤_;omega,ha,rfl⟩
  refine⟨by rw[List.length_set];exact hk.len,hk.qq,?_,fun j=> ?_,hk.more.ids,hk.more.sT⟩
  ·rw[kO (by omega)];omega
  ·by_cases e:1+e.worker=j
   ·subst e
    rw[o8 (by rw[hk.len];have:=ho.worker;omega)];omega
   ·rw[kO e];have:=hk.pins j;omega
 ·exact⟨hk.more,⟨ho.worker,by show 0≤100;omega,fun _=>by show 0≤2;omega,ho.seen⟩,by show e.seen≤_;omega,ha,rfl⟩
theorem G4 {v:br}(hi:eH f)(hv:v.ok)(ht:v.tr≤4):(f.gY v).ok∧(f.gY v).tr≤4:=by
 unfold aP.gY
 split
 ·exact⟨hv,ht⟩
 ·have h1:=AO (proto:=f.ao.proto) (s:=v.tr) (flags:=f.part.flags) (out:=f.out) ht
  have h2:=hi.tick
  obtain⟨a,b,d,e⟩:=hv
  refine⟨⟨a,b,by dsimp only;omega,?_⟩,h1⟩
  dsimp only
  split<;>omega
theorem cv.vj (h:cv c K B H s k)(hf:k.frame=some f){f':aP}(hd:f'.done=true){s':bc}(hs:gy c (K+1) s')(jY:s'.tb=s.tb):Kept c K B H s' (ei k f'):=by
 have e:ei k f'={k with cR:=f'.fj,kC:=f'.lP,any:=true,frame:=none}:=if_pos hd
 rw[e]
 have hk:=h.wk
 have fy:k.bn=none:=hk.one (by rw[hf];rfl)
 refine⟨hs,?_,H,dV.refl _ _,by rw[jY];exact h.gB.more (by omega),⟨fun g t e1=>(by cases e1),fun g t e1=>(by cases e1),fun x t e1=> ?_⟩⟩
 ·have hm:=hk.more
  have hb:=hk.kb
  exact {hm with
   kb:=by show k.bb.all.length+0+qV k.bn≤B;omega
   one:=fun e=>by cases e
   frame:=fun g e=>by cases e
   bn:=fun x e=>by
    have e:k.bn=some x:=e
    rw[fy]at e;cases e
   out:=hk.out}
 ·have e1:k.bn=some x:=e1
  rw[fy]at e1;cases e1
theorem OP (h:cv c K B H s k)(hw:w<c.n)(hf:k.frame=some f)(e:f.next=0):Kept c K B H s (ei k (oa c w f)):=by
 have hs:=h.wk.frame f hf
 unfold oa
 split
 ·exact h.vj hf rfl h.sh.more rfl
 rename_i ht
 split
 ·exact h.vj hf rfl h.sh.more rfl
 rename_i he
 split
 ·exact h.vj hf rfl h.sh.more rfl
 rename_i hp
 refine h.jx hf ?_ (gr _ _ (by omega)) ⟨by show 1≠2;omega,by show 1≠7;omega,by show 1≠12;omega⟩ h.sh.more rfl
 exact {
  le:=by show 1≤18;omega
  done:=hs.done
  cH:=hs.cH
  fin:=fun _=>eH.QS hs.cH ht rfl rfl
  dM:=fun e=>KM e
  bR:=fun _=>⟨_,rfl,⟨hw,by show 0≤100;omega,fun _=>by show 0≤2;omega,by show 0<4611686018427387904;omega⟩,rfl,Nat.zero_le _,rfl⟩
  start:=fun e=>by have e:1=0:=e;omega
  me:=fun _ e=>by
   have e:f.out=false:=e
   have rF:0≤fN c.cfg (da f.out f.b).proto (da f.out f.b).port:=by
    by_cases hh:fN c.cfg (da f.out f.b).proto (da f.out f.b).port<0
    ·exact absurd ⟨e,hh⟩ hp
    ·omega
   have hid:(if f.out=true then f.id else fN c.cfg (da f.out f.b).proto (da f.out f.b).port)=fN c.cfg (da f.out f.b).proto (da f.out f.b).port:=if_neg (by rw[e];decide)
   dsimp only
   rw[hid]
   exact⟨rF,Q4 h.ok _ _ rF⟩
  find:=fun e=>by have e:1=2∨1=7:=e;omega
  id:=fun e=>by have e:(3≤1∧1≤5)∨(10≤1∧1≤17):=e;omega
  word:=hs.word
  tr:=hs.tr
  now:=hs.now
  cE:=hs.cE
  dy:=fun e=>by have e:6≤1:=e;omega
  fill:=fun e=>by have e:1=6:=e;omega
  j4:=fun e=>by have e:1=7:=e;omega
  again:=fun e=>by have e:1=8:=e;omega
  enter:=fun e=>by have e:1=12:=e;omega
  back:=fun e=>by have e:1=14:=e;omega
  pop:=fun e=>by have e:12≤1:=e;omega
  addr:=fun e=>by have e:1=17:=e;omega}
theorem OQ (h:cv c K B H s k)(hf:k.frame=some f)(e:f.next=1){p:iT}(hp:f.bR=some p):
  Kept c K B H {s with ep:=(du c.n s.ep p).1} (ei k (if(du c.n s.ep p).2.done=false then {f with bR:=some (du c.n s.ep p).2}
    else if f.out=true then {f with bR:=some (du c.n s.ep p).2,pinned:=true}.look c else {f with bR:=some (du c.n s.ep p).2,pinned:=true,next:=15})):=by
 have hs:=h.wk.frame f hf
 have b7:=hs.fin (by omega)
 obtain⟨p',q1,q2,q3,q4,q5⟩:=hs.bR e
 rw[hp]at q1
 injection q1 with q1
 subst q1
 obtain⟨r1,r2,r3,r4,_⟩:=L7 h.sh.ep q2 q4 q5 q3 h.hK
 have ew:gy c (K+1) {s with ep:=(du c.n s.ep p).1}:=⟨h.sh.pl,h.sh.tb,h.sh.po,r1⟩
 generalize du c.n s.ep p=D at*
 obtain⟨jN,p2⟩:=D
 dsimp only at*
 split
 ·rename_i hd
  refine h.jx hf ?_ (gr _ _ (by omega)) ⟨by show f.next≠2;omega,by show f.next≠7;omega,by show f.next≠12;omega⟩ ew rfl
  exact {hs.more with
   fin:=fun e=>(hs.fin e).same rfl rfl rfl rfl
   bR:=fun _=>⟨p2,rfl,r2,hd,r3,r4⟩}
 split
 ·refine h.rm hf (cW.E7 (f:={f with bR:=some p2,pinned:=true}) h.ok hs.done hs.cH (b7.same rfl rfl rfl rfl) hs.dM hs.word hs.tr hs.now hs.cE) (gr _ _ (by omega)) ew (dV.refl _ _) (h.gB.more (by omega)) (fun t _ e=> ?_) (fun t e=>by have e:2=12:=e;omega)
  injection e with e
  subst e
  exact wR (.inl rfl)
 ·rename_i ho
  have ho:f.out=false:=by simpa using ho
  refine h.jx hf ?_ (gr _ _ (by omega)) ⟨by show 15≠2;omega,by show 15≠7;omega,by show 15≠12;omega⟩ ew rfl
  exact {
   le:=by show 15≤18;omega
   done:=hs.done
   cH:=hs.cH
   fin:=fun _=>b7.same rfl rfl rfl rfl
   dM:=hs.dM
   bR:=fun e=>by have e:15=1:=e;omega
   start:=fun e=>by have e:15=0:=e;omega
   me:=fun e=>by have e:15=1:=e;omega
   find:=fun e=>by have e:15=2∨15=7:=e;omega
   id:=fun _=>hs.me e ho
   word:=hs.word
   tr:=hs.tr
   now:=hs.now
   cE:=hs.cE
   dy:=fun _ e=>by have e:15≤14:=e;omega
   fill:=fun e=>by have e:15=6:=e;omega
   j4:=fun e=>by have e:15=7:=e;omega
   again:=fun e=>by have e:15=8:=e;omega
   enter:=fun e=>by have e:15=12:=e;omega
   back:=fun e=>by have e:15=14:=e;omega
   pop:=fun _ e=>by have e:15≤14:=e;omega
   addr:=fun e=>by have e:15=17:=e;omega}
theorem gy.Bi (h:gy c K s){cs:List Nat}(zG:cV c.nb (3*c.np) cs):gy c (K+1) {s with tb:=cs}:=⟨h.pl,zG,h.po,h.ep.more⟩
theorem gy.put (h:gy c K s){id:Int}{a b:br}(hb:b.ok)(ht:b.tr≤4):gy c (K+1) (bV s id a b):=by
 have:=h.pl.bV (id:=id) (a:=a) hb ht
 unfold bV at*
 split
 ·rename_i e
  rw[if_pos e]at this
  exact⟨this,h.tb,h.po,h.ep.more⟩
 ·exact h.more
theorem OY (h:cv c K B H s k)(hf:k.frame=some f)(e:f.next=2){t:aR}(ht:f.find=some t):
  Kept c K B H {s with tb:=(bI s.pl c.nb s.tb t).1} (ei k (if(bI s.pl c.nb s.tb t).2.done=false then {f with find:=some (bI s.pl c.nb s.tb t).2}else sQ c k {f with find:=some (bI s.pl c.nb s.tb t).2} (bI s.pl c.nb s.tb t).2)):=by
 have hs:=h.wk.frame f hf
 have b7:=hs.fin (by omega)
 obtain⟨t',q1,q2,q3,q4⟩:=hs.find (.inl e)
 rw[ht]at q1
 injection q1 with q1
 subst q1
 obtain⟨⟨H',e1,e2,e3⟩,kc,ko⟩:=Bh h.sh.tb h.sh.pl h.gB h.hK q2 (h.Bl.find f t hf (.inl e) ht)
 have bj:(bI s.pl c.nb s.tb t).2.kind=0:=by rw[Hf];exact q4
 have ew:=h.sh.Bi kc
 generalize bI s.pl c.nb s.tb t=D at*
 obtain⟨dc,t2⟩:=D
 dsimp only at*
 split
 ·rename_i hd
  refine h.rm hf ?_ (gr _ _ (by omega)) ew e1 e2 (fun u _ eu=>by injection eu with eu;subst eu;exact e3) (fun u eu=>by have eu:f.next=12:=eu;omega)
  exact {hs.more with
   fin:=fun e=>(hs.fin e).same rfl rfl rfl rfl
   find:=fun _=>⟨t2,rfl,ko,hd,bj⟩}
 ·rename_i hd
  have hd:t2.done=true:=by simpa using hd
  unfold sQ
  split
  ·rename_i h0
   obtain hx:=vy (f:={f with find:=some t2}) t2.found t2.aM
   exact h.rm hf (cW.vx (f:={f with find:=some t2}) hs.done hs.cH (b7.same rfl rfl rfl rfl) hs.dM hs.now hs.cE ko.aM ko.sX (ko.qz hd bj h0) ko.sW) (gr _ _ (by omega)) ew e1 e2 (fun u eu=>by omega) (fun u eu=>by omega)
  split
  ·rename_i hb
   exact h.rm hf (cW.Dw (f:={f with find:=some t2}) h.ok (h.wk.out (h.wk.one (by rw[hf];rfl)) _ (jb _)) hs.done hs.cH (b7.same rfl rfl rfl rfl) (hs.dM hb) hs.word hs.tr hs.now hs.cE) (gr _ _ (by omega)) ew e1 e2 (fun u eu=>by have eu:6=2∨6=7:=eu;omega) (fun u eu=>by have eu:6=12:=eu;omega)
  ·exact h.rm hf (cW.nB (f:={f with find:=some t2}) hs.done hs.cH (b7.same rfl rfl rfl rfl) hs.dM hs.word hs.tr hs.now hs.cE [] 7) (gr _ _ (by omega)) ew e1 e2 (fun u eu=>by have eu:18=2∨18=7:=eu;omega) (fun u eu=>by have eu:18=12:=eu;omega)
theorem cW.known (hs:cW c K k.ca f)(h1:3≤f.next)(h2:f.next≤5){n2:Nat}(h3:3≤n2)(h4:n2≤5){v u:br}(hv:v.ok)(ht:v.tr≤4)(hu:u.ok)(On:u.tr≤4):cW c K k.ca {f with next:=n2,word:=v,now:=u} where
 le:=by show n2≤18;omega
 done:=hs.done
 cH:=hs.cH
 fin:=fun _=>(hs.fin (by omega)).same rfl rfl rfl rfl
 dM:=hs.dM
 bR:=fun e=>by have e:n2=1:=e;omega
 start:=fun e=>by have e:n2=0:=e;omega
 me:=fun e=>by have e:n2=1:=e;omega
 find:=fun e=>by have e:n2=2∨n2=7:=e;omega
 id:=fun _=>hs.id (.inl ⟨h1,h2⟩)
 word:=hv
 tr:=ht
 now:=hu
 cE:=On
 dy:=fun e=>by have e:6≤n2:=e;omega
 fill:=fun e=>by have e:n2=6:=e;omega
 j4:=fun e=>by have e:n2=7:=e;omega
 again:=fun e=>by have e:n2=8:=e;omega
 enter:=fun e=>by have e:n2=12:=e;omega
 back:=fun e=>by have e:n2=14:=e;omega
 pop:=fun e=>by have e:12≤n2:=e;omega
 addr:=fun e=>by have e:n2=17:=e;omega
theorem OZ (h:cv c K B H s k)(hf:k.frame=some f)(e1:3≤f.next)(e2:f.next≤5):Kept c K B H (fB c s k f).1 (ei k (fB c s k f).2):=by
 have hs:=h.wk.frame f hf
 have b7:=hs.fin (by omega)
 obtain⟨l1,l2⟩:=h.sh.pl.cb (id:=f.id)
 unfold fB
 rw[if_neg (by omega)]
 split
 ·refine h.jx hf ?_ (gr _ _ (by omega)) ⟨by show 4≠2;omega,by show 4≠7;omega,by show 4≠12;omega⟩ (h.sh.put ⟨by show 2≤3;omega,hs.word.2⟩ hs.tr) (ie _ _ _ _).2.2.1
  exact hs.more.known e1 e2 (by omega) (by omega) hs.word hs.tr hs.now hs.cE
 split
 ·unfold um
  split
  ·refine h.rm hf (cW.E7 h.ok hs.done hs.cH (b7.same rfl rfl rfl rfl) hs.dM hs.word hs.tr hs.now hs.cE) (gr _ _ (by omega)) h.sh.more (dV.refl _ _) (h.gB.more (by omega)) (fun t _ e=> ?_) (fun t e=>by have e:2=12:=e;omega)
   injection e with e
   subst e
   exact wR (.inl rfl)
  split
  ·obtain hx:=vy (f:=f) f.id (cb s f.id)
   exact h.jx hf (cW.vx hs.done hs.cH (b7.same rfl rfl rfl rfl) hs.dM hs.now hs.cE l1 l2 (hs.id (.inl ⟨e1,e2⟩)).1 (hs.id (.inl ⟨e1,e2⟩)).2) (gr _ _ (by omega)) ⟨by omega,by omega,by omega⟩ h.sh.more rfl
  obtain⟨s1,s2⟩:=G4 b7 l1 l2
  split
  ·exact h.jx hf (cW.nB (f:={f with word:=cb s f.id,now:=f.gY (cb s f.id),next:=5}) hs.done hs.cH (b7.same rfl rfl rfl rfl) hs.dM l1 l2 s1 s2 _ _) (gr _ _ (by omega)) ⟨by show 18≠2;omega,by show 18≠7;omega,by show 18≠12;omega⟩ h.sh.more rfl
  ·exact h.jx hf (hs.more.known e1 e2 (by omega) (by omega) l1 l2 s1 s2) (gr _ _ (by omega)) ⟨by show 5≠2;omega,by show 5≠7;omega,by show 5≠12;omega⟩ h.sh.more rfl
 ·split
  ·exact h.jx hf (cW.nB (f:={f with next:=4}) hs.done hs.cH (b7.same rfl rfl rfl rfl) hs.dM hs.word hs.tr hs.now hs.cE _ _) (gr _ _ (by omega)) ⟨by show 18≠2;omega,by show 18≠7;omega,by show 18≠12;omega⟩ (h.sh.put hs.now hs.cE) (ie _ _ _ _).2.2.1
  ·exact h.jx hf (hs.more.known e1 e2 (by omega) (by omega) hs.word hs.tr hs.now hs.cE) (gr _ _ (by omega)) ⟨by show 4≠2;omega,by show 4≠7;omega,by show 4≠12;omega⟩ (h.sh.put hs.now hs.cE) (ie _ _ _ _).2.2.1
theorem OW (h:cv c K B H s k)(hf:k.frame=some f)(e1:15≤f.next)(e2:f.next≤17):Kept c K B H (fX c s f).1 (ei k (fX c s f).2):=by
 have hs:=h.wk.frame f hf
 have b7:=hs.fin (by omega)
 obtain⟨l1,l2⟩:=h.sh.pl.cb (id:=f.id)
 have hid:=hs.id (.inr ⟨by omega,e2⟩)
 have to:∀ {g:aP},15≤g.next→g.next≤17→g.done=f.done→g.b=f.b→eH g→g.fq=f.fq→g.ao=f.ao→g.id=f.id→g.word.ok→g.word.tr≤4→g.now.ok→g.now.tr≤4→(g.next=17→g.dm.addr<4294967296∧g.dm.port<65536)→cW c (K+1) k.ca g:=fun {g} a1 a2 a3 a4 a5 a6 a7 a8 a9 b1 b2 b3 b4=>{
  le:=by omega
  done:=by rw[a3];exact hs.done
  cH:=by rw[a4];exact hs.cH
  fin:=fun _=>a5
  dM:=by rw[a6,a7];exact hs.dM
  bR:=fun e=>by omega
  start:=fun e=>by omega
  me:=fun e=>by omega
  find:=fun e=>by omega
  id:=fun _=>by rw[a8];exact hid
  word:=a9
  tr:=b1
  now:=b2
  cE:=b3
  dy:=fun _ e=>by omega
  fill:=fun e=>by omega
  j4:=fun e=>by omega
  again:=fun e=>by omega
  enter:=fun e=>by omega
  back:=fun e=>by omega
  pop:=fun _ e=>by omega
  addr:=b4}
 have n18:∀ {g:aP},g.next=18→g.next≠2∧g.next≠7∧g.next≠12:=fun e=>by omega
 unfold fX
 split
 ·split
  ·exact h.jx hf (cW.nB (f:={f with word:=cb s f.id,next:=16}) hs.done hs.cH (b7.same rfl rfl rfl rfl) hs.dM l1 l2 hs.now hs.cE _ _) (gr _ _ (by omega)) (n18 rfl) h.sh.more rfl
  ·exact h.jx hf (to (g:={f with word:=cb s f.id,next:=16}) (by show 15≤16;omega) (by show 16≤17;omega) rfl rfl (b7.same rfl rfl rfl rfl) rfl rfl rfl l1 l2 hs.now hs.cE (fun e=>by have e:16=17:=e;omega)) (gr _ _ (by omega)) ⟨by show 16≠2;omega,by show 16≠7;omega,by show 16≠12;omega⟩ h.sh.more rfl
 split
 ·obtain⟨s1,s2⟩:=G4 b7 hs.word hs.tr
  exact h.jx hf (to (g:={f with dm:=lr (mT s f.id),now:=f.gY f.word,next:=17}) (by show 15≤17;omega) (by show 17≤17;omega) rfl rfl (b7.same rfl rfl rfl rfl) rfl rfl rfl hs.word hs.tr s1 s2 (fun _=>ME _ (h.sh.pl.w _))) (gr _ _ (by omega)) ⟨by show 17≠2;omega,by show 17≠7;omega,by show 17≠12;omega⟩ h.sh.more rfl
 split
 ·split
  ·exact h.jx hf (cW.nB (f:={f with next:=15}) hs.done hs.cH (b7.same rfl rfl rfl rfl) hs.dM hs.word hs.tr hs.now hs.cE _ _) (gr _ _ (by omega)) (n18 rfl) h.sh.more rfl
  ·exact h.jx hf (to (g:={f with next:=15}) (by show 15≤15;omega) (by show 15≤17;omega) rfl rfl (b7.same rfl rfl rfl rfl) rfl rfl rfl hs.word hs.tr hs.now hs.cE (fun e=>by have e:15=17:=e;omega)) (gr _ _ (by omega)) ⟨by show 15≠2;omega,by show 15≠7;omega,by show 15≠12;omega⟩ h.sh.more rfl
 ·split
  ·exact h.jx hf (cW.nB (f:={f with next:=15}) hs.done hs.cH (b7.same rfl rfl rfl rfl) hs.dM hs.word hs.tr hs.now hs.cE _ _) (gr _ _ (by omega)) (n18 rfl) (h.sh.put hs.now hs.cE) (ie _ _ _ _).2.2.1
  ·exact h.jx hf (to (g:={f with next:=15}) (by show 15≤15;omega) (by show 15≤17;omega) rfl rfl (b7.same rfl rfl rfl rfl) rfl rfl rfl hs.word hs.tr hs.now hs.cE (fun e=>by have e:15=17:=e;omega)) (gr _ _ (by omega)) ⟨by show 15≠2;omega,by show 15≠7;omega,by show 15≠12;omega⟩ (h.sh.put hs.now hs.cE) (ie _ _ _ _).2.2.1
theorem OX (h:cv c K B H s k)(hw:w<c.n)(hf:k.frame=some f):Kept c K B H {s with ep:=s.ep.set (1+w) 0} (ei k {f with pinned:=false,done:=true}):=by
 refine h.vj hf rfl ⟨h.sh.pl,h.sh.tb,h.sh.po,?_⟩ rfl
 have hk:=h.sh.ep
 refine⟨by rw[List.length_set];exact hk.len,hk.qq,?_,fun j=> ?_,hk.more.ids,hk.more.sT⟩
 ·dsimp only
  rw[kO (by omega)];have:=hk.now;omega
 ·dsimp only
  by_cases e:1+w=j
  ·subst e
   rw[o8 (by rw[hk.len];omega)];omega
  ·rw[kO e];have:=hk.pins j;omega
end
end
end Go.Proofs.YtimekbpkejemoaaGreatDoor
