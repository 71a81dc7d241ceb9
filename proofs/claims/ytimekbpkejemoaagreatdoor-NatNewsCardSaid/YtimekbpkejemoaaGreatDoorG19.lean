/-
  Joined by a program (wip/bundle2.py).
-/
import Derived.Test.YtimekbpkejemoaaGreatDoorG5
import Derived.Test.YtimekbpkejemoaaGreatDoorG7
import Derived.Test.YtimekbpkejemoaaGreatDoorG12
import Derived.Test.YtimekbpkejemoaaGreatDoorG13
import Derived.Test.YtimekbpkejemoaaGreatDoorG14
import Derived.Test.YtimekbpkejemoaaGreatDoorG15
import Derived.Test.YtimekbpkejemoaaGreatDoorG17
import Derived.Test.YtimekbpkejemoaaGreatDoorG18
set_option linter.unusedVariables false
set_option linter.unusedSimpArgs false
namespace Go.Proofs.YtimekbpkejemoaaGreatDoor
section
open Go.RowKit
set_option maxRecDepth 10000
attribute [local irreducible] EK EX ER EN EL ES EG av aV aY
variable {W:World} {F G:SL} {X:Cx} {kk:List KI} {σ:Env} {c:NC}
abbrev lH (nn:Option Addr)(c:NC)(jp:Option Addr)(jn jc:Nat)(next:Int)(ev:aO)(evn wn:Nat)(d s t e:aO)(clock:Int):List Value:=[.pointer nn,.int .i64 (c.n:Int),.int .u32 (c.o:Int),.int .i64 (c.lo:Int),.int .i64 (c.hi:Int),.int .i64 (c.nb:Int),.int .i64 (c.r:Int),.slice jp jn jc,.int .i64 next,.slice ev.1 evn ev.2,.slice d.1 wn d.2,.slice s.1 wn s.2,.slice t.1 wn t.2,.slice e.1 wn e.2,.int .i64 clock]
theorem fG.nn {pn:Option Addr}{n:dx}{w:World}(h:Sat W w (fG pn c n*F)):pn≠none:=by
 obtain⟨R,h⟩:=h.gQ
 rw[fQ.eq]at h
 exact(Obj.root pn 127 (F3 c R)).nn W w _ h
theorem wb (cf:eA):Spec Tryz.prog 21 [cf.val] W F (fun _:Unit=>cf.val) (fun _=>F):=by
 refine Spec.of Tryz.func21 rfl Tryz.ntmps21 rfl ?_
 repeat first|refine aa ?_ |intro
 refine ae (js (rv:= .cell 2 63) rfl ⟨_,rfl,aT.agg rfl⟩ () rfl (U.sat ?_))
 exact ab
def qO (n:Nat)(v:Int):List Value:=List.replicate n (.int .i64 v)
abbrev my (wn:Nat)(d s t e:aO)(F:SL):SL:=an 3 1 d.1 wn d.2 (qO wn (-1))*(an 3 1 s.1 wn s.2 (qO wn 0)*(an 3 1 t.1 wn t.2 (qO wn 0)*(an 3 1 e.1 wn e.2 (qO wn 0)*F)))
abbrev tT:Bool:=true
abbrev fF:Bool:=false
abbrev WG:Type:=(aO×aO×aO×aO)×Option Addr×Option Addr×Option Addr×Option Addr
abbrev eU (b8 nn wo:Option Addr)(i:Nat):Env:=[(8,.pointer b8),(9,.pointer nn),(10,.int .i64 0),(11,.pointer wo),(12,.int .i64 (i:Int)),(42,.pointer wo),(43,.pointer wo),(44,.pointer wo),(45,.pointer wo)]
abbrev cu (q:Option Addr)(v:Int):SL:=an 3 1 q 1 1 [.int .i64 v]
abbrev aN (z:aO)(n:Nat)(v:Int):SL:=an 3 1 z.1 n z.2 (qO n v)
abbrev eT (b8 nn:Option Addr)(c:NC)(F:SL):SL:=Obj b8 34 [.int .i64 (c.n:Int),.int .u32 (c.o:Int),.int .i64 (c.lo:Int),.int .i64 (c.hi:Int),.int .i64 (c.nb:Int),.int .i64 (c.r:Int)]*(fG nn c (ez c)*F)
abbrev eQ (wo nn:Option Addr)(c:NC)(p:Option Addr)(i j cap:Nat)(a1 a2 a3 a4:aO):SL:=Obj wo 38 [.pointer nn,.int .i64 (c.n:Int),.int .u32 (c.o:Int),.int .i64 (c.lo:Int),.int .i64 (c.hi:Int),.int .i64 (c.nb:Int),.int .i64 (c.r:Int),.slice p j cap,.int .i64 0,.slice none 0 0,.slice a1.1 i a1.2,.slice a2.1 i a2.2,.slice a3.1 i a3.2,.slice a4.1 i a4.2,.int .i64 0]
theorem wN {σ1 σ2:Env}(h:Env.within σ1 σ2:=by repeat(first|exact trivial|refine⟨rfl,?_⟩)):Env.within σ1 σ2:=h
set_option maxHeartbeats 4000000 in
theorem Km (hc:c.Ok){x y z:Int}(hC:∀F,Spec Tryz.prog 37 [.int .i64 x,.int .i64 y,.int .i64 z] W F (fun _:Unit=>c.cfg.val) (fun _=>F)){p:Option Addr}{n cap j:Nat}{most:Int}(hj:min (n:Int) most=(j:Int))(tf:j≤n)[r:Room W F p n cap]:
  Spec Tryz.prog 7 [.agg #[.int .i64 x,.int .i64 y,.int .i64 z],.slice p n cap,.int .i64 most] W F (fun g:(Option Addr×Option Addr)×aO×aO×aO×aO=> .tuple #[.pointer g.1.1,.bool true])
   (fun g=>Obj g.1.1 38 (lH g.1.2 c p j cap 0 (none,0) 0 c.n g.2.1 g.2.2.1 g.2.2.2.1 g.2.2.2.2 0)*my c.n g.2.1 g.2.2.1 g.2.2.2.1 g.2.2.2.2 (fG g.1.2 c (ez c)*F)):=by
 refine Spec.of Tryz.func7 rfl Tryz.ntmps7 rfl ?_
 repeat first|refine aa ?_ |intro
 refine af rfl (hC _) ?_
 intro _
 repeat first|refine aa ?_ |intro
 rename_i b3 _ b8
 refine af rfl (wb c.cfg) ?_
 intro _
 repeat first|refine aa ?_ |intro
 refine af rfl (JO hc) ?_
 intro nn
 repeat first|refine aa ?_ |intro
 refine BI (φ:=nn≠none) (fun w hs=>fG.nn hs) (fun Aa=> ?_)
 haveI:bl (min (n:Int) most) j:=⟨hj⟩
 refine aG 99 (Obj b8 34 [.int .i64 c.cfg.w,.int .u32 c.cfg.o,.int .i64 c.cfg.lo,.int .i64 c.cfg.hi,.int .i64 c.cfg.b,.int .i64 c.cfg.r]*F) rfl rfl rfl ?_
 repeat(first|refine ak ?_ |refine eD ?_)
 repeat(first|refine bJ ?_ |(refine bN ?_;intro)|refine bK ?_ |refine bL ?_ |refine bM ?_ |refine eD ?_)
 repeat first|refine aa ?_ |intro
 rename_i wo
 refine ed (γ:=Nat×aO×aO×aO×aO) (fun g=>g.1≤c.n) (fun g=>[(8,.pointer b8),(9,.pointer nn),(10,.int .i64 0),(11,.pointer wo),(12,.int .i64 (g.1:Int))])
  (fun g=>Obj wo 38 (lH nn c p j cap 0 (none,0) 0 g.1 g.2.1 g.2.2.1 g.2.2.2.1 g.2.2.2.2 0)*my g.1 g.2.1 g.2.2.1 g.2.2.2.1 g.2.2.2.2 (Obj b8 34 [.int .i64 (c.n:Int),.int .u32 (c.o:Int),.int .i64 (c.lo:Int),.int .i64 (c.hi:Int),.int .i64 (c.nb:Int),.int .i64 (c.r:Int)]*(fG nn c (ez c)*F)))
  (fun g=>c.n-g.1) (0,(none,0),(none,0),(none,0),(none,0)) (Nat.zero_le _) ⟨rfl,rfl,rfl,rfl,rfl,trivial⟩ (U.sat (U.obj wo rfl (U.none (U.none (U.none (U.none (U.obj b8 rfl (ab)))))))) ?_
 intro ⟨i,a1,a2,a3,a4⟩ h1;dsimp only at h1 ⊢
 have Yz:=hc.n
 by_cases hi:i<c.n
 ·repeat first|refine aa ?_ |intro
  simp only[lH,my]
  refine aG 30 (Obj wo 38 [.pointer nn,.int .i64 (c.n:Int),.int .u32 (c.o:Int),.int .i64 (c.lo:Int),.int .i64 (c.hi:Int),.int .i64 (c.nb:Int),.int .i64 (c.r:Int),.slice p j cap,.int .i64 0,.slice none 0 0,.slice a1.1 i a1.2,.slice a2.1 i a2.2,.slice a3.1 i a3.2,.slice a4.1 i a4.2,.int .i64 0]*1) rfl rfl rfl ?_
  --REGION7
  refine dQ 0 rfl rfl rfl (fH rfl) (by decide+kernel) (ab) rfl ?_
  refine aQ 0 rfl rfl rfl rfl (by decide+kernel) (ab) rfl ?_
  refine aQ 0 rfl rfl rfl rfl (by decide+kernel) (ab) rfl ?_
  refine aQ 0 rfl rfl rfl rfl (by decide+kernel) (ab) rfl ?_
  refine dQ 0 rfl rfl rfl (fH rfl) (by decide+kernel) (ab) rfl ?_
  refine dQ 0 rfl rfl rfl (gx rfl rfl) (by decide+kernel) (ab) rfl ?_
  refine dQ 0 rfl rfl rfl (gw rfl rfl) (by decide+kernel) (ab) rfl ?_
  refine dQ 0 rfl rfl rfl (oJ rfl rfl rfl) (by decide+kernel) (ab) rfl ?_
  refine dQ 2 rfl rfl rfl (fH rfl) (by decide+kernel) (ab) rfl ?_
  refine dQ 2 rfl rfl rfl (gx rfl rfl) (by decide+kernel) (ab) rfl ?_
  refine dQ 2 rfl rfl rfl (gw rfl rfl) (by decide+kernel) (ab) rfl ?_
  refine dQ 2 rfl rfl rfl (oJ rfl rfl rfl) (by decide+kernel) (ab) rfl ?_
  refine dQ 4 rfl rfl rfl (fH rfl) (by decide+kernel) (ab) rfl ?_
  refine dQ 4 rfl rfl rfl (gx rfl rfl) (by decide+kernel) (ab) rfl ?_
  refine dQ 4 rfl rfl rfl (gw rfl rfl) (by decide+kernel) (ab) rfl ?_
  refine dQ 4 rfl rfl rfl (oJ rfl rfl rfl) (by decide+kernel) (ab) rfl ?_
  refine dQ 6 rfl rfl rfl (fH rfl) (by decide+kernel) (ab) rfl ?_
  refine dQ 6 rfl rfl rfl (gx rfl rfl) (by decide+kernel) (ab) rfl ?_
  refine dQ 6 rfl rfl rfl (gw rfl rfl) (by decide+kernel) (ab) rfl ?_
  refine dQ 6 rfl rfl rfl (oJ rfl rfl rfl) (by decide+kernel) (ab) (ls:= #[tT,tT,tT,tT,tT,tT,tT,tT,fF,fF,tT,tT,tT,tT,fF,fF,tT,tT,tT,tT,fF,fF,tT,tT,tT,tT,fF,fF,fF,fF,fF,fF,fF,fF,fF,fF,fF,fF,fF,fF]) rfl ?_
  have eW:∀v,qO (i+1) v=qO i v++[.int .i64 v]:=fun v=>List.replicate_succ'
  refine eE (γ:=WG) (fuel':=12) (ls':= #[tT,tT,tT,tT,tT,tT,tT,tT,tT,tT,tT,tT,tT,tT,tT,tT,tT,tT,tT,tT,tT,tT,tT,tT,tT,tT,tT,tT,fF,fF,fF,fF,fF,fF,fF,fF,fF,fF,fF,fF]) (fun _=>True)
   (fun g=>(51,.slice g.1.1.1 (i+1) g.1.1.2)::(57,.slice g.1.2.1.1 (i+1) g.1.2.1.2)::(63,.slice g.1.2.2.1.1 (i+1) g.1.2.2.1.2)::(69,.slice g.1.2.2.2.1 (i+1) g.1.2.2.2.2)::eU b8 nn wo i)
   (fun g=>eQ wo nn c p i j cap a1 a2 a3 a4*(aN (g.1.1) (i+1) (-1)*(aN (g.1.2.1) (i+1) 0*(aN (g.1.2.2.1) (i+1) 0*(aN (g.1.2.2.2) (i+1) 0*eT b8 nn c F))))) ?_ (fun K4=> ?_)
  ·intro ⟨⟨z1,z2,z3,z4⟩,b1,b2,b3,b4⟩ _
   dsimp only
   refine dQ 0 rfl rfl rfl (gx rfl rfl) (by decide+kernel) (ab) rfl ?_
   refine dQ 0 rfl rfl rfl (gw rfl rfl) (by decide+kernel) (ab) rfl ?_
   (refine kG rfl (cK rfl rfl rfl rfl rfl rfl) (by decide+kernel) rfl ?_);repeat(first|refine fo rfl rfl rfl (gx rfl rfl) (by decide+kernel) (by decide+kernel) rfl ?_ |refine fo rfl rfl rfl (gw rfl rfl) (by decide+kernel) (by decide+kernel) rfl ?_ |refine kH rfl rfl (cK rfl rfl rfl rfl rfl rfl) (by decide+kernel) (by decide+kernel) rfl ?_ |refine eD ?_)
   repeat first|refine aa ?_ |intro
   refine db (i+1,z1,z2,z3,z4) (Nat.succ_le_of_lt hi) (by dsimp only;omega) ⟨rfl,rfl,rfl,rfl,rfl,trivial⟩ (U.sat ?_)
   dsimp only
   exact ab
  refine eE (γ:=WG) (fuel':=13) (ls':= #[tT,tT,tT,tT,tT,tT,tT,tT,tT,tT,tT,tT,tT,tT,tT,tT,tT,tT,tT,tT,tT,tT,tT,tT,tT,tT,tT,fF,fF,fF,fF,fF,fF,fF,fF,fF,fF,fF,fF,fF]) (fun _=>True)
   (fun g=>(51,.slice g.1.1.1 (i+1) g.1.1.2)::(57,.slice g.1.2.1.1 (i+1) g.1.2.1.2)::(63,.slice g.1.2.2.1.1 (i+1) g.1.2.2.1.2)::(67,.slice a4.1 i a4.2)::(68,.slice g.2.2.2.2 1 1)::eU b8 nn wo i)
   (fun g=>eQ wo nn c p i j cap a1 a2 a3 a4*(cu (g.2.2.2.2) 0*(aN (g.1.1) (i+1) (-1)*(aN (g.1.2.1) (i+1) 0*(aN (g.1.2.2.1) (i+1) 0*(aN a4 i 0*eT b8 nn c F)))))) ?_ (fun B6=> ?_)
  ·intro ⟨⟨z1,z2,z3,z4⟩,b1,b2,b3,b4⟩ _
   dsimp only
   refine eG (i:=27) (l:=[]) ⟨?_,trivial⟩
   ·exact bQ rfl rfl rfl (iV rfl rfl rfl (by omega) (by decide)) rfl (fun _=>ab) (fun x=>bP (K4 ⟨⟨z1,z2,z3,x⟩,b1,b2,b3,b4⟩ trivial) wN (by dsimp only;simp only[aN,eW];exact ab))
  refine eE (γ:=WG) (fuel':=14) (ls':= #[tT,tT,tT,tT,tT,tT,tT,tT,tT,tT,tT,tT,tT,tT,tT,tT,tT,tT,tT,tT,tT,tT,tT,tT,tT,tT,fF,fF,fF,fF,fF,fF,fF,fF,fF,fF,fF,fF,fF,fF]) (fun _=>True)
   (fun g=>(51,.slice g.1.1.1 (i+1) g.1.1.2)::(57,.slice g.1.2.1.1 (i+1) g.1.2.1.2)::(63,.slice g.1.2.2.1.1 (i+1) g.1.2.2.1.2)::(67,.slice a4.1 i a4.2)::eU b8 nn wo i)
   (fun g=>eQ wo nn c p i j cap a1 a2 a3 a4*(aN (g.1.1) (i+1) (-1)*(aN (g.1.2.1) (i+1) 0*(aN (g.1.2.2.1) (i+1) 0*(aN a4 i 0*eT b8 nn c F))))) ?_ (fun K3=> ?_)
  ·intro ⟨⟨z1,z2,z3,z4⟩,b1,b2,b3,b4⟩ _
   dsimp only
   refine eG (i:=26) (l:=[]) ⟨?_,trivial⟩
   ·exact bQ rfl rfl rfl (cm rfl rfl rfl (by decide) (by decide)) rfl (fun _=>ab) (fun x=>bP (B6 ⟨⟨z1,z2,z3,z4⟩,b1,b2,b3,x⟩ trivial) wN (ab))
  refine eE (γ:=WG) (fuel':=14) (ls':= #[tT,tT,tT,tT,tT,tT,tT,tT,tT,tT,tT,tT,tT,tT,tT,tT,tT,tT,tT,tT,tT,fF,tT,tT,tT,tT,tT,fF,fF,fF,fF,fF,fF,fF,fF,fF,fF,fF,fF,fF]) (fun _=>True)
   (fun g=>(51,.slice g.1.1.1 (i+1) g.1.1.2)::(57,.slice g.1.2.1.1 (i+1) g.1.2.1.2)::(61,.slice a3.1 i a3.2)::(67,.slice a4.1 i a4.2)::(62,.slice g.2.2.2.1 1 1)::(68,.slice g.2.2.2.2 1 1)::eU b8 nn wo i)
   (fun g=>eQ wo nn c p i j cap a1 a2 a3 a4*(cu (g.2.2.2.1) 0*(cu (g.2.2.2.2) 0*(aN (g.1.1) (i+1) (-1)*(aN (g.1.2.1) (i+1) 0*(aN a3 i 0*(aN a4 i 0*eT b8 nn c F))))))) ?_ (fun xE=> ?_)
  ·intro ⟨⟨z1,z2,z3,z4⟩,b1,b2,b3,b4⟩ _
   dsimp only
   refine eG (i:=21) (l:=[]) ⟨?_,trivial⟩
   ·exact bQ rfl rfl rfl (iV rfl rfl rfl (by omega) (by decide)) rfl (fun _=>ab) (fun x=>bP (B6 ⟨⟨z1,z2,x,z4⟩,b1,b2,b3,b4⟩ trivial) wN (by dsimp only;simp only[aN,eW];exact ab))
  refine eE (γ:=WG) (fuel':=15) (ls':= #[tT,tT,tT,tT,tT,tT,tT,tT,tT,tT,tT,tT,tT,tT,tT,tT,tT,tT,tT,tT,tT,fF,tT,tT,tT,tT,fF,fF,fF,fF,fF,fF,fF,fF,fF,fF,fF,fF,fF,fF]) (fun _=>True)
   (fun g=>(51,.slice g.1.1.1 (i+1) g.1.1.2)::(57,.slice g.1.2.1.1 (i+1) g.1.2.1.2)::(61,.slice a3.1 i a3.2)::(67,.slice a4.1 i a4.2)::(62,.slice g.2.2.2.1 1 1)::eU b8 nn wo i)
   (fun g=>eQ wo nn c p i j cap a1 a2 a3 a4*(cu (g.2.2.2.1) 0*(aN (g.1.1) (i+1) (-1)*(aN (g.1.2.1) (i+1) 0*(aN a3 i 0*(aN a4 i 0*eT b8 nn c F)))))) ?_ (fun B4=> ?_)
  ·intro ⟨⟨z1,z2,z3,z4⟩,b1,b2,b3,b4⟩ _
   dsimp only
   refine eG (i:=21) (l:=[26]) ⟨?_,?_,trivial⟩
   ·exact bQ rfl rfl rfl (iV rfl rfl rfl (by omega) (by decide)) rfl (fun _=>ab) (fun x=>bP (K3 ⟨⟨z1,z2,x,z4⟩,b1,b2,b3,b4⟩ trivial) wN (by dsimp only;simp only[aN,eW];exact ab))
   ·exact bQ rfl rfl rfl (cm rfl rfl rfl (by decide) (by decide)) rfl (fun _=>ab) (fun x=>bP (xE ⟨⟨z1,z2,z3,z4⟩,b1,b2,b3,x⟩ trivial) wN (ab))
  refine eE (γ:=WG) (fuel':=15) (ls':= #[tT,tT,tT,tT,tT,tT,tT,tT,tT,tT,tT,tT,tT,tT,tT,tT,tT,tT,tT,tT,fF,fF,tT,tT,tT,tT,tT,fF,fF,fF,fF,fF,fF,fF,fF,fF,fF,fF,fF,fF]) (fun _=>True)
   (fun g=>(51,.slice g.1.1.1 (i+1) g.1.1.2)::(57,.slice g.1.2.1.1 (i+1) g.1.2.1.2)::(61,.slice a3.1 i a3.2)::(67,.slice a4.1 i a4.2)::(68,.slice g.2.2.2.2 1 1)::eU b8 nn wo i)
   (fun g=>eQ wo nn c p i j cap a1 a2 a3 a4*(cu (g.2.2.2.2) 0*(aN (g.1.1) (i+1) (-1)*(aN (g.1.2.1) (i+1) 0*(aN a3 i 0*(aN a4 i 0*eT b8 nn c F)))))) ?_ (fun B5=> ?_)
  ·intro ⟨⟨z1,z2,z3,z4⟩,b1,b2,b3,b4⟩ _
   dsimp only
   refine eG (i:=20) (l:=[]) ⟨?_,trivial⟩
   ·exact bQ rfl rfl rfl (cm rfl rfl rfl (by decide) (by decide)) rfl (fun _=>ab) (fun x=>bP (xE ⟨⟨z1,z2,z3,z4⟩,b1,b2,x,b4⟩ trivial) wN (ab))
  refine eE (γ:=WG) (fuel':=16) (ls':= #[tT,tT,tT,tT,tT,tT,tT,tT,tT,tT,tT,tT,tT,tT,tT,tT,tT,tT,tT,tT,fF,fF,tT,tT,tT,tT,fF,fF,fF,fF,fF,fF,fF,fF,fF,fF,fF,fF,fF,fF]) (fun _=>True)
   (fun g=>(51,.slice g.1.1.1 (i+1) g.1.1.2)::(57,.slice g.1.2.1.1 (i+1) g.1.2.1.2)::(61,.slice a3.1 i a3.2)::(67,.slice a4.1 i a4.2)::eU b8 nn wo i)
   (fun g=>eQ wo nn c p i j cap a1 a2 a3 a4*(aN (g.1.1) (i+1) (-1)*(aN (g.1.2.1) (i+1) 0*(aN a3 i 0*(aN a4 i 0*eT b8 nn c F))))) ?_ (fun K2=> ?_)
  ·intro ⟨⟨z1,z2,z3,z4⟩,b1,b2,b3,b4⟩ _
   dsimp only
   refine eG (i:=20) (l:=[26]) ⟨?_,?_,trivial⟩
   ·exact bQ rfl rfl rfl (cm rfl rfl rfl (by decide) (by decide)) rfl (fun _=>ab) (fun x=>bP (B4 ⟨⟨z1,z2,z3,z4⟩,b1,b2,x,b4⟩ trivial) wN (ab))
   ·exact bQ rfl rfl rfl (cm rfl rfl rfl (by decide) (by decide)) rfl (fun _=>ab) (fun x=>bP (B5 ⟨⟨z1,z2,z3,z4⟩,b1,b2,b3,x⟩ trivial) wN (ab))
  refine eE (γ:=WG) (fuel':=15) (ls':= #[tT,tT,tT,tT,tT,tT,tT,tT,tT,tT,tT,tT,tT,tT,tT,fF,tT,tT,tT,tT,tT,fF,tT,tT,tT,tT,tT,fF,fF,fF,fF,fF,fF,fF,fF,fF,fF,fF,fF,fF]) (fun _=>True)
   (fun g=>(51,.slice g.1.1.1 (i+1) g.1.1.2)::(55,.slice a2.1 i a2.2)::(61,.slice a3.1 i a3.2)::(67,.slice a4.1 i a4.2)::(56,.slice g.2.2.1 1 1)::(62,.slice g.2.2.2.1 1 1)::(68,.slice g.2.2.2.2 1 1)::eU b8 nn wo i)
   (fun g=>eQ wo nn c p i j cap a1 a2 a3 a4*(cu (g.2.2.1) 0*(cu (g.2.2.2.1) 0*(cu (g.2.2.2.2) 0*(aN (g.1.1) (i+1) (-1)*(aN a2 i 0*(aN a3 i 0*(aN a4 i 0*eT b8 nn c F)))))))) ?_ (fun uI=> ?_)
  ·intro ⟨⟨z1,z2,z3,z4⟩,b1,b2,b3,b4⟩ _
   dsimp only
   refine eG (i:=15) (l:=[]) ⟨?_,trivial⟩
   ·exact bQ rfl rfl rfl (iV rfl rfl rfl (by omega) (by decide)) rfl (fun _=>ab) (fun x=>bP (xE ⟨⟨z1,x,z3,z4⟩,b1,b2,b3,b4⟩ trivial) wN (by dsimp only;simp only[aN,eW];exact ab))
  refine eE (γ:=WG) (fuel':=16) (ls':= #[tT,tT,tT,tT,tT,tT,tT,tT,tT,tT,tT,tT,tT,tT,tT,fF,tT,tT,tT,tT,tT,fF,tT,tT,tT,tT,fF,fF,fF,fF,fF,fF,fF,fF,fF,fF,fF,fF,fF,fF]) (fun _=>True)
   (fun g=>(51,.slice g.1.1.1 (i+1) g.1.1.2)::(55,.slice a2.1 i a2.2)::(61,.slice a3.1 i a3.2)::(67,.slice a4.1 i a4.2)::(56,.slice g.2.2.1 1 1)::(62,.slice g.2.2.2.1 1 1)::eU b8 nn wo i)
   (fun g=>eQ wo nn c p i j cap a1 a2 a3 a4*(cu (g.2.2.1) 0*(cu (g.2.2.2.1) 0*(aN (g.1.1) (i+1) (-1)*(aN a2 i 0*(aN a3 i 0*(aN a4 i 0*eT b8 nn c F))))))) ?_ (fun xA=> ?_)
  ·intro ⟨⟨z1,z2,z3,z4⟩,b1,b2,b3,b4⟩ _
   dsimp only
   refine eG (i:=15) (l:=[26]) ⟨?_,?_,trivial⟩
   ·exact bQ rfl rfl rfl (iV rfl rfl rfl (by omega) (by decide)) rfl (fun _=>ab) (fun x=>bP (B4 ⟨⟨z1,x,z3,z4⟩,b1,b2,b3,b4⟩ trivial) wN (by dsimp only;simp only[aN,eW];exact ab))
   ·exact bQ rfl rfl rfl (cm rfl rfl rfl (by decide) (by decide)) rfl (fun _=>ab) (fun x=>bP (uI ⟨⟨z1,z2,z3,z4⟩,b1,b2,b3,x⟩ trivial) wN (ab))
  refine eE (γ:=WG) (fuel':=16) (ls':= #[tT,tT,tT,tT,tT,tT,tT,tT,tT,tT,tT,tT,tT,tT,tT,fF,tT,tT,tT,tT,fF,fF,tT,tT,tT,tT,tT,fF,fF,fF,fF,fF,fF,fF,fF,fF,fF,fF,fF,fF]) (fun _=>True)
   (fun g=>(51,.slice g.1.1.1 (i+1) g.1.1.2)::(55,.slice a2.1 i a2.2)::(61,.slice a3.1 i a3.2)::(67,.slice a4.1 i a4.2)::(56,.slice g.2.2.1 1 1)::(68,.slice g.2.2.2.2 1 1)::eU b8 nn wo i)
   (fun g=>eQ wo nn c p i j cap a1 a2 a3 a4*(cu (g.2.2.1) 0*(cu (g.2.2.2.2) 0*(aN (g.1.1) (i+1) (-1)*(aN a2 i 0*(aN a3 i 0*(aN a4 i 0*eT b8 nn c F))))))) ?_ (fun xB=> ?_)
  ·intro ⟨⟨z1,z2,z3,z4⟩,b1,b2,b3,b4⟩ _
   dsimp only
   refine eG (i:=15) (l:=[20]) ⟨?_,?_,trivial⟩
   ·exact bQ rfl rfl rfl (iV rfl rfl rfl (by omega) (by decide)) rfl (fun _=>ab) (fun x=>bP (B5 ⟨⟨z1,x,z3,z4⟩,b1,b2,b3,b4⟩ trivial) wN (by dsimp only;simp only[aN,eW];exact ab))
   ·exact bQ rfl rfl rfl (cm rfl rfl rfl (by decide) (by decide)) rfl (fun _=>ab) (fun x=>bP (uI ⟨⟨z1,z2,z3,z4⟩,b1,b2,x,b4⟩ trivial) wN (ab))
  refine eE (γ:=WG) (fuel':=16) (ls':= #[tT,tT,tT,tT,tT,tT,tT,tT,tT,tT,tT,tT,tT,tT,fF,fF,tT,tT,tT,tT,tT,fF,tT,tT,tT,tT,tT,fF,fF,fF,fF,fF,fF,fF,fF,fF,fF,fF,fF,fF]) (fun _=>True)
   (fun g=>(51,.slice g.1.1.1 (i+1) g.1.1.2)::(55,.slice a2.1 i a2.2)::(61,.slice a3.1 i a3.2)::(67,.slice a4.1 i a4.2)::(62,.slice g.2.2.2.1 1 1)::(68,.slice g.2.2.2.2 1 1)::eU b8 nn wo i)
   (fun g=>eQ wo nn c p i j cap a1 a2 a3 a4*(cu (g.2.2.2.1) 0*(cu (g.2.2.2.2) 0*(aN (g.1.1) (i+1) (-1)*(aN a2 i 0*(aN a3 i 0*(aN a4 i 0*eT b8 nn c F))))))) ?_ (fun xC=> ?_)
  ·intro ⟨⟨z1,z2,z3,z4⟩,b1,b2,b3,b4⟩ _
   dsimp only
   refine eG (i:=14) (l:=[]) ⟨?_,trivial⟩
   ·exact bQ rfl rfl rfl (cm rfl rfl rfl (by decide) (by decide)) rfl (fun _=>ab) (fun x=>bP (uI ⟨⟨z1,z2,z3,z4⟩,b1,x,b3,b4⟩ trivial) wN (ab))
  refine eE (γ:=WG) (fuel':=17) (ls':= #[tT,tT,tT,tT,tT,tT,tT,tT,tT,tT,tT,tT,tT,tT,tT,fF,tT,tT,tT,tT,fF,fF,tT,tT,tT,tT,fF,fF,fF,fF,fF,fF,fF,fF,fF,fF,fF,fF,fF,fF]) (fun _=>True)
   (fun g=>(51,.slice g.1.1.1 (i+1) g.1.1.2)::(55,.slice a2.1 i a2.2)::(61,.slice a3.1 i a3.2)::(67,.slice a4.1 i a4.2)::(56,.slice g.2.2.1 1 1)::eU b8 nn wo i)
   (fun g=>eQ wo nn c p i j cap a1 a2 a3 a4*(cu (g.2.2.1) 0*(aN (g.1.1) (i+1) (-1)*(aN a2 i 0*(aN a3 i 0*(aN a4 i 0*eT b8 nn c F)))))) ?_ (fun B1=> ?_)
  ·intro ⟨⟨z1,z2,z3,z4⟩,b1,b2,b3,b4⟩ _
   dsimp only
   refine eG (i:=15) (l:=[20,26]) ⟨?_,?_,?_,trivial⟩
   ·exact bQ rfl rfl rfl (iV rfl rfl rfl (by omega) (by decide)) rfl (fun _=>ab) (fun x=>bP (K2 ⟨⟨z1,x,z3,z4⟩,b1,b2,b3,b4⟩ trivial) wN (by dsimp only;simp only[aN,eW];exact ab))
   ·exact bQ rfl rfl rfl (cm rfl rfl rfl (by decide) (by decide)) rfl (fun _=>ab) (fun x=>bP (xA ⟨⟨z1,z2,z3,z4⟩,b1,b2,x,b4⟩ trivial) wN (ab))
   ·exact bQ rfl rfl rfl (cm rfl rfl rfl (by decide) (by decide)) rfl (fun _=>ab) (fun x=>bP (xB ⟨⟨z1,z2,z3,z4⟩,b1,b2,b3,x⟩ trivial) wN (ab))
  refine eE (γ:=WG) (fuel':=17) (ls':= #[tT,tT,tT,tT,tT,tT,tT,tT,tT,tT,tT,tT,tT,tT,fF,fF,tT,tT,tT,tT,tT,fF,tT,tT,tT,tT,fF,fF,fF,fF,fF,fF,fF,fF,fF,fF,fF,fF,fF,fF]) (fun _=>True)
   (fun g=>(51,.slice g.1.1.1 (i+1) g.1.1.2)::(55,.slice a2.1 i a2.2)::(61,.slice a3.1 i a3.2)::(67,.slice a4.1 i a4.2)::(62,.slice g.2.2.2.1 1 1)::eU b8 nn wo i)
   (fun g=>eQ wo nn c p i j cap a1 a2 a3 a4*(cu (g.2.2.2.1) 0*(aN (g.1.1) (i+1) (-1)*(aN a2 i 0*(aN a3 i 0*(aN a4 i 0*eT b8 nn c F)))))) ?_ (fun B2=> ?_)
  ·intro ⟨⟨z1,z2,z3,z4⟩,b1,b2,b3,b4⟩ _
   dsimp only
   refine eG (i:=14) (l:=[26]) ⟨?_,?_,trivial⟩
   ·exact bQ rfl rfl rfl (cm rfl rfl rfl (by decide) (by decide)) rfl (fun _=>ab) (fun x=>bP (xA ⟨⟨z1,z2,z3,z4⟩,b1,x,b3,b4⟩ trivial) wN (ab))
   ·exact bQ rfl rfl rfl (cm rfl rfl rfl (by decide) (by decide)) rfl (fun _=>ab) (fun x=>bP (xC ⟨⟨z1,z2,z3,z4⟩,b1,b2,b3,x⟩ trivial) wN (ab))
  refine eE (γ:=WG) (fuel':=17) (ls':= #[tT,tT,tT,tT,tT,tT,tT,tT,tT,tT,tT,tT,tT,tT,fF,fF,tT,tT,tT,tT,fF,fF,tT,tT,tT,tT,tT,fF,fF,fF,fF,fF,fF,fF,fF,fF,fF,fF,fF,fF]) (fun _=>True)
   (fun g=>(51,.slice g.1.1.1 (i+1) g.1.1.2)::(55,.slice a2.1 i a2.2)::(61,.slice a3.1 i a3.2)::(67,.slice a4.1 i a4.2)::(68,.slice g.2.2.2.2 1 1)::eU b8 nn wo i)
   (fun g=>eQ wo nn c p i j cap a1 a2 a3 a4*(cu (g.2.2.2.2) 0*(aN (g.1.1) (i+1) (-1)*(aN a2 i 0*(aN a3 i 0*(aN a4 i 0*eT b8 nn c F)))))) ?_ (fun B3=> ?_)
  ·intro ⟨⟨z1,z2,z3,z4⟩,b1,b2,b3,b4⟩ _
   dsimp only
   refine eG (i:=14) (l:=[20]) ⟨?_,?_,trivial⟩
   ·exact bQ rfl rfl rfl (cm rfl rfl rfl (by decide) (by decide)) rfl (fun _=>ab) (fun x=>bP (xB ⟨⟨z1,z2,z3,z4⟩,b1,x,b3,b4⟩ trivial) wN (ab))
   ·exact bQ rfl rfl rfl (cm rfl rfl rfl (by decide) (by decide)) rfl (fun _=>ab) (fun x=>bP (xC ⟨⟨z1,z2,z3,z4⟩,b1,b2,x,b4⟩ trivial) wN (ab))
  refine eE (γ:=WG) (fuel':=18) (ls':= #[tT,tT,tT,tT,tT,tT,tT,tT,tT,tT,tT,tT,tT,tT,fF,fF,tT,tT,tT,tT,fF,fF,tT,tT,tT,tT,fF,fF,fF,fF,fF,fF,fF,fF,fF,fF,fF,fF,fF,fF]) (fun _=>True)
   (fun g=>(51,.slice g.1.1.1 (i+1) g.1.1.2)::(55,.slice a2.1 i a2.2)::(61,.slice a3.1 i a3.2)::(67,.slice a4.1 i a4.2)::eU b8 nn wo i)
   (fun g=>eQ wo nn c p i j cap a1 a2 a3 a4*(aN (g.1.1) (i+1) (-1)*(aN a2 i 0*(aN a3 i 0*(aN a4 i 0*eT b8 nn c F))))) ?_ (fun K1=> ?_)
  ·intro ⟨⟨z1,z2,z3,z4⟩,b1,b2,b3,b4⟩ _
   dsimp only
   refine eG (i:=14) (l:=[20,26]) ⟨?_,?_,?_,trivial⟩
   ·exact bQ rfl rfl rfl (cm rfl rfl rfl (by decide) (by decide)) rfl (fun _=>ab) (fun x=>bP (B1 ⟨⟨z1,z2,z3,z4⟩,b1,x,b3,b4⟩ trivial) wN (ab))
   ·exact bQ rfl rfl rfl (cm rfl rfl rfl (by decide) (by decide)) rfl (fun _=>ab) (fun x=>bP (B2 ⟨⟨z1,z2,z3,z4⟩,b1,b2,x,b4⟩ trivial) wN (ab))
   ·exact bQ rfl rfl rfl (cm rfl rfl rfl (by decide) (by decide)) rfl (fun _=>ab) (fun x=>bP (B3 ⟨⟨z1,z2,z3,z4⟩,b1,b2,b3,x⟩ trivial) wN (ab))
  refine eE (γ:=WG) (fuel':=16) (ls':= #[tT,tT,tT,tT,tT,tT,tT,tT,tT,fF,tT,tT,tT,tT,tT,fF,tT,tT,tT,tT,tT,fF,tT,tT,tT,tT,tT,fF,fF,fF,fF,fF,fF,fF,fF,fF,fF,fF,fF,fF]) (fun _=>True)
   (fun g=>(49,.slice a1.1 i a1.2)::(55,.slice a2.1 i a2.2)::(61,.slice a3.1 i a3.2)::(67,.slice a4.1 i a4.2)::(50,.slice g.2.1 1 1)::(56,.slice g.2.2.1 1 1)::(62,.slice g.2.2.2.1 1 1)::(68,.slice g.2.2.2.2 1 1)::eU b8 nn wo i)
   (fun g=>eQ wo nn c p i j cap a1 a2 a3 a4*(cu (g.2.1) (-1)*(cu (g.2.2.1) 0*(cu (g.2.2.2.1) 0*(cu (g.2.2.2.2) 0*(aN a1 i (-1)*(aN a2 i 0*(aN a3 i 0*(aN a4 i 0*eT b8 nn c F))))))))) ?_ (fun uH=> ?_)
  ·intro ⟨⟨z1,z2,z3,z4⟩,b1,b2,b3,b4⟩ _
   dsimp only
   refine eG (i:=9) (l:=[]) ⟨?_,trivial⟩
   ·exact bQ rfl rfl rfl (iV rfl rfl rfl (by omega) (by decide)) rfl (fun _=>ab) (fun x=>bP (uI ⟨⟨x,z2,z3,z4⟩,b1,b2,b3,b4⟩ trivial) wN (by dsimp only;simp only[aN,eW];exact ab))
  refine eE (γ:=WG) (fuel':=17) (ls':= #[tT,tT,tT,tT,tT,tT,tT,tT,tT,fF,tT,tT,tT,tT,tT,fF,tT,tT,tT,tT,tT,fF,tT,tT,tT,tT,fF,fF,fF,fF,fF,fF,fF,fF,fF,fF,fF,fF,fF,fF]) (fun _=>True)
   (fun g=>(49,.slice a1.1 i a1.2)::(55,.slice a2.1 i a2.2)::(61,.slice a3.1 i a3.2)::(67,.slice a4.1 i a4.2)::(50,.slice g.2.1 1 1)::(56,.slice g.2.2.1 1 1)::(62,.slice g.2.2.2.1 1 1)::eU b8 nn wo i)
   (fun g=>eQ wo nn c p i j cap a1 a2 a3 a4*(cu (g.2.1) (-1)*(cu (g.2.2.1) 0*(cu (g.2.2.2.1) 0*(aN a1 i (-1)*(aN a2 i 0*(aN a3 i 0*(aN a4 i 0*eT b8 nn c F)))))))) ?_ (fun xv=> ?_)
  ·intro ⟨⟨z1,z2,z3,z4⟩,b1,b2,b3,b4⟩ _
   dsimp only
   refine eG (i:=9) (l:=[26]) ⟨?_,?_,trivial⟩
   ·exact bQ rfl rfl rfl (iV rfl rfl rfl (by omega) (by decide)) rfl (fun _=>ab) (fun x=>bP (xA ⟨⟨x,z2,z3,z4⟩,b1,b2,b3,b4⟩ trivial) wN (by dsimp only;simp only[aN,eW];exact ab))
   ·exact bQ rfl rfl rfl (cm rfl rfl rfl (by decide) (by decide)) rfl (fun _=>ab) (fun x=>bP (uH ⟨⟨z1,z2,z3,z4⟩,b1,b2,b3,x⟩ trivial) wN (ab))
  refine eE (γ:=WG) (fuel':=17) (ls':= #[tT,tT,tT,tT,tT,tT,tT,tT,tT,fF,tT,tT,tT,tT,tT,fF,tT,tT,tT,tT,fF,fF,tT,tT,tT,tT,tT,fF,fF,fF,fF,fF,fF,fF,fF,fF,fF,fF,fF,fF]) (fun _=>True)
   (fun g=>(49,.slice a1.1 i a1.2)::(55,.slice a2.1 i a2.2)::(61,.slice a3.1 i a3.2)::(67,.slice a4.1 i a4.2)::(50,.slice g.2.1 1 1)::(56,.slice g.2.2.1 1 1)::(68,.slice g.2.2.2.2 1 1)::eU b8 nn wo i)
   (fun g=>eQ wo nn c p i j cap a1 a2 a3 a4*(cu (g.2.1) (-1)*(cu (g.2.2.1) 0*(cu (g.2.2.2.2) 0*(aN a1 i (-1)*(aN a2 i 0*(aN a3 i 0*(aN a4 i 0*eT b8 nn c F)))))))) ?_ (fun xx=> ?_)
  ·intro ⟨⟨z1,z2,z3,z4⟩,b1,b2,b3,b4⟩ _
   dsimp only
   refine eG (i:=9) (l:=[20]) ⟨?_,?_,trivial⟩
   ·exact bQ rfl rfl rfl (iV rfl rfl rfl (by omega) (by decide)) rfl (fun _=>ab) (fun x=>bP (xB ⟨⟨x,z2,z3,z4⟩,b1,b2,b3,b4⟩ trivial) wN (by dsimp only;simp only[aN,eW];exact ab))
   ·exact bQ rfl rfl rfl (cm rfl rfl rfl (by decide) (by decide)) rfl (fun _=>ab) (fun x=>bP (uH ⟨⟨z1,z2,z3,z4⟩,b1,b2,x,b4⟩ trivial) wN (ab))
  refine eE (γ:=WG) (fuel':=17) (ls':= #[tT,tT,tT,tT,tT,tT,tT,tT,tT,fF,tT,tT,tT,tT,fF,fF,tT,tT,tT,tT,tT,fF,tT,tT,tT,tT,tT,fF,fF,fF,fF,fF,fF,fF,fF,fF,fF,fF,fF,fF]) (fun _=>True)
   (fun g=>(49,.slice a1.1 i a1.2)::(55,.slice a2.1 i a2.2)::(61,.slice a3.1 i a3.2)::(67,.slice a4.1 i a4.2)::(50,.slice g.2.1 1 1)::(62,.slice g.2.2.2.1 1 1)::(68,.slice g.2.2.2.2 1 1)::eU b8 nn wo i)
   (fun g=>eQ wo nn c p i j cap a1 a2 a3 a4*(cu (g.2.1) (-1)*(cu (g.2.2.2.1) 0*(cu (g.2.2.2.2) 0*(aN a1 i (-1)*(aN a2 i 0*(aN a3 i 0*(aN a4 i 0*eT b8 nn c F)))))))) ?_ (fun xy=> ?_)
  ·intro ⟨⟨z1,z2,z3,z4⟩,b1,b2,b3,b4⟩ _
   dsimp only
   refine eG (i:=9) (l:=[14]) ⟨?_,?_,trivial⟩
   ·exact bQ rfl rfl rfl (iV rfl rfl rfl (by omega) (by decide)) rfl (fun _=>ab) (fun x=>bP (xC ⟨⟨x,z2,z3,z4⟩,b1,b2,b3,b4⟩ trivial) wN (by dsimp only;simp only[aN,eW];exact ab))
   ·exact bQ rfl rfl rfl (cm rfl rfl rfl (by decide) (by decide)) rfl (fun _=>ab) (fun x=>bP (uH ⟨⟨z1,z2,z3,z4⟩,b1,x,b3,b4⟩ trivial) wN (ab))
  refine eE (γ:=WG) (fuel':=17) (ls':= #[tT,tT,tT,tT,tT,tT,tT,tT,fF,fF,tT,tT,tT,tT,tT,fF,tT,tT,tT,tT,tT,fF,tT,tT,tT,tT,tT,fF,fF,fF,fF,fF,fF,fF,fF,fF,fF,fF,fF,fF]) (fun _=>True)
   (fun g=>(49,.slice a1.1 i a1.2)::(55,.slice a2.1 i a2.2)::(61,.slice a3.1 i a3.2)::(67,.slice a4.1 i a4.2)::(56,.slice g.2.2.1 1 1)::(62,.slice g.2.2.2.1 1 1)::(68,.slice g.2.2.2.2 1 1)::eU b8 nn wo i)
   (fun g=>eQ wo nn c p i j cap a1 a2 a3 a4*(cu (g.2.2.1) 0*(cu (g.2.2.2.1) 0*(cu (g.2.2.2.2) 0*(aN a1 i (-1)*(aN a2 i 0*(aN a3 i 0*(aN a4 i 0*eT b8 nn c F)))))))) ?_ (fun xz=> ?_)
  ·intro ⟨⟨z1,z2,z3,z4⟩,b1,b2,b3,b4⟩ _
   dsimp only
   refine eG (i:=8) (l:=[]) ⟨?_,trivial⟩
   ·exact bQ rfl rfl rfl (cm rfl rfl rfl (by decide) (by decide)) rfl (fun _=>ab) (fun x=>bP (uH ⟨⟨z1,z2,z3,z4⟩,x,b2,b3,b4⟩ trivial) wN (ab))
  refine eE (γ:=WG) (fuel':=18) (ls':= #[tT,tT,tT,tT,tT,tT,tT,tT,tT,fF,tT,tT,tT,tT,tT,fF,tT,tT,tT,tT,fF,fF,tT,tT,tT,tT,fF,fF,fF,fF,fF,fF,fF,fF,fF,fF,fF,fF,fF,fF]) (fun _=>True)
   (fun g=>(49,.slice a1.1 i a1.2)::(55,.slice a2.1 i a2.2)::(61,.slice a3.1 i a3.2)::(67,.slice a4.1 i a4.2)::(50,.slice g.2.1 1 1)::(56,.slice g.2.2.1 1 1)::eU b8 nn wo i)
   (fun g=>eQ wo nn c p i j cap a1 a2 a3 a4*(cu (g.2.1) (-1)*(cu (g.2.2.1) 0*(aN a1 i (-1)*(aN a2 i 0*(aN a3 i 0*(aN a4 i 0*eT b8 nn c F))))))) ?_ (fun BV=> ?_)
  ·intro ⟨⟨z1,z2,z3,z4⟩,b1,b2,b3,b4⟩ _
   dsimp only
   refine eG (i:=9) (l:=[20,26]) ⟨?_,?_,?_,trivial⟩
   ·exact bQ rfl rfl rfl (iV rfl rfl rfl (by omega) (by decide)) rfl (fun _=>ab) (fun x=>bP (B1 ⟨⟨x,z2,z3,z4⟩,b1,b2,b3,b4⟩ trivial) wN (by dsimp only;simp only[aN,eW];exact ab))
   ·exact bQ rfl rfl rfl (cm rfl rfl rfl (by decide) (by decide)) rfl (fun _=>ab) (fun x=>bP (xv ⟨⟨z1,z2,z3,z4⟩,b1,b2,x,b4⟩ trivial) wN (ab))
   ·exact bQ rfl rfl rfl (cm rfl rfl rfl (by decide) (by decide)) rfl (fun _=>ab) (fun x=>bP (xx ⟨⟨z1,z2,z3,z4⟩,b1,b2,b3,x⟩ trivial) wN (ab))
  refine eE (γ:=WG) (fuel':=18) (ls':= #[tT,tT,tT,tT,tT,tT,tT,tT,tT,fF,tT,tT,tT,tT,fF,fF,tT,tT,tT,tT,tT,fF,tT,tT,tT,tT,fF,fF,fF,fF,fF,fF,fF,fF,fF,fF,fF,fF,fF,fF]) (fun _=>True)
   (fun g=>(49,.slice a1.1 i a1.2)::(55,.slice a2.1 i a2.2)::(61,.slice a3.1 i a3.2)::(67,.slice a4.1 i a4.2)::(50,.slice g.2.1 1 1)::(62,.slice g.2.2.2.1 1 1)::eU b8 nn wo i)
   (fun g=>eQ wo nn c p i j cap a1 a2 a3 a4*(cu (g.2.1) (-1)*(cu (g.2.2.2.1) 0*(aN a1 i (-1)*(aN a2 i 0*(aN a3 i 0*(aN a4 i 0*eT b8 nn c F))))))) ?_ (fun BW=> ?_)
  ·intro ⟨⟨z1,z2,z3,z4⟩,b1,b2,b3,b4⟩ _
   dsimp only
   refine eG (i:=9) (l:=[14,26]) ⟨?_,?_,?_,trivial⟩
   ·exact bQ rfl rfl rfl (iV rfl rfl rfl (by omega) (by decide)) rfl (fun _=>ab) (fun x=>bP (B2 ⟨⟨x,z2,z3,z4⟩,b1,b2,b3,b4⟩ trivial) wN (by dsimp only;simp only[aN,eW];exact ab))
   ·exact bQ rfl rfl rfl (cm rfl rfl rfl (by decide) (by decide)) rfl (fun _=>ab) (fun x=>bP (xv ⟨⟨z1,z2,z3,z4⟩,b1,x,b3,b4⟩ trivial) wN (ab))
   ·exact bQ rfl rfl rfl (cm rfl rfl rfl (by decide) (by decide)) rfl (fun _=>ab) (fun x=>bP (xy ⟨⟨z1,z2,z3,z4⟩,b1,b2,b3,x⟩ trivial) wN (ab))
  refine eE (γ:=WG) (fuel':=18) (ls':= #[tT,tT,tT,tT,tT,tT,tT,tT,tT,fF,tT,tT,tT,tT,fF,fF,tT,tT,tT,tT,fF,fF,tT,tT,tT,tT,tT,fF,fF,fF,fF,fF,fF,fF,fF,fF,fF,fF,fF,fF]) (fun _=>True)
   (fun g=>(49,.slice a1.1 i a1.2)::(55,.slice a2.1 i a2.2)::(61,.slice a3.1 i a3.2)::(67,.slice a4.1 i a4.2)::(50,.slice g.2.1 1 1)::(68,.slice g.2.2.2.2 1 1)::eU b8 nn wo i)
   (fun g=>eQ wo nn c p i j cap a1 a2 a3 a4*(cu (g.2.1) (-1)*(cu (g.2.2.2.2) 0*(aN a1 i (-1)*(aN a2 i 0*(aN a3 i 0*(aN a4 i 0*eT b8 nn c F))))))) ?_ (fun BX=> ?_)
  ·intro ⟨⟨z1,z2,z3,z4⟩,b1,b2,b3,b4⟩ _
   dsimp only
   refine eG (i:=9) (l:=[14,20]) ⟨?_,?_,?_,trivial⟩
   ·exact bQ rfl rfl rfl (iV rfl rfl rfl (by omega) (by decide)) rfl (fun _=>ab) (fun x=>bP (B3 ⟨⟨x,z2,z3,z4⟩,b1,b2,b3,b4⟩ trivial) wN (by dsimp only;simp only[aN,eW];exact ab))
   ·exact bQ rfl rfl rfl (cm rfl rfl rfl (by decide) (by decide)) rfl (fun _=>ab) (fun x=>bP (xx ⟨⟨z1,z2,z3,z4⟩,b1,x,b3,b4⟩ trivial) wN (ab))
   ·exact bQ rfl rfl rfl (cm rfl rfl rfl (by decide) (by decide)) rfl (fun _=>ab) (fun x=>bP (xy ⟨⟨z1,z2,z3,z4⟩,b1,b2,x,b4⟩ trivial) wN (ab))
  refine eE (γ:=WG) (fuel':=18) (ls':= #[tT,tT,tT,tT,tT,tT,tT,tT,fF,fF,tT,tT,tT,tT,tT,fF,tT,tT,tT,tT,tT,fF,tT,tT,tT,tT,fF,fF,fF,fF,fF,fF,fF,fF,fF,fF,fF,fF,fF,fF]) (fun _=>True)
   (fun g=>(49,.slice a1.1 i a1.2)::(55,.slice a2.1 i a2.2)::(61,.slice a3.1 i a3.2)::(67,.slice a4.1 i a4.2)::(56,.slice g.2.2.1 1 1)::(62,.slice g.2.2.2.1 1 1)::eU b8 nn wo i)
   (fun g=>eQ wo nn c p i j cap a1 a2 a3 a4*(cu (g.2.2.1) 0*(cu (g.2.2.2.1) 0*(aN a1 i (-1)*(aN a2 i 0*(aN a3 i 0*(aN a4 i 0*eT b8 nn c F))))))) ?_ (fun BY=> ?_)
  ·intro ⟨⟨z1,z2,z3,z4⟩,b1,b2,b3,b4⟩ _
   dsimp only
   refine eG (i:=8) (l:=[26]) ⟨?_,?_,trivial⟩
   ·exact bQ rfl rfl rfl (cm rfl rfl rfl (by decide) (by decide)) rfl (fun _=>ab) (fun x=>bP (xv ⟨⟨z1,z2,z3,z4⟩,x,b2,b3,b4⟩ trivial) wN (ab))
   ·exact bQ rfl rfl rfl (cm rfl rfl rfl (by decide) (by decide)) rfl (fun _=>ab) (fun x=>bP (xz ⟨⟨z1,z2,z3,z4⟩,b1,b2,b3,x⟩ trivial) wN (ab))
  refine eE (γ:=WG) (fuel':=18) (ls':= #[tT,tT,tT,tT,tT,tT,tT,tT,fF,fF,tT,tT,tT,tT,tT,fF,tT,tT,tT,tT,fF,fF,tT,tT,tT,tT,tT,fF,fF,fF,fF,fF,fF,fF,fF,fF,fF,fF,fF,fF]) (fun _=>True)
   (fun g=>(49,.slice a1.1 i a1.2)::(55,.slice a2.1 i a2.2)::(61,.slice a3.1 i a3.2)::(67,.slice a4.1 i a4.2)::(56,.slice g.2.2.1 1 1)::(68,.slice g.2.2.2.2 1 1)::eU b8 nn wo i)
   (fun g=>eQ wo nn c p i j cap a1 a2 a3 a4*(cu (g.2.2.1) 0*(cu (g.2.2.2.2) 0*(aN a1 i (-1)*(aN a2 i 0*(aN a3 i 0*(aN a4 i 0*eT b8 nn c F))))))) ?_ (fun BZ=> ?_)
  ·intro ⟨⟨z1,z2,z3,z4⟩,b1,b2,b3,b4⟩ _
   dsimp only
   refine eG (i:=8) (l:=[20]) ⟨?_,?_,trivial⟩
   ·exact bQ rfl rfl rfl (cm rfl rfl rfl (by decide) (by decide)) rfl (fun _=>ab) (fun x=>bP (xx ⟨⟨z1,z2,z3,z4⟩,x,b2,b3,b4⟩ trivial) wN (ab))
   ·exact bQ rfl rfl rfl (cm rfl rfl rfl (by decide) (by decide)) rfl (fun _=>ab) (fun x=>bP (xz ⟨⟨z1,z2,z3,z4⟩,b1,b2,x,b4⟩ trivial) wN (ab))
  refine eE (γ:=WG) (fuel':=18) (ls':= #[tT,tT,tT,tT,tT,tT,tT,tT,fF,fF,tT,tT,tT,tT,fF,fF,tT,tT,tT,tT,tT,fF,tT,tT,tT,tT,tT,fF,fF,fF,fF,fF,fF,fF,fF,fF,fF,fF,fF,fF]) (fun _=>True)
   (fun g=>(49,.slice a1.1 i a1.2)::(55,.slice a2.1 i a2.2)::(61,.slice a3.1 i a3.2)::(67,.slice a4.1 i a4.2)::(62,.slice g.2.2.2.1 1 1)::(68,.slice g.2.2.2.2 1 1)::eU b8 nn wo i)
   (fun g=>eQ wo nn c p i j cap a1 a2 a3 a4*(cu (g.2.2.2.1) 0*(cu (g.2.2.2.2) 0*(aN a1 i (-1)*(aN a2 i 0*(aN a3 i 0*(aN a4 i 0*eT b8 nn c F))))))) ?_ (fun B0=> ?_)
  ·intro ⟨⟨z1,z2,z3,z4⟩,b1,b2,b3,b4⟩ _
   dsimp only
   refine eG (i:=8) (l:=[14]) ⟨?_,?_,trivial⟩
   ·exact bQ rfl rfl rfl (cm rfl rfl rfl (by decide) (by decide)) rfl (fun _=>ab) (fun x=>bP (xy ⟨⟨z1,z2,z3,z4⟩,x,b2,b3,b4⟩ trivial) wN (ab))
   ·exact bQ rfl rfl rfl (cm rfl rfl rfl (by decide) (by decide)) rfl (fun _=>ab) (fun x=>bP (xz ⟨⟨z1,z2,z3,z4⟩,b1,x,b3,b4⟩ trivial) wN (ab))
  refine eE (γ:=WG) (fuel':=19) (ls':= #[tT,tT,tT,tT,tT,tT,tT,tT,tT,fF,tT,tT,tT,tT,fF,fF,tT,tT,tT,tT,fF,fF,tT,tT,tT,tT,fF,fF,fF,fF,fF,fF,fF,fF,fF,fF,fF,fF,fF,fF]) (fun _=>True)
   (fun g=>(49,.slice a1.1 i a1.2)::(55,.slice a2.1 i a2.2)::(61,.slice a3.1 i a3.2)::(67,.slice a4.1 i a4.2)::(50,.slice g.2.1 1 1)::eU b8 nn wo i)
   (fun g=>eQ wo nn c p i j cap a1 a2 a3 a4*(cu (g.2.1) (-1)*(aN a1 i (-1)*(aN a2 i 0*(aN a3 i 0*(aN a4 i 0*eT b8 nn c F)))))) ?_ (fun JG=> ?_)
  ·intro ⟨⟨z1,z2,z3,z4⟩,b1,b2,b3,b4⟩ _
   dsimp only
   refine eG (i:=9) (l:=[14,20,26]) ⟨?_,?_,?_,?_,trivial⟩
   ·exact bQ rfl rfl rfl (iV rfl rfl rfl (by omega) (by decide)) rfl (fun _=>ab) (fun x=>bP (K1 ⟨⟨x,z2,z3,z4⟩,b1,b2,b3,b4⟩ trivial) wN (by dsimp only;simp only[aN,eW];exact ab))
   ·exact bQ rfl rfl rfl (cm rfl rfl rfl (by decide) (by decide)) rfl (fun _=>ab) (fun x=>bP (BV ⟨⟨z1,z2,z3,z4⟩,b1,x,b3,b4⟩ trivial) wN (ab))
   ·exact bQ rfl rfl rfl (cm rfl rfl rfl (by decide) (by decide)) rfl (fun _=>ab) (fun x=>bP (BW ⟨⟨z1,z2,z3,z4⟩,b1,b2,x,b4⟩ trivial) wN (ab))
   ·exact bQ rfl rfl rfl (cm rfl rfl rfl (by decide) (by decide)) rfl (fun _=>ab) (fun x=>bP (BX ⟨⟨z1,z2,z3,z4⟩,b1,b2,b3,x⟩ trivial) wN (ab))
  refine eE (γ:=WG) (fuel':=19) (ls':= #[tT,tT,tT,tT,tT,tT,tT,tT,fF,fF,tT,tT,tT,tT,tT,fF,tT,tT,tT,tT,fF,fF,tT,tT,tT,tT,fF,fF,fF,fF,fF,fF,fF,fF,fF,fF,fF,fF,fF,fF]) (fun _=>True)
   (fun g=>(49,.slice a1.1 i a1.2)::(55,.slice a2.1 i a2.2)::(61,.slice a3.1 i a3.2)::(67,.slice a4.1 i a4.2)::(56,.slice g.2.2.1 1 1)::eU b8 nn wo i)
   (fun g=>eQ wo nn c p i j cap a1 a2 a3 a4*(cu (g.2.2.1) 0*(aN a1 i (-1)*(aN a2 i 0*(aN a3 i 0*(aN a4 i 0*eT b8 nn c F)))))) ?_ (fun JH=> ?_)
  ·intro ⟨⟨z1,z2,z3,z4⟩,b1,b2,b3,b4⟩ _
   dsimp only
   refine eG (i:=8) (l:=[20,26]) ⟨?_,?_,?_,trivial⟩
   ·exact bQ rfl rfl rfl (cm rfl rfl rfl (by decide) (by decide)) rfl (fun _=>ab) (fun x=>bP (BV ⟨⟨z1,z2,z3,z4⟩,x,b2,b3,b4⟩ trivial) wN (ab))
   ·exact bQ rfl rfl rfl (cm rfl rfl rfl (by decide) (by decide)) rfl (fun _=>ab) (fun x=>bP (BY ⟨⟨z1,z2,z3,z4⟩,b1,b2,x,b4⟩ trivial) wN (ab))
   ·exact bQ rfl rfl rfl (cm rfl rfl rfl (by decide) (by decide)) rfl (fun _=>ab) (fun x=>bP (BZ ⟨⟨z1,z2,z3,z4⟩,b1,b2,b3,x⟩ trivial) wN (ab))
  refine eE (γ:=WG) (fuel':=19) (ls':= #[tT,tT,tT,tT,tT,tT,tT,tT,fF,fF,tT,tT,tT,tT,fF,fF,tT,tT,tT,tT,tT,fF,tT,tT,tT,tT,fF,fF,fF,fF,fF,fF,fF,fF,fF,fF,fF,fF,fF,fF]) (fun _=>True)
   (fun g=>(49,.slice a1.1 i a1.2)::(55,.slice a2.1 i a2.2)::(61,.slice a3.1 i a3.2)::(67,.slice a4.1 i a4.2)::(62,.slice g.2.2.2.1 1 1)::eU b8 nn wo i)
   (fun g=>eQ wo nn c p i j cap a1 a2 a3 a4*(cu (g.2.2.2.1) 0*(aN a1 i (-1)*(aN a2 i 0*(aN a3 i 0*(aN a4 i 0*eT b8 nn c F)))))) ?_ (fun JI=> ?_)
  ·intro ⟨⟨z1,z2,z3,z4⟩,b1,b2,b3,b4⟩ _
   dsimp only
   refine eG (i:=8) (l:=[14,26]) ⟨?_,?_,?_,trivial⟩
   ·exact bQ rfl rfl rfl (cm rfl rfl rfl (by decide) (by decide)) rfl (fun _=>ab) (fun x=>bP (BW ⟨⟨z1,z2,z3,z4⟩,x,b2,b3,b4⟩ trivial) wN (ab))
   ·exact bQ rfl rfl rfl (cm rfl rfl rfl (by decide) (by decide)) rfl (fun _=>ab) (fun x=>bP (BY ⟨⟨z1,z2,z3,z4⟩,b1,x,b3,b4⟩ trivial) wN (ab))
   ·exact bQ rfl rfl rfl (cm rfl rfl rfl (by decide) (by decide)) rfl (fun _=>ab) (fun x=>bP (B0 ⟨⟨z1,z2,z3,z4⟩,b1,b2,b3,x⟩ trivial) wN (ab))
  refine eE (γ:=WG) (fuel':=19) (ls':= #[tT,tT,tT,tT,tT,tT,tT,tT,fF,fF,tT,tT,tT,tT,fF,fF,tT,tT,tT,tT,fF,fF,tT,tT,tT,tT,tT,fF,fF,fF,fF,fF,fF,fF,fF,fF,fF,fF,fF,fF]) (fun _=>True)
   (fun g=>(49,.slice a1.1 i a1.2)::(55,.slice a2.1 i a2.2)::(61,.slice a3.1 i a3.2)::(67,.slice a4.1 i a4.2)::(68,.slice g.2.2.2.2 1 1)::eU b8 nn wo i)
   (fun g=>eQ wo nn c p i j cap a1 a2 a3 a4*(cu (g.2.2.2.2) 0*(aN a1 i (-1)*(aN a2 i 0*(aN a3 i 0*(aN a4 i 0*eT b8 nn c F)))))) ?_ (fun JJ=> ?_)
  ·intro ⟨⟨z1,z2,z3,z4⟩,b1,b2,b3,b4⟩ _
   dsimp only
   refine eG (i:=8) (l:=[14,20]) ⟨?_,?_,?_,trivial⟩
   ·exact bQ rfl rfl rfl (cm rfl rfl rfl (by decide) (by decide)) rfl (fun _=>ab) (fun x=>bP (BX ⟨⟨z1,z2,z3,z4⟩,x,b2,b3,b4⟩ trivial) wN (ab))
   ·exact bQ rfl rfl rfl (cm rfl rfl rfl (by decide) (by decide)) rfl (fun _=>ab) (fun x=>bP (BZ ⟨⟨z1,z2,z3,z4⟩,b1,x,b3,b4⟩ trivial) wN (ab))
   ·exact bQ rfl rfl rfl (cm rfl rfl rfl (by decide) (by decide)) rfl (fun _=>ab) (fun x=>bP (B0 ⟨⟨z1,z2,z3,z4⟩,b1,b2,x,b4⟩ trivial) wN (ab))
  refine eG (i:=8) (l:=[14,20,26]) ⟨?_,?_,?_,?_,trivial⟩
  ·exact bQ rfl rfl rfl (cm rfl rfl rfl (by decide) (by decide)) rfl (fun _=>ab) (fun x=>bP (JG ⟨⟨(none,0),(none,0),(none,0),(none,0)⟩,x,none,none,none⟩ trivial) wN (ab))
  ·exact bQ rfl rfl rfl (cm rfl rfl rfl (by decide) (by decide)) rfl (fun _=>ab) (fun x=>bP (JH ⟨⟨(none,0),(none,0),(none,0),(none,0)⟩,none,x,none,none⟩ trivial) wN (ab))
  ·exact bQ rfl rfl rfl (cm rfl rfl rfl (by decide) (by decide)) rfl (fun _=>ab) (fun x=>bP (JI ⟨⟨(none,0),(none,0),(none,0),(none,0)⟩,none,none,x,none⟩ trivial) wN (ab))
  ·exact bQ rfl rfl rfl (cm rfl rfl rfl (by decide) (by decide)) rfl (fun _=>ab) (fun x=>bP (JJ ⟨⟨(none,0),(none,0),(none,0),(none,0)⟩,none,none,none,x⟩ trivial) wN (ab))
  --END7
 ·have e:i=c.n:=by omega
  subst e
  repeat first|refine aa ?_ |intro
  have hd:decide (nn=none)=false:=decide_eq_false Aa
  rw[hd]
  exact ae (eZ rfl rfl rfl ((wo,nn),a1,a2,a3,a4) rfl (U.sat (ab)))
end
section
def kW (c:NC)(w:Nat):Nat→dx→dx
 |0,n=>n
 |k+1,n=>kW c w k (iI c w n).1
def iU (c:NC)(w:Nat)(k:Nat)(n n':dx)(b:Bool):Prop:=0<k∧kW c w k n=n'∧(∀j,j+1<k→(iI c w (kW c w j n)).2=false)∧(iI c w (kW c w (k-1) n)).2=b
theorem wc (c:NC)(w:Nat):∀(j k:Nat) (n:dx),kW c w (j+k) n=kW c w k (kW c w j n)
 |0,k,n=>by rw[Nat.zero_add];rfl
 |j+1,k,n=>by
  rw[show j+1+k=(j+k)+1 by omega]
  exact wc c w j k _
theorem iU.one {c:NC}{w:Nat}{n n':dx}{b:Bool}(h:iI c w n=(n',b)):iU c w 1 n n' b:=⟨by decide,by show kW c w 0 _=_;rw[h];rfl,fun j hj=>by omega,by show(iI c w n).2=b;rw[h]⟩
theorem iU.trans {c:NC}{w j k:Nat}{n n' tR:dx}{b:Bool}(h:iU c w j n n' false)(g:iU c w k n' tR b):iU c w (j+k) n tR b:=by
 obtain⟨h1,h2,h3,h4⟩:=h
 obtain⟨g1,g2,g3,g4⟩:=g
 refine⟨by omega,by rw[wc,h2];exact g2,fun i hi=> ?_,?_⟩
 ·rcases Nat.lt_or_ge (i+1) j with e|e
  ·exact h3 i e
  ·rcases Nat.lt_or_ge i j with e'|e'
   ·obtain rfl:i=j-1:=by omega
    exact h4
   ·rw[show i=j+(i-j)by omega,wc,h2]
    exact g3 _ (by omega)
 ·rw[show j+k-1=j+(k-1)by omega,wc,h2]
  exact g4
theorem iU.step {c:NC}{w k:Nat}{n n' tR:dx}{b:Bool}(h:iI c w n=(n',false))(g:iU c w k n' tR b):iU c w (k+1) n tR b:=by
 have:=(iU.one h).trans g
 rwa[Nat.add_comm]at this
end
section
open Go.RowKit
set_option maxRecDepth 10000
attribute [local irreducible] EK EX ER EN EL ES EG av aV aY
variable {W:World} {F G:SL} {X:Cx} {kk:List KI} {σ:Env} {c:NC} {n n':dx} {K B w m:Nat}
theorem AL (c:NC)(w:Nat):∀(k:Nat) (n:dx),kW c w (k+1) n=(iI c w (kW c w k n)).1
 |0,_=>rfl
 |k+1,n=>AL c w k (iI c w n).1
def qX (c:NC)(w m:Nat)(n:dx):Prop:=∀k,k<m→∃f,((kW c w k n).wk.getD w bF).frame=some f
theorem Safe.A8 (hc:c.Ok)(hw:w<c.n)(h:Safe c K B n)(ha:qX c w m n):∀k,k≤m→K+k≤65000→Safe c (K+k) B (kW c w k n)
 |0,_,_=>h
 |k+1,hm,hk=>by
  rw[AL]
  obtain⟨f,hf⟩:=ha k (by omega)
  exact(Safe.A8 hc hw h ha k (by omega) (by omega)).LY hc (by omega) hw hf
theorem Safe.Dk (hc:c.Ok)(hw:w<c.n)(h:Safe c K B n)(hk:K+m≤65000){b:Bool}(g:iU c w m n n' b)(ha:qX c w m n):Safe c (K+m) B n':=by
 have:=Safe.A8 hc hw h ha m (Nat.le_refl _) hk
 rwa[g.2.1]at this
theorem Safe.len (h:Safe c K B n):n.wk.length=c.n:=h.wl
theorem Cp (hT:fU W)(hc:c.Ok)(h:Safe c K B n)(hB:B≤300)(hw:w<c.n)(hm:m<20000)(hK:K+m≤65000)(g:iU c w m n n' true)(ha:qX c w m n){wo nn jp:Option Addr}{jn jc evn wn:Nat}{next clock:Int}{ev d s t e:aO}:
  Spec Tryz.prog 10 [.pointer wo,.int .i64 (w:Int)] W (Obj wo 38 (lH nn c jp jn jc next ev evn wn d s t e clock)*(fG nn c n*F)) (fun _:Unit=> .int .i64 (m:Int))
   (fun _=>Obj wo 38 (lH nn c jp jn jc next ev evn wn d s t e clock)*(fG nn c n'*F)):=by
 refine Spec.of Tryz.func10 rfl Tryz.ntmps10 rfl ?_
 repeat first|refine aa ?_ |intro
 refine ed (γ:=Nat) (fun k=>k<m) (fun k=>[(0,.pointer wo),(1,.int .i64 (w:Int)),(5,.int .i64 ((k+1:Nat):Int))])
  (fun k=>Obj wo 38 (lH nn c jp jn jc next ev evn wn d s t e clock)*(fG nn c (kW c w k n)*F))
  (fun k=>m-k) 0 g.1 ⟨rfl,rfl,rfl,trivial⟩ (U.sat (ab)) ?_
 intro k h1;dsimp only at h1 ⊢
 have EF:=Safe.A8 hc hw h ha k (by omega) (by omega)
 obtain⟨f,D8⟩:=ha k h1
 have dS:=EF.Bg hc (by omega) hB hw D8
 have qu:=JQ (W:=W) (F:=Obj wo 38 (lH nn c jp jn jc next ev evn wn d s t e clock)*F) (pn:=nn) hT hc EF.len hw D8 dS.1 dS.2
 have vF:=AL c w k n
 by_cases hk:k+1<m
 ·have hf:=g.2.2.1 k hk
  repeat first|refine aa ?_ |intro
  refine af rfl (Spec.pre qu (ab)) ?_
  intro _
  rw[hf,←vF]
  repeat first|refine aa ?_ |intro
  exact db (k+1) hk (by omega) ⟨rfl,rfl,rfl,trivial⟩ (U.sat (ab))
 ·have e:k+1=m:=by omega
  have hf:=g.2.2.2
  rw[show m-1=k by omega]at hf
  have mS:=g.2.1
  rw[←e]at mS
  repeat first|refine aa ?_ |intro
  refine af rfl (Spec.pre qu (ab)) ?_
  intro _
  rw[hf,←vF,mS]
  repeat first|refine aa ?_ |intro
  exact ae (ar rfl rfl () (by rw[e]) (U.sat (ab)))
end
section
open Go.RowKit
set_option maxRecDepth 10000
attribute [local irreducible] EK EX ER EN EL ES EG av aV aY
variable {W:World} {F:SL} {X:Cx} {k:List KI} {σ:Env}
attribute [local simp] mF CP CO
section
variable {p:Option Addr} {c:Nat} {l:List UInt8}
theorem Mx [s:Src W F p l.length (aD l)][r:Room W F p l.length c](h:l.length≤1400):Spec Tryz.prog 177 [.slice p l.length c] W F (fun _:Unit=> .slice p l.length c) (fun _=>F):=by
 refine Spec.of Tryz.func177 rfl Tryz.ntmps177 rfl ?_
 repeat first|refine aa ?_ |intro
 rw[show min (l.length:Int) 1400=(l.length:Int)by omega]
 repeat first|refine aa ?_ |intro
 exact ae (ar rfl rfl () rfl (U.sat (az)))
def oh (f t:Nat)(l:List UInt8):List UInt8:=jS f++jS t++jS (8+l.length)++[0,0]++l
def Hq (src dst f t:Nat)(l:List UInt8):Nat:=if ji src dst 17 (oh f t l)=0 then 65535 else ji src dst 17 (oh f t l)
def kZ (src dst f t:Nat)(l:List UInt8):List UInt8:=st2 (oh f t l) 6 (Hq src dst f t l)
theorem Bo (f t:Nat)(l:List UInt8):(oh f t l).length=8+l.length:=by simp[oh];omega
theorem Hp (src dst f t:Nat)(l:List UInt8):(kZ src dst f t l).length=8+l.length:=by unfold kZ;rw[dO,Bo]
set_option maxHeartbeats 1000000 in
theorem Kk [s:Src W F p l.length (aD l)][r:Room W F p l.length c](h:l.length≤1400)(src dst f t:Nat)(hf:f<65536)(ht:t<65536):Spec Tryz.prog 124 [.int .u32 (src:Int),.int .u32 (dst:Int),.int .u16 (f:Int),.int .u16 (t:Int),.slice p l.length c] W F
  (fun q:aO=> .slice q.1 (kZ src dst f t l).length q.2) (fun q=>an 5 1 q.1 (kZ src dst f t l).length q.2 (aD (kZ src dst f t l))*F):=by
 refine Spec.of Tryz.func124 rfl Tryz.ntmps124 rfl ?_
 repeat first|refine aa ?_ |intro
 refine af rfl (Mx h) ?_
 intro _
 repeat first|refine aa ?_ |intro
 refine af rfl (xa f) ?_
 intro q1
 repeat first|refine aa ?_ |intro
 refine af rfl (xa t) ?_
 intro q2
 repeat first|refine aa ?_ |intro
 refine af rfl (xa (8+l.length)) ?_
 intro q3
 repeat first|refine aa ?_ |intro
 rename_i z
 have e3:2+2+2+2+l.length=(oh f t l).length:=by rw[Bo]
 have e4:aD (jS f)++aD (jS t)++aD (jS (8+l.length))++[Value.int IntKind.u8 0,Value.int IntKind.u8 0]++aD l=aD (oh f t l):=by simp[aD,oh]
 rw[e4,e3]
 have hlen:=Bo f t l
 refine af rfl (rS src dst 17 (by decide) (by omega)) ?_
 intro _
 have e5:kZ src dst f t l=_:=rfl
 conv at e5=>rhs;unfold kZ Hq
 generalize oh f t l=u at*
 have hs:=uc src dst 17 u
 by_cases h0:ji src dst 17 u=0
 ·rw[if_pos h0]at e5
  rw[h0,e5,dO]
  unfold st2
  have vL:(u.set 6 (u8 (65535/256))).length=u.length:=List.length_set
  repeat first|refine aa ?_ |intro
  rw[show(65535:Int)=((65535:Nat):Int)from rfl,show((65535:Nat):Int)/2^Int.toNat 8=((65535/256:Nat):Int)from jl 65535 8,fO,fO]
  repeat first|refine aa ?_ |intro
  exact ae (ar rfl rfl z rfl (U.sat (az)))
 ·rw[if_neg h0]at e5
  rw[e5,dO]
  unfold st2
  have vL:(u.set 6 (u8 (ji src dst 17 u/256))).length=u.length:=List.length_set
  repeat first|refine aa ?_ |intro
  rw[show(ji src dst 17 u:Int)/2^Int.toNat 8=((ji src dst 17 u/256:Nat):Int)from jl _ 8,fO,fO]
  repeat first|refine aa ?_ |intro
  exact ae (ar rfl rfl z rfl (U.sat (az)))
def pd (dP proto src dst n:Nat):List UInt8:=[69,0]++jS n++[0,0,64,0,u8 dP,u8 proto,0,0]++ka src++ka dst
def zJ (dP proto src dst n:Nat):List UInt8:=st2 (pd dP proto src dst n) 10 (dX (pd dP proto src dst n))
def nV (dP proto src dst:Nat)(l:List UInt8):List UInt8:=zJ dP proto src dst (20+l.length)++l
theorem D5 (dP proto src dst n:Nat):(pd dP proto src dst n).length=20:=rfl
theorem No (dP proto src dst n:Nat):(zJ dP proto src dst n).length=20:=by unfold zJ;rw[dO,D5]
theorem GB (dP proto src dst:Nat)(l:List UInt8):(nV dP proto src dst l).length=20+l.length:=by unfold nV;rw[List.length_append,No]
theorem Rp {n:Nat}(p:Option Addr)(c:Nat)(l:List UInt8)(hn:n=l.length)(hl:l.length≤1000000)[Src W F p n (aD l)]:Spec Tryz.prog 85 [.slice p n c] W F (fun _:Unit=> .int .u16 (dX l:Int)) (fun _=>F):=by
 subst hn
 exact wy p c l hl
set_option maxHeartbeats 1000000 in
theorem J7 [s:Src W F p l.length (aD l)][r:Room W F p l.length c](h:l.length≤1480)(dP proto src dst:Nat)(h1:dP<256)(h2:proto<256):Spec Tryz.prog 83 [.agg #[.int .i64 0,.int .i64 0,.int .i64 (dP:Int),.int .i64 (proto:Int),.int .u32 (src:Int),.int .u32 (dst:Int)],.slice p l.length c] W F
  (fun q:aO=> .tuple #[.slice q.1 (nV dP proto src dst l).length q.2,.bool true]) (fun q=>an 5 1 q.1 (nV dP proto src dst l).length q.2 (aD (nV dP proto src dst l))*F):=by
 refine Spec.of Tryz.func83 rfl Tryz.ntmps83 rfl ?_
 repeat first|refine aa ?_ |intro
 rename_i q
 have g8:∀n:Nat,(n:Int)/2^Int.toNat 8=((n/256:Nat):Int):=fun n=>jl n 8
 have g16:∀n:Nat,(n:Int)/2^Int.toNat 16=((n/65536:Nat):Int):=fun n=>jl n 16
 have g24:∀n:Nat,(n:Int)/2^Int.toNat 24=((n/16777216:Nat):Int):=fun n=>jl n 24
 have gl:20+(l.length:Int)=((20+l.length:Nat):Int):=by omega
 have gt:(dP:Int)=(((u8 dP).toNat:Nat):Int):=by rw[pM];omega
 have gp:(proto:Int)=(((u8 proto).toNat:Nat):Int):=by rw[pM];omega
 have e:[Value.int .u8 69,Value.int .u8 0,Value.int .u8 (IntKind.u8.wrap ((20+(l.length:Int))/2^Int.toNat 8)),Value.int .u8 (IntKind.u8.wrap (20+(l.length:Int))),Value.int .u8 0,Value.int .u8 0,Value.int .u8 64,Value.int .u8 0,Value.int .u8 (dP:Int),Value.int .u8 (proto:Int),Value.int .u8 0,Value.int .u8 0,
   Value.int .u8 (IntKind.u8.wrap ((src:Int)/2^Int.toNat 24)),Value.int .u8 (IntKind.u8.wrap ((src:Int)/2^Int.toNat 16)),Value.int .u8 (IntKind.u8.wrap ((src:Int)/2^Int.toNat 8)),Value.int .u8 (IntKind.u8.wrap (src:Int)),
   Value.int .u8 (IntKind.u8.wrap ((dst:Int)/2^Int.toNat 24)),Value.int .u8 (IntKind.u8.wrap ((dst:Int)/2^Int.toNat 16)),Value.int .u8 (IntKind.u8.wrap ((dst:Int)/2^Int.toNat 8)),Value.int .u8 (IntKind.u8.wrap (dst:Int))]=aD (pd dP proto src dst (20+l.length)):=by
  rw[gl,g8,g8,g8,g16,g16,g24,g24,fO,fO,fO,fO,fO,fO,fO,fO,fO,fO,gt,gp]
  rfl
 rw[e]
 have e1:nV dP proto src dst l=st2 (pd dP proto src dst (20+l.length)) 10 (dX (pd dP proto src dst (20+l.length)))++l:=rfl
 have e2:20=(pd dP proto src dst (20+l.length)).length:=(D5 _ _ _ _ _).symm
 have e3:(nV dP proto src dst l).length=20+l.length:=GB _ _ _ _ _
 rw[e3,e1]
 generalize pd dP proto src dst (20+l.length)=u at*
 have hs:=qi u
 have h2:(st2 u 10 (dX u)).length=20:=by rw[dO,←e2]
 have h3:(u.set 10 (u8 (dX u/256))).length=20:=by rw[List.length_set,←e2]
 refine af rfl (Rp q 20 u e2 (by omega)) ?_
 intro _
 repeat first|refine aa ?_ |intro
 rw[show(dX u:Int)/2^Int.toNat 8=((dX u/256:Nat):Int)from jl _ 8,fO,fO]
 repeat first|refine aa ?_ |intro
 rename_i z
 rw[show aD ((u.set 10 (u8 (dX u/256))).set 11 (u8 (dX u)))++aD l=aD (st2 u 10 (dX u)++l)by simp[aD,st2]]
 exact ae (eZ rfl rfl rfl z rfl (U.sat (az)))
end
def o5 (src dst f t:Nat)(l:List UInt8):List UInt8:=nV 64 17 src dst (kZ src dst f t l)
theorem MG (src dst f t:Nat)(l:List UInt8):(o5 src dst f t l).length=28+l.length:=by unfold o5;rw[GB,Hp];omega
section
variable {p:Option Addr} {c:Nat} {l:List UInt8}
theorem I4 [s:Src W F p l.length (aD l)][r:Room W F p l.length c](h:l.length≤40)(src dst f t:Nat)(hf:f<65536)(ht:t<65536)(fl:Int):Spec Tryz.prog 82 [.agg #[.int .i64 0,.int .u32 (src:Int),.int .u32 (dst:Int),.int .u16 (f:Int),.int .u16 (t:Int),.int .i64 fl,.slice p l.length c]] W F
  (fun q:aO=> .tuple #[.slice q.1 (kZ src dst f t l).length q.2,.int .i64 17]) (fun q=>an 5 1 q.1 (kZ src dst f t l).length q.2 (aD (kZ src dst f t l))*F):=by
 refine Spec.of Tryz.func82 rfl Tryz.ntmps82 rfl ?_
 have hm:min l.length 40=l.length:=Nat.min_eq_left h
 repeat first|refine aa ?_ |intro
 rw[hm]
 repeat first|refine aa ?_ |intro
 refine af rfl (Kk (by omega) src dst f t hf ht) ?_
 intro z
 repeat first|refine aa ?_ |intro
 exact ae (eZ rfl rfl rfl z rfl (U.sat (az)))
theorem JD [s:Src W F p l.length (aD l)][r:Room W F p l.length c](h:l.length≤40)(src dst f t:Nat)(hf:f<65536)(ht:t<65536)(fl:Int):Spec Tryz.prog 40 [.agg #[.int .i64 0,.int .u32 (src:Int),.int .u32 (dst:Int),.int .u16 (f:Int),.int .u16 (t:Int),.int .i64 fl,.slice p l.length c]] W F
  (fun q:aO=> .slice q.1 (o5 src dst f t l).length q.2) (fun q=>an 5 1 q.1 (o5 src dst f t l).length q.2 (aD (o5 src dst f t l))*F):=by
 refine Spec.of Tryz.func40 rfl Tryz.ntmps40 rfl ?_
 have hl:=Hp src dst f t l
 repeat first|refine aa ?_ |intro
 refine af rfl (I4 h src dst f t hf ht fl) ?_
 intro z
 repeat first|refine aa ?_ |intro
 refine af rfl (J7 (l:=kZ src dst f t l) (by omega) 64 17 src dst (by decide) (by decide)) ?_
 intro y
 repeat first|refine aa ?_ |intro
 rw[show nV 64 17 src dst (kZ src dst f t l)=o5 src dst f t l from rfl]
 exact ae (ar rfl rfl y rfl (U.sat (az)))
def dJ:List UInt8:=o5 167772161 134744065 5 53 []
theorem Kd:Spec Tryz.prog 11 [.agg #[.bool true,.int .i64 0,.int .i64 0,.int .i64 0,.int .i64 0,.slice none 0 0,.int .i64 0,.int .u8 0,.int .i64 0]] W F
  (fun q:aO=> .slice q.1 dJ.length q.2) (fun q=>an 5 1 q.1 dJ.length q.2 (aD dJ)*F):=by
 refine Spec.of Tryz.func11 rfl Tryz.ntmps11 rfl ?_
 repeat first|refine aa ?_ |intro
 refine lb rfl (by kernel_rfl) ?_
 repeat(refine cI ?_)
 repeat first|refine aa ?_ |intro
 rw[show(167772161+0%3:Int)=((167772161:Nat):Int)from rfl,show(134744065+0/3%3:Int)=((134744065:Nat):Int)from rfl]
 rename_i x
 haveI:∀H:SL,Room W H none 0 0:=fun H=>⟨fun _ _=>Nat.le_refl _⟩
 haveI:∀H:SL,Room W H none ([]:List UInt8).length 0:=fun H=>⟨fun _ _=>Nat.le_refl _⟩
 haveI:∀H:SL,Src W H none ([]:List UInt8).length (aD []):=fun H=>⟨fun _ _ i v hv=>by simp[aD]at hv,fun _ _ h=>by simp at h⟩
 refine aG 21 (Obj x 25 [.bool true,.int .i64 0,.int .i64 0,.int .i64 0,.int .i64 0,.slice none 0 0,.int .i64 0,.int .u8 0,.int .i64 0]*F) rfl rfl rfl ?_
 repeat(first|refine ak ?_ |refine eD ?_)
 repeat(first|refine bJ ?_ |(refine bN ?_;intro)|refine bK ?_ |refine bL ?_ |refine bM ?_ |refine eD ?_)
 repeat first|refine aa ?_ |intro
 rw[show(5+0%5:Int)=((5:Nat):Int)from rfl,show min 0 20=([]:List UInt8).length from rfl]
 refine af rfl (JD (p:=none) (c:=0) (l:=[]) (by decide) 167772161 134744065 5 53 (by decide) (by decide) 0) ?_
 intro z
 rw[show o5 167772161 134744065 5 53 []=dJ from rfl]
 repeat first|refine aa ?_ |intro
 exact ae (ar rfl rfl z rfl (U.sat (az)))
end
end
section
def uf (c:NC)(w:Nat):Nat→dx→Nat→Option (Nat×dx)
 |0,_,_=>none
 |f+1,n,k=>if(n.wk.getD w bF).frame.isSome=false then none else if(iI c w n).2=true then some (k+1,(iI c w n).1)else uf c w f (iI c w n).1 (k+1)
theorem Bb {c:NC}{w:Nat}:∀ {f k m:Nat} {n n':dx},uf c w f n k=some (m,n')→k<m∧m≤k+f∧iU c w (m-k) n n' true∧qX c w (m-k) n
 |0,_,_,_,_,h=>by cases h
 |f+1,k,m,n,n',h=>by
  unfold uf at h
  split at h
  ·cases h
  rename_i df
  have df:∃f,(n.wk.getD w bF).frame=some f:=by
   cases e:(n.wk.getD w bF).frame with
   |none=>rw[e]at df;exact absurd rfl df
   |some f=>exact⟨f,rfl⟩
  split at h
  ·rename_i hb
   injection h with h
   injection h with h1 h2
   subst h1 h2
   refine⟨by omega,by omega,?_,?_⟩
   ·rw[Nat.add_sub_cancel_left]
    exact iU.one (Prod.ext rfl hb)
   ·intro j hj
    obtain rfl:j=0:=by omega
    exact df
  ·rename_i hb
   obtain⟨g1,g2,g3,g4⟩:=Bb h
   refine⟨by omega,by omega,?_,?_⟩
   ·have:=iU.step (Prod.ext rfl (by simpa using hb):iI c w n=((iI c w n).1,false)) g3
    rwa[show m-(k+1)+1=m-k by omega]at this
   ·intro j hj
    cases j with
    |zero=>exact df
    |succ j=>exact g4 j (by omega)
def cO:NC:=⟨2,3221225985,1000,1009,4,4⟩
def Hn:Option (Nat×dx):=uf cO 0 300 (ir (ez cO) 0 true dJ 1).1 0
def Bn (n:dx):Option (Nat×dx):=uf cO 1 300 (ir n 1 true dJ 2).1 0
def tZ (l:List UInt8):Nat:=if dv l=0 then(kx l).sp else 0
def wW (a b:Nat×dx):Bool:=decide ((ir (ez cO) 0 true dJ 1).2=0∧(ir a.2 1 true dJ 2).2=0∧(a.2.wk.getD 1 bF).busy=false∧(dZ b.2 0).2.1=0∧(dZ b.2 0).2.2=true∧(dZ b.2 1).2.1=0∧(dZ b.2 1).2.2=true)&&decide (1000≤tZ (dZ b.2 0).1∧(dZ b.2 0).1=(dZ b.2 1).1∧(b.2.wk.getD 0 bF).cR.length≤1000∧(b.2.wk.getD 1 bF).cR.length≤1000∧(lS cO b.2.sh).length=1∧((lS cO b.2.sh).getD 0 CM).seen=2)
set_option maxRecDepth 100000 in
theorem Sn:(Hn.bind fun a=>(Bn a.2).map fun b=>wW a b)=some true:=by decide+kernel
structure Kj (m1:Nat)(n1:dx)(m2:Nat)(n2:dx):Prop where
 a1:qX cO 0 m1 (ir (ez cO) 0 true dJ 1).1
 a2:qX cO 1 m2 (ir n1 1 true dJ 2).1
 g1:iU cO 0 m1 (ir (ez cO) 0 true dJ 1).1 n1 true
 l1:0<m1∧m1≤300
 g2:iU cO 1 m2 (ir n1 1 true dJ 2).1 n2 true
 l2:0<m2∧m2≤300
 b1:(ir (ez cO) 0 true dJ 1).2=0
 b2:(ir n1 1 true dJ 2).2=0
 idle:(n1.wk.getD 1 bF).busy=false
 e1:(dZ n2 0).2.1=0
 i1:(dZ n2 0).2.2=true
 e2:(dZ n2 1).2.1=0
 i2:(dZ n2 1).2.2=true
 own:1000≤tZ (dZ n2 0).1
 same:(dZ n2 0).1=(dZ n2 1).1
 t1:(n2.wk.getD 0 bF).cR.length≤1000
 t2:(n2.wk.getD 1 bF).cR.length≤1000
 one:(lS cO n2.sh).length=1
 seen:((lS cO n2.sh).getD 0 CM).seen=2
theorem Sm:∃m1 n1 m2 n2,Kj m1 n1 m2 n2:=by
 have h:=Sn
 cases h1:Hn with
 |none=>rw[h1]at h;cases h
 |some a=>
  rw[h1]at h
  obtain⟨m1,n1⟩:=a
  have h:((Bn n1).map fun b=>wW (m1,n1) b)=some true:=h
  cases h2:Bn n1 with
  |none=>rw[h2]at h;cases h
  |some b=>
   rw[h2]at h
   obtain⟨m2,n2⟩:=b
   have h:wW (m1,n1) (m2,n2)=true:=Option.some.inj h
   unfold wW at h
   rw[Bool.and_eq_true]at h
   obtain⟨p1,p2,p3,p4,p5,p6,p7⟩:=of_decide_eq_true h.1
   obtain⟨q1,q2,q3,q4,q5,q6⟩:=of_decide_eq_true h.2
   obtain⟨x1,x2,x3,x4⟩:=Bb h1
   obtain⟨y1,y2,y3,y4⟩:=Bb h2
   exact⟨m1,n1,m2,n2,x4,y4,x3,⟨x1,by omega⟩,y3,⟨y1,by omega⟩,p1,p2,p3,p4,p5,p6,p7,q1,q2,q3,q4,q5,q6⟩
theorem qI:cO.Ok:=⟨by decide,by decide,by decide,by unfold gW;decide,by decide⟩
end
section
open Go.RowKit
set_option maxRecDepth 10000
attribute [local irreducible] EK EX ER EN EL ES EG av aV aY
variable {W:World} {F G:SL} {X:Cx} {kk:List KI} {σ:Env} {c:NC} {n n':dx} {K B w m:Nat} {p:Option Addr} {l:List UInt8} {cap:Nat}
theorem J1 (hl:l.length≤140737488355328)[s:Src W F p l.length (aD l)][r:Room W F p l.length cap]:Spec Tryz.prog 35 [.slice p l.length cap] W F (fun _:Unit=> .int .i64 (tZ l:Int)) (fun _=>F):=by
 refine Spec.of Tryz.func35 rfl Tryz.ntmps35 rfl ?_
 repeat first|refine aa ?_ |intro
 refine af rfl (Rr hl) ?_
 intro _
 repeat first|refine aa ?_ |intro
 have pk:(kx l).sp<65536:=by
  unfold kx
  split
  ·exact(oL.of _ _).sp
  ·decide
 by_cases h:dv l=0
 ·rw[show decide (dv l=0)=true from decide_eq_true h]
  repeat first|refine aa ?_ |intro
  exact ae (ar rfl rfl () (by unfold tZ;rw[if_pos h]) (U.sat (ab)))
 ·rw[show decide (dv l=0)=false from decide_eq_false h]
  repeat first|refine aa ?_ |intro
  exact ae (ar rfl rfl () (by unfold tZ;rw[if_neg h];rfl) (U.sat (ab)))
theorem I5:Spec Tryz.prog 37 [.int .i64 1,.int .i64 9,.int .i64 1] W F (fun _:Unit=>cO.cfg.val) (fun _=>F):=by
 refine Spec.of Tryz.func37 rfl Tryz.ntmps37 rfl ?_
 repeat first|refine aa ?_ |intro
 refine ae (js (rv:= .cell 6 34) rfl ⟨_,rfl,aT.agg rfl⟩ () rfl (U.sat ?_))
 exact ab
theorem Safe.ir (h:Safe c K B n)(hw:w<c.n)(out:Bool){b:List UInt8}(hb:b.length≤140737488355328)(tick:Int):Safe c K (B+1) (ir n w out b tick).1:=by
 unfold Go.Proofs.YtimekbpkejemoaaGreatDoor.ir
 split
 ·exact h.room
 ·rename_i vr
  exact h.begin hw (by simpa using vr) out hb tick
set_option maxHeartbeats 2000000 in
theorem HJ (hT:fU W):Spec Tryz.prog 8 [] W F (fun _:Unit=> .bool true) (fun _=>F):=by
 refine Spec.of Tryz.func8 rfl Tryz.ntmps8 rfl ?_
 obtain⟨m1,n1,m2,n2,T⟩:=Sm
 repeat first|refine aa ?_ |intro
 refine af rfl (Km (c:=cO) qI (x:=1) (y:=9) (z:=1) (fun _=>I5) (p:=none) (n:=0) (cap:=0) (j:=0) (most:=0) rfl (Nat.le_refl _) (r:=⟨fun _ _=>Nat.le_refl _⟩)) ?_
 intro ⟨⟨wo,nn⟩,d,s,t,e⟩
 dsimp only
 repeat first|refine aa ?_ |intro
 refine af rfl Kd ?_
 intro f
 repeat first|refine aa ?_ |intro
 have s0:=Safe.new qI
 have Yn:dJ.length=28:=by unfold dJ;rw[MG];rfl
 have nI:dJ.length≤1000000:=by omega
 have s1:=s0.ir (w:=0) (by decide) true (b:=dJ) (by omega) 1
 have l1:=T.l1
 have l2:=T.l2
 have s2:=Safe.Dk qI (by decide) s1 (by omega) T.g1 T.a1
 have s3:=s2.ir (w:=1) (by decide) true (b:=dJ) (by omega) 2
 have s4:=Safe.Dk qI (by decide) s3 (by omega) T.g2 T.a2
 refine af rfl (Spec.pre (Bz (c:=cO) (n:=ez cO) (w:=0) (out:=true) (q:=f.1) (l:=dJ) (cap:=f.2) (tick:=1) (F:=an 5 1 f.1 dJ.length f.2 (aD dJ)*(Obj wo 38 (lH nn cO none 0 0 0 (none,0) 0 cO.n d s t e 0)*(my cO.n d s t e F))) nI s0.len (by decide)) (ab)) ?_
 intro _
 rw[T.b1]
 repeat first|refine aa ?_ |intro
 refine af rfl (Spec.pre (Cp (w:=0) (nn:=nn) (jp:=none) (jn:=0) (jc:=0) (evn:=0) (wn:=cO.n) (next:=0) (clock:=0) (ev:=(none,0)) (d:=d) (s:=s) (t:=t) (e:=e) (F:=an 5 1 f.1 dJ.length f.2 (aD dJ)*(my cO.n d s t e F)) hT qI s1 (by omega) (by decide) (by omega) (by omega) T.g1 T.a1) (ab)) ?_
 intro _
 repeat first|refine aa ?_ |intro
 refine af rfl (Spec.pre (Bz (c:=cO) (n:=n1) (w:=1) (out:=true) (q:=f.1) (l:=dJ) (cap:=f.2) (tick:=2) (F:=an 5 1 f.1 dJ.length f.2 (aD dJ)*(Obj wo 38 (lH nn cO none 0 0 0 (none,0) 0 cO.n d s t e 0)*(my cO.n d s t e F))) nI s2.len (by decide)) (ab)) ?_
 intro _
 rw[T.b2]
 repeat first|refine aa ?_ |intro
 refine af rfl (Spec.pre (Cp (w:=1) (nn:=nn) (jp:=none) (jn:=0) (jc:=0) (evn:=0) (wn:=cO.n) (next:=0) (clock:=0) (ev:=(none,0)) (d:=d) (s:=s) (t:=t) (e:=e) (F:=an 5 1 f.1 dJ.length f.2 (aD dJ)*(my cO.n d s t e F)) hT qI s3 (by omega) (by decide) (by omega) (by omega) T.g2 T.a2) (ab)) ?_
 intro _
 repeat first|refine aa ?_ |intro
 have An:=T.t1
 have rI:=T.t2
 refine af rfl (Spec.pre (Cw (c:=cO) (n:=n2) (w:=0) (F:=an 5 1 f.1 dJ.length f.2 (aD dJ)*(Obj wo 38 (lH nn cO none 0 0 0 (none,0) 0 cO.n d s t e 0)*(my cO.n d s t e F))) (by decide) (by omega)) (ab)) ?_
 intro x
 have YC:=T.own
 have qD:=T.same
 have hlen:(dZ n2 0).1.length≤1000:=by
  unfold dZ
  split
  ·exact An
  ·exact Nat.zero_le _
 rw[T.e1,T.i1]
 repeat first|refine aa ?_ |intro
 rename_i px
 refine af rfl (Spec.pre (Cw (c:=cO) (n:=n2) (w:=1) (F:=an 5 1 x.1 (dZ n2 0).1.length x.2 (aD (dZ n2 0).1)*(Obj px 54 [.slice x.1 (dZ n2 0).1.length x.2,.int .i64 ((0:Nat):Int)]*(an 5 1 f.1 dJ.length f.2 (aD dJ)*(Obj wo 38 (lH nn cO none 0 0 0 (none,0) 0 cO.n d s t e 0)*(my cO.n d s t e F))))) (by decide) (by omega)) (ab)) ?_
 intro y
 rw[T.e2,T.i2,←qD]
 repeat first|refine aa ?_ |intro
 rename_i py
 refine af rfl (Spec.pre (BA (c:=cO) (n:=n2) (F:=an 5 1 x.1 (dZ n2 0).1.length x.2 (aD (dZ n2 0).1)*(Obj px 54 [.slice x.1 (dZ n2 0).1.length x.2,.int .i64 ((0:Nat):Int)]*(an 5 1 y.1 (dZ n2 0).1.length y.2 (aD (dZ n2 0).1)*(Obj py 54 [.slice y.1 (dZ n2 0).1.length y.2,.int .i64 ((0:Nat):Int)]*(an 5 1 f.1 dJ.length f.2 (aD dJ)*(Obj wo 38 (lH nn cO none 0 0 0 (none,0) 0 cO.n d s t e 0)*(my cO.n d s t e F))))))) qI s4.sh.pl) (ab)) ?_
 intro z
 obtain⟨b,hb⟩:∃b,lS cO n2.sh=[b]:=List.length_eq_one_iff.1 T.one
 have vK:=T.seen
 rw[hb]at vK ⊢
 have vK:b.seen=2:=vK
 have eb:mB [b]=[.int .i64 (b.ao.proto:Int),.int .u32 (b.ao.addr:Int),.int .u16 (b.ao.port:Int),.int .i64 (b.port:Int),.int .i64 (b.Bm:Int),.int .i64 (b.seen:Int)]:=rfl
 rw[eb,vK,List.length_singleton]
 generalize (dZ n2 0).1=l at*
 repeat first|refine aa ?_ |intro
 refine af rfl (J1 (by omega)) ?_
 intro _
 repeat first|refine aa ?_ |intro
 rw[show decide (l=l)=true from decide_eq_true rfl]
 haveI:Pos 1:=⟨by decide⟩
 haveI:fp [.int .i64 (b.ao.proto:Int),.int .u32 (b.ao.addr:Int),.int .u16 (b.ao.port:Int),.int .i64 (b.port:Int),.int .i64 (b.Bm:Int),.int .i64 ((2:Nat):Int)] 0 6 5 (.int .i64 ((2:Nat):Int)) (0<1):=⟨fun _=>rfl⟩
 repeat first|refine aa ?_ |intro
 exact ae (ar rfl rfl () rfl (U.sat (ab)))
end
section
open Go.RowKit
set_option maxRecDepth 10000
attribute [local irreducible] EK EX ER EN EL ES EG av aV aY
variable {W:World} {F:SL} {X:Cx} {k:List KI} {σ:Env} {pn:Option Addr} {c:NC} {R:lI}
theorem JP {cf:eA}(hf:cf.Fit)(hw:¬cf.Good):Spec Tryz.prog 20 [cf.val] W F (fun _:Unit=> .tuple #[.pointer none,.int .i64 1]) (fun _=>F):=by
 refine Spec.of Tryz.func20 rfl Tryz.ntmps20 rfl ?_
 have lv:dh cf≠ []:=fun h=>hw (ov.1 h)
 repeat first|refine aa ?_ |intro
 refine af rfl (yO cf hf) ?_
 intro _
 repeat first|refine aa ?_ |intro
 rw[show decide (dh cf=[])=false from decide_eq_false lv]
 repeat first|refine aa ?_ |intro
 exact ae (eZ rfl rfl rfl () rfl (U.sat (ab)))
theorem Da (hc:c.Ok){p q:Int}(hq:gJ q)(h:fN c.cfg p q<0):Spec Tryz.prog 23 [.pointer pn,.int .i64 p,.int .i64 q] W (bT pn c R F) (fun _:Unit=> .slice none 0 0) (fun _=>bT pn c R F):=by
 refine Spec.of Tryz.func23 rfl Tryz.ntmps23 rfl ?_
 simp only[bT]
 repeat first|refine aa ?_ |intro
 refine af rfl (sD c.cfg hc.fit _ _ hq) ?_
 intro _
 repeat first|refine aa ?_ |intro
 exact ae (ar rfl rfl () rfl (U.sat (ab)))
theorem Qv (hc:c.Ok):∀x,x<c.np→x∈fc (cJ c.np) ((c.np+31)/32*32):=fun x hx=>by
 rw[Qg]
 exact⟨by omega,(F8 (by omega)).1 hx⟩
theorem KY (c:NC):lS c (ez c).sh=[]:=by
 unfold lS jv
 rw[List.map_eq_nil_iff,List.filter_eq_nil_iff]
 intro x _
 have e:cb (ez c).sh (x:Int)=br.of 0:=by
  unfold cb ez
  dsimp only
  congr 1
  rw[List.getD_eq_getElem?_getD,List.getElem?_replicate]
  split<;>rfl
 unfold wX
 rw[e]
 decide
theorem Qt {cf:eA}(hf:cf.Fit)(hg:cf.Good):∃c:NC,c.Ok∧c.cfg=cf:=by
 obtain⟨⟨w1,w2⟩,⟨o1,o2⟩,⟨l1,l2⟩,⟨h1,h2⟩,⟨b1,b2⟩,⟨r1,r2⟩⟩:=hf
 obtain⟨g1,g2,g3,g4,g5⟩:=hg
 have hb:2≤cf.b:=by unfold gW at g4;omega
 refine⟨⟨cf.w.toNat,cf.o.toNat,cf.lo.toNat,cf.hi.toNat,cf.b.toNat,cf.r.toNat⟩,⟨by dsimp only;omega,by dsimp only;omega,by dsimp only;omega,?_,by dsimp only;omega⟩,?_⟩
 ·dsimp only
  rw[Int.toNat_of_nonneg (by omega)]
  exact g4
 ·unfold NC.cfg
  dsimp only
  rw[Int.toNat_of_nonneg (by omega),Int.toNat_of_nonneg (by omega),Int.toNat_of_nonneg (by omega),Int.toNat_of_nonneg (by omega),Int.toNat_of_nonneg (by omega),Int.toNat_of_nonneg (by omega)]
end
section
open Go.RowKit
set_option maxRecDepth 10000
attribute [local irreducible] EK EX ER EN EL ES EG av aV aY
variable {W:World} {F:SL} {X:Cx} {k:List KI} {σ:Env} {pn:Option Addr} {c:NC} {R:lI}
attribute [local simp] C9
theorem Lm (hc:c.Ok){kd x:Nat}(hk:kd≤2)(hx:x<c.np):Spec Tryz.prog 23 [.pointer pn,.int .i64 (jh (kd:Int)),.int .i64 ((c.lo:Int)+x)] W (bT pn c R F) (fun z:aO=> .slice z.1 1 z.2) (fun z=>an 69 2 z.1 1 z.2 (iu jf)*bT pn c R F):=by
 have hf:=Qv hc x hx
 obtain rfl|rfl|rfl:kd=0∨kd=1∨kd=2:=by omega
 ·exact Ln hc hx hf
 ·exact Lo hc hx hf
 ·exact Lp hc hx hf
theorem QD:Spec Tryz.prog 26 [] W F (fun _:Unit=> .pointer none) (fun _=>F):=by
 refine Spec.of Tryz.func26 rfl Tryz.ntmps26 rfl ?_
 repeat first|refine aa ?_ |intro
 exact ae (ar rfl rfl () rfl (U.sat (ab)))
theorem y9 (l:List Value)[h:Decidable (l=l)]:decide (l=l)=true:=decide_eq_true rfl
def rj (c:NC)(k:Nat):Nat:=if k=0 then 0 else c.np-1
set_option maxHeartbeats 2000000 in
theorem JT (hT:fU W)(cf:eA)(hf:cf.Fit)(hg:¬cf.Good):Spec Tryz.prog 4 [cf.val] W F (fun _:Unit=> .bool true) (fun _=>F):=by
 refine Spec.of Tryz.func4 rfl Tryz.ntmps4 rfl ?_
 have lv:dh cf≠ []:=fun h=>hg (ov.1 h)
 repeat first|refine aa ?_ |intro
 refine af rfl (wb cf) ?_
 intro _
 repeat first|refine aa ?_ |intro
 refine af rfl (JP hf hg) ?_
 intro _
 repeat first|refine aa ?_ |intro
 refine af rfl (HJ hT) ?_
 intro _
 repeat first|refine aa ?_ |intro
 refine af rfl (GK cf hf) ?_
 intro _
 repeat first|refine aa ?_ |intro
 rw[show decide (dh cf=[])=false from decide_eq_false lv]
 repeat first|refine aa ?_ |intro
 exact ae (ar rfl rfl () rfl (U.sat (ab)))
set_option maxHeartbeats 4000000 in
theorem JR (hT:fU W)(hc:c.Ok):Spec Tryz.prog 4 [c.cfg.val] W F (fun _:Unit=> .bool true) (fun _=>F):=by
 refine Spec.of Tryz.func4 rfl Tryz.ntmps4 rfl ?_
 have z8:dh c.cfg=[]:=ov.2 hc.dy
 have hp:=hc.p
 have cg:c.np=c.hi+1-c.lo:=rfl
 repeat first|refine aa ?_ |intro
 rename_i bx
 refine af rfl (wb c.cfg) ?_
 intro _
 repeat first|refine aa ?_ |intro
 refine af rfl (Spec.Pe (fun z=>z.1≠none) (B9 hc) (fun z w hs=>(Obj.root z.1 127 (AM c z.2 c.np c.n)).nn W w _ (by rw[mu.eq]at hs;exact hs))) ?_
 intro ⟨⟨nn,R⟩,Aa⟩
 dsimp only
 refine BK (H1:=bT nn c R (Obj bx 34 [.int .i64 (c.n:Int),.int .u32 (c.o:Int),.int .i64 (c.lo:Int),.int .i64 (c.hi:Int),.int .i64 (c.nb:Int),.int .i64 (c.r:Int)]*F)) (U.sat (U.of_eq (mu.eq _ _ _ _))) ?_
 have NX:decide (nn=none)=false:=decide_eq_false Aa
 repeat first|refine aa ?_ |intro
 refine af rfl (HJ hT) ?_
 intro _
 repeat first|refine aa ?_ |intro
 refine af rfl (GK c.cfg hc.fit) ?_
 intro _
 rw[z8]
 repeat first|refine aa ?_ |intro
 refine ed (γ:=Nat) (fun i=>i≤3) (fun i=>[(1,.pointer bx),(3,.pointer nn),(5,.int .i64 (i:Int))])
  (fun _=>bT nn c R (Obj bx 34 [.int .i64 (c.n:Int),.int .u32 (c.o:Int),.int .i64 (c.lo:Int),.int .i64 (c.hi:Int),.int .i64 (c.nb:Int),.int .i64 (c.r:Int)]*F))
  (fun i=>3-i) 0 (by decide) ⟨rfl,rfl,rfl,trivial⟩ (U.sat (U.refl _)) ?_
 intro i h1;dsimp only at h1 ⊢
 by_cases hi:i<3
 ·haveI A1:fp [.int .i64 1,.int .i64 6,.int .i64 17] i 1 0 (.int .i64 (jh (i:Int))) (i<3):=⟨fun h=>by
   obtain rfl|rfl|rfl:i=0∨i=1∨i=2:=by omega
   all_goals rfl⟩
  simp only[bT]
  repeat first|refine aa ?_ |intro
  refine ed (γ:=Nat) (fun k=>k≤2) (fun k=>[(1,.pointer bx),(3,.pointer nn),(5,.int .i64 (i:Int)),(6,.int .i64 (jh (i:Int))),(7,.int .i64 (k:Int))])
   (fun _=>bT nn c R (Obj bx 34 [.int .i64 (c.n:Int),.int .u32 (c.o:Int),.int .i64 (c.lo:Int),.int .i64 (c.hi:Int),.int .i64 (c.nb:Int),.int .i64 (c.r:Int)]*F))
   (fun k=>2-k) 0 (by decide) ⟨rfl,rfl,rfl,rfl,rfl,trivial⟩ (U.sat (ab)) ?_
  intro k h2;dsimp only at h2 ⊢
  by_cases hk:k<2
  ·haveI A2:fp [.int .i64 (c.lo:Int),.int .i64 (c.hi:Int)] k 1 0 (.int .i64 ((c.lo:Int)+(rj c k:Int))) (k<2):=⟨fun h=>by
    obtain rfl|rfl:k=0∨k=1:=by omega
    ·show some (Value.int .i64 (c.lo:Int))=_
     rw[show(c.lo:Int)+((rj c 0:Nat):Int)=(c.lo:Int)from Int.add_zero _]
    ·show some (Value.int .i64 (c.hi:Int))=_
     rw[show(c.lo:Int)+((rj c 1:Nat):Int)=(c.hi:Int)by unfold rj;rw[if_neg (by decide)];omega]⟩
   have hx:rj c k<c.np:=by unfold rj;split<;>omega
   simp only[bT]
   repeat first|refine aa ?_ |intro
   refine af rfl (Spec.pre (Lm (R:=R) (F:=Obj bx 34 [.int .i64 (c.n:Int),.int .u32 (c.o:Int),.int .i64 (c.lo:Int),.int .i64 (c.hi:Int),.int .i64 (c.nb:Int),.int .i64 (c.r:Int)]*F) hc (kd:=i) (by omega) hx) (ab)) ?_
   intro z
   simp only[bT,wg]
   haveI:oM [.int .i64 1,.int .i64 (-1)] 0 2 [.int .i64 1,.int .i64 (-1)] (0<1):=⟨fun _=>⟨rfl,fun j v h=>by rw[Nat.zero_mul,Nat.zero_add];exact h⟩⟩
   repeat first|refine aa ?_ |intro
   rw[y9]
   repeat first|refine aa ?_ |intro
   exact db (k+1) hk (by omega) ⟨rfl,rfl,rfl,rfl,rfl,trivial⟩ (U.sat (ab))
  ·have e:k=2:=by omega
   subst e
   simp only[bT]
   repeat first|refine aa ?_ |intro
   have o1:=fun G=>Da (W:=W) (pn:=nn) (R:=R) (F:=G) hc (p:=jh (i:Int)) (q:=(c.lo:Int)-1) (by unfold gJ;omega) (by unfold fN;rw[if_pos (.inr (.inr (by unfold NC.cfg;dsimp only;omega)))];decide)
   have o2:=fun G=>Da (W:=W) (pn:=nn) (R:=R) (F:=G) hc (p:=jh (i:Int)) (q:=(c.hi:Int)+1) (by unfold gJ;omega) (by unfold fN;rw[if_pos (.inr (.inr (by unfold NC.cfg;dsimp only;omega)))];decide)
   refine aG 99 (Obj bx 34 [.int .i64 (c.n:Int),.int .u32 (c.o:Int),.int .i64 (c.lo:Int),.int .i64 (c.hi:Int),.int .i64 (c.nb:Int),.int .i64 (c.r:Int)]*1) rfl rfl rfl ?_
   repeat(first|refine ak ?_ |refine eD ?_)
   refine aC rfl rfl rfl rfl rfl (Spec.pre (o1 (Obj bx 34 [.int .i64 (c.n:Int),.int .u32 (c.o:Int),.int .i64 (c.lo:Int),.int .i64 (c.hi:Int),.int .i64 (c.nb:Int),.int .i64 (c.r:Int)]*F)) (ab)) (fun _=>by simp only[bT];exact ab) ?_
   intro _
   repeat(first|refine ak ?_ |refine eD ?_)
   refine aC rfl rfl rfl rfl rfl (Spec.pre (o2 (Obj bx 34 [.int .i64 (c.n:Int),.int .u32 (c.o:Int),.int .i64 (c.lo:Int),.int .i64 (c.hi:Int),.int .i64 (c.nb:Int),.int .i64 (c.r:Int)]*F)) (ab)) (fun _=>by simp only[bT];exact ab) ?_
   intro _
   simp only[bT]
   repeat(first|refine ak ?_ |refine eD ?_)
   repeat first|refine aa ?_ |intro
   exact db (i+1) hi (by omega) ⟨rfl,rfl,rfl,trivial⟩ (U.sat (ab))
 ·have e:i=3:=by omega
  subst e
  simp only[bT]
  repeat first|refine aa ?_ |intro
  refine aG 99 (Obj bx 34 [.int .i64 (c.n:Int),.int .u32 (c.o:Int),.int .i64 (c.lo:Int),.int .i64 (c.hi:Int),.int .i64 (c.nb:Int),.int .i64 (c.r:Int)]*1) rfl rfl rfl ?_
  repeat(first|refine ak ?_ |refine eD ?_)
  refine aC rfl rfl rfl rfl rfl (Spec.pre (I8 (R:=R) (pn:=nn) (c:=c) (F:=Obj bx 34 [.int .i64 (c.n:Int),.int .u32 (c.o:Int),.int .i64 (c.lo:Int),.int .i64 (c.hi:Int),.int .i64 (c.nb:Int),.int .i64 (c.r:Int)]*F)) (by simp only[bT];exact ab)) (fun _=>by simp only[bT];exact ab) ?_
  intro _
  simp only[bT]
  repeat(first|refine ak ?_ |refine eD ?_)
  refine aC rfl rfl rfl rfl rfl (wb c.cfg) (fun _=>ab) ?_
  intro _
  repeat(first|refine ak ?_ |refine eD ?_)
  rw[y9]
  repeat(first|refine ak ?_ |refine eD ?_)
  refine aC rfl rfl rfl rfl rfl (Spec.pre (BA (pn:=nn) (n:=ez c) (F:=Obj bx 34 [.int .i64 (c.n:Int),.int .u32 (c.o:Int),.int .i64 (c.lo:Int),.int .i64 (c.hi:Int),.int .i64 (c.nb:Int),.int .i64 (c.r:Int)]*F) hc (Safe.new hc).sh.pl) (U.trans (U.of_eq (mu.eq nn c R (Obj bx 34 [.int .i64 (c.n:Int),.int .u32 (c.o:Int),.int .i64 (c.lo:Int),.int .i64 (c.hi:Int),.int .i64 (c.nb:Int),.int .i64 (c.r:Int)]*F)).symm) (F4 R))) (fun _=>ab) ?_
  intro z
  rw[KY]
  repeat(first|refine ak ?_ |refine eD ?_)
  refine aC rfl rfl rfl rfl rfl QD (fun _=>ab) ?_
  intro _
  repeat(first|refine ak ?_ |refine eD ?_)
  refine aC rfl rfl rfl rfl rfl I7 (fun _=>ab) ?_
  intro _
  repeat(first|refine ak ?_ |refine eD ?_)
  rw[y9]
  repeat(first|refine ak ?_ |refine eD ?_)
  repeat first|refine aa ?_ |intro
  exact ae (ar rfl rfl () rfl (U.sat (ab)))
theorem JS (hT:fU W)(cf:eA)(hf:cf.Fit):Spec Tryz.prog 4 [cf.val] W F (fun _:Unit=> .bool true) (fun _=>F):=by
 by_cases hg:cf.Good
 ·obtain⟨c,hc,rfl⟩:=Qt hf hg
  exact JR hT hc
 ·exact JT hT cf hf hg
end
section
open Go.ChangeShapes Go.WideShapes Go.ChangeAt Go.RowKit Go.Deep
section
variable {P:Program} {W:World} {r:Reach} {base:Nat}
theorem Ky {t:TypeId}{v:Value}{ts:List TypeId}(hu:(∃fs,P.underlying t=some (.struct fs))∨∃n e,P.underlying t=some (.array n e))(zH:P.cellTypes P.depth t=some ts)(dz:P.cellsOf t=ts.length)(h:Value.okWide P W r base t v):
  ∃cs:List Value,v= .agg cs.toArray∧cs.length=ts.length∧∀(i:Nat) (u:TypeId),ts[i]? =some u→∃x,cs[i]? =some x∧Cell.okWide P W r base u x:=by
 have h':∃cs,v= .agg cs∧cs.size=P.cellsOf t∧Row.okWide P W r base t cs:=by
  unfold Value.okWide at h
  rcases hu with ⟨fs,hu⟩|⟨n,e,hu⟩<;>rw[hu]at h<;>exact h
 obtain⟨cs,rfl,hs,ts',h1,_,h2⟩:=h'
 rw[zH]at h1
 cases h1
 refine⟨cs.toList,by simp,by simp[hs,dz],fun i u hi=> ?_⟩
 have cN:=(List.getElem?_eq_some_iff.1 hi).1
 have Ep:i<cs.size:=by rw[hs,dz];exact cN
 obtain⟨u',h3,h4⟩:=h2 i cs[i] (Array.getElem?_eq_getElem Ep)
 rw[Nat.mod_eq_of_lt cN,hi]at h3
 cases h3
 exact⟨cs[i],by simp[Ep],h4⟩
theorem rK {u:TypeId}{k:IntKind}{x:Value}(hu:P.underlying u=some (.int k))(h:Cell.okWide P W r base u x):∃n,x= .int k n∧k.has n:=by
 unfold Cell.okWide Cell.ok at h
 rw[hu]at h
 cases x<;>simp only at h
 obtain⟨rfl,h⟩:=h
 exact⟨_,rfl,h⟩
theorem s5 {n:Int}(h:IntKind.i64.has n):gJ n:=by
 unfold IntKind.has at h
 exact h
theorem Nh {n:Int}(h:IntKind.u32.has n):0≤n∧n≤4294967295:=by
 unfold IntKind.has at h
 exact h
theorem Lg {t ti tu:TypeId}{v:Value}{fs:Array Field}(hu:P.underlying t=some (.struct fs))(zH:P.cellTypes P.depth t=some [ti,tu,ti,ti,ti,ti])(dz:P.cellsOf t=6)(hi:P.underlying ti=some (.int .i64))(Om:P.underlying tu=some (.int .u32))(h:Value.okWide P W r base t v):
  ∃c:eA,v=c.val∧c.Fit:=by
 obtain⟨cs,rfl,hl,hc⟩:=Ky (.inl ⟨fs,hu⟩) zH dz h
 match cs,hl with
 |[x0,x1,x2,x3,x4,x5],_=>
  obtain⟨y0,e0,g0⟩:=hc 0 ti rfl
  obtain⟨y1,e1,g1⟩:=hc 1 tu rfl
  obtain⟨y2,e2,g2⟩:=hc 2 ti rfl
  obtain⟨y3,e3,g3⟩:=hc 3 ti rfl
  obtain⟨y4,e4,g4⟩:=hc 4 ti rfl
  obtain⟨y5,e5,g5⟩:=hc 5 ti rfl
  cases e0;cases e1;cases e2;cases e3;cases e4;cases e5
  obtain⟨n0,rfl,k0⟩:=rK hi g0
  obtain⟨n1,rfl,k1⟩:=rK Om g1
  obtain⟨n2,rfl,k2⟩:=rK hi g2
  obtain⟨n3,rfl,k3⟩:=rK hi g3
  obtain⟨n4,rfl,k4⟩:=rK hi g4
  obtain⟨n5,rfl,k5⟩:=rK hi g5
  exact⟨⟨n0,n1,n2,n3,n4,n5⟩,rfl,s5 k0,Nh k1,s5 k2,s5 k3,s5 k4,s5 k5⟩
end
end
end Go.Proofs.YtimekbpkejemoaaGreatDoor
