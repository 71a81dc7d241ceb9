/-
  A part of a proof, joined by a program (wip/bundle3.py).
-/
import Derived.Test.YtfkngchldmfpfaaGreatDoorG6
import Derived.Test.YtfkngchldmfpfaaGreatDoorG7
import Derived.Test.YtfkngchldmfpfaaGreatDoorG8
import Derived.Test.YtfkngchldmfpfaaGreatDoorG15
import Derived.Test.YtfkngchldmfpfaaGreatDoorG18
import Derived.Test.YtfkngchldmfpfaaGreatDoorG19
import Derived.Test.YtfkngchldmfpfaaGreatDoorG20
set_option linter.unusedVariables false
set_option linter.unusedSimpArgs false
namespace Go.Proofs.YtfkngchldmfpfaaGreatDoor
section
open Go.RowKit
set_option maxRecDepth 10000
attribute [local irreducible] EK EX ER EN EL ES EG an aR aU
variable {W:World} {F G:SL} {X:Cx} {kk:List KI} {σ:Env} {c:NC}
abbrev da (nn:Option Addr)(c:NC)(jp:Option Addr)(jn jc:Nat)(next:Int)(ev:az)(evn wn:Nat)(d s t e:az)(clock:Int):List Value:=[.pointer nn,.int .i64 (c.n:Int),.int .u32 (c.o:Int),.int .i64 (c.lo:Int),.int .i64 (c.hi:Int),.int .i64 (c.nb:Int),.int .i64 (c.r:Int),.slice jp jn jc,.int .i64 next,.slice ev.1 evn ev.2,.slice d.1 wn d.2,.slice s.1 wn s.2,.slice t.1 wn t.2,.slice e.1 wn e.2,.int .i64 clock]
theorem dn.nn {pn:Option Addr}{n:cH}{w:World}(h:Sat W w (dn pn c n*F)):pn≠none:=by
 obtain⟨R,h⟩:=h.jA
 rw[gA.eq]at h
 exact(Obj.root pn 103 (KL c R)).nn W w _ h
theorem KG (cf:gz):Spec Tryz.prog 19 [cf.val] W F (fun _:Unit=>cf.val) (fun _=>F):=by
 refine Spec.of Tryz.func19 rfl Tryz.ntmps19 rfl ?_
 refine aa ?_;intros
 refine ae (lQ (rv:= .cell 2 63) rfl ⟨_,rfl,aX.agg rfl⟩ () rfl (U.sat ?_))
 exact ab
def rU (n:Nat)(v:Int):List Value:=List.replicate n (.int .i64 v)
abbrev oh (wn:Nat)(d s t e:az)(F:SL):SL:=ad 3 1 d.1 wn d.2 (rU wn (-1))*(ad 3 1 s.1 wn s.2 (rU wn 0)*(ad 3 1 t.1 wn t.2 (rU wn 0)*(ad 3 1 e.1 wn e.2 (rU wn 0)*F)))
abbrev tT:Bool:=true
abbrev fF:Bool:=false
abbrev WG:Type:=(az×az×az×az)×Option Addr×Option Addr×Option Addr×Option Addr
abbrev gr (b8 nn wo:Option Addr)(i:Nat):Env:=[(8,.pointer b8),(9,.pointer nn),(10,.int .i64 0),(11,.pointer wo),(12,.int .i64 (i:Int)),(42,.pointer wo),(43,.pointer wo),(44,.pointer wo),(45,.pointer wo)]
abbrev c9 (q:Option Addr)(v:Int):SL:=ad 3 1 q 1 1 [.int .i64 v]
abbrev aQ (z:az)(n:Nat)(v:Int):SL:=ad 3 1 z.1 n z.2 (rU n v)
abbrev gq (b8 nn:Option Addr)(c:NC)(F:SL):SL:=Obj b8 34 [.int .i64 (c.n:Int),.int .u32 (c.o:Int),.int .i64 (c.lo:Int),.int .i64 (c.hi:Int),.int .i64 (c.nb:Int),.int .i64 (c.r:Int)]*(dn nn c (fw c)*F)
abbrev gn (wo nn:Option Addr)(c:NC)(p:Option Addr)(i j cap:Nat)(a1 a2 a3 a4:az):SL:=Obj wo 38 [.pointer nn,.int .i64 (c.n:Int),.int .u32 (c.o:Int),.int .i64 (c.lo:Int),.int .i64 (c.hi:Int),.int .i64 (c.nb:Int),.int .i64 (c.r:Int),.slice p j cap,.int .i64 0,.slice none 0 0,.slice a1.1 i a1.2,.slice a2.1 i a2.2,.slice a3.1 i a3.2,.slice a4.1 i a4.2,.int .i64 0]
theorem wN {σ1 σ2:Env}(h:Env.within σ1 σ2:=by repeat(first|exact trivial|refine⟨rfl,?_⟩)):Env.within σ1 σ2:=h
set_option maxHeartbeats 4000000 in
theorem Hw (hc:c.Ok){x y z:Int}(hC:∀F,Spec Tryz.prog 22 [.int .i64 x,.int .i64 y,.int .i64 z] W F (fun _:Unit=>c.cfg.val) (fun _=>F)){p:Option Addr}{n cap j:Nat}{most:Int}(hj:min (n:Int) most=(j:Int))(rF:j≤n)[r:Room W F p n cap]:
  Spec Tryz.prog 5 [.agg #[.int .i64 x,.int .i64 y,.int .i64 z],.slice p n cap,.int .i64 most] W F (fun g:(Option Addr×Option Addr)×az×az×az×az=> .tuple #[.pointer g.1.1,.bool true])
   (fun g=>Obj g.1.1 38 (da g.1.2 c p j cap 0 (none,0) 0 c.n g.2.1 g.2.2.1 g.2.2.2.1 g.2.2.2.2 0)*oh c.n g.2.1 g.2.2.1 g.2.2.2.1 g.2.2.2.2 (dn g.1.2 c (fw c)*F)):=by
 refine Spec.of Tryz.func5 rfl Tryz.ntmps5 rfl ?_
 refine aa ?_;intros
 refine af rfl (hC _) ?_
 intro _
 refine aa ?_;intros
 rename_i b3 _ b8
 refine af rfl (KG c.cfg) ?_
 intro _
 refine aa ?_;intros
 refine af rfl (Oo hc) ?_
 intro nn
 refine aa ?_;intros
 refine Cp (φ:=nn≠none) (fun w hs=>dn.nn hs) (fun T8=> ?_)
 haveI:bQ (min (n:Int) most) j:=⟨hj⟩
 refine ay 99 (Obj b8 34 [.int .i64 c.cfg.w,.int .u32 c.cfg.o,.int .i64 c.cfg.lo,.int .i64 c.cfg.hi,.int .i64 c.cfg.b,.int .i64 c.cfg.r]*F) rfl rfl rfl ?_
 refine ah ?_
 refine bD ?_;intros
 refine aa ?_;intros
 rename_i wo
 refine fy (γ:=Nat×az×az×az×az) (fun g=>g.1≤c.n) (fun g=>[(8,.pointer b8),(9,.pointer nn),(10,.int .i64 0),(11,.pointer wo),(12,.int .i64 (g.1:Int))])
  (fun g=>Obj wo 38 (da nn c p j cap 0 (none,0) 0 g.1 g.2.1 g.2.2.1 g.2.2.2.1 g.2.2.2.2 0)*oh g.1 g.2.1 g.2.2.1 g.2.2.2.1 g.2.2.2.2 (Obj b8 34 [.int .i64 (c.n:Int),.int .u32 (c.o:Int),.int .i64 (c.lo:Int),.int .i64 (c.hi:Int),.int .i64 (c.nb:Int),.int .i64 (c.r:Int)]*(dn nn c (fw c)*F)))
  (fun g=>c.n-g.1) (0,(none,0),(none,0),(none,0),(none,0)) (Nat.zero_le _) ⟨rfl,rfl,rfl,rfl,rfl,trivial⟩ (U.sat (U.obj wo rfl (U.none (U.none (U.none (U.none (U.obj b8 rfl (ab)))))))) ?_
 intro ⟨i,a1,a2,a3,a4⟩ h1;dsimp only at h1 ⊢
 have aep:=hc.n
 by_cases hi:i<c.n
 ·refine aa ?_;intros
  simp only[da,oh]
  refine ay 30 (Obj wo 38 [.pointer nn,.int .i64 (c.n:Int),.int .u32 (c.o:Int),.int .i64 (c.lo:Int),.int .i64 (c.hi:Int),.int .i64 (c.nb:Int),.int .i64 (c.r:Int),.slice p j cap,.int .i64 0,.slice none 0 0,.slice a1.1 i a1.2,.slice a2.1 i a2.2,.slice a3.1 i a3.2,.slice a4.1 i a4.2,.int .i64 0]*1) rfl rfl rfl ?_
  --REGION7
  refine fG 0 rfl rfl rfl (gQ rfl) (by decide+kernel) (ab) rfl ?_
  refine ax 0 rfl rfl rfl rfl (by decide+kernel) (ab) rfl ?_
  refine ax 0 rfl rfl rfl rfl (by decide+kernel) (ab) rfl ?_
  refine ax 0 rfl rfl rfl rfl (by decide+kernel) (ab) rfl ?_
  refine fG 0 rfl rfl rfl (gQ rfl) (by decide+kernel) (ab) rfl ?_
  refine fG 0 rfl rfl rfl (fY rfl rfl) (by decide+kernel) (ab) rfl ?_
  refine fG 0 rfl rfl rfl (eX rfl rfl) (by decide+kernel) (ab) rfl ?_
  refine fG 0 rfl rfl rfl (oc rfl rfl rfl) (by decide+kernel) (ab) rfl ?_
  refine fG 2 rfl rfl rfl (gQ rfl) (by decide+kernel) (ab) rfl ?_
  refine fG 2 rfl rfl rfl (fY rfl rfl) (by decide+kernel) (ab) rfl ?_
  refine fG 2 rfl rfl rfl (eX rfl rfl) (by decide+kernel) (ab) rfl ?_
  refine fG 2 rfl rfl rfl (oc rfl rfl rfl) (by decide+kernel) (ab) rfl ?_
  refine fG 4 rfl rfl rfl (gQ rfl) (by decide+kernel) (ab) rfl ?_
  refine fG 4 rfl rfl rfl (fY rfl rfl) (by decide+kernel) (ab) rfl ?_
  refine fG 4 rfl rfl rfl (eX rfl rfl) (by decide+kernel) (ab) rfl ?_
  refine fG 4 rfl rfl rfl (oc rfl rfl rfl) (by decide+kernel) (ab) rfl ?_
  refine fG 6 rfl rfl rfl (gQ rfl) (by decide+kernel) (ab) rfl ?_
  refine fG 6 rfl rfl rfl (fY rfl rfl) (by decide+kernel) (ab) rfl ?_
  refine fG 6 rfl rfl rfl (eX rfl rfl) (by decide+kernel) (ab) rfl ?_
  refine fG 6 rfl rfl rfl (oc rfl rfl rfl) (by decide+kernel) (ab) (ls:= #[tT,tT,tT,tT,tT,tT,tT,tT,fF,fF,tT,tT,tT,tT,fF,fF,tT,tT,tT,tT,fF,fF,tT,tT,tT,tT,fF,fF,fF,fF,fF,fF,fF,fF,fF,fF,fF,fF,fF,fF]) rfl ?_
  have eW:∀v,rU (i+1) v=rU i v++[.int .i64 v]:=fun v=>List.replicate_succ'
  refine fW (γ:=WG) (fuel':=12) (ls':= #[tT,tT,tT,tT,tT,tT,tT,tT,tT,tT,tT,tT,tT,tT,tT,tT,tT,tT,tT,tT,tT,tT,tT,tT,tT,tT,tT,tT,fF,fF,fF,fF,fF,fF,fF,fF,fF,fF,fF,fF]) (fun _=>True)
   (fun g=>(51,.slice g.1.1.1 (i+1) g.1.1.2)::(57,.slice g.1.2.1.1 (i+1) g.1.2.1.2)::(63,.slice g.1.2.2.1.1 (i+1) g.1.2.2.1.2)::(69,.slice g.1.2.2.2.1 (i+1) g.1.2.2.2.2)::gr b8 nn wo i)
   (fun g=>gn wo nn c p i j cap a1 a2 a3 a4*(aQ (g.1.1) (i+1) (-1)*(aQ (g.1.2.1) (i+1) 0*(aQ (g.1.2.2.1) (i+1) 0*(aQ (g.1.2.2.2) (i+1) 0*gq b8 nn c F))))) ?_ (fun K4=> ?_)
  ·intro ⟨⟨z1,z2,z3,z4⟩,b1,b2,b3,b4⟩ _
   dsimp only
   refine fG 0 rfl rfl rfl (fY rfl rfl) (by decide+kernel) (ab) rfl ?_
   refine fG 0 rfl rfl rfl (eX rfl rfl) (by decide+kernel) (ab) rfl ?_
   (refine je rfl (cr rfl rfl rfl rfl rfl rfl) (by decide+kernel) rfl ?_);repeat(first|refine dy rfl rfl rfl (fY rfl rfl) (by decide+kernel) (by decide+kernel) rfl ?_ |refine dy rfl rfl rfl (eX rfl rfl) (by decide+kernel) (by decide+kernel) rfl ?_ |refine iP rfl rfl (cr rfl rfl rfl rfl rfl rfl) (by decide+kernel) (by decide+kernel) rfl ?_ |refine eD ?_)
   refine aa ?_;intros
   refine cJ (i+1,z1,z2,z3,z4) (Nat.succ_le_of_lt hi) (by dsimp only;omega) ⟨rfl,rfl,rfl,rfl,rfl,trivial⟩ (U.sat ?_)
   dsimp only
   exact ab
  refine fW (γ:=WG) (fuel':=13) (ls':= #[tT,tT,tT,tT,tT,tT,tT,tT,tT,tT,tT,tT,tT,tT,tT,tT,tT,tT,tT,tT,tT,tT,tT,tT,tT,tT,tT,fF,fF,fF,fF,fF,fF,fF,fF,fF,fF,fF,fF,fF]) (fun _=>True)
   (fun g=>(51,.slice g.1.1.1 (i+1) g.1.1.2)::(57,.slice g.1.2.1.1 (i+1) g.1.2.1.2)::(63,.slice g.1.2.2.1.1 (i+1) g.1.2.2.1.2)::(67,.slice a4.1 i a4.2)::(68,.slice g.2.2.2.2 1 1)::gr b8 nn wo i)
   (fun g=>gn wo nn c p i j cap a1 a2 a3 a4*(c9 (g.2.2.2.2) 0*(aQ (g.1.1) (i+1) (-1)*(aQ (g.1.2.1) (i+1) 0*(aQ (g.1.2.2.1) (i+1) 0*(aQ a4 i 0*gq b8 nn c F)))))) ?_ (fun G4=> ?_)
  ·intro ⟨⟨z1,z2,z3,z4⟩,b1,b2,b3,b4⟩ _
   dsimp only
   refine fm (i:=27) (l:=[]) ⟨?_,trivial⟩
   ·exact bU rfl rfl rfl (lr rfl rfl rfl (by omega) (by decide)) rfl (fun _=>ab) (fun x=>b9 (K4 ⟨⟨z1,z2,z3,x⟩,b1,b2,b3,b4⟩ trivial) wN (by dsimp only;simp only[aQ,eW];exact ab))
  refine fW (γ:=WG) (fuel':=14) (ls':= #[tT,tT,tT,tT,tT,tT,tT,tT,tT,tT,tT,tT,tT,tT,tT,tT,tT,tT,tT,tT,tT,tT,tT,tT,tT,tT,fF,fF,fF,fF,fF,fF,fF,fF,fF,fF,fF,fF,fF,fF]) (fun _=>True)
   (fun g=>(51,.slice g.1.1.1 (i+1) g.1.1.2)::(57,.slice g.1.2.1.1 (i+1) g.1.2.1.2)::(63,.slice g.1.2.2.1.1 (i+1) g.1.2.2.1.2)::(67,.slice a4.1 i a4.2)::gr b8 nn wo i)
   (fun g=>gn wo nn c p i j cap a1 a2 a3 a4*(aQ (g.1.1) (i+1) (-1)*(aQ (g.1.2.1) (i+1) 0*(aQ (g.1.2.2.1) (i+1) 0*(aQ a4 i 0*gq b8 nn c F))))) ?_ (fun K3=> ?_)
  ·intro ⟨⟨z1,z2,z3,z4⟩,b1,b2,b3,b4⟩ _
   dsimp only
   refine fm (i:=26) (l:=[]) ⟨?_,trivial⟩
   ·exact bU rfl rfl rfl (cR rfl rfl rfl (by decide) (by decide)) rfl (fun _=>ab) (fun x=>b9 (G4 ⟨⟨z1,z2,z3,z4⟩,b1,b2,b3,x⟩ trivial) wN (ab))
  refine fW (γ:=WG) (fuel':=14) (ls':= #[tT,tT,tT,tT,tT,tT,tT,tT,tT,tT,tT,tT,tT,tT,tT,tT,tT,tT,tT,tT,tT,fF,tT,tT,tT,tT,tT,fF,fF,fF,fF,fF,fF,fF,fF,fF,fF,fF,fF,fF]) (fun _=>True)
   (fun g=>(51,.slice g.1.1.1 (i+1) g.1.1.2)::(57,.slice g.1.2.1.1 (i+1) g.1.2.1.2)::(61,.slice a3.1 i a3.2)::(67,.slice a4.1 i a4.2)::(62,.slice g.2.2.2.1 1 1)::(68,.slice g.2.2.2.2 1 1)::gr b8 nn wo i)
   (fun g=>gn wo nn c p i j cap a1 a2 a3 a4*(c9 (g.2.2.2.1) 0*(c9 (g.2.2.2.2) 0*(aQ (g.1.1) (i+1) (-1)*(aQ (g.1.2.1) (i+1) 0*(aQ a3 i 0*(aQ a4 i 0*gq b8 nn c F))))))) ?_ (fun CF=> ?_)
  ·intro ⟨⟨z1,z2,z3,z4⟩,b1,b2,b3,b4⟩ _
   dsimp only
   refine fm (i:=21) (l:=[]) ⟨?_,trivial⟩
   ·exact bU rfl rfl rfl (lr rfl rfl rfl (by omega) (by decide)) rfl (fun _=>ab) (fun x=>b9 (G4 ⟨⟨z1,z2,x,z4⟩,b1,b2,b3,b4⟩ trivial) wN (by dsimp only;simp only[aQ,eW];exact ab))
  refine fW (γ:=WG) (fuel':=15) (ls':= #[tT,tT,tT,tT,tT,tT,tT,tT,tT,tT,tT,tT,tT,tT,tT,tT,tT,tT,tT,tT,tT,fF,tT,tT,tT,tT,fF,fF,fF,fF,fF,fF,fF,fF,fF,fF,fF,fF,fF,fF]) (fun _=>True)
   (fun g=>(51,.slice g.1.1.1 (i+1) g.1.1.2)::(57,.slice g.1.2.1.1 (i+1) g.1.2.1.2)::(61,.slice a3.1 i a3.2)::(67,.slice a4.1 i a4.2)::(62,.slice g.2.2.2.1 1 1)::gr b8 nn wo i)
   (fun g=>gn wo nn c p i j cap a1 a2 a3 a4*(c9 (g.2.2.2.1) 0*(aQ (g.1.1) (i+1) (-1)*(aQ (g.1.2.1) (i+1) 0*(aQ a3 i 0*(aQ a4 i 0*gq b8 nn c F)))))) ?_ (fun G1=> ?_)
  ·intro ⟨⟨z1,z2,z3,z4⟩,b1,b2,b3,b4⟩ _
   dsimp only
   refine fm (i:=21) (l:=[26]) ⟨?_,?_,trivial⟩
   ·exact bU rfl rfl rfl (lr rfl rfl rfl (by omega) (by decide)) rfl (fun _=>ab) (fun x=>b9 (K3 ⟨⟨z1,z2,x,z4⟩,b1,b2,b3,b4⟩ trivial) wN (by dsimp only;simp only[aQ,eW];exact ab))
   ·exact bU rfl rfl rfl (cR rfl rfl rfl (by decide) (by decide)) rfl (fun _=>ab) (fun x=>b9 (CF ⟨⟨z1,z2,z3,z4⟩,b1,b2,b3,x⟩ trivial) wN (ab))
  refine fW (γ:=WG) (fuel':=15) (ls':= #[tT,tT,tT,tT,tT,tT,tT,tT,tT,tT,tT,tT,tT,tT,tT,tT,tT,tT,tT,tT,fF,fF,tT,tT,tT,tT,tT,fF,fF,fF,fF,fF,fF,fF,fF,fF,fF,fF,fF,fF]) (fun _=>True)
   (fun g=>(51,.slice g.1.1.1 (i+1) g.1.1.2)::(57,.slice g.1.2.1.1 (i+1) g.1.2.1.2)::(61,.slice a3.1 i a3.2)::(67,.slice a4.1 i a4.2)::(68,.slice g.2.2.2.2 1 1)::gr b8 nn wo i)
   (fun g=>gn wo nn c p i j cap a1 a2 a3 a4*(c9 (g.2.2.2.2) 0*(aQ (g.1.1) (i+1) (-1)*(aQ (g.1.2.1) (i+1) 0*(aQ a3 i 0*(aQ a4 i 0*gq b8 nn c F)))))) ?_ (fun G3=> ?_)
  ·intro ⟨⟨z1,z2,z3,z4⟩,b1,b2,b3,b4⟩ _
   dsimp only
   refine fm (i:=20) (l:=[]) ⟨?_,trivial⟩
   ·exact bU rfl rfl rfl (cR rfl rfl rfl (by decide) (by decide)) rfl (fun _=>ab) (fun x=>b9 (CF ⟨⟨z1,z2,z3,z4⟩,b1,b2,x,b4⟩ trivial) wN (ab))
  refine fW (γ:=WG) (fuel':=16) (ls':= #[tT,tT,tT,tT,tT,tT,tT,tT,tT,tT,tT,tT,tT,tT,tT,tT,tT,tT,tT,tT,fF,fF,tT,tT,tT,tT,fF,fF,fF,fF,fF,fF,fF,fF,fF,fF,fF,fF,fF,fF]) (fun _=>True)
   (fun g=>(51,.slice g.1.1.1 (i+1) g.1.1.2)::(57,.slice g.1.2.1.1 (i+1) g.1.2.1.2)::(61,.slice a3.1 i a3.2)::(67,.slice a4.1 i a4.2)::gr b8 nn wo i)
   (fun g=>gn wo nn c p i j cap a1 a2 a3 a4*(aQ (g.1.1) (i+1) (-1)*(aQ (g.1.2.1) (i+1) 0*(aQ a3 i 0*(aQ a4 i 0*gq b8 nn c F))))) ?_ (fun K2=> ?_)
  ·intro ⟨⟨z1,z2,z3,z4⟩,b1,b2,b3,b4⟩ _
   dsimp only
   refine fm (i:=20) (l:=[26]) ⟨?_,?_,trivial⟩
   ·exact bU rfl rfl rfl (cR rfl rfl rfl (by decide) (by decide)) rfl (fun _=>ab) (fun x=>b9 (G1 ⟨⟨z1,z2,z3,z4⟩,b1,b2,x,b4⟩ trivial) wN (ab))
   ·exact bU rfl rfl rfl (cR rfl rfl rfl (by decide) (by decide)) rfl (fun _=>ab) (fun x=>b9 (G3 ⟨⟨z1,z2,z3,z4⟩,b1,b2,b3,x⟩ trivial) wN (ab))
  refine fW (γ:=WG) (fuel':=15) (ls':= #[tT,tT,tT,tT,tT,tT,tT,tT,tT,tT,tT,tT,tT,tT,tT,fF,tT,tT,tT,tT,tT,fF,tT,tT,tT,tT,tT,fF,fF,fF,fF,fF,fF,fF,fF,fF,fF,fF,fF,fF]) (fun _=>True)
   (fun g=>(51,.slice g.1.1.1 (i+1) g.1.1.2)::(55,.slice a2.1 i a2.2)::(61,.slice a3.1 i a3.2)::(67,.slice a4.1 i a4.2)::(56,.slice g.2.2.1 1 1)::(62,.slice g.2.2.2.1 1 1)::(68,.slice g.2.2.2.2 1 1)::gr b8 nn wo i)
   (fun g=>gn wo nn c p i j cap a1 a2 a3 a4*(c9 (g.2.2.1) 0*(c9 (g.2.2.2.1) 0*(c9 (g.2.2.2.2) 0*(aQ (g.1.1) (i+1) (-1)*(aQ a2 i 0*(aQ a3 i 0*(aQ a4 i 0*gq b8 nn c F)))))))) ?_ (fun zG=> ?_)
  ·intro ⟨⟨z1,z2,z3,z4⟩,b1,b2,b3,b4⟩ _
   dsimp only
   refine fm (i:=15) (l:=[]) ⟨?_,trivial⟩
   ·exact bU rfl rfl rfl (lr rfl rfl rfl (by omega) (by decide)) rfl (fun _=>ab) (fun x=>b9 (CF ⟨⟨z1,x,z3,z4⟩,b1,b2,b3,b4⟩ trivial) wN (by dsimp only;simp only[aQ,eW];exact ab))
  refine fW (γ:=WG) (fuel':=16) (ls':= #[tT,tT,tT,tT,tT,tT,tT,tT,tT,tT,tT,tT,tT,tT,tT,fF,tT,tT,tT,tT,tT,fF,tT,tT,tT,tT,fF,fF,fF,fF,fF,fF,fF,fF,fF,fF,fF,fF,fF,fF]) (fun _=>True)
   (fun g=>(51,.slice g.1.1.1 (i+1) g.1.1.2)::(55,.slice a2.1 i a2.2)::(61,.slice a3.1 i a3.2)::(67,.slice a4.1 i a4.2)::(56,.slice g.2.2.1 1 1)::(62,.slice g.2.2.2.1 1 1)::gr b8 nn wo i)
   (fun g=>gn wo nn c p i j cap a1 a2 a3 a4*(c9 (g.2.2.1) 0*(c9 (g.2.2.2.1) 0*(aQ (g.1.1) (i+1) (-1)*(aQ a2 i 0*(aQ a3 i 0*(aQ a4 i 0*gq b8 nn c F))))))) ?_ (fun CC=> ?_)
  ·intro ⟨⟨z1,z2,z3,z4⟩,b1,b2,b3,b4⟩ _
   dsimp only
   refine fm (i:=15) (l:=[26]) ⟨?_,?_,trivial⟩
   ·exact bU rfl rfl rfl (lr rfl rfl rfl (by omega) (by decide)) rfl (fun _=>ab) (fun x=>b9 (G1 ⟨⟨z1,x,z3,z4⟩,b1,b2,b3,b4⟩ trivial) wN (by dsimp only;simp only[aQ,eW];exact ab))
   ·exact bU rfl rfl rfl (cR rfl rfl rfl (by decide) (by decide)) rfl (fun _=>ab) (fun x=>b9 (zG ⟨⟨z1,z2,z3,z4⟩,b1,b2,b3,x⟩ trivial) wN (ab))
  refine fW (γ:=WG) (fuel':=16) (ls':= #[tT,tT,tT,tT,tT,tT,tT,tT,tT,tT,tT,tT,tT,tT,tT,fF,tT,tT,tT,tT,fF,fF,tT,tT,tT,tT,tT,fF,fF,fF,fF,fF,fF,fF,fF,fF,fF,fF,fF,fF]) (fun _=>True)
   (fun g=>(51,.slice g.1.1.1 (i+1) g.1.1.2)::(55,.slice a2.1 i a2.2)::(61,.slice a3.1 i a3.2)::(67,.slice a4.1 i a4.2)::(56,.slice g.2.2.1 1 1)::(68,.slice g.2.2.2.2 1 1)::gr b8 nn wo i)
   (fun g=>gn wo nn c p i j cap a1 a2 a3 a4*(c9 (g.2.2.1) 0*(c9 (g.2.2.2.2) 0*(aQ (g.1.1) (i+1) (-1)*(aQ a2 i 0*(aQ a3 i 0*(aQ a4 i 0*gq b8 nn c F))))))) ?_ (fun CD=> ?_)
  ·intro ⟨⟨z1,z2,z3,z4⟩,b1,b2,b3,b4⟩ _
   dsimp only
   refine fm (i:=15) (l:=[20]) ⟨?_,?_,trivial⟩
   ·exact bU rfl rfl rfl (lr rfl rfl rfl (by omega) (by decide)) rfl (fun _=>ab) (fun x=>b9 (G3 ⟨⟨z1,x,z3,z4⟩,b1,b2,b3,b4⟩ trivial) wN (by dsimp only;simp only[aQ,eW];exact ab))
   ·exact bU rfl rfl rfl (cR rfl rfl rfl (by decide) (by decide)) rfl (fun _=>ab) (fun x=>b9 (zG ⟨⟨z1,z2,z3,z4⟩,b1,b2,x,b4⟩ trivial) wN (ab))
  refine fW (γ:=WG) (fuel':=16) (ls':= #[tT,tT,tT,tT,tT,tT,tT,tT,tT,tT,tT,tT,tT,tT,fF,fF,tT,tT,tT,tT,tT,fF,tT,tT,tT,tT,tT,fF,fF,fF,fF,fF,fF,fF,fF,fF,fF,fF,fF,fF]) (fun _=>True)
   (fun g=>(51,.slice g.1.1.1 (i+1) g.1.1.2)::(55,.slice a2.1 i a2.2)::(61,.slice a3.1 i a3.2)::(67,.slice a4.1 i a4.2)::(62,.slice g.2.2.2.1 1 1)::(68,.slice g.2.2.2.2 1 1)::gr b8 nn wo i)
   (fun g=>gn wo nn c p i j cap a1 a2 a3 a4*(c9 (g.2.2.2.1) 0*(c9 (g.2.2.2.2) 0*(aQ (g.1.1) (i+1) (-1)*(aQ a2 i 0*(aQ a3 i 0*(aQ a4 i 0*gq b8 nn c F))))))) ?_ (fun CE=> ?_)
  ·intro ⟨⟨z1,z2,z3,z4⟩,b1,b2,b3,b4⟩ _
   dsimp only
   refine fm (i:=14) (l:=[]) ⟨?_,trivial⟩
   ·exact bU rfl rfl rfl (cR rfl rfl rfl (by decide) (by decide)) rfl (fun _=>ab) (fun x=>b9 (zG ⟨⟨z1,z2,z3,z4⟩,b1,x,b3,b4⟩ trivial) wN (ab))
  refine fW (γ:=WG) (fuel':=17) (ls':= #[tT,tT,tT,tT,tT,tT,tT,tT,tT,tT,tT,tT,tT,tT,tT,fF,tT,tT,tT,tT,fF,fF,tT,tT,tT,tT,fF,fF,fF,fF,fF,fF,fF,fF,fF,fF,fF,fF,fF,fF]) (fun _=>True)
   (fun g=>(51,.slice g.1.1.1 (i+1) g.1.1.2)::(55,.slice a2.1 i a2.2)::(61,.slice a3.1 i a3.2)::(67,.slice a4.1 i a4.2)::(56,.slice g.2.2.1 1 1)::gr b8 nn wo i)
   (fun g=>gn wo nn c p i j cap a1 a2 a3 a4*(c9 (g.2.2.1) 0*(aQ (g.1.1) (i+1) (-1)*(aQ a2 i 0*(aQ a3 i 0*(aQ a4 i 0*gq b8 nn c F)))))) ?_ (fun GY=> ?_)
  ·intro ⟨⟨z1,z2,z3,z4⟩,b1,b2,b3,b4⟩ _
   dsimp only
   refine fm (i:=15) (l:=[20,26]) ⟨?_,?_,?_,trivial⟩
   ·exact bU rfl rfl rfl (lr rfl rfl rfl (by omega) (by decide)) rfl (fun _=>ab) (fun x=>b9 (K2 ⟨⟨z1,x,z3,z4⟩,b1,b2,b3,b4⟩ trivial) wN (by dsimp only;simp only[aQ,eW];exact ab))
   ·exact bU rfl rfl rfl (cR rfl rfl rfl (by decide) (by decide)) rfl (fun _=>ab) (fun x=>b9 (CC ⟨⟨z1,z2,z3,z4⟩,b1,b2,x,b4⟩ trivial) wN (ab))
   ·exact bU rfl rfl rfl (cR rfl rfl rfl (by decide) (by decide)) rfl (fun _=>ab) (fun x=>b9 (CD ⟨⟨z1,z2,z3,z4⟩,b1,b2,b3,x⟩ trivial) wN (ab))
  refine fW (γ:=WG) (fuel':=17) (ls':= #[tT,tT,tT,tT,tT,tT,tT,tT,tT,tT,tT,tT,tT,tT,fF,fF,tT,tT,tT,tT,tT,fF,tT,tT,tT,tT,fF,fF,fF,fF,fF,fF,fF,fF,fF,fF,fF,fF,fF,fF]) (fun _=>True)
   (fun g=>(51,.slice g.1.1.1 (i+1) g.1.1.2)::(55,.slice a2.1 i a2.2)::(61,.slice a3.1 i a3.2)::(67,.slice a4.1 i a4.2)::(62,.slice g.2.2.2.1 1 1)::gr b8 nn wo i)
   (fun g=>gn wo nn c p i j cap a1 a2 a3 a4*(c9 (g.2.2.2.1) 0*(aQ (g.1.1) (i+1) (-1)*(aQ a2 i 0*(aQ a3 i 0*(aQ a4 i 0*gq b8 nn c F)))))) ?_ (fun GZ=> ?_)
  ·intro ⟨⟨z1,z2,z3,z4⟩,b1,b2,b3,b4⟩ _
   dsimp only
   refine fm (i:=14) (l:=[26]) ⟨?_,?_,trivial⟩
   ·exact bU rfl rfl rfl (cR rfl rfl rfl (by decide) (by decide)) rfl (fun _=>ab) (fun x=>b9 (CC ⟨⟨z1,z2,z3,z4⟩,b1,x,b3,b4⟩ trivial) wN (ab))
   ·exact bU rfl rfl rfl (cR rfl rfl rfl (by decide) (by decide)) rfl (fun _=>ab) (fun x=>b9 (CE ⟨⟨z1,z2,z3,z4⟩,b1,b2,b3,x⟩ trivial) wN (ab))
  refine fW (γ:=WG) (fuel':=17) (ls':= #[tT,tT,tT,tT,tT,tT,tT,tT,tT,tT,tT,tT,tT,tT,fF,fF,tT,tT,tT,tT,fF,fF,tT,tT,tT,tT,tT,fF,fF,fF,fF,fF,fF,fF,fF,fF,fF,fF,fF,fF]) (fun _=>True)
   (fun g=>(51,.slice g.1.1.1 (i+1) g.1.1.2)::(55,.slice a2.1 i a2.2)::(61,.slice a3.1 i a3.2)::(67,.slice a4.1 i a4.2)::(68,.slice g.2.2.2.2 1 1)::gr b8 nn wo i)
   (fun g=>gn wo nn c p i j cap a1 a2 a3 a4*(c9 (g.2.2.2.2) 0*(aQ (g.1.1) (i+1) (-1)*(aQ a2 i 0*(aQ a3 i 0*(aQ a4 i 0*gq b8 nn c F)))))) ?_ (fun G0=> ?_)
  ·intro ⟨⟨z1,z2,z3,z4⟩,b1,b2,b3,b4⟩ _
   dsimp only
   refine fm (i:=14) (l:=[20]) ⟨?_,?_,trivial⟩
   ·exact bU rfl rfl rfl (cR rfl rfl rfl (by decide) (by decide)) rfl (fun _=>ab) (fun x=>b9 (CD ⟨⟨z1,z2,z3,z4⟩,b1,x,b3,b4⟩ trivial) wN (ab))
   ·exact bU rfl rfl rfl (cR rfl rfl rfl (by decide) (by decide)) rfl (fun _=>ab) (fun x=>b9 (CE ⟨⟨z1,z2,z3,z4⟩,b1,b2,x,b4⟩ trivial) wN (ab))
  refine fW (γ:=WG) (fuel':=18) (ls':= #[tT,tT,tT,tT,tT,tT,tT,tT,tT,tT,tT,tT,tT,tT,fF,fF,tT,tT,tT,tT,fF,fF,tT,tT,tT,tT,fF,fF,fF,fF,fF,fF,fF,fF,fF,fF,fF,fF,fF,fF]) (fun _=>True)
   (fun g=>(51,.slice g.1.1.1 (i+1) g.1.1.2)::(55,.slice a2.1 i a2.2)::(61,.slice a3.1 i a3.2)::(67,.slice a4.1 i a4.2)::gr b8 nn wo i)
   (fun g=>gn wo nn c p i j cap a1 a2 a3 a4*(aQ (g.1.1) (i+1) (-1)*(aQ a2 i 0*(aQ a3 i 0*(aQ a4 i 0*gq b8 nn c F))))) ?_ (fun K1=> ?_)
  ·intro ⟨⟨z1,z2,z3,z4⟩,b1,b2,b3,b4⟩ _
   dsimp only
   refine fm (i:=14) (l:=[20,26]) ⟨?_,?_,?_,trivial⟩
   ·exact bU rfl rfl rfl (cR rfl rfl rfl (by decide) (by decide)) rfl (fun _=>ab) (fun x=>b9 (GY ⟨⟨z1,z2,z3,z4⟩,b1,x,b3,b4⟩ trivial) wN (ab))
   ·exact bU rfl rfl rfl (cR rfl rfl rfl (by decide) (by decide)) rfl (fun _=>ab) (fun x=>b9 (GZ ⟨⟨z1,z2,z3,z4⟩,b1,b2,x,b4⟩ trivial) wN (ab))
   ·exact bU rfl rfl rfl (cR rfl rfl rfl (by decide) (by decide)) rfl (fun _=>ab) (fun x=>b9 (G0 ⟨⟨z1,z2,z3,z4⟩,b1,b2,b3,x⟩ trivial) wN (ab))
  refine fW (γ:=WG) (fuel':=16) (ls':= #[tT,tT,tT,tT,tT,tT,tT,tT,tT,fF,tT,tT,tT,tT,tT,fF,tT,tT,tT,tT,tT,fF,tT,tT,tT,tT,tT,fF,fF,fF,fF,fF,fF,fF,fF,fF,fF,fF,fF,fF]) (fun _=>True)
   (fun g=>(49,.slice a1.1 i a1.2)::(55,.slice a2.1 i a2.2)::(61,.slice a3.1 i a3.2)::(67,.slice a4.1 i a4.2)::(50,.slice g.2.1 1 1)::(56,.slice g.2.2.1 1 1)::(62,.slice g.2.2.2.1 1 1)::(68,.slice g.2.2.2.2 1 1)::gr b8 nn wo i)
   (fun g=>gn wo nn c p i j cap a1 a2 a3 a4*(c9 (g.2.1) (-1)*(c9 (g.2.2.1) 0*(c9 (g.2.2.2.1) 0*(c9 (g.2.2.2.2) 0*(aQ a1 i (-1)*(aQ a2 i 0*(aQ a3 i 0*(aQ a4 i 0*gq b8 nn c F))))))))) ?_ (fun zF=> ?_)
  ·intro ⟨⟨z1,z2,z3,z4⟩,b1,b2,b3,b4⟩ _
   dsimp only
   refine fm (i:=9) (l:=[]) ⟨?_,trivial⟩
   ·exact bU rfl rfl rfl (lr rfl rfl rfl (by omega) (by decide)) rfl (fun _=>ab) (fun x=>b9 (zG ⟨⟨x,z2,z3,z4⟩,b1,b2,b3,b4⟩ trivial) wN (by dsimp only;simp only[aQ,eW];exact ab))
  refine fW (γ:=WG) (fuel':=17) (ls':= #[tT,tT,tT,tT,tT,tT,tT,tT,tT,fF,tT,tT,tT,tT,tT,fF,tT,tT,tT,tT,tT,fF,tT,tT,tT,tT,fF,fF,fF,fF,fF,fF,fF,fF,fF,fF,fF,fF,fF,fF]) (fun _=>True)
   (fun g=>(49,.slice a1.1 i a1.2)::(55,.slice a2.1 i a2.2)::(61,.slice a3.1 i a3.2)::(67,.slice a4.1 i a4.2)::(50,.slice g.2.1 1 1)::(56,.slice g.2.2.1 1 1)::(62,.slice g.2.2.2.1 1 1)::gr b8 nn wo i)
   (fun g=>gn wo nn c p i j cap a1 a2 a3 a4*(c9 (g.2.1) (-1)*(c9 (g.2.2.1) 0*(c9 (g.2.2.2.1) 0*(aQ a1 i (-1)*(aQ a2 i 0*(aQ a3 i 0*(aQ a4 i 0*gq b8 nn c F)))))))) ?_ (fun Cy=> ?_)
  ·intro ⟨⟨z1,z2,z3,z4⟩,b1,b2,b3,b4⟩ _
   dsimp only
   refine fm (i:=9) (l:=[26]) ⟨?_,?_,trivial⟩
   ·exact bU rfl rfl rfl (lr rfl rfl rfl (by omega) (by decide)) rfl (fun _=>ab) (fun x=>b9 (CC ⟨⟨x,z2,z3,z4⟩,b1,b2,b3,b4⟩ trivial) wN (by dsimp only;simp only[aQ,eW];exact ab))
   ·exact bU rfl rfl rfl (cR rfl rfl rfl (by decide) (by decide)) rfl (fun _=>ab) (fun x=>b9 (zF ⟨⟨z1,z2,z3,z4⟩,b1,b2,b3,x⟩ trivial) wN (ab))
  refine fW (γ:=WG) (fuel':=17) (ls':= #[tT,tT,tT,tT,tT,tT,tT,tT,tT,fF,tT,tT,tT,tT,tT,fF,tT,tT,tT,tT,fF,fF,tT,tT,tT,tT,tT,fF,fF,fF,fF,fF,fF,fF,fF,fF,fF,fF,fF,fF]) (fun _=>True)
   (fun g=>(49,.slice a1.1 i a1.2)::(55,.slice a2.1 i a2.2)::(61,.slice a3.1 i a3.2)::(67,.slice a4.1 i a4.2)::(50,.slice g.2.1 1 1)::(56,.slice g.2.2.1 1 1)::(68,.slice g.2.2.2.2 1 1)::gr b8 nn wo i)
   (fun g=>gn wo nn c p i j cap a1 a2 a3 a4*(c9 (g.2.1) (-1)*(c9 (g.2.2.1) 0*(c9 (g.2.2.2.2) 0*(aQ a1 i (-1)*(aQ a2 i 0*(aQ a3 i 0*(aQ a4 i 0*gq b8 nn c F)))))))) ?_ (fun Cz=> ?_)
  ·intro ⟨⟨z1,z2,z3,z4⟩,b1,b2,b3,b4⟩ _
   dsimp only
   refine fm (i:=9) (l:=[20]) ⟨?_,?_,trivial⟩
   ·exact bU rfl rfl rfl (lr rfl rfl rfl (by omega) (by decide)) rfl (fun _=>ab) (fun x=>b9 (CD ⟨⟨x,z2,z3,z4⟩,b1,b2,b3,b4⟩ trivial) wN (by dsimp only;simp only[aQ,eW];exact ab))
   ·exact bU rfl rfl rfl (cR rfl rfl rfl (by decide) (by decide)) rfl (fun _=>ab) (fun x=>b9 (zF ⟨⟨z1,z2,z3,z4⟩,b1,b2,x,b4⟩ trivial) wN (ab))
  refine fW (γ:=WG) (fuel':=17) (ls':= #[tT,tT,tT,tT,tT,tT,tT,tT,tT,fF,tT,tT,tT,tT,fF,fF,tT,tT,tT,tT,tT,fF,tT,tT,tT,tT,tT,fF,fF,fF,fF,fF,fF,fF,fF,fF,fF,fF,fF,fF]) (fun _=>True)
   (fun g=>(49,.slice a1.1 i a1.2)::(55,.slice a2.1 i a2.2)::(61,.slice a3.1 i a3.2)::(67,.slice a4.1 i a4.2)::(50,.slice g.2.1 1 1)::(62,.slice g.2.2.2.1 1 1)::(68,.slice g.2.2.2.2 1 1)::gr b8 nn wo i)
   (fun g=>gn wo nn c p i j cap a1 a2 a3 a4*(c9 (g.2.1) (-1)*(c9 (g.2.2.2.1) 0*(c9 (g.2.2.2.2) 0*(aQ a1 i (-1)*(aQ a2 i 0*(aQ a3 i 0*(aQ a4 i 0*gq b8 nn c F)))))))) ?_ (fun CA=> ?_)
  ·intro ⟨⟨z1,z2,z3,z4⟩,b1,b2,b3,b4⟩ _
   dsimp only
   refine fm (i:=9) (l:=[14]) ⟨?_,?_,trivial⟩
   ·exact bU rfl rfl rfl (lr rfl rfl rfl (by omega) (by decide)) rfl (fun _=>ab) (fun x=>b9 (CE ⟨⟨x,z2,z3,z4⟩,b1,b2,b3,b4⟩ trivial) wN (by dsimp only;simp only[aQ,eW];exact ab))
   ·exact bU rfl rfl rfl (cR rfl rfl rfl (by decide) (by decide)) rfl (fun _=>ab) (fun x=>b9 (zF ⟨⟨z1,z2,z3,z4⟩,b1,x,b3,b4⟩ trivial) wN (ab))
  refine fW (γ:=WG) (fuel':=17) (ls':= #[tT,tT,tT,tT,tT,tT,tT,tT,fF,fF,tT,tT,tT,tT,tT,fF,tT,tT,tT,tT,tT,fF,tT,tT,tT,tT,tT,fF,fF,fF,fF,fF,fF,fF,fF,fF,fF,fF,fF,fF]) (fun _=>True)
   (fun g=>(49,.slice a1.1 i a1.2)::(55,.slice a2.1 i a2.2)::(61,.slice a3.1 i a3.2)::(67,.slice a4.1 i a4.2)::(56,.slice g.2.2.1 1 1)::(62,.slice g.2.2.2.1 1 1)::(68,.slice g.2.2.2.2 1 1)::gr b8 nn wo i)
   (fun g=>gn wo nn c p i j cap a1 a2 a3 a4*(c9 (g.2.2.1) 0*(c9 (g.2.2.2.1) 0*(c9 (g.2.2.2.2) 0*(aQ a1 i (-1)*(aQ a2 i 0*(aQ a3 i 0*(aQ a4 i 0*gq b8 nn c F)))))))) ?_ (fun CB=> ?_)
  ·intro ⟨⟨z1,z2,z3,z4⟩,b1,b2,b3,b4⟩ _
   dsimp only
   refine fm (i:=8) (l:=[]) ⟨?_,trivial⟩
   ·exact bU rfl rfl rfl (cR rfl rfl rfl (by decide) (by decide)) rfl (fun _=>ab) (fun x=>b9 (zF ⟨⟨z1,z2,z3,z4⟩,x,b2,b3,b4⟩ trivial) wN (ab))
  refine fW (γ:=WG) (fuel':=18) (ls':= #[tT,tT,tT,tT,tT,tT,tT,tT,tT,fF,tT,tT,tT,tT,tT,fF,tT,tT,tT,tT,fF,fF,tT,tT,tT,tT,fF,fF,fF,fF,fF,fF,fF,fF,fF,fF,fF,fF,fF,fF]) (fun _=>True)
   (fun g=>(49,.slice a1.1 i a1.2)::(55,.slice a2.1 i a2.2)::(61,.slice a3.1 i a3.2)::(67,.slice a4.1 i a4.2)::(50,.slice g.2.1 1 1)::(56,.slice g.2.2.1 1 1)::gr b8 nn wo i)
   (fun g=>gn wo nn c p i j cap a1 a2 a3 a4*(c9 (g.2.1) (-1)*(c9 (g.2.2.1) 0*(aQ a1 i (-1)*(aQ a2 i 0*(aQ a3 i 0*(aQ a4 i 0*gq b8 nn c F))))))) ?_ (fun GR=> ?_)
  ·intro ⟨⟨z1,z2,z3,z4⟩,b1,b2,b3,b4⟩ _
   dsimp only
   refine fm (i:=9) (l:=[20,26]) ⟨?_,?_,?_,trivial⟩
   ·exact bU rfl rfl rfl (lr rfl rfl rfl (by omega) (by decide)) rfl (fun _=>ab) (fun x=>b9 (GY ⟨⟨x,z2,z3,z4⟩,b1,b2,b3,b4⟩ trivial) wN (by dsimp only;simp only[aQ,eW];exact ab))
   ·exact bU rfl rfl rfl (cR rfl rfl rfl (by decide) (by decide)) rfl (fun _=>ab) (fun x=>b9 (Cy ⟨⟨z1,z2,z3,z4⟩,b1,b2,x,b4⟩ trivial) wN (ab))
   ·exact bU rfl rfl rfl (cR rfl rfl rfl (by decide) (by decide)) rfl (fun _=>ab) (fun x=>b9 (Cz ⟨⟨z1,z2,z3,z4⟩,b1,b2,b3,x⟩ trivial) wN (ab))
  refine fW (γ:=WG) (fuel':=18) (ls':= #[tT,tT,tT,tT,tT,tT,tT,tT,tT,fF,tT,tT,tT,tT,fF,fF,tT,tT,tT,tT,tT,fF,tT,tT,tT,tT,fF,fF,fF,fF,fF,fF,fF,fF,fF,fF,fF,fF,fF,fF]) (fun _=>True)
   (fun g=>(49,.slice a1.1 i a1.2)::(55,.slice a2.1 i a2.2)::(61,.slice a3.1 i a3.2)::(67,.slice a4.1 i a4.2)::(50,.slice g.2.1 1 1)::(62,.slice g.2.2.2.1 1 1)::gr b8 nn wo i)
   (fun g=>gn wo nn c p i j cap a1 a2 a3 a4*(c9 (g.2.1) (-1)*(c9 (g.2.2.2.1) 0*(aQ a1 i (-1)*(aQ a2 i 0*(aQ a3 i 0*(aQ a4 i 0*gq b8 nn c F))))))) ?_ (fun GS=> ?_)
  ·intro ⟨⟨z1,z2,z3,z4⟩,b1,b2,b3,b4⟩ _
   dsimp only
   refine fm (i:=9) (l:=[14,26]) ⟨?_,?_,?_,trivial⟩
   ·exact bU rfl rfl rfl (lr rfl rfl rfl (by omega) (by decide)) rfl (fun _=>ab) (fun x=>b9 (GZ ⟨⟨x,z2,z3,z4⟩,b1,b2,b3,b4⟩ trivial) wN (by dsimp only;simp only[aQ,eW];exact ab))
   ·exact bU rfl rfl rfl (cR rfl rfl rfl (by decide) (by decide)) rfl (fun _=>ab) (fun x=>b9 (Cy ⟨⟨z1,z2,z3,z4⟩,b1,x,b3,b4⟩ trivial) wN (ab))
   ·exact bU rfl rfl rfl (cR rfl rfl rfl (by decide) (by decide)) rfl (fun _=>ab) (fun x=>b9 (CA ⟨⟨z1,z2,z3,z4⟩,b1,b2,b3,x⟩ trivial) wN (ab))
  refine fW (γ:=WG) (fuel':=18) (ls':= #[tT,tT,tT,tT,tT,tT,tT,tT,tT,fF,tT,tT,tT,tT,fF,fF,tT,tT,tT,tT,fF,fF,tT,tT,tT,tT,tT,fF,fF,fF,fF,fF,fF,fF,fF,fF,fF,fF,fF,fF]) (fun _=>True)
   (fun g=>(49,.slice a1.1 i a1.2)::(55,.slice a2.1 i a2.2)::(61,.slice a3.1 i a3.2)::(67,.slice a4.1 i a4.2)::(50,.slice g.2.1 1 1)::(68,.slice g.2.2.2.2 1 1)::gr b8 nn wo i)
   (fun g=>gn wo nn c p i j cap a1 a2 a3 a4*(c9 (g.2.1) (-1)*(c9 (g.2.2.2.2) 0*(aQ a1 i (-1)*(aQ a2 i 0*(aQ a3 i 0*(aQ a4 i 0*gq b8 nn c F))))))) ?_ (fun GU=> ?_)
  ·intro ⟨⟨z1,z2,z3,z4⟩,b1,b2,b3,b4⟩ _
   dsimp only
   refine fm (i:=9) (l:=[14,20]) ⟨?_,?_,?_,trivial⟩
   ·exact bU rfl rfl rfl (lr rfl rfl rfl (by omega) (by decide)) rfl (fun _=>ab) (fun x=>b9 (G0 ⟨⟨x,z2,z3,z4⟩,b1,b2,b3,b4⟩ trivial) wN (by dsimp only;simp only[aQ,eW];exact ab))
   ·exact bU rfl rfl rfl (cR rfl rfl rfl (by decide) (by decide)) rfl (fun _=>ab) (fun x=>b9 (Cz ⟨⟨z1,z2,z3,z4⟩,b1,x,b3,b4⟩ trivial) wN (ab))
   ·exact bU rfl rfl rfl (cR rfl rfl rfl (by decide) (by decide)) rfl (fun _=>ab) (fun x=>b9 (CA ⟨⟨z1,z2,z3,z4⟩,b1,b2,x,b4⟩ trivial) wN (ab))
  refine fW (γ:=WG) (fuel':=18) (ls':= #[tT,tT,tT,tT,tT,tT,tT,tT,fF,fF,tT,tT,tT,tT,tT,fF,tT,tT,tT,tT,tT,fF,tT,tT,tT,tT,fF,fF,fF,fF,fF,fF,fF,fF,fF,fF,fF,fF,fF,fF]) (fun _=>True)
   (fun g=>(49,.slice a1.1 i a1.2)::(55,.slice a2.1 i a2.2)::(61,.slice a3.1 i a3.2)::(67,.slice a4.1 i a4.2)::(56,.slice g.2.2.1 1 1)::(62,.slice g.2.2.2.1 1 1)::gr b8 nn wo i)
   (fun g=>gn wo nn c p i j cap a1 a2 a3 a4*(c9 (g.2.2.1) 0*(c9 (g.2.2.2.1) 0*(aQ a1 i (-1)*(aQ a2 i 0*(aQ a3 i 0*(aQ a4 i 0*gq b8 nn c F))))))) ?_ (fun GV=> ?_)
  ·intro ⟨⟨z1,z2,z3,z4⟩,b1,b2,b3,b4⟩ _
   dsimp only
   refine fm (i:=8) (l:=[26]) ⟨?_,?_,trivial⟩
   ·exact bU rfl rfl rfl (cR rfl rfl rfl (by decide) (by decide)) rfl (fun _=>ab) (fun x=>b9 (Cy ⟨⟨z1,z2,z3,z4⟩,x,b2,b3,b4⟩ trivial) wN (ab))
   ·exact bU rfl rfl rfl (cR rfl rfl rfl (by decide) (by decide)) rfl (fun _=>ab) (fun x=>b9 (CB ⟨⟨z1,z2,z3,z4⟩,b1,b2,b3,x⟩ trivial) wN (ab))
  refine fW (γ:=WG) (fuel':=18) (ls':= #[tT,tT,tT,tT,tT,tT,tT,tT,fF,fF,tT,tT,tT,tT,tT,fF,tT,tT,tT,tT,fF,fF,tT,tT,tT,tT,tT,fF,fF,fF,fF,fF,fF,fF,fF,fF,fF,fF,fF,fF]) (fun _=>True)
   (fun g=>(49,.slice a1.1 i a1.2)::(55,.slice a2.1 i a2.2)::(61,.slice a3.1 i a3.2)::(67,.slice a4.1 i a4.2)::(56,.slice g.2.2.1 1 1)::(68,.slice g.2.2.2.2 1 1)::gr b8 nn wo i)
   (fun g=>gn wo nn c p i j cap a1 a2 a3 a4*(c9 (g.2.2.1) 0*(c9 (g.2.2.2.2) 0*(aQ a1 i (-1)*(aQ a2 i 0*(aQ a3 i 0*(aQ a4 i 0*gq b8 nn c F))))))) ?_ (fun GW=> ?_)
  ·intro ⟨⟨z1,z2,z3,z4⟩,b1,b2,b3,b4⟩ _
   dsimp only
   refine fm (i:=8) (l:=[20]) ⟨?_,?_,trivial⟩
   ·exact bU rfl rfl rfl (cR rfl rfl rfl (by decide) (by decide)) rfl (fun _=>ab) (fun x=>b9 (Cz ⟨⟨z1,z2,z3,z4⟩,x,b2,b3,b4⟩ trivial) wN (ab))
   ·exact bU rfl rfl rfl (cR rfl rfl rfl (by decide) (by decide)) rfl (fun _=>ab) (fun x=>b9 (CB ⟨⟨z1,z2,z3,z4⟩,b1,b2,x,b4⟩ trivial) wN (ab))
  refine fW (γ:=WG) (fuel':=18) (ls':= #[tT,tT,tT,tT,tT,tT,tT,tT,fF,fF,tT,tT,tT,tT,fF,fF,tT,tT,tT,tT,tT,fF,tT,tT,tT,tT,tT,fF,fF,fF,fF,fF,fF,fF,fF,fF,fF,fF,fF,fF]) (fun _=>True)
   (fun g=>(49,.slice a1.1 i a1.2)::(55,.slice a2.1 i a2.2)::(61,.slice a3.1 i a3.2)::(67,.slice a4.1 i a4.2)::(62,.slice g.2.2.2.1 1 1)::(68,.slice g.2.2.2.2 1 1)::gr b8 nn wo i)
   (fun g=>gn wo nn c p i j cap a1 a2 a3 a4*(c9 (g.2.2.2.1) 0*(c9 (g.2.2.2.2) 0*(aQ a1 i (-1)*(aQ a2 i 0*(aQ a3 i 0*(aQ a4 i 0*gq b8 nn c F))))))) ?_ (fun GX=> ?_)
  ·intro ⟨⟨z1,z2,z3,z4⟩,b1,b2,b3,b4⟩ _
   dsimp only
   refine fm (i:=8) (l:=[14]) ⟨?_,?_,trivial⟩
   ·exact bU rfl rfl rfl (cR rfl rfl rfl (by decide) (by decide)) rfl (fun _=>ab) (fun x=>b9 (CA ⟨⟨z1,z2,z3,z4⟩,x,b2,b3,b4⟩ trivial) wN (ab))
   ·exact bU rfl rfl rfl (cR rfl rfl rfl (by decide) (by decide)) rfl (fun _=>ab) (fun x=>b9 (CB ⟨⟨z1,z2,z3,z4⟩,b1,x,b3,b4⟩ trivial) wN (ab))
  refine fW (γ:=WG) (fuel':=19) (ls':= #[tT,tT,tT,tT,tT,tT,tT,tT,tT,fF,tT,tT,tT,tT,fF,fF,tT,tT,tT,tT,fF,fF,tT,tT,tT,tT,fF,fF,fF,fF,fF,fF,fF,fF,fF,fF,fF,fF,fF,fF]) (fun _=>True)
   (fun g=>(49,.slice a1.1 i a1.2)::(55,.slice a2.1 i a2.2)::(61,.slice a3.1 i a3.2)::(67,.slice a4.1 i a4.2)::(50,.slice g.2.1 1 1)::gr b8 nn wo i)
   (fun g=>gn wo nn c p i j cap a1 a2 a3 a4*(c9 (g.2.1) (-1)*(aQ a1 i (-1)*(aQ a2 i 0*(aQ a3 i 0*(aQ a4 i 0*gq b8 nn c F)))))) ?_ (fun N6=> ?_)
  ·intro ⟨⟨z1,z2,z3,z4⟩,b1,b2,b3,b4⟩ _
   dsimp only
   refine fm (i:=9) (l:=[14,20,26]) ⟨?_,?_,?_,?_,trivial⟩
   ·exact bU rfl rfl rfl (lr rfl rfl rfl (by omega) (by decide)) rfl (fun _=>ab) (fun x=>b9 (K1 ⟨⟨x,z2,z3,z4⟩,b1,b2,b3,b4⟩ trivial) wN (by dsimp only;simp only[aQ,eW];exact ab))
   ·exact bU rfl rfl rfl (cR rfl rfl rfl (by decide) (by decide)) rfl (fun _=>ab) (fun x=>b9 (GR ⟨⟨z1,z2,z3,z4⟩,b1,x,b3,b4⟩ trivial) wN (ab))
   ·exact bU rfl rfl rfl (cR rfl rfl rfl (by decide) (by decide)) rfl (fun _=>ab) (fun x=>b9 (GS ⟨⟨z1,z2,z3,z4⟩,b1,b2,x,b4⟩ trivial) wN (ab))
   ·exact bU rfl rfl rfl (cR rfl rfl rfl (by decide) (by decide)) rfl (fun _=>ab) (fun x=>b9 (GU ⟨⟨z1,z2,z3,z4⟩,b1,b2,b3,x⟩ trivial) wN (ab))
  refine fW (γ:=WG) (fuel':=19) (ls':= #[tT,tT,tT,tT,tT,tT,tT,tT,fF,fF,tT,tT,tT,tT,tT,fF,tT,tT,tT,tT,fF,fF,tT,tT,tT,tT,fF,fF,fF,fF,fF,fF,fF,fF,fF,fF,fF,fF,fF,fF]) (fun _=>True)
   (fun g=>(49,.slice a1.1 i a1.2)::(55,.slice a2.1 i a2.2)::(61,.slice a3.1 i a3.2)::(67,.slice a4.1 i a4.2)::(56,.slice g.2.2.1 1 1)::gr b8 nn wo i)
   (fun g=>gn wo nn c p i j cap a1 a2 a3 a4*(c9 (g.2.2.1) 0*(aQ a1 i (-1)*(aQ a2 i 0*(aQ a3 i 0*(aQ a4 i 0*gq b8 nn c F)))))) ?_ (fun N7=> ?_)
  ·intro ⟨⟨z1,z2,z3,z4⟩,b1,b2,b3,b4⟩ _
   dsimp only
   refine fm (i:=8) (l:=[20,26]) ⟨?_,?_,?_,trivial⟩
   ·exact bU rfl rfl rfl (cR rfl rfl rfl (by decide) (by decide)) rfl (fun _=>ab) (fun x=>b9 (GR ⟨⟨z1,z2,z3,z4⟩,x,b2,b3,b4⟩ trivial) wN (ab))
   ·exact bU rfl rfl rfl (cR rfl rfl rfl (by decide) (by decide)) rfl (fun _=>ab) (fun x=>b9 (GV ⟨⟨z1,z2,z3,z4⟩,b1,b2,x,b4⟩ trivial) wN (ab))
   ·exact bU rfl rfl rfl (cR rfl rfl rfl (by decide) (by decide)) rfl (fun _=>ab) (fun x=>b9 (GW ⟨⟨z1,z2,z3,z4⟩,b1,b2,b3,x⟩ trivial) wN (ab))
  refine fW (γ:=WG) (fuel':=19) (ls':= #[tT,tT,tT,tT,tT,tT,tT,tT,fF,fF,tT,tT,tT,tT,fF,fF,tT,tT,tT,tT,tT,fF,tT,tT,tT,tT,fF,fF,fF,fF,fF,fF,fF,fF,fF,fF,fF,fF,fF,fF]) (fun _=>True)
   (fun g=>(49,.slice a1.1 i a1.2)::(55,.slice a2.1 i a2.2)::(61,.slice a3.1 i a3.2)::(67,.slice a4.1 i a4.2)::(62,.slice g.2.2.2.1 1 1)::gr b8 nn wo i)
   (fun g=>gn wo nn c p i j cap a1 a2 a3 a4*(c9 (g.2.2.2.1) 0*(aQ a1 i (-1)*(aQ a2 i 0*(aQ a3 i 0*(aQ a4 i 0*gq b8 nn c F)))))) ?_ (fun N8=> ?_)
  ·intro ⟨⟨z1,z2,z3,z4⟩,b1,b2,b3,b4⟩ _
   dsimp only
   refine fm (i:=8) (l:=[14,26]) ⟨?_,?_,?_,trivial⟩
   ·exact bU rfl rfl rfl (cR rfl rfl rfl (by decide) (by decide)) rfl (fun _=>ab) (fun x=>b9 (GS ⟨⟨z1,z2,z3,z4⟩,x,b2,b3,b4⟩ trivial) wN (ab))
   ·exact bU rfl rfl rfl (cR rfl rfl rfl (by decide) (by decide)) rfl (fun _=>ab) (fun x=>b9 (GV ⟨⟨z1,z2,z3,z4⟩,b1,x,b3,b4⟩ trivial) wN (ab))
   ·exact bU rfl rfl rfl (cR rfl rfl rfl (by decide) (by decide)) rfl (fun _=>ab) (fun x=>b9 (GX ⟨⟨z1,z2,z3,z4⟩,b1,b2,b3,x⟩ trivial) wN (ab))
  refine fW (γ:=WG) (fuel':=19) (ls':= #[tT,tT,tT,tT,tT,tT,tT,tT,fF,fF,tT,tT,tT,tT,fF,fF,tT,tT,tT,tT,fF,fF,tT,tT,tT,tT,tT,fF,fF,fF,fF,fF,fF,fF,fF,fF,fF,fF,fF,fF]) (fun _=>True)
   (fun g=>(49,.slice a1.1 i a1.2)::(55,.slice a2.1 i a2.2)::(61,.slice a3.1 i a3.2)::(67,.slice a4.1 i a4.2)::(68,.slice g.2.2.2.2 1 1)::gr b8 nn wo i)
   (fun g=>gn wo nn c p i j cap a1 a2 a3 a4*(c9 (g.2.2.2.2) 0*(aQ a1 i (-1)*(aQ a2 i 0*(aQ a3 i 0*(aQ a4 i 0*gq b8 nn c F)))))) ?_ (fun N9=> ?_)
  ·intro ⟨⟨z1,z2,z3,z4⟩,b1,b2,b3,b4⟩ _
   dsimp only
   refine fm (i:=8) (l:=[14,20]) ⟨?_,?_,?_,trivial⟩
   ·exact bU rfl rfl rfl (cR rfl rfl rfl (by decide) (by decide)) rfl (fun _=>ab) (fun x=>b9 (GU ⟨⟨z1,z2,z3,z4⟩,x,b2,b3,b4⟩ trivial) wN (ab))
   ·exact bU rfl rfl rfl (cR rfl rfl rfl (by decide) (by decide)) rfl (fun _=>ab) (fun x=>b9 (GW ⟨⟨z1,z2,z3,z4⟩,b1,x,b3,b4⟩ trivial) wN (ab))
   ·exact bU rfl rfl rfl (cR rfl rfl rfl (by decide) (by decide)) rfl (fun _=>ab) (fun x=>b9 (GX ⟨⟨z1,z2,z3,z4⟩,b1,b2,x,b4⟩ trivial) wN (ab))
  refine fm (i:=8) (l:=[14,20,26]) ⟨?_,?_,?_,?_,trivial⟩
  ·exact bU rfl rfl rfl (cR rfl rfl rfl (by decide) (by decide)) rfl (fun _=>ab) (fun x=>b9 (N6 ⟨⟨(none,0),(none,0),(none,0),(none,0)⟩,x,none,none,none⟩ trivial) wN (ab))
  ·exact bU rfl rfl rfl (cR rfl rfl rfl (by decide) (by decide)) rfl (fun _=>ab) (fun x=>b9 (N7 ⟨⟨(none,0),(none,0),(none,0),(none,0)⟩,none,x,none,none⟩ trivial) wN (ab))
  ·exact bU rfl rfl rfl (cR rfl rfl rfl (by decide) (by decide)) rfl (fun _=>ab) (fun x=>b9 (N8 ⟨⟨(none,0),(none,0),(none,0),(none,0)⟩,none,none,x,none⟩ trivial) wN (ab))
  ·exact bU rfl rfl rfl (cR rfl rfl rfl (by decide) (by decide)) rfl (fun _=>ab) (fun x=>b9 (N9 ⟨⟨(none,0),(none,0),(none,0),(none,0)⟩,none,none,none,x⟩ trivial) wN (ab))
  --END7
 ·have e:i=c.n:=by omega
  subst e
  refine aa ?_;intros
  have hd:decide (nn=none)=false:=decide_eq_false T8
  rw[hd]
  exact ae (fz rfl rfl rfl ((wo,nn),a1,a2,a3,a4) rfl (U.sat (ab)))
end
section
open Go.RowKit
set_option maxRecDepth 10000
attribute [local irreducible] EK EX ER EN EL ES EG an aR aU
variable {W:World} {F:SL} {X:Cx} {k:List KI} {σ:Env} {c:NC} {w:Nat} {wo nn jp:Option Addr} {jn jc:Nat}
attribute [local simp] Bj
structure fA where
 n:cH
 next:Nat
 clock:Nat
 evn:Nat
 bW:List Value
 ev:az
 d:az
 s:az
 t:az
 e:az
 dl:List Int
 sl:List Int
 tl:List Int
 el:List Int
abbrev Hy (wo nn:Option Addr)(c:NC)(jp:Option Addr)(jn jc:Nat)(n:cH)(next clock evn:Nat)(bW:List Value)(ev d s t e:az)(dl sl tl el:List Int)(F:SL):SL:=
 Obj wo 38 (da nn c jp jn jc (next:Int) ev evn c.n d s t e (clock:Int))*(ad 83 11 ev.1 evn ev.2 bW*(ad 3 1 d.1 c.n d.2 (aJ .i64 dl)*(ad 3 1 s.1 c.n s.2 (aJ .i64 sl)*(ad 3 1 t.1 c.n t.2 (aJ .i64 tl)*(ad 3 1 e.1 c.n e.2 (aJ .i64 el)*(dn nn c n*F))))))
abbrev fA.at (x:fA)(wo nn:Option Addr)(c:NC)(jp:Option Addr)(jn jc:Nat)(F:SL):SL:=Hy wo nn c jp jn jc x.n x.next x.clock x.evn x.bW x.ev x.d x.s x.t x.e x.dl x.sl x.tl x.el F
structure WL (c:NC)(jn:Nat)(x:fA):Prop where
 wl:x.n.wk.length=c.n
 d:x.dl.length=c.n
 e:x.el.length=c.n
 sl:x.sl.length=c.n
 tl:x.tl.length=c.n
 nx:x.next≤jn
 dA:dA x.bW=true
 xM:x.bW.length=x.evn*11
 clock:x.clock≤1000000000
 kp:x.evn≤4000000000
inductive M3 (jn w:Nat) (x y:fA):Prop
 |no (h:y=x) (g:jn≤x.next)
 |sw (t:Nat) (ht:t<20000) (n:y.n=⟨x.n.sh,x.n.wk.set w {(x.n.wk.getD w al)with aC:=some (lM t),ended:=[]}⟩) (d:y.dl=x.dl) (e:y.el=x.el.set w 0) (v:y.evn=x.evn) (nx:y.next=x.next+1) (ck:y.clock=x.clock+1)
 |fr (out:Bool) (b:List UInt8) (t:Nat) (hb:b.length≤220) (ht:t<20000) (n:y.n=⟨x.n.sh,x.n.wk.set w {(x.n.wk.getD w al)with frame:=some (oy out b t)}⟩) (d:y.dl=x.dl.set w x.evn) (e:y.el=x.el) (v:y.evn=x.evn+1) (nx:y.next=x.next+1) (ck:y.clock=x.clock+1)
abbrev wO (jn w:Nat)(c:NC)(x:fA):Type:={y:fA//M3 jn w x y∧y.sl.length=c.n∧y.tl.length=c.n∧y.next≤jn∧dA y.bW=true∧y.bW.length=y.evn*11}
structure WI (c:NC)(jn i:Nat)(x:fA):Prop where
 wl:WL c jn x
 bw:BW c x.n x.dl x.el x.evn
 safe:∃K,K≤i∧Safe c K x.next x.n
 clock:x.clock≤2*i
 kp:x.evn≤70000*i
theorem WI.fc {c:NC}{jn i w:Nat}{x:fA}(hw:w<c.n)(hi:i<50000)(h:WI c jn i x)(h1:(x.n.wk.getD w al).busy=false)(y:wO jn w c x):WI c jn (i+1) y.1∧y.1.n.sh=x.n.sh:=by
 obtain⟨y,r,l1,l2,l3,l4,l5⟩:=y
 show WI c jn (i+1) y∧y.n.sh=x.n.sh
 obtain⟨hl,hb,⟨K,hK,hs⟩,sV,sX⟩:=h
 obtain⟨i1,i2⟩:=zV h1
 cases r with
 |no h g=>
  subst h
  exact⟨⟨hl,hb,⟨K,by omega,hs⟩,by omega,by omega⟩,rfl⟩
 |sw t ht n d e v nx ck=>
  have ig:=hb.aC hw i1 (t:Int)
  have fg:=hs.aC hw h1 (tick:=(t:Int)) ⟨by omega,by omega⟩
  rw[←e,←d,←v,←n]at ig
  exact⟨⟨⟨ig.wl,ig.d,ig.e,l1,l2,l3,l4,l5,by omega,by omega⟩,ig,⟨K,by omega,by rw[nx,n];exact fg.room⟩,by omega,by omega⟩,by rw[n]⟩
 |fr out b t hlb ht n d e v nx ck=>
  have ig:=hb.begin hw i1 i2 out (b:=b) (by omega) (t:Int)
  have fg:=hs.begin hw h1 out (b:=b) (by omega) (t:Int)
  rw[←d,←e,←v,←n]at ig
  exact⟨⟨⟨ig.wl,ig.d,ig.e,l1,l2,l3,l4,l5,by omega,by omega⟩,ig,⟨K,by omega,by rw[nx,n];exact fg⟩,by omega,by omega⟩,by rw[n]⟩
theorem LC (n:Nat)(v:Int):rU n v=aJ .i64 (List.replicate n v):=by unfold rU aJ;rw[List.map_replicate]
theorem WI.new {c:NC}(hc:c.Ok)(jn:Nat)(d s t e:az):WI c jn 0 ⟨fw c,0,0,0,[],(none,0),d,s,t,e,List.replicate c.n (-1),List.replicate c.n 0,List.replicate c.n 0,List.replicate c.n 0⟩:=by
 have hb:BW c (fw c) (List.replicate c.n (-1)) (List.replicate c.n 0) 0:=BW.new fun v hv=>by
  unfold fw
  dsimp only
  rw[List.getD_eq_getElem?_getD,List.getElem?_map,List.getElem?_range hv];rfl
 exact⟨⟨hb.wl,hb.d,hb.e,List.length_replicate,List.length_replicate,Nat.zero_le _,rfl,rfl,Nat.zero_le _,Nat.zero_le _⟩,hb,⟨0,Nat.le_refl _,Safe.new hc⟩,Nat.le_refl _,Nat.le_refl _⟩
theorem dJ.hid {K:Nat}{ca:Nat→dH}{f:aM}(h:dJ c K ca f)(hc:c.Ok):10≤f.next→f.next≤17→f.id.toNat<1000000:=fun a b=>by
 have:=h.id (.inr ⟨a,b⟩)
 have:=hc.np
 omega
theorem Ra (l:List UInt8):decide (l=l)=true:=decide_eq_true rfl
set_option maxHeartbeats 4000000 in
theorem P4 {f:Nat→lR}[ro:Ro W jp jn (oH jn f)](hf:∀i,i<jn→(f i).Ok W)(hj:jn≤300)(hw:w<c.n)(hc:c.Ok){x:fA}(h:WL c jn x)(h1:(x.n.wk.getD w al).busy=false):
  Spec Tryz.prog 7 [.pointer wo,.int .i64 (w:Int)] W (x.at wo nn c jp jn jc F) (fun _:wO jn w c x=> .bool true) (fun y=>y.1.at wo nn c jp jn jc F):=by
 obtain⟨n,next,clock,evn,bW,ev,d,s,t,e,dl,sl,tl,el⟩:=x
 obtain⟨ft,iW,TF,kY,pC,oE,lH,ku,sV,sX⟩:=h
 dsimp only at ft iW TF oE kY pC lH ku sV sX h1
 simp only[fA.at]
 refine Spec.of Tryz.func7 rfl Tryz.ntmps7 rfl ?_
 have nI:=hc.n
 obtain⟨i1,i2⟩:=zV h1
 haveI:Pos c.n:=⟨by omega⟩
 by_cases bY:next<jn
 ·have yq:=hf next bY
  haveI:=yq.ro
  haveI:∀F:SL,Room W F (f next).p (f next).l.length (f next).c:=fun F=>⟨fun _ _=>yq.cap⟩
  refine aa ?_;intros
  refine jf rfl (by kernel_rfl) ?_
  repeat(refine cD ?_)
  refine aa ?_;intros
  -- the job is read
  refine ay 11 (Obj wo 38 (da nn c jp jn jc (next:Int) ev evn c.n d s t e (clock:Int))*1) rfl rfl rfl ?_
  refine bD ?_;intros
  rename_i bj
  refine aa ?_;intros
  -- since when, at which tick
  have EH:=nZ (f next).tick (m:=20000) (by decide)
  refine ay 19 (Obj wo 38 (da nn c jp jn jc ((next:Int)+1) ev evn c.n d s t e ((clock:Int)+1))*(Obj bj 76 (kB (f next))*1)) rfl rfl rfl ?_
  refine ah ?_
  refine aw rfl rfl rfl rfl rfl (xq (f next)) (fun _=>ag) ?_
  intro _
  refine ah ?_
  refine bD ?_;intros
  refine aa ?_;intros
  have AP:(f next).l.length≤140737488355328:=Nat.le_trans yq.cap yq.le
  have jH:¬(((um (f next).tick 20000:Nat):Int)<0∨((um (f next).tick 20000:Nat):Int)>4294967295):=by omega
  rcases Bool.eq_false_or_eq_true (f next).sw with gx|gx
  ·refine vi (by exact congrArg (fun b=>some (Value.bool b)) gx) ?_
   refine aa ?_;intros
   refine ay 99 (Obj wo 38 (da nn c jp jn jc ((next:Int)+1) ev evn c.n d s t e ((clock:Int)+1))*(Obj bj 76 (kB (f next))*1)) rfl rfl rfl ?_
   refine ah ?_
   refine aw rfl rfl rfl rfl rfl (xq (f next)) (fun _=>ag) ?_
   intro _
   refine ah ?_
   have rJ:u6 n w ((um (f next).tick 20000:Nat):Int)=(⟨n.sh,n.wk.set w {(n.wk.getD w al)with aC:=some (lM ((um (f next).tick 20000:Nat):Int)),ended:=[]}⟩,0):=by
    unfold u6
    rw[if_neg jH,if_neg (by rw[h1];decide)]
   have ga:w<n.wk.length:=by rw[ft];exact hw
   have fZ:((n.wk.set w {(n.wk.getD w al)with aC:=some (lM ((um (f next).tick 20000:Nat):Int)),ended:=[]}).getD w al).busy=true:=by
    rw[lP ga]
    unfold aK.busy
    dsimp only
    cases (n.wk.getD w al).frame<;>rfl
   have yf:((n.wk.set w {(n.wk.getD w al)with aC:=some (lM ((um (f next).tick 20000:Nat):Int)),ended:=[]}).getD w al).ended=[]:=by rw[lP ga]
   refine aw rfl rfl rfl rfl rfl (Spec.pre (Hr (pn:=nn) (c:=c) (n:=n) (w:=w) (tick:=((um (f next).tick 20000:Nat):Int)) (F:=Obj wo 38 (da nn c jp jn jc ((next:Int)+1) ev evn c.n d s t e ((clock:Int)+1))*(Obj bj 76 (kB (f next))*(ad 83 11 ev.1 evn ev.2 bW*(ad 3 1 d.1 c.n d.2 (aJ .i64 dl)*(ad 3 1 s.1 c.n s.2 (aJ .i64 (sl.set w ((clock:Int)+1)))*(ad 3 1 t.1 c.n t.2 (aJ .i64 (tl.set w ((um (f next).tick 20000:Nat):Int)))*(ad 3 1 e.1 c.n e.2 (aJ .i64 (el.set w 0))*F))))))) ft hw) (ag)) (fun _=>ag) ?_
   intro _
   rw[rJ]
   dsimp only
   have fZ:((⟨n.sh,n.wk.set w {(n.wk.getD w al)with aC:=some (lM ((um (f next).tick 20000:Nat):Int)),ended:=[]}⟩:cH).wk.getD w al).busy=true:=fZ
   have yf:((⟨n.sh,n.wk.set w {(n.wk.getD w al)with aC:=some (lM ((um (f next).tick 20000:Nat):Int)),ended:=[]}⟩:cH).wk.getD w al).ended=[]:=yf
   clear rJ
   obtain⟨n1,mX⟩:∃n1:cH,n1=⟨n.sh,n.wk.set w {(n.wk.getD w al)with aC:=some (lM ((um (f next).tick 20000:Nat):Int)),ended:=[]}⟩:=⟨_,rfl⟩
   rw[←mX]at fZ yf ⊢
   refine ah ?_
   refine aw rfl rfl rfl rfl rfl (Spec.pre (tM (pn:=nn) (c:=c) (n:=n1) (w:=w) (F:=Obj wo 38 (da nn c jp jn jc ((next:Int)+1) ev evn c.n d s t e ((clock:Int)+1))*(Obj bj 76 (kB (f next))*(ad 83 11 ev.1 evn ev.2 bW*(ad 3 1 d.1 c.n d.2 (aJ .i64 dl)*(ad 3 1 s.1 c.n s.2 (aJ .i64 (sl.set w ((clock:Int)+1)))*(ad 3 1 t.1 c.n t.2 (aJ .i64 (tl.set w ((um (f next).tick 20000:Nat):Int)))*(ad 3 1 e.1 c.n e.2 (aJ .i64 (el.set w 0))*F))))))) hw) (ag)) (fun _=>ag) ?_
   intro _
   rw[fZ]
   refine ah ?_
   refine aw rfl rfl rfl rfl rfl (Spec.pre (GI (pn:=nn) (c:=c) (n:=n1) (w:=w) (F:=Obj wo 38 (da nn c jp jn jc ((next:Int)+1) ev evn c.n d s t e ((clock:Int)+1))*(Obj bj 76 (kB (f next))*(ad 83 11 ev.1 evn ev.2 bW*(ad 3 1 d.1 c.n d.2 (aJ .i64 dl)*(ad 3 1 s.1 c.n s.2 (aJ .i64 (sl.set w ((clock:Int)+1)))*(ad 3 1 t.1 c.n t.2 (aJ .i64 (tl.set w ((um (f next).tick 20000:Nat):Int)))*(ad 3 1 e.1 c.n e.2 (aJ .i64 (el.set w 0))*F))))))) hw (by rw[yf];exact Nat.zero_le _)) (ag)) (fun _=>ag) ?_
   intro z
   rw[yf]
   refine ah ?_
   refine aa ?_;intros
   rw[show(next:Int)+1=((next+1:Nat):Int)from rfl,show(clock:Int)+1=((clock+1:Nat):Int)from rfl]
   exact ae (aj rfl rfl (⟨⟨n1,next+1,clock+1,evn,bW,ev,d,s,t,e,dl,sl.set w ((clock+1:Nat):Int),tl.set w ((um (f next).tick 20000:Nat):Int),el.set w 0⟩,.sw (um (f next).tick 20000) EH mX rfl rfl rfl rfl rfl,by rw[List.length_set];exact kY,by rw[List.length_set];exact pC,bY,lH,ku⟩:wO jn w c ⟨n,next,clock,evn,bW,ev,d,s,t,e,dl,sl,tl,el⟩) rfl (U.sat (by dsimp only;exact ag)))
  ·refine vh (by exact congrArg (fun b=>some (Value.bool b)) gx) ?_
   refine aa ?_;intros
   refine af rfl (PR AP (f next).out (f next).wt (f next).lj (f next).port (f next).fl (f next).jP (f next).tick (f next).kV yq.kV) ?_
   intro ⟨⟨q,b⟩,iV⟩
   dsimp only[dS.val,dS.row]at iV ⊢
   refine aa ?_;intros
   refine ay 11 (Obj wo 38 (da nn c jp jn jc ((next:Int)+1) ev evn c.n d s t e ((clock:Int)+1))*1) rfl rfl rfl ?_
   refine ah ?_
   refine bD ?_;intros
   refine aa ?_;intros
   refine ay 22 (Obj wo 38 (da nn c jp jn jc ((next:Int)+1) ev evn c.n d s t e ((clock:Int)+1))*(Obj bj 76 (kB (f next))*1)) rfl rfl rfl ?_
   refine ah ?_
   refine fm (i:=13) (l:=[15]) ⟨?a,?b,trivial⟩
   case' a=>
    refine bU rfl rfl rfl (CQ rfl rfl) rfl (fun _=>ag) (fun z=> ?_)
    refine ah ?_
    refine aw rfl rfl rfl rfl rfl (xq (f next)) (fun _=>ag) ?_
    intro _
   case' b=>
    refine su rfl rfl rfl rfl (xq (f next)) (fun _=>ag) (fun _=> ?_)
    refine ah ?_
    refine fm (i:=13) (l:=[]) ⟨bU rfl rfl rfl (CQ rfl rfl) rfl (fun _=>ag) (fun z=> ?_),trivial⟩
   all_goals
    refine ah ?_
    refine bD ?_;intros
    rename_i ez
    refine aa ?_;intros
    refine ay 99 (Obj wo 38 (da nn c jp jn jc ((next:Int)+1) ez (evn+1) c.n d s t e ((clock:Int)+1))*(Obj bj 76 (kB (f next))*(ad 5 1 q.1 b.length q.2 (ar b)*1))) rfl rfl rfl ?_
    refine ah ?_
    refine aw rfl rfl rfl rfl rfl (xq (f next)) (fun _=>ag) ?_
    intro _
    refine ah ?_
    have ga:w<n.wk.length:=by rw[ft];exact hw
    have Tq:iU n w (f next).out b ((um (f next).tick 20000:Nat):Int)=(⟨n.sh,n.wk.set w {(n.wk.getD w al)with frame:=some (oy (f next).out b ((um (f next).tick 20000:Nat):Int))}⟩,0):=by
     unfold iU
     rw[if_neg (by rw[h1];decide)]
    obtain⟨n1,mX⟩:∃n1:cH,n1=⟨n.sh,n.wk.set w {(n.wk.getD w al)with frame:=some (oy (f next).out b ((um (f next).tick 20000:Nat):Int))}⟩:=⟨_,rfl⟩
    have fZ:(n1.wk.getD w al).busy=true:=by
     rw[mX]
     dsimp only
     rw[lP ga];rfl
    have uO:n1.wk.length=c.n:=by rw[mX];exact List.length_set.trans ft
    have ig:iU n1 w true b 0=(n1,10):=by
     unfold iU
     rw[if_pos fZ]
    have fg:u6 n1 w 0=(n1,10):=by
     unfold u6
     rw[if_neg (by decide),if_pos fZ]
    refine aw rfl rfl rfl rfl rfl (Spec.pre (zv (pn:=nn) (c:=c) (n:=n) (w:=w) (out:=(f next).out) (q:=q.1) (l:=b) (cap:=q.2) (tick:=((um (f next).tick 20000:Nat):Int)) (F:=ad 5 1 q.1 b.length q.2 (ar b)*(Obj wo 38 (da nn c jp jn jc ((next:Int)+1) ez (evn+1) c.n d s t e ((clock:Int)+1))*(Obj bj 76 (kB (f next))*(ad 83 11 ez.1 (evn+1) ez.2 (bW++[.int .i64 ((clock:Int)+1),.int .i64 (-1),.bool false,.bool (f next).out,.slice z.1 b.length z.2,.int .i64 ((um (f next).tick 20000:Nat):Int),.int .i64 (-1),.slice none 0 0,.int .i64 0,.int .i64 0,.int .i64 0])*(ad 3 1 d.1 c.n d.2 (aJ .i64 (dl.set w (evn:Int)))*(ad 3 1 s.1 c.n s.2 (aJ .i64 (sl.set w ((clock:Int)+1)))*(ad 3 1 t.1 c.n t.2 (aJ .i64 (tl.set w ((um (f next).tick 20000:Nat):Int)))*(ad 3 1 e.1 c.n e.2 (aJ .i64 el)*F)))))))) (by omega) ft hw) (ag)) (fun _=>ag) ?_
    intro _
    rw[Tq,←mX]
    dsimp only
    refine ah ?_
    refine aw rfl rfl rfl rfl rfl (Spec.pre (tM (pn:=nn) (c:=c) (n:=n1) (w:=w) (F:=ad 5 1 q.1 b.length q.2 (ar b)*(Obj wo 38 (da nn c jp jn jc ((next:Int)+1) ez (evn+1) c.n d s t e ((clock:Int)+1))*(Obj bj 76 (kB (f next))*(ad 83 11 ez.1 (evn+1) ez.2 (bW++[.int .i64 ((clock:Int)+1),.int .i64 (-1),.bool false,.bool (f next).out,.slice z.1 b.length z.2,.int .i64 ((um (f next).tick 20000:Nat):Int),.int .i64 (-1),.slice none 0 0,.int .i64 0,.int .i64 0,.int .i64 0])*(ad 3 1 d.1 c.n d.2 (aJ .i64 (dl.set w (evn:Int)))*(ad 3 1 s.1 c.n s.2 (aJ .i64 (sl.set w ((clock:Int)+1)))*(ad 3 1 t.1 c.n t.2 (aJ .i64 (tl.set w ((um (f next).tick 20000:Nat):Int)))*(ad 3 1 e.1 c.n e.2 (aJ .i64 el)*F)))))))) hw) (ag)) (fun _=>ag) ?_
    intro _
    rw[fZ]
    refine ah ?_
    rw[Ra]
    refine ah ?_
    refine aw rfl rfl rfl rfl rfl (Spec.pre (zv (pn:=nn) (c:=c) (n:=n1) (w:=w) (out:=true) (q:=q.1) (l:=b) (cap:=q.2) (tick:=0) (F:=ad 5 1 q.1 b.length q.2 (ar b)*(Obj wo 38 (da nn c jp jn jc ((next:Int)+1) ez (evn+1) c.n d s t e ((clock:Int)+1))*(Obj bj 76 (kB (f next))*(ad 83 11 ez.1 (evn+1) ez.2 (bW++[.int .i64 ((clock:Int)+1),.int .i64 (-1),.bool false,.bool (f next).out,.slice z.1 b.length z.2,.int .i64 ((um (f next).tick 20000:Nat):Int),.int .i64 (-1),.slice none 0 0,.int .i64 0,.int .i64 0,.int .i64 0])*(ad 3 1 d.1 c.n d.2 (aJ .i64 (dl.set w (evn:Int)))*(ad 3 1 s.1 c.n s.2 (aJ .i64 (sl.set w ((clock:Int)+1)))*(ad 3 1 t.1 c.n t.2 (aJ .i64 (tl.set w ((um (f next).tick 20000:Nat):Int)))*(ad 3 1 e.1 c.n e.2 (aJ .i64 el)*F)))))))) (by omega) uO hw) (ag)) (fun _=>ag) ?_
    intro _
    rw[ig]
    dsimp only
    refine ah ?_
    refine aw rfl rfl rfl rfl rfl (Spec.pre (Hr (pn:=nn) (c:=c) (n:=n1) (w:=w) (tick:=0) (F:=ad 5 1 q.1 b.length q.2 (ar b)*(Obj wo 38 (da nn c jp jn jc ((next:Int)+1) ez (evn+1) c.n d s t e ((clock:Int)+1))*(Obj bj 76 (kB (f next))*(ad 83 11 ez.1 (evn+1) ez.2 (bW++[.int .i64 ((clock:Int)+1),.int .i64 (-1),.bool false,.bool (f next).out,.slice z.1 b.length z.2,.int .i64 ((um (f next).tick 20000:Nat):Int),.int .i64 (-1),.slice none 0 0,.int .i64 0,.int .i64 0,.int .i64 0])*(ad 3 1 d.1 c.n d.2 (aJ .i64 (dl.set w (evn:Int)))*(ad 3 1 s.1 c.n s.2 (aJ .i64 (sl.set w ((clock:Int)+1)))*(ad 3 1 t.1 c.n t.2 (aJ .i64 (tl.set w ((um (f next).tick 20000:Nat):Int)))*(ad 3 1 e.1 c.n e.2 (aJ .i64 el)*F)))))))) uO hw) (ag)) (fun _=>ag) ?_
    intro _
    rw[fg]
    dsimp only
    refine ah ?_
    refine aa ?_;intros
    rw[show(next:Int)+1=((next+1:Nat):Int)from rfl,show(clock:Int)+1=((clock+1:Nat):Int)from rfl]
    exact ae (aj rfl rfl (⟨⟨n1,next+1,clock+1,evn+1,bW++[.int .i64 ((clock+1:Nat):Int),.int .i64 (-1),.bool false,.bool (f next).out,.slice z.1 b.length z.2,.int .i64 ((um (f next).tick 20000:Nat):Int),.int .i64 (-1),.slice none 0 0,.int .i64 0,.int .i64 0,.int .i64 0],ez,d,s,t,e,dl.set w (evn:Int),sl.set w ((clock+1:Nat):Int),tl.set w ((um (f next).tick 20000:Nat):Int),el⟩,.fr (f next).out b (um (f next).tick 20000) iV EH mX rfl rfl rfl rfl rfl,by rw[List.length_set];exact kY,by rw[List.length_set];exact pC,bY,K5 lH rfl,by rw[List.length_append,ku,Nat.succ_mul];rfl⟩:wO jn w c ⟨n,next,clock,evn,bW,ev,d,s,t,e,dl,sl,tl,el⟩) rfl (U.sat (by dsimp only;exact ag)))
 ·refine aa ?_;intros
  refine jf rfl (by kernel_rfl) ?_
  repeat(refine cD ?_)
  refine aa ?_;intros
  exact ae (aj rfl rfl (⟨⟨n,next,clock,evn,bW,ev,d,s,t,e,dl,sl,tl,el⟩,.no rfl (by dsimp only;omega),kY,pC,oE,lH,ku⟩:wO jn w c ⟨n,next,clock,evn,bW,ev,d,s,t,e,dl,sl,tl,el⟩) rfl (U.sat (ag)))
end
section
def nR (c:NC)(w:Nat):Nat→cH→cH
 |0,n=>n
 |k+1,n=>nR c w k (bX c w n).1
def kP (c:NC)(w:Nat)(k:Nat)(n n':cH)(b:Bool):Prop:=0<k∧nR c w k n=n'∧(∀j,j+1<k→(bX c w (nR c w j n)).2=false)∧(bX c w (nR c w (k-1) n)).2=b
theorem Bz (c:NC)(w:Nat):∀(j k:Nat) (n:cH),nR c w (j+k) n=nR c w k (nR c w j n)
 |0,k,n=>by rw[Nat.zero_add];rfl
 |j+1,k,n=>by
  rw[show j+1+k=(j+k)+1 by omega]
  exact Bz c w j k _
theorem kP.one {c:NC}{w:Nat}{n n':cH}{b:Bool}(h:bX c w n=(n',b)):kP c w 1 n n' b:=⟨by decide,by show nR c w 0 _=_;rw[h];rfl,fun j hj=>by omega,by show(bX c w n).2=b;rw[h]⟩
theorem kP.trans {c:NC}{w j k:Nat}{n n' yP:cH}{b:Bool}(h:kP c w j n n' false)(g:kP c w k n' yP b):kP c w (j+k) n yP b:=by
 obtain⟨h1,h2,h3,h4⟩:=h
 obtain⟨g1,g2,g3,g4⟩:=g
 refine⟨by omega,by rw[Bz,h2];exact g2,fun i hi=> ?_,?_⟩
 ·rcases Nat.lt_or_ge (i+1) j with e|e
  ·exact h3 i e
  ·rcases Nat.lt_or_ge i j with e'|e'
   ·obtain rfl:i=j-1:=by omega
    exact h4
   ·rw[show i=j+(i-j)by omega,Bz,h2]
    exact g3 _ (by omega)
 ·rw[show j+k-1=j+(k-1)by omega,Bz,h2]
  exact g4
theorem kP.step {c:NC}{w k:Nat}{n n' yP:cH}{b:Bool}(h:bX c w n=(n',false))(g:kP c w k n' yP b):kP c w (k+1) n yP b:=by
 have:=(kP.one h).trans g
 rwa[Nat.add_comm]at this
end
section
open Go.RowKit
set_option maxRecDepth 10000
attribute [local irreducible] EK EX ER EN EL ES EG an aR aU
variable {W:World} {F G:SL} {X:Cx} {kk:List KI} {σ:Env} {c:NC} {n n':cH} {K B w m:Nat}
theorem Fh (c:NC)(w:Nat):∀(k:Nat) (n:cH),nR c w (k+1) n=(bX c w (nR c w k n)).1
 |0,_=>rfl
 |k+1,n=>Fh c w k (bX c w n).1
def vf (c:NC)(w m:Nat)(n:cH):Prop:=∀k,k<m→∃f,((nR c w k n).wk.getD w al).frame=some f
theorem Safe.FL (hc:c.Ok)(hw:w<c.n)(h:Safe c K B n)(ha:vf c w m n):∀k,k≤m→K+k≤65000→Safe c (K+k) B (nR c w k n)
 |0,_,_=>h
 |k+1,hm,hk=>by
  rw[Fh]
  obtain⟨f,hf⟩:=ha k (by omega)
  exact(Safe.FL hc hw h ha k (by omega) (by omega)).Rz hc (by omega) hw hf
theorem Safe.Iu (hc:c.Ok)(hw:w<c.n)(h:Safe c K B n)(hk:K+m≤65000){b:Bool}(g:kP c w m n n' b)(ha:vf c w m n):Safe c (K+m) B n':=by
 have:=Safe.FL hc hw h ha m (Nat.le_refl _) hk
 rwa[g.2.1]at this
theorem Safe.len (h:Safe c K B n):n.wk.length=c.n:=h.wl
theorem Ho (hT:gC W)(hc:c.Ok)(h:Safe c K B n)(hB:B≤300)(hw:w<c.n)(hm:m<20000)(hK:K+m≤65000)(g:kP c w m n n' true)(ha:vf c w m n){wo nn jp:Option Addr}{jn jc evn wn:Nat}{next clock:Int}{ev d s t e:az}:
  Spec Tryz.prog 8 [.pointer wo,.int .i64 (w:Int)] W (Obj wo 38 (da nn c jp jn jc next ev evn wn d s t e clock)*(dn nn c n*F)) (fun _:Unit=> .int .i64 (m:Int))
   (fun _=>Obj wo 38 (da nn c jp jn jc next ev evn wn d s t e clock)*(dn nn c n'*F)):=by
 refine Spec.of Tryz.func8 rfl Tryz.ntmps8 rfl ?_
 refine aa ?_;intros
 refine fy (γ:=Nat) (fun k=>k<m) (fun k=>[(0,.pointer wo),(1,.int .i64 (w:Int)),(5,.int .i64 ((k+1:Nat):Int))])
  (fun k=>Obj wo 38 (da nn c jp jn jc next ev evn wn d s t e clock)*(dn nn c (nR c w k n)*F))
  (fun k=>m-k) 0 g.1 ⟨rfl,rfl,rfl,trivial⟩ (U.sat (ab)) ?_
 intro k h1;dsimp only at h1 ⊢
 have JZ:=Safe.FL hc hw h ha k (by omega) (by omega)
 obtain⟨f,Jr⟩:=ha k h1
 have eK:=JZ.B4 hc (by omega) hB hw Jr
 have kW:=Ha (W:=W) (F:=Obj wo 38 (da nn c jp jn jc next ev evn wn d s t e clock)*F) (pn:=nn) hT hc JZ.len hw Jr eK.1 eK.2
 have oE:=Fh c w k n
 by_cases hk:k+1<m
 ·have hf:=g.2.2.1 k hk
  refine aa ?_;intros
  refine af rfl (Spec.pre kW (ab)) ?_
  intro _
  rw[hf,←oE]
  refine aa ?_;intros
  exact cJ (k+1) hk (by omega) ⟨rfl,rfl,rfl,trivial⟩ (U.sat (ab))
 ·have e:k+1=m:=by omega
  have hf:=g.2.2.2
  rw[show m-1=k by omega]at hf
  have qy:=g.2.1
  rw[←e]at qy
  refine aa ?_;intros
  refine af rfl (Spec.pre kW (ab)) ?_
  intro _
  rw[hf,←oE,qy]
  refine aa ?_;intros
  exact ae (aj rfl rfl () (by rw[e]) (U.sat (ab)))
end
section
def y7 (c:NC)(w:Nat):Nat→cH→Nat→Option (Nat×cH)
 |0,_,_=>none
 |f+1,n,k=>if(n.wk.getD w al).frame.isSome=false then none else if(bX c w n).2=true then some (k+1,(bX c w n).1)else y7 c w f (bX c w n).1 (k+1)
theorem FO {c:NC}{w:Nat}:∀ {f k m:Nat} {n n':cH},y7 c w f n k=some (m,n')→k<m∧m≤k+f∧kP c w (m-k) n n' true∧vf c w (m-k) n
 |0,_,_,_,_,h=>by cases h
 |f+1,k,m,n,n',h=>by
  unfold y7 at h
  split at h
  ·cases h
  rename_i eh
  have eh:∃f,(n.wk.getD w al).frame=some f:=by
   cases e:(n.wk.getD w al).frame with
   |none=>rw[e]at eh;exact absurd rfl eh
   |some f=>exact⟨f,rfl⟩
  split at h
  ·rename_i hb
   injection h with h
   injection h with h1 h2
   subst h1 h2
   refine⟨by omega,by omega,?_,?_⟩
   ·rw[Nat.add_sub_cancel_left]
    exact kP.one (Prod.ext rfl hb)
   ·intro j hj
    obtain rfl:j=0:=by omega
    exact eh
  ·rename_i hb
   obtain⟨g1,g2,g3,g4⟩:=FO h
   refine⟨by omega,by omega,?_,?_⟩
   ·have:=kP.step (Prod.ext rfl (by simpa using hb):bX c w n=((bX c w n).1,false)) g3
    rwa[show m-(k+1)+1=m-k by omega]at this
   ·intro j hj
    cases j with
    |zero=>exact eh
    |succ j=>exact g4 j (by omega)
def dF:NC:=⟨2,3221225985,1000,1009,4,4⟩
def Mk:Option (Nat×cH):=y7 dF 0 300 (iU (fw dF) 0 true fp 1).1 0
def F8 (n:cH):Option (Nat×cH):=y7 dF 1 300 (iU n 1 true fp 2).1 0
def wi (l:List UInt8):Nat:=if eA l=0 then(ni l).sp else 0
def Cc (a b:Nat×cH):Bool:=decide ((iU (fw dF) 0 true fp 1).2=0∧(iU a.2 1 true fp 2).2=0∧(a.2.wk.getD 1 al).busy=false∧(fE b.2 0).2.1=0∧(fE b.2 0).2.2=true∧(fE b.2 1).2.1=0∧(fE b.2 1).2.2=true)&&decide (1000≤wi (fE b.2 0).1∧(fE b.2 0).1=(fE b.2 1).1∧(b.2.wk.getD 0 al).bt.length≤1000∧(b.2.wk.getD 1 al).bt.length≤1000∧(re dF b.2.sh).length=1∧((re dF b.2.sh).getD 0 HM).seen=2)
set_option maxRecDepth 100000 in
theorem YR:(Mk.bind fun a=>(F8 a.2).map fun b=>Cc a b)=some true:=by decide+kernel
structure P0 (m1:Nat)(n1:cH)(m2:Nat)(n2:cH):Prop where
 a1:vf dF 0 m1 (iU (fw dF) 0 true fp 1).1
 a2:vf dF 1 m2 (iU n1 1 true fp 2).1
 g1:kP dF 0 m1 (iU (fw dF) 0 true fp 1).1 n1 true
 l1:0<m1∧m1≤300
 g2:kP dF 1 m2 (iU n1 1 true fp 2).1 n2 true
 l2:0<m2∧m2≤300
 b1:(iU (fw dF) 0 true fp 1).2=0
 b2:(iU n1 1 true fp 2).2=0
 idle:(n1.wk.getD 1 al).busy=false
 e1:(fE n2 0).2.1=0
 i1:(fE n2 0).2.2=true
 e2:(fE n2 1).2.1=0
 i2:(fE n2 1).2.2=true
 own:1000≤wi (fE n2 0).1
 same:(fE n2 0).1=(fE n2 1).1
 t1:(n2.wk.getD 0 al).bt.length≤1000
 t2:(n2.wk.getD 1 al).bt.length≤1000
 one:(re dF n2.sh).length=1
 seen:((re dF n2.sh).getD 0 HM).seen=2
theorem YP:∃m1 n1 m2 n2,P0 m1 n1 m2 n2:=by
 have h:=YR
 cases h1:Mk with
 |none=>rw[h1]at h;cases h
 |some a=>
  rw[h1]at h
  obtain⟨m1,n1⟩:=a
  have h:((F8 n1).map fun b=>Cc (m1,n1) b)=some true:=h
  cases h2:F8 n1 with
  |none=>rw[h2]at h;cases h
  |some b=>
   rw[h2]at h
   obtain⟨m2,n2⟩:=b
   have h:Cc (m1,n1) (m2,n2)=true:=Option.some.inj h
   unfold Cc at h
   rw[Bool.and_eq_true]at h
   obtain⟨p1,p2,p3,p4,p5,p6,p7⟩:=of_decide_eq_true h.1
   obtain⟨q1,q2,q3,q4,q5,q6⟩:=of_decide_eq_true h.2
   obtain⟨x1,x2,x3,x4⟩:=FO h1
   obtain⟨y1,y2,y3,y4⟩:=FO h2
   exact⟨m1,n1,m2,n2,x4,y4,x3,⟨x1,by omega⟩,y3,⟨y1,by omega⟩,p1,p2,p3,p4,p5,p6,p7,q1,q2,q3,q4,q5,q6⟩
theorem uR:dF.Ok:=⟨by decide,by decide,by decide,by unfold jK;decide,by decide⟩
end
section
open Go.RowKit
set_option maxRecDepth 10000
attribute [local irreducible] EK EX ER EN EL ES EG an aR aU
variable {W:World} {F G:SL} {X:Cx} {kk:List KI} {σ:Env} {c:NC} {n n':cH} {K B w m:Nat} {p:Option Addr} {l:List UInt8} {cap:Nat}
theorem Hj (hl:l.length≤140737488355328)[s:Src W F p l.length (ar l)][r:Room W F p l.length cap]:Spec Tryz.prog 25 [.slice p l.length cap] W F (fun _:Unit=> .int .i64 (wi l:Int)) (fun _=>F):=by
 refine Spec.of Tryz.func25 rfl Tryz.ntmps25 rfl ?_
 refine aa ?_;intros
 refine af rfl (Xr hl) ?_
 intro _
 refine aa ?_;intros
 have qz:(ni l).sp<65536:=by
  unfold ni
  split
  ·exact(sH.of _ _).sp
  ·decide
 by_cases h:eA l=0
 ·rw[show decide (eA l=0)=true from decide_eq_true h]
  refine aa ?_;intros
  exact ae (aj rfl rfl () (by unfold wi;rw[if_pos h]) (U.sat (ab)))
 ·rw[show decide (eA l=0)=false from decide_eq_false h]
  refine aa ?_;intros
  exact ae (aj rfl rfl () (by unfold wi;rw[if_neg h];rfl) (U.sat (ab)))
theorem Ng:Spec Tryz.prog 22 [.int .i64 1,.int .i64 9,.int .i64 1] W F (fun _:Unit=>dF.cfg.val) (fun _=>F):=by
 refine Spec.of Tryz.func22 rfl Tryz.ntmps22 rfl ?_
 refine aa ?_;intros
 refine ae (lQ (rv:= .cell 6 34) rfl ⟨_,rfl,aX.agg rfl⟩ () rfl (U.sat ?_))
 exact ab
theorem Safe.iU (h:Safe c K B n)(hw:w<c.n)(out:Bool){b:List UInt8}(hb:b.length≤140737488355328)(tick:Int):Safe c K (B+1) (iU n w out b tick).1:=by
 unfold Go.Proofs.YtfkngchldmfpfaaGreatDoor.iU
 split
 ·exact h.room
 ·rename_i ig
  exact h.begin hw (by simpa using ig) out hb tick
set_option maxHeartbeats 2000000 in
theorem ZN (hT:gC W):Spec Tryz.prog 6 [] W F (fun _:Unit=> .bool true) (fun _=>F):=by
 refine Spec.of Tryz.func6 rfl Tryz.ntmps6 rfl ?_
 obtain⟨m1,n1,m2,n2,T⟩:=YP
 refine aa ?_;intros
 refine af rfl (Hw (c:=dF) uR (x:=1) (y:=9) (z:=1) (fun _=>Ng) (p:=none) (n:=0) (cap:=0) (j:=0) (most:=0) rfl (Nat.le_refl _) (r:=⟨fun _ _=>Nat.le_refl _⟩)) ?_
 intro ⟨⟨wo,nn⟩,d,s,t,e⟩
 dsimp only
 refine aa ?_;intros
 refine af rfl PQ ?_
 intro f
 refine aa ?_;intros
 have s0:=Safe.new uR
 have aec:fp.length=28:=by unfold fp;rw[Sq];rfl
 have pk:fp.length≤1000000:=by omega
 have s1:=s0.iU (w:=0) (by decide) true (b:=fp) (by omega) 1
 have l1:=T.l1
 have l2:=T.l2
 have s2:=Safe.Iu uR (by decide) s1 (by omega) T.g1 T.a1
 have s3:=s2.iU (w:=1) (by decide) true (b:=fp) (by omega) 2
 have s4:=Safe.Iu uR (by decide) s3 (by omega) T.g2 T.a2
 refine af rfl (Spec.pre (zv (c:=dF) (n:=fw dF) (w:=0) (out:=true) (q:=f.1) (l:=fp) (cap:=f.2) (tick:=1) (F:=ad 5 1 f.1 fp.length f.2 (ar fp)*(Obj wo 38 (da nn dF none 0 0 0 (none,0) 0 dF.n d s t e 0)*(oh dF.n d s t e F))) pk s0.len (by decide)) (ab)) ?_
 intro _
 rw[T.b1]
 refine aa ?_;intros
 refine af rfl (Spec.pre (Ho (w:=0) (nn:=nn) (jp:=none) (jn:=0) (jc:=0) (evn:=0) (wn:=dF.n) (next:=0) (clock:=0) (ev:=(none,0)) (d:=d) (s:=s) (t:=t) (e:=e) (F:=ad 5 1 f.1 fp.length f.2 (ar fp)*(oh dF.n d s t e F)) hT uR s1 (by omega) (by decide) (by omega) (by omega) T.g1 T.a1) (ab)) ?_
 intro _
 refine aa ?_;intros
 refine af rfl (Spec.pre (zv (c:=dF) (n:=n1) (w:=1) (out:=true) (q:=f.1) (l:=fp) (cap:=f.2) (tick:=2) (F:=ad 5 1 f.1 fp.length f.2 (ar fp)*(Obj wo 38 (da nn dF none 0 0 0 (none,0) 0 dF.n d s t e 0)*(oh dF.n d s t e F))) pk s2.len (by decide)) (ab)) ?_
 intro _
 rw[T.b2]
 refine aa ?_;intros
 refine af rfl (Spec.pre (Ho (w:=1) (nn:=nn) (jp:=none) (jn:=0) (jc:=0) (evn:=0) (wn:=dF.n) (next:=0) (clock:=0) (ev:=(none,0)) (d:=d) (s:=s) (t:=t) (e:=e) (F:=ad 5 1 f.1 fp.length f.2 (ar fp)*(oh dF.n d s t e F)) hT uR s3 (by omega) (by decide) (by omega) (by omega) T.g2 T.a2) (ab)) ?_
 intro _
 refine aa ?_;intros
 have ED:=T.t1
 have mn:=T.t2
 refine af rfl (Spec.pre (CY (c:=dF) (n:=n2) (w:=0) (F:=ad 5 1 f.1 fp.length f.2 (ar fp)*(Obj wo 38 (da nn dF none 0 0 0 (none,0) 0 dF.n d s t e 0)*(oh dF.n d s t e F))) (by decide) (by omega)) (ab)) ?_
 intro x
 have aer:=T.own
 have uL:=T.same
 have hlen:(fE n2 0).1.length≤1000:=by
  unfold fE
  split
  ·exact ED
  ·exact Nat.zero_le _
 rw[T.e1,T.i1]
 refine aa ?_;intros
 rename_i px
 refine af rfl (Spec.pre (CY (c:=dF) (n:=n2) (w:=1) (F:=ad 5 1 x.1 (fE n2 0).1.length x.2 (ar (fE n2 0).1)*(Obj px 54 [.slice x.1 (fE n2 0).1.length x.2,.int .i64 ((0:Nat):Int)]*(ad 5 1 f.1 fp.length f.2 (ar fp)*(Obj wo 38 (da nn dF none 0 0 0 (none,0) 0 dF.n d s t e 0)*(oh dF.n d s t e F))))) (by decide) (by omega)) (ab)) ?_
 intro y
 rw[T.e2,T.i2,←uL]
 refine aa ?_;intros
 rename_i py
 refine af rfl (Spec.pre (M6 (c:=dF) (n:=n2) (F:=ad 5 1 x.1 (fE n2 0).1.length x.2 (ar (fE n2 0).1)*(Obj px 54 [.slice x.1 (fE n2 0).1.length x.2,.int .i64 ((0:Nat):Int)]*(ad 5 1 y.1 (fE n2 0).1.length y.2 (ar (fE n2 0).1)*(Obj py 54 [.slice y.1 (fE n2 0).1.length y.2,.int .i64 ((0:Nat):Int)]*(ad 5 1 f.1 fp.length f.2 (ar fp)*(Obj wo 38 (da nn dF none 0 0 0 (none,0) 0 dF.n d s t e 0)*(oh dF.n d s t e F))))))) uR s4.sh.pl) (ab)) ?_
 intro z
 obtain⟨b,hb⟩:∃b,re dF n2.sh=[b]:=List.length_eq_one_iff.1 T.one
 have A8:=T.seen
 rw[hb]at A8 ⊢
 have A8:b.seen=2:=A8
 have eb:p8 [b]=[.int .i64 (b.ai.proto:Int),.int .u32 (b.ai.addr:Int),.int .u16 (b.ai.port:Int),.int .i64 (b.port:Int),.int .i64 (b.F7:Int),.int .i64 (b.seen:Int)]:=rfl
 rw[eb,A8,List.length_singleton]
 generalize (fE n2 0).1=l at*
 refine aa ?_;intros
 refine af rfl (Hj (by omega)) ?_
 intro _
 refine aa ?_;intros
 rw[show decide (l=l)=true from decide_eq_true rfl]
 haveI:Pos 1:=⟨by decide⟩
 haveI:hU [.int .i64 (b.ai.proto:Int),.int .u32 (b.ai.addr:Int),.int .u16 (b.ai.port:Int),.int .i64 (b.port:Int),.int .i64 (b.F7:Int),.int .i64 ((2:Nat):Int)] 0 6 5 (.int .i64 ((2:Nat):Int)) (0<1):=⟨fun _=>rfl⟩
 refine aa ?_;intros
 exact ae (aj rfl rfl () rfl (U.sat (ab)))
end
end Go.Proofs.YtfkngchldmfpfaaGreatDoor
