/-
  Joined by a program (wip/bundle2.py).
-/
import Derived.Test.YtimekbpkejemoaaGreatDoorG4
import Derived.Test.YtimekbpkejemoaaGreatDoorG5
import Derived.Test.YtimekbpkejemoaaGreatDoorG7
import Derived.Test.YtimekbpkejemoaaGreatDoorG8
import Derived.Test.YtimekbpkejemoaaGreatDoorG10
import Derived.Test.YtimekbpkejemoaaGreatDoorG11
import Derived.Test.YtimekbpkejemoaaGreatDoorG12
import Derived.Test.YtimekbpkejemoaaGreatDoorG14
set_option linter.unusedVariables false
set_option linter.unusedSimpArgs false
namespace Go.Proofs.YtimekbpkejemoaaGreatDoor
section
open Go.RowKit
set_option maxRecDepth 10000
attribute [local irreducible] EK EX ER EN EL ES EG av aV aY
variable {W:World} {F:SL} {X:Cx} {k:List KI} {σ:Env}
attribute [local simp] GA
def nU (np:Nat)(a b c:Option Addr)(F:SL):Nat→SL
 |0=>F
 |1=>bp a np (cJ np)*F
 |2=>bp b np (cJ np)*(bp a np (cJ np)*F)
 |_=>bp c np (cJ np)*(bp b np (cJ np)*(bp a np (cJ np)*F))
def nv (w:Nat)(p0 p1 p2 a b c:Option Addr)(F:SL):Nat→SL
 |0=>F
 |1=>aX a p0 w [] none*F
 |2=>aX b p1 w [] none*(aX a p0 w [] none*F)
 |_=>aX c p2 w [] none*(aX b p1 w [] none*(aX a p0 w [] none*F))
def iq (p0 p1 p2:Option Addr)(wk:Nat→j8)(w:Nat):SL:=
 Obj (wk w).p 148 (Bv (wk w))*(aX (wk w).c0 p0 w [] none*(aX (wk w).c1 p1 w [] none*(aX (wk w).c2 p2 w [] none*(di (wk w).wh jg*SL.cC (wk w).m (.map #[] 0)))))
theorem iq.eq (p0 p1 p2:Option Addr)(wk:Nat→j8)(w:Nat)(F:SL):iq p0 p1 p2 wk w*F=Obj (wk w).p 148 (Bv (wk w))*(aX (wk w).c0 p0 w [] none*(aX (wk w).c1 p1 w [] none*(aX (wk w).c2 p2 w [] none*(di (wk w).wh jg*(SL.cC (wk w).m (.map #[] 0)*F))))):=by
 unfold iq
 simp only[SL.bU]
def mu (p:Option Addr)(c:NC)(R:lI):SL:=
 Obj p 127 (AM c R c.np c.n)*(an 129 1 R.ws.1 c.n R.ws.2 (dA c.n fun i=>(R.wk i).p)*(aE (iq R.p0 R.p1 R.p2 R.wk) c.n*(bO R.ep (List.replicate (c.n+1) 0) (List.replicate c.n [])*(bp R.p0 c.np (cJ c.np)*(bp R.p1 c.np (cJ c.np)*(bp R.p2 c.np (cJ c.np)*(aJ R.pl (List.replicate (2*(3*c.np)) 0)*aF R.tb R.pl c.nb (List.replicate (c.nb+1) 0))))))))
abbrev bT (p:Option Addr)(c:NC)(R:lI)(F:SL):SL:=
 Obj p 127 (AM c R c.np c.n)*(an 129 1 R.ws.1 c.n R.ws.2 (dA c.n fun i=>(R.wk i).p)*(aE (iq R.p0 R.p1 R.p2 R.wk) c.n*(bO R.ep (List.replicate (c.n+1) 0) (List.replicate c.n [])*(bp R.p0 c.np (cJ c.np)*(bp R.p1 c.np (cJ c.np)*(bp R.p2 c.np (cJ c.np)*(aJ R.pl (List.replicate (2*(3*c.np)) 0)*(aF R.tb R.pl c.nb (List.replicate (c.nb+1) 0)*F))))))))
theorem mu.eq (p:Option Addr)(c:NC)(R:lI)(F:SL):mu p c R*F=bT p c R F:=by
 unfold mu bT
 simp only[SL.bU]
set_option maxHeartbeats 4000000 in
theorem B9 {c:NC}(hc:c.Ok):Spec Tryz.prog 20 [c.cfg.val] W F (fun z:Option Addr×lI=> .tuple #[.pointer z.1,.int .i64 0]) (fun z=>mu z.1 c z.2*F):=by
 refine Spec.of Tryz.func20 rfl Tryz.ntmps20 rfl ?_
 have hg:=hc.dy
 have zL:=hc.fit
 have Ai:=hc.bo
 have z8:=ov.2 hg
 have hn:=hc.n
 have cg:1≤c.np∧c.np≤1024:=by
  obtain⟨h1,h2,h3,h4,h5⟩:=hc
  unfold NC.np;omega
 obtain⟨np,Ev⟩:∃np,c.np=np:=⟨_,rfl⟩
 rw[Ev]at cg Ai
 have ja:eK (c.nb:Int)=true:=by
  have:=hc.b
  unfold gW at this
  unfold eK
  exact decide_eq_true (by omega)
 repeat first|refine aa ?_ |intro
 rename_i x1
 refine af rfl (yO c.cfg zL) ?_
 intro _
 rw[z8]
 have e1:c.cfg.w=(c.n:Int):=rfl
 have e2:c.cfg.o=(c.o:Int):=rfl
 have e3:c.cfg.lo=(c.lo:Int):=rfl
 have e4:c.cfg.hi=(c.hi:Int):=rfl
 have e5:c.cfg.b=(c.nb:Int):=rfl
 have e6:c.cfg.r=(c.r:Int):=rfl
 repeat first|refine aa ?_ |intro
 rw[e1,e2,e3,e4,e5,e6]
 repeat first|refine aa ?_ |intro
 refine aG 99 (Obj x1 63 [.int .i64 (c.n:Int),.int .u32 (c.o:Int),.int .i64 (c.lo:Int),.int .i64 (c.hi:Int),.int .i64 (c.nb:Int),.int .i64 (c.r:Int)]*1) rfl rfl rfl ?_
 repeat(first|refine ak ?_ |refine eD ?_)
 refine aC rfl rfl rfl rfl rfl (uQ c.cfg zL) (fun _=>ab) ?_
 intro _
 rw[Ai]
 repeat(first|refine ak ?_ |refine eD ?_)
 repeat(first|refine bJ ?_ |(refine bN ?_;intro)|refine bK ?_ |refine bL ?_ |refine bM ?_ |refine eD ?_)
 repeat first|refine aa ?_ |intro
 rename_i pn
 refine af rfl (Ju hn.1 hn.2) ?_
 intro ep
 repeat first|refine aa ?_ |intro
 refine af rfl (J4 c.cfg zL) ?_
 intro _
 rw[Ai,show(3:Int)*(np:Int)=((3*np:Nat):Int)by omega]
 repeat first|refine aa ?_ |intro
 refine af rfl (J3 (n:=3*np) (by omega) (by omega)) ?_
 intro pl
 repeat first|refine aa ?_ |intro
 refine aG 13 (Obj pn 127 (lz c np 0 ep pl none none none none (none,0))*(Obj x1 63 [.int .i64 (c.n:Int),.int .u32 (c.o:Int),.int .i64 (c.lo:Int),.int .i64 (c.hi:Int),.int .i64 (c.nb:Int),.int .i64 (c.r:Int)]*1)) rfl rfl rfl ?_
 repeat(first|refine ak ?_ |refine eD ?_)
 refine aC rfl rfl rfl rfl rfl (Spec.aL pl (Kg (m:=3*np) (ws:=List.replicate (2*(3*np)) 0) ja (by simp) (by omega))) (fun _=>ab) ?_
 intro tb
 repeat(first|refine ak ?_ |refine eD ?_)
 repeat(first|refine bJ ?_ |(refine bN ?_;intro)|refine bK ?_ |refine bL ?_ |refine bM ?_ |refine eD ?_)
 refine pR rfl rfl rfl (fun _=>fH rfl) (cK rfl rfl rfl rfl rfl rfl) (cK rfl rfl rfl rfl rfl rfl) (by(first|exact U.refl _|exact U.last|(repeat(first|refine U.cons ?_ |exact U.any|exact U.last)))) ?_
 repeat first|refine aa ?_ |intro
 obtain⟨G,hG⟩:∃G,G=bO ep (List.replicate (c.n+1) 0) (List.replicate c.n [])*(aJ pl (List.replicate (2*(3*np)) 0)*(aF tb pl c.nb (List.replicate (c.nb+1) 0)*F)):=⟨_,rfl⟩
 refine ed (γ:=Nat×Option Addr×Option Addr×Option Addr) (fun g=>g.1≤3) (fun g=>[(1,.pointer x1),(4,.pointer pn),(48,.int .i64 (g.1:Int))])
  (fun g=>Obj pn 127 (lz c np 0 ep pl tb g.2.1 g.2.2.1 g.2.2.2 (none,0))*(Obj x1 63 [.int .i64 (c.n:Int),.int .u32 (c.o:Int),.int .i64 (c.lo:Int),.int .i64 (c.hi:Int),.int .i64 (c.nb:Int),.int .i64 (c.r:Int)]*nU np g.2.1 g.2.2.1 g.2.2.2 G g.1)) (fun g=>3-g.1) (0,none,none,none) (Nat.zero_le _) ⟨rfl,rfl,rfl,trivial⟩ (U.sat ?_) ?_
 ·simp only[nU,hG]
  exact ab
 intro ⟨j,a,b,d⟩ h1;dsimp only at h1 ⊢
 by_cases hj:j<3
 ·obtain rfl|rfl|rfl:j=0∨j=1∨j=2:=by omega
  ·simp only[nU]
   repeat first|refine aa ?_ |intro
   refine aG 13 (Obj pn 127 (lz c np 0 ep pl tb a b d (none,0))*1) rfl rfl rfl ?_
   repeat(first|refine ak ?_ |refine eD ?_)
   refine aC rfl rfl rfl rfl rfl (xI (n:=np) cg.1 cg.2) (fun _=>ab) ?_
   intro p
   repeat(first|refine ak ?_ |refine eD ?_)
   refine pR rfl rfl rfl (fun _=>fH rfl) (cK rfl rfl rfl rfl rfl rfl) (cK rfl rfl rfl rfl rfl rfl) (by(first|exact U.refl _|exact U.last|(repeat(first|refine U.cons ?_ |exact U.any|exact U.last)))) ?_
   repeat first|refine aa ?_ |intro
   refine db (1,p,b,d) (by dsimp only;omega) (by dsimp only;omega) ⟨rfl,rfl,rfl,trivial⟩ (U.sat ?_)
   simp only[nU]
   exact ab
  ·simp only[nU]
   repeat first|refine aa ?_ |intro
   refine aG 13 (Obj pn 127 (lz c np 0 ep pl tb a b d (none,0))*1) rfl rfl rfl ?_
   repeat(first|refine ak ?_ |refine eD ?_)
   refine aC rfl rfl rfl rfl rfl (xI (n:=np) cg.1 cg.2) (fun _=>ab) ?_
   intro p
   repeat(first|refine ak ?_ |refine eD ?_)
   refine pR rfl rfl rfl (fun _=>fH rfl) (cK rfl rfl rfl rfl rfl rfl) (cK rfl rfl rfl rfl rfl rfl) (by(first|exact U.refl _|exact U.last|(repeat(first|refine U.cons ?_ |exact U.any|exact U.last)))) ?_
   repeat first|refine aa ?_ |intro
   refine db (2,a,p,d) (by dsimp only;omega) (by dsimp only;omega) ⟨rfl,rfl,rfl,trivial⟩ (U.sat ?_)
   simp only[nU]
   exact ab
  ·simp only[nU]
   repeat first|refine aa ?_ |intro
   refine aG 13 (Obj pn 127 (lz c np 0 ep pl tb a b d (none,0))*1) rfl rfl rfl ?_
   repeat(first|refine ak ?_ |refine eD ?_)
   refine aC rfl rfl rfl rfl rfl (xI (n:=np) cg.1 cg.2) (fun _=>ab) ?_
   intro p
   repeat(first|refine ak ?_ |refine eD ?_)
   refine pR rfl rfl rfl (fun _=>fH rfl) (cK rfl rfl rfl rfl rfl rfl) (cK rfl rfl rfl rfl rfl rfl) (by(first|exact U.refl _|exact U.last|(repeat(first|refine U.cons ?_ |exact U.any|exact U.last)))) ?_
   repeat first|refine aa ?_ |intro
   refine db (3,a,b,p) (by dsimp only;omega) (by dsimp only;omega) ⟨rfl,rfl,rfl,trivial⟩ (U.sat ?_)
   simp only[nU]
   exact ab
 ·have e3:j=3:=by omega
  subst e3
  simp only[nU]
  repeat first|refine aa ?_ |intro
  refine ed (γ:=Nat×aO×(Nat→j8)) (fun g=>g.1≤c.n) (fun g=>[(4,.pointer pn),(66,.int .i64 (c.n:Int)),(67,.int .i64 (g.1:Int))])
   (fun g=>Obj pn 127 (lz c np g.1 ep pl tb a b d g.2.1)*(an 129 1 g.2.1.1 g.1 g.2.1.2 (dA g.1 fun i=>(g.2.2 i).p)*(aE (iq a b d g.2.2) g.1*(bp d np (cJ np)*(bp b np (cJ np)*(bp a np (cJ np)*G)))))) (fun g=>c.n-g.1) (0,(none,0),fun _=>⟨none,none,none,none,none,0⟩) (Nat.zero_le _) ⟨rfl,rfl,rfl,trivial⟩ (U.sat ?_) ?_
  ·refine U.cons (U.none ?_)
   show U _ (1*_)
   rw[SL.qP 1,SL.mj]
   exact ab
  intro ⟨w,ws,wk⟩ h2;dsimp only at h2 ⊢
  by_cases hw:w<c.n
  ·repeat first|refine aa ?_ |intro
   refine af rfl Kn ?_
   intro wh
   refine mr (JY rfl) rfl ?_
   intro m
   repeat first|refine aa ?_ |intro
   rename_i px
   obtain⟨G2,DX⟩:∃G2,G2=an 129 1 ws.1 w ws.2 (dA w fun i=>(wk i).p)*(aE (iq a b d wk) w*(di wh jg*(SL.cC m (.map #[] 0)*G))):=⟨_,rfl⟩
   refine ed (γ:=Nat×Option Addr×Option Addr×Option Addr) (fun g=>g.1≤3) (fun g=>[(4,.pointer pn),(6,.int .i64 (w:Int)),(7,.pointer px),(66,.int .i64 (c.n:Int)),(67,.int .i64 (w:Int)),(74,.int .i64 (g.1:Int))])
    (fun g=>Obj px 148 (uu g.2.1 g.2.2.1 g.2.2.2 wh m)*(Obj pn 127 (lz c np w ep pl tb a b d ws)*nv w a b d g.2.1 g.2.2.1 g.2.2.2 (bp d np (cJ np)*(bp b np (cJ np)*(bp a np (cJ np)*G2))) g.1)) (fun g=>3-g.1) (0,none,none,none) (Nat.zero_le _) ⟨rfl,rfl,rfl,rfl,rfl,rfl,trivial⟩ (U.sat ?_) ?_
   ·simp only[nv,DX]
    exact ab
   intro ⟨j,u1,u2,u3⟩ h3;dsimp only at h3 ⊢
   by_cases hj:j<3
   ·obtain rfl|rfl|rfl:j=0∨j=1∨j=2:=by omega
    ·simp only[nv]
     repeat first|refine aa ?_ |intro
     refine aG 16 (Obj pn 127 (lz c np w ep pl tb a b d ws)*(Obj px 148 (uu u1 u2 u3 wh m)*1)) rfl rfl rfl ?_
     repeat(first|refine ak ?_ |refine eD ?_)
     refine aC rfl rfl rfl rfl rfl (Spec.aL a (xj w)) (fun _=>ab) ?_
     intro p
     repeat(first|refine ak ?_ |refine eD ?_)
     refine pR rfl rfl rfl (fun _=>fH rfl) (cK rfl rfl rfl rfl rfl rfl) (cK rfl rfl rfl rfl rfl rfl) (by(first|exact U.refl _|exact U.last|(repeat(first|refine U.cons ?_ |exact U.any|exact U.last)))) ?_
     repeat first|refine aa ?_ |intro
     refine db (1,p,u2,u3) (by dsimp only;omega) (by dsimp only;omega) ⟨rfl,rfl,rfl,rfl,rfl,rfl,trivial⟩ (U.sat ?_)
     simp only[nv]
     exact ab
    ·simp only[nv]
     repeat first|refine aa ?_ |intro
     refine aG 16 (Obj pn 127 (lz c np w ep pl tb a b d ws)*(Obj px 148 (uu u1 u2 u3 wh m)*1)) rfl rfl rfl ?_
     repeat(first|refine ak ?_ |refine eD ?_)
     refine aC rfl rfl rfl rfl rfl (Spec.aL b (xj w)) (fun _=>ab) ?_
     intro p
     repeat(first|refine ak ?_ |refine eD ?_)
     refine pR rfl rfl rfl (fun _=>fH rfl) (cK rfl rfl rfl rfl rfl rfl) (cK rfl rfl rfl rfl rfl rfl) (by(first|exact U.refl _|exact U.last|(repeat(first|refine U.cons ?_ |exact U.any|exact U.last)))) ?_
     repeat first|refine aa ?_ |intro
     refine db (2,u1,p,u3) (by dsimp only;omega) (by dsimp only;omega) ⟨rfl,rfl,rfl,rfl,rfl,rfl,trivial⟩ (U.sat ?_)
     simp only[nv]
     exact ab
    ·simp only[nv]
     repeat first|refine aa ?_ |intro
     refine aG 16 (Obj pn 127 (lz c np w ep pl tb a b d ws)*(Obj px 148 (uu u1 u2 u3 wh m)*1)) rfl rfl rfl ?_
     repeat(first|refine ak ?_ |refine eD ?_)
     refine aC rfl rfl rfl rfl rfl (Spec.aL d (xj w)) (fun _=>ab) ?_
     intro p
     repeat(first|refine ak ?_ |refine eD ?_)
     refine pR rfl rfl rfl (fun _=>fH rfl) (cK rfl rfl rfl rfl rfl rfl) (cK rfl rfl rfl rfl rfl rfl) (by(first|exact U.refl _|exact U.last|(repeat(first|refine U.cons ?_ |exact U.any|exact U.last)))) ?_
     repeat first|refine aa ?_ |intro
     refine db (3,u1,u2,p) (by dsimp only;omega) (by dsimp only;omega) ⟨rfl,rfl,rfl,rfl,rfl,rfl,trivial⟩ (U.sat ?_)
     simp only[nv]
     exact ab
   ·have e3:j=3:=by omega
    subst e3
    simp only[nv,DX]
    repeat first|refine aa ?_ |intro
    rename_i Ts
    refine db (w+1,Ts,r9 wk w ⟨px,u1,u2,u3,wh,m⟩) (by dsimp only;omega) (by dsimp only;omega) ⟨rfl,rfl,rfl,trivial⟩ (U.sat ?_)
    dsimp only
    have Mh:(dA (w+1) fun i=>(r9 wk w ⟨px,u1,u2,u3,wh,m⟩ i).p)=dA w (fun i=>(wk i).p)++[.pointer px]:=by
     rw[←Rc,Hr]
     rw[Gz (f:=fun i=>(r9 wk w ⟨px,u1,u2,u3,wh,m⟩ i).p) (g:=fun i=>(wk i).p) fun i hi=>by rw[Hs wk _ hi]]
    have Mm:aE (iq a b d (r9 wk w ⟨px,u1,u2,u3,wh,m⟩)) w=aE (iq a b d wk) w:=aE.congr w fun i hi=>by unfold iq;rw[Hs wk _ hi]
    rw[Mh,aE.succ,Mm,SL.bU,iq.eq,Hr]
    exact ab
  ·have e4:w=c.n:=by omega
   subst e4
   subst Ev
   repeat first|refine aa ?_ |intro
   refine ae (eZ rfl rfl rfl (pn,⟨ep,pl,tb,a,b,d,ws,wk⟩) rfl (U.sat ?_))
   rw[mu.eq,hG]
   exact ab
end
section
open Go.RowKit
set_option maxRecDepth 10000
attribute [local irreducible] EK EX ER EN EL ES EG av aV aY
variable {W:World} {F:SL} {X:Cx} {k:List KI} {σ:Env} {q b:Option Addr} {f:aP} {x:fT}
def bt {α:Type}(C:α→SL):Option α→SL
 | .none=>1
 | .some a=>C a
theorem gE {α:Type}{C:α→SL}{G:SL}:bt C .none*G=G:=by
 show 1*G=G
 rw[SL.qP 1,SL.mj]
theorem cd {α:Type}{C:α→SL}{a:α}{G:SL}:bt C (.some a)*G=C a*G:=rfl
structure nh where
 b:aO
 bR:Option Addr
 find:Option Addr
 fill:Option Addr
 fin:Option Addr
 again:Option Addr
 lO:Option Addr
 enter:Option Addr
 fi:aO
def gk (p i:Option Addr)(x:jO):SL:=if x.kind≤1 then dU p x.kind i x.done*bd i x.cU else if x.kind=2 then dU p 2 i x.done else dU p 3 none x.done
abbrev ck (f:aP)(P:nh):List Value:=(Value.bool f.out::Value.slice P.b.1 f.b.length P.b.2::Value.int .i64 f.tick::Value.int .i64 (f.next:Int)::Value.int .i64 (f.ao.proto:Int)::Value.int .u32 (f.ao.addr:Int)::Value.int .u16 (f.ao.port:Int)::Value.int .i64 (f.part.proto:Int)::Value.int .u16 (f.part.sp:Int)::Value.int .u16 (f.part.dp:Int)::Value.int .i64 (f.part.flags:Int)::Value.int .i64 (f.part.kind:Int)::Value.int .i64 (f.part.code:Int)::Value.bool f.part.err::Value.int .i64 (f.part.inner.size:Int)::Value.int .i64 (f.part.inner.len:Int)::Value.int .i64 (f.part.inner.dP:Int)::Value.int .i64 (f.part.inner.proto:Int)::Value.int .u32 (f.part.inner.src:Int)::Value.int .u32 (f.part.inner.dst:Int)::Value.int .i64 (f.part.pos:Int)::Value.bool f.part.bare::Value.bool f.fq::Value.pointer P.bR::Value.pointer P.find::Value.pointer P.fill::Value.pointer P.again::Value.pointer P.enter::Value.int .i64 f.id::Value.int .i64 (f.word.st:Int)::Value.int .i64 (f.word.gen:Int)::Value.int .i64 (f.word.tr:Int)::Value.int .i64 (f.word.sn:Int)::Value.int .i64 (f.now.st:Int)::Value.int .i64 (f.now.gen:Int)::Value.int .i64 (f.now.tr:Int)::Value.int .i64 (f.now.sn:Int)::Value.int .i64 (f.dm.proto:Int)::Value.int .u32 (f.dm.addr:Int)::Value.int .u16 (f.dm.port:Int)::Value.bool f.made::Value.int .i64 (f.qH:Int)::Value.bool f.pinned::Value.slice P.fi.1 f.fj.length P.fi.2::Value.int .i64 (f.lP:Int)::Value.bool f.done::[])
def q8 (f:aP)(P:nh):List Value:=(Value.bool f.out::Value.slice P.b.1 f.b.length P.b.2::Value.int .i64 f.tick::Value.int .i64 (f.next:Int)::Value.int .i64 (f.ao.proto:Int)::Value.int .u32 (f.ao.addr:Int)::Value.int .u16 (f.ao.port:Int)::Value.int .i64 (f.part.proto:Int)::Value.int .u16 (f.part.sp:Int)::Value.int .u16 (f.part.dp:Int)::Value.int .i64 (f.part.flags:Int)::Value.int .i64 (f.part.kind:Int)::Value.int .i64 (f.part.code:Int)::Value.bool f.part.err::Value.int .i64 (f.part.inner.size:Int)::Value.int .i64 (f.part.inner.len:Int)::Value.int .i64 (f.part.inner.dP:Int)::Value.int .i64 (f.part.inner.proto:Int)::Value.int .u32 (f.part.inner.src:Int)::Value.int .u32 (f.part.inner.dst:Int)::Value.int .i64 (f.part.pos:Int)::Value.bool f.part.bare::Value.bool f.fq::Value.pointer P.bR::Value.pointer P.find::Value.pointer P.fill::Value.pointer P.again::Value.pointer P.enter::Value.int .i64 f.id::Value.int .i64 (f.word.st:Int)::Value.int .i64 (f.word.gen:Int)::Value.int .i64 (f.word.tr:Int)::Value.int .i64 (f.word.sn:Int)::Value.int .i64 (f.now.st:Int)::Value.int .i64 (f.now.gen:Int)::Value.int .i64 (f.now.tr:Int)::Value.int .i64 (f.now.sn:Int)::Value.int .i64 (f.dm.proto:Int)::Value.int .u32 (f.dm.addr:Int)::Value.int .u16 (f.dm.port:Int)::Value.bool f.made::Value.int .i64 (f.qH:Int)::Value.bool f.pinned::Value.slice P.fi.1 f.fj.length P.fi.2::Value.int .i64 (f.lP:Int)::Value.bool f.done::[])
abbrev bW (q:Option Addr)(f:aP)(P:nh)(F:SL):SL:=Obj q 141 (Value.bool f.out::Value.slice P.b.1 f.b.length P.b.2::Value.int .i64 f.tick::Value.int .i64 (f.next:Int)::Value.int .i64 (f.ao.proto:Int)::Value.int .u32 (f.ao.addr:Int)::Value.int .u16 (f.ao.port:Int)::Value.int .i64 (f.part.proto:Int)::Value.int .u16 (f.part.sp:Int)::Value.int .u16 (f.part.dp:Int)::Value.int .i64 (f.part.flags:Int)::Value.int .i64 (f.part.kind:Int)::Value.int .i64 (f.part.code:Int)::Value.bool f.part.err::Value.int .i64 (f.part.inner.size:Int)::Value.int .i64 (f.part.inner.len:Int)::Value.int .i64 (f.part.inner.dP:Int)::Value.int .i64 (f.part.inner.proto:Int)::Value.int .u32 (f.part.inner.src:Int)::Value.int .u32 (f.part.inner.dst:Int)::Value.int .i64 (f.part.pos:Int)::Value.bool f.part.bare::Value.bool f.fq::Value.pointer P.bR::Value.pointer P.find::Value.pointer P.fill::Value.pointer P.again::Value.pointer P.enter::Value.int .i64 f.id::Value.int .i64 (f.word.st:Int)::Value.int .i64 (f.word.gen:Int)::Value.int .i64 (f.word.tr:Int)::Value.int .i64 (f.word.sn:Int)::Value.int .i64 (f.now.st:Int)::Value.int .i64 (f.now.gen:Int)::Value.int .i64 (f.now.tr:Int)::Value.int .i64 (f.now.sn:Int)::Value.int .i64 (f.dm.proto:Int)::Value.int .u32 (f.dm.addr:Int)::Value.int .u16 (f.dm.port:Int)::Value.bool f.made::Value.int .i64 (f.qH:Int)::Value.bool f.pinned::Value.slice P.fi.1 f.fj.length P.fi.2::Value.int .i64 (f.lP:Int)::Value.bool f.done::[])*(an 5 1 P.b.1 f.b.length P.b.2 (aD f.b)*(bt (cj P.bR) f.bR*(bt (au P.find) f.find*(bt (gk P.fill P.fin) f.fill*(bt (gk P.again P.lO) f.again*(bt (au P.enter) f.enter*(an 5 1 P.fi.1 f.fj.length P.fi.2 (aD f.fj)*F)))))))
def oG (q:Option Addr)(f:aP)(P:nh):SL:=Obj q 141 (q8 f P)*(an 5 1 P.b.1 f.b.length P.b.2 (aD f.b)*(bt (cj P.bR) f.bR*(bt (au P.find) f.find*(bt (gk P.fill P.fin) f.fill*(bt (gk P.again P.lO) f.again*(bt (au P.enter) f.enter*(an 5 1 P.fi.1 f.fj.length P.fi.2 (aD f.fj))))))))
def aA (q:Option Addr)(f:aP):SL:=SL.ex (oG q f)
theorem oG.eq (q:Option Addr)(f:aP)(P:nh)(F:SL):oG q f P*F=bW q f P F:=by
 unfold oG bW
 simp only[SL.bU]
 rfl
theorem aA.open (h:∀P,EK X k σ (bW q f P F)):EK X k σ (aA q f*F):=ng fun P=>by
 rw[oG.eq];exact h P
theorem aA.ia {ops o:List Oper}(h:∀P,EL X k ops o σ (bW q f P F)):EL X k ops o σ (aA q f*F):=Jp fun P=>by
 rw[oG.eq];exact h P
theorem aA.shut (P:nh){l:List Value}{G:SL}(h:l=q8 f P)(hG:U G (an 5 1 P.b.1 f.b.length P.b.2 (aD f.b)*(bt (cj P.bR) f.bR*(bt (au P.find) f.find*(bt (gk P.fill P.fin) f.fill*(bt (gk P.again P.lO) f.again*(bt (au P.enter) f.enter*(an 5 1 P.fi.1 f.fj.length P.fi.2 (aD f.fj)*F)))))))):U (Obj q 141 l*G) (aA q f*F):=
 U.ex P (by
  subst h
  rw[oG.eq]
  exact U.star (U.refl _) hG)
theorem aA.bH (P:nh){H F':SL}{l:List Value}[r:bw H q (Obj q 141 l) F'](h:l=q8 f P)(hG:U F' (an 5 1 P.b.1 f.b.length P.b.2 (aD f.b)*(bt (cj P.bR) f.bR*(bt (au P.find) f.find*(bt (gk P.fill P.fin) f.fill*(bt (gk P.again P.lO) f.again*(bt (au P.enter) f.enter*(an 5 1 P.fi.1 f.fj.length P.fi.2 (aD f.fj)*F)))))))):U H (aA q f*F):=by
 rw[r.eq]
 exact aA.shut P h hG
instance (priority:=2000)(q:Option Addr)(f:aP)(F:SL):bw (aA q f*F) q (aA q f) F:=⟨rfl⟩
instance (q:Option Addr)(f:aP):jQ (aA q f) q:=⟨fun W w F H=>by
 obtain⟨P,H⟩:=H.gQ
 rw[oG.eq]at H
 exact(Obj.root q _ _).nn W w _ H⟩
structure uV where
 due:aO
 drop:Option Addr
 on:Option Addr
 fk:aO
 back:Option Addr
def Kf (x:fT)(P:uV):List Value:=(Value.int .i64 x.tick::Value.int .i64 (x.next:Int)::Value.slice P.due.1 x.due.length P.due.2::Value.int .i64 (x.word.st:Int)::Value.int .i64 (x.word.gen:Int)::Value.int .i64 (x.word.tr:Int)::Value.int .i64 (x.word.sn:Int)::Value.pointer P.drop::Value.int .i64 x.dying::Value.pointer P.on::Value.slice P.fk.1 x.fk.length P.fk.2::Value.pointer P.back::Value.bool x.done::[])
abbrev Cr (q:Option Addr)(x:fT)(b:Option Addr)(P:uV)(F:SL):SL:=Obj q 150 (Value.int .i64 x.tick::Value.int .i64 (x.next:Int)::Value.slice P.due.1 x.due.length P.due.2::Value.int .i64 (x.word.st:Int)::Value.int .i64 (x.word.gen:Int)::Value.int .i64 (x.word.tr:Int)::Value.int .i64 (x.word.sn:Int)::Value.pointer P.drop::Value.int .i64 x.dying::Value.pointer P.on::Value.slice P.fk.1 x.fk.length P.fk.2::Value.pointer P.back::Value.bool x.done::[])*(an 3 1 P.due.1 x.due.length P.due.2 (bA .i64 x.due)*(bt (au P.drop) x.drop*(bt (cj P.on) x.on*(an 3 1 P.fk.1 x.fk.length P.fk.2 (bA .i64 x.fk)*(bt (gk P.back b) x.back*F)))))
def sI (q:Option Addr)(x:fT)(b:Option Addr)(P:uV):SL:=Obj q 150 (Kf x P)*(an 3 1 P.due.1 x.due.length P.due.2 (bA .i64 x.due)*(bt (au P.drop) x.drop*(bt (cj P.on) x.on*(an 3 1 P.fk.1 x.fk.length P.fk.2 (bA .i64 x.fk)*(bt (gk P.back b) x.back)))))
def mw (q:Option Addr)(x:fT)(b:Option Addr):SL:=SL.ex (sI q x b)
theorem sI.eq (q:Option Addr)(x:fT)(b:Option Addr)(P:uV)(F:SL):sI q x b P*F=Cr q x b P F:=by
 unfold sI Cr
 simp only[SL.bU]
 rfl
instance (priority:=2000)(q:Option Addr)(x:fT)(b:Option Addr)(F:SL):bw (mw q x b*F) q (mw q x b) F:=⟨rfl⟩
instance (q:Option Addr)(x:fT)(b:Option Addr):jQ (mw q x b) q:=⟨fun W w F H=>by
 obtain⟨P,H⟩:=H.gQ
 rw[sI.eq]at H
 exact(Obj.root q _ _).nn W w _ H⟩
structure dt where
 p:Option Addr
 c:Nat→Option Addr
 q:Nat→Option Addr
 wh:Option Addr
 m:Nat
 fr:Option Addr
 sw:Option Addr
 told:aO
 ended:aO
def kv {α:Type}:Option α→Option Addr→Option Addr
 | .none,_=>none
 | .some _,a=>a
def ec (pp:Nat→Option Addr)(P:dt)(k:aU)(i:Nat):SL:=aX (P.c i) (pp i) (k.ca i).h (k.ca i).l (kv (k.ca i).out (P.q i))*bt (bd (P.q i)) (k.ca i).out
abbrev cS (P:dt)(k:aU):List Value:=[.pointer (P.c 0),.pointer (P.c 1),.pointer (P.c 2),.pointer P.wh,.map (some P.m),.pointer (kv k.frame P.fr),.pointer (kv k.bn P.sw),.slice P.told.1 k.cR.length P.told.2,.int .i64 (k.kC:Int),.bool k.any,.slice P.ended.1 k.ended.length P.ended.2]
abbrev bf (pp:Nat→Option Addr)(P:dt)(k:aU)(F:SL):SL:=Obj P.p 148 (cS P k)*(aE (ec pp P k) 3*(di P.wh k.bb*(fh gD fA P.m k.b9*(an 5 1 P.told.1 k.cR.length P.told.2 (aD k.cR)*(an 93 2 P.ended.1 k.ended.length P.ended.2 (kV k.ended)*F)))))
def sJ (pp:Nat→Option Addr)(P:dt)(k:aU):SL:=Obj P.p 148 (cS P k)*(aE (ec pp P k) 3*(di P.wh k.bb*(fh gD fA P.m k.b9*(an 5 1 P.told.1 k.cR.length P.told.2 (aD k.cR)*an 93 2 P.ended.1 k.ended.length P.ended.2 (kV k.ended)))))
theorem sJ.eq (pp:Nat→Option Addr)(P:dt)(k:aU)(F:SL):sJ pp P k*F=bf pp P k F:=by
 unfold sJ bf
 simp only[SL.bU]
structure dW where
 ep:Option Addr
 pl:Option Addr
 tb:Option Addr
 po:Nat→Option Addr
 ws:aO
 wk:Nat→dt
abbrev F3 (c:NC)(R:dW):List Value:=lz c c.np c.n R.ep R.pl R.tb (R.po 0) (R.po 1) (R.po 2) R.ws
abbrev NH (pn:Option Addr)(c:NC)(R:dW):SL:=Obj pn 127 (F3 c R)
def bC (c:NC)(R:dW)(s:bc)(i:Nat):SL:=bp (R.po i) c.np (s.po i)
abbrev eV (c:NC)(R:dW)(s:bc)(F:SL):SL:=bO R.ep s.ep s.gs*(aJ R.pl s.pl*(aF R.tb R.pl c.nb s.tb*(aE (bC c R s) 3*F)))
def sG (c:NC)(R:dW)(s:bc):SL:=bO R.ep s.ep s.gs*(aJ R.pl s.pl*(aF R.tb R.pl c.nb s.tb*aE (bC c R s) 3))
theorem sG.eq (c:NC)(R:dW)(s:bc)(F:SL):sG c R s*F=eV c R s F:=by
 unfold sG eV
 simp only[SL.bU]
end
section
open Go.RowKit
section
variable {P:Program} {md:Region.Mode} {ops:Array Oper} {Q:Exit→Act→World→Prop} {S:World→Prop} {L:Nat}
theorem Dd {listed:Array Bool}{i:Nat}(mQ:i≠L):ki ops (listed.setIfInBounds i true) L↔ki ops listed L:=by
 unfold ki
 rw[Array.getD_eq_getD_getElem?,Array.getD_eq_getD_getElem?,Array.getElem?_setIfInBounds_ne mQ]
theorem Tn {i:Nat}{oi:Oper}{v:Value}(hi:ops[i]? =some oi)(jD:∀(j:Nat) (o:Oper) cs b,ops[j]? =some o→o.op≠ .select cs b)
  (hQ:∀c a w,Q (.panic c) (a.put oi.dst v) w→Q (.panic c) a w) (mQ:i≠L):
  ∀(fuel:Nat) (listed:Array Bool) (a:Act) (w:World),
   (∀j oj,ops[j]? =some oj→j≠i→listed.getD j true=false→(∀e∈oj.after,Region.binds md e=true→e.on≠i)→oi.apart ops oj=true)→
   i∈Region.ready md ops listed→YieldsIf P ops (fun _=>True) oi v a→(¬ki ops listed L→S w)→
   wpAnyL P md ops Q S L fuel (listed.setIfInBounds i true) (a.put oi.dst v) w→wpAnyL P md ops Q S L (fuel+1) listed a w:=by
 intro fuel
 induction fuel with
 |zero=>
  intro listed a w _ hr hy hS H
  refine⟨fun h=>(by rw[h]at hr;cases hr),fun j hj=> ?_⟩
  by_cases dK:j=i
  ·subst dK;exact hy.wpOp hi trivial ⟨fun h=>hS h.2,H⟩
  ·have:=ready_mono hj dK
   rw[H.1]at this
   cases this
 |succ fuel ih=>
  intro listed a w ma hr hy hS H
  refine⟨fun h=>(by rw[h]at hr;cases hr),fun j hj=> ?_⟩
  by_cases dK:j=i
  ·subst dK;exact hy.wpOp hi trivial ⟨fun h=>hS h.2,H⟩
  ·have h1:=H.2 j (ready_mono hj dK)
   obtain⟨kT,oj,iB,jz⟩:=mem_ready.1 hj
   have qC:∀e∈oj.after,Region.binds md e=true→e.on≠i:=fun e he hb heq=>by
    have h1:=jz e he hb
    rw[heq,DP (mem_ready.1 hr).1]at h1
    cases h1
   have h2:=wpOp_putIf iB (ma j oj iB dK kT qC) (fun cs b=>jD i oi cs b hi) (fun cs b=>jD j oj cs b iB) hQ hy h1
   have qw:∀k ok,ops[k]? =some ok→k≠i→(listed.setIfInBounds j true).getD k true=false→
     (∀e∈ok.after,Region.binds md e=true→e.on≠i)→oi.apart ops ok=true:=fun k ok hk qA iF nM=>by
    refine ma k ok hk qA ?_ nM
    by_cases kq:j=k
    ·subst kq;exact kT
    ·rw[getD_set_ne true kq]at iF;exact iF
   refine wpOp_mono (fun a' w' h3=>⟨fun e=>h3.2.1 ⟨e.1,fun d=>e.2 ((Dd mQ).1 d)⟩,ih (listed.setIfInBounds j true) a' w' qw (ready_mono hr (Ne.symm dK)) h3.1 (fun hd=>h3.2.1 ⟨?_,?_⟩) ?_⟩) h2
   ·rw[Array.setIfInBounds_comm _ _ dK]
    exact h3.2.2
   ·intro e
    refine hd ?_
    subst e
    exact⟨⟨_,iB⟩,by
     have cN:j<listed.size:=by
      rcases Nat.lt_or_ge j listed.size with g|g
      ·exact g
      ·simp[Array.getElem?_eq_none g]at kT
     simp[cN]⟩
   ·intro d
    refine hd ?_
    have hd:=(Dd mQ).1 d
    refine⟨hd.1,?_⟩
    by_cases te:j=L
    ·subst te
     have cN:j<listed.size:=by
      rcases Nat.lt_or_ge j listed.size with g|g
      ·exact g
      ·simp[Array.getElem?_eq_none g]at kT
     simp[cN]
    ·rw[Array.getD_eq_getD_getElem?,Array.getElem?_setIfInBounds_ne te,←Array.getD_eq_getD_getElem?]
     exact hd.2
end
variable {X:Cx} {k:List KI} {σ:Env} {H S:SL} {ops:List Oper} {fuel L:Nat} {listed:Array Bool}
theorem Mp {o:Oper}{v:Value}{a:Act}(h:qk σ o.op=some v)(ha:Fits X.N a σ)(w:World):(execOp a.eval o).run X.P w= .ok (.value v) w:=
 fH (X:={X with W:=w}) (H:=1) h a w ha (Sat.start w)
theorem aQ (n:Nat){d:Nat}{v:Value}{op:Op}{ty:TypeId}{pos:String}{aft:Array Edge}{i:Nat}(hn:ku listed.toList n 0=some i)(hi:ops.toArray[i]? =some ⟨some d,op,ty,pos,aft,none⟩)(hd:Nat.blt d X.N=true)
  (hv:qk σ op=some v)
  (hb:(Region.noSelect ops.toArray&&Region.free .any ops.toArray listed i&&(Region.ready .any ops.toArray listed).contains i&& !(i==L))=true) (hS:U H S) {ls:Array Bool} (hl:listed.setIfInBounds i true=ls)
  (h:EG X k ops S L fuel ls ((d,v)::σ) H):EG X k ops S L (fuel+1) listed σ H:=by
 subst hl
 simp only[Bool.and_eq_true,Bool.not_eq_true',beq_eq_false_iff_ne]at hb
 obtain⟨⟨⟨hs,hf⟩,hr⟩,mQ⟩:=hb
 intro a w ha hw
 exact Tn hi (Region.noSelect_spec hs) (fun _ _ _ h=>h.elim) mQ fuel listed a w (Region.free_spec hi hf) (by simpa using hr) (.inl ⟨rfl,fun w _=>Mp (o:=⟨some d,op,ty,pos,aft,none⟩) hv ha w⟩) (fun _=>hS.sat _ hw) (h _ _ (ha.put hd v) hw)
theorem kG {H':SL}{op:Op}{ty:TypeId}{pos:String}{aft:Array Edge}(hi:ops.toArray[L]? =some ⟨none,op,ty,pos,aft,none⟩)
  (hv:aY X σ H ⟨none,op,ty,pos,aft,none⟩ H') (hr:Region.ready .any ops.toArray listed=[L]) {ls:Array Bool} (hl:listed.setIfInBounds L true=ls) (h:EG X k ops S L fuel ls σ H'):EG X k ops S L (fuel+1) listed σ H:=by
 subst hl
 intro a w ha hw
 refine mn hr ?_
 obtain⟨w',h1,h2⟩:=hv a w ha hw
 unfold wpOp
 rw[hi]
 simp only[Region.wanted,Oper.wp,h1,Oper.upon,if_true]
 exact .inl ⟨fun e=>absurd rfl e.1,h _ _ ha h2⟩
theorem kH {H':SL}{op:Op}{ty:TypeId}{pos:String}{aft:Array Edge}{i:Nat}(hn:ku listed.toList 0 0=some i)(hi:ops.toArray[i]? =some ⟨none,op,ty,pos,aft,none⟩)
  (hv:aY X σ H ⟨none,op,ty,pos,aft,none⟩ H') (hr:Region.ready .any ops.toArray listed=[i]) (kR:((ops.toArray[L]?).isSome&&listed.getD L false)=true) {ls:Array Bool} (hl:listed.setIfInBounds i true=ls)
  (h:EG X k ops S L fuel ls σ H'):EG X k ops S L (fuel+1) listed σ H:=by
 subst hl
 intro a w ha hw
 refine mn hr ?_
 obtain⟨w',h1,h2⟩:=hv a w ha hw
 unfold wpOp
 rw[hi]
 simp only[Region.wanted,Oper.wp,h1,Oper.upon,if_true]
 have hd:ki ops.toArray listed L:=by
  rw[Bool.and_eq_true]at kR
  exact⟨Option.isSome_iff_exists.1 kR.1,kR.2⟩
 exact .inl ⟨fun e=>absurd hd e.2,h _ _ ha h2⟩
theorem fo {v:Value}{d:Nat}{op:Op}{ty:TypeId}{pos:String}{aft:Array Edge}{i:Nat}(hn:ku listed.toList 0 0=some i)(hi:ops.toArray[i]? =some ⟨some d,op,ty,pos,aft,none⟩)(hd:Nat.blt d X.N=true)
  (hv:av X σ H ⟨some d,op,ty,pos,aft,none⟩ v) (hr:Region.ready .any ops.toArray listed=[i]) (kR:((ops.toArray[L]?).isSome&&listed.getD L false)=true) {ls:Array Bool} (hl:listed.setIfInBounds i true=ls)
  (h:EG X k ops S L fuel ls ((d,v)::σ) H):EG X k ops S L (fuel+1) listed σ H:=by
 subst hl
 intro a w ha hw
 refine mn hr ?_
 unfold wpOp
 rw[hi]
 simp only[Region.wanted,Oper.wp,hv a w ha hw,Oper.upon,if_true]
 have zI:ki ops.toArray listed L:=by
  rw[Bool.and_eq_true]at kR
  exact⟨Option.isSome_iff_exists.1 kR.1,kR.2⟩
 exact .inl ⟨fun e=>absurd zI e.2,h _ _ (ha.put hd _) hw⟩
end
section
open Go.RowKit
set_option maxRecDepth 10000
attribute [local irreducible] EK EX ER EN EL ES EG av aV aY
variable {W:World} {F:SL} {X:Cx} {k:List KI} {σ:Env} {pn q:Option Addr} {f:aP} {c:NC} {R:dW} {s:bc}
theorem ve {l:List UInt8}{z:aO}{e:Nat}:Spec Tryz.prog 154 [.pointer q,.slice z.1 l.length z.2,.int .i64 (e:Int)] W (an 5 1 z.1 l.length z.2 (aD l)*(aA q f*F)) (fun _:Unit=> .tuple #[]) (fun _=>aA q (f.fin l e)*F):=by
 refine Spec.of Tryz.func154 rfl Tryz.ntmps154 rfl ?_
 refine cy q (aA.open fun P=> ?_)
 simp only[bW]
 repeat first|refine aa ?_ |intro
 refine aH (aI rfl () rfl (U.sat (aA.bH {P with fi:=z} (by rfl) ?_)))
 (try dsimp only[aP.fin,aP.refuse,aP.look]);(try simp only[cd]);first|exact U.refl _|exact U.last|(repeat(first|refine U.cons ?_ |exact U.any|exact U.last))
theorem vd {e:Nat}:Spec Tryz.prog 154 [.pointer q,.slice none 0 0,.int .i64 (e:Int)] W (aA q f*F) (fun _:Unit=> .tuple #[]) (fun _=>aA q (f.fin [] e)*F):=
 Spec.pre (ve (l:=[]) (z:=(none,0)) (e:=e)) (U.none (U.refl _))
theorem vl {e:Nat}:Spec Tryz.prog 140 [.pointer q,.int .i64 (e:Int)] W (aA q f*F) (fun _:Unit=> .tuple #[]) (fun _=>aA q (f.refuse e)*F):=by
 refine Spec.of Tryz.func140 rfl Tryz.ntmps140 rfl ?_
 refine aA.open fun P=> ?_
 simp only[bW]
 repeat first|refine aa ?_ |intro
 refine aH (aI rfl () rfl (U.sat (aA.bH {P with fi:=(none,0)} (by rfl) ?_)))
 dsimp only[aP.refuse]
 exact U.cons (U.cons (U.cons (U.cons (U.cons (U.cons (U.none (ab)))))))
theorem vf {id:Int}{w:br}:Spec Tryz.prog 151 [.pointer q,.int .i64 id,hJ w] W (aA q f*F) (fun _:Unit=> .tuple #[]) (fun _=>aA q (f.iA id w)*F):=by
 refine Spec.of Tryz.func151 rfl Tryz.ntmps151 rfl ?_
 refine aA.open fun P=> ?_
 simp only[bW]
 repeat first|refine aa ?_ |intro
 rename_i y
 refine aG 10 (Obj y 139 (wL w [])*(gu q 141*1)) rfl rfl rfl ?_
 repeat(first|refine ak ?_ |refine aQ 0 rfl rfl rfl rfl (by decide+kernel) (az) rfl ?_ |refine aQ 1 rfl rfl rfl rfl (by decide+kernel) (az) rfl ?_ |refine aQ 2 rfl rfl rfl rfl (by decide+kernel) (az) rfl ?_ |refine aQ 3 rfl rfl rfl rfl (by decide+kernel) (az) rfl ?_)
 repeat(first|refine bJ ?_ |(refine bN ?_;intro)|refine bK ?_ |refine bL ?_ |refine bM ?_ |refine eD ?_)
 by_cases hw:w.st=1
 ·repeat first|refine aa ?_ |intro
  rw[show f.iA id w={f with id:=id,word:=w,next:=3}by unfold aP.iA;rw[if_pos hw]]
  exact aH (aI rfl () rfl (U.sat (aA.bH P (by rfl) (by(try dsimp only[aP.fin,aP.refuse,aP.look]);(try simp only[cd]);exact ab))))
 ·repeat first|refine aa ?_ |intro
  rw[show f.iA id w={f with id:=id,word:=w,next:=4}by unfold aP.iA;rw[if_neg hw]]
  exact aH (aI rfl () rfl (U.sat (aA.bH P (by rfl) (by(try dsimp only[aP.fin,aP.refuse,aP.look]);(try simp only[cd]);exact ab))))
structure eH (f:aP):Prop where
 cH:f.b.length≤140737488355328
 tick:0≤f.tick∧f.tick≤4294967295
 proto:f.ao.proto<256
 addr:f.ao.addr<4294967296
 port:f.ao.port<65536
 flags:f.part.flags<256
theorem zn (hf:eK (c.nb:Int)=true)(h:eH f):Spec Tryz.prog 114 [.pointer pn,.pointer q] W (aA q f*(NH pn c R*(aF R.tb R.pl c.nb s.tb*F))) (fun _:Unit=> .tuple #[]) (fun _=>aA q (f.look c)*(NH pn c R*(aF R.tb R.pl c.nb s.tb*F))):=by
 refine Spec.of Tryz.func114 rfl Tryz.ntmps114 rfl ?_
 have h1:=h.proto
 refine aA.open fun P=> ?_
 simp only[bW]
 repeat first|refine aa ?_ |intro
 refine aG 13 (NH pn c R*(Obj q 141 (ck f P)*1)) rfl rfl rfl ?_
 repeat(first|refine ak ?_ |refine aQ 0 rfl rfl rfl rfl (by decide+kernel) (az) rfl ?_ |refine aQ 1 rfl rfl rfl rfl (by decide+kernel) (az) rfl ?_ |refine aQ 2 rfl rfl rfl rfl (by decide+kernel) (az) rfl ?_ |refine aQ 3 rfl rfl rfl rfl (by decide+kernel) (az) rfl ?_)
 refine aC rfl rfl rfl rfl rfl (Spec.aL R.tb (Cs hf (by omega) h.addr h.port)) (fun _=>ab) ?_
 intro g
 repeat(first|refine ak ?_ |refine aQ 0 rfl rfl rfl rfl (by decide+kernel) (az) rfl ?_ |refine aQ 1 rfl rfl rfl rfl (by decide+kernel) (az) rfl ?_ |refine aQ 2 rfl rfl rfl rfl (by decide+kernel) (az) rfl ?_ |refine aQ 3 rfl rfl rfl rfl (by decide+kernel) (az) rfl ?_)
 (refine kG rfl (cK rfl rfl rfl rfl rfl rfl) (by decide+kernel) rfl ?_);repeat(first|refine fo rfl rfl rfl (gx rfl rfl) (by decide+kernel) (by decide+kernel) rfl ?_ |refine fo rfl rfl rfl (gw rfl rfl) (by decide+kernel) (by decide+kernel) rfl ?_ |refine kH rfl rfl (cK rfl rfl rfl rfl rfl rfl) (by decide+kernel) (by decide+kernel) rfl ?_ |refine eD ?_)
 repeat first|refine aa ?_ |intro
 refine aH (aI rfl () rfl (U.sat (aA.bH {P with find:=g} (by rfl) ?_)))
 dsimp only[aP.look,kA]
 simp only[cd]
 exact ab
theorem DN {w:br}{P:nh}(h:eH f)(hw:w.tr≤4):Spec Tryz.prog 168 [.pointer q,hJ w] W (Obj q 141 (ck f P)*F) (fun _:Unit=>hJ (f.gY w)) (fun _=>Obj q 141 (ck f P)*F):=by
 refine Spec.of Tryz.func168 rfl Tryz.ntmps168 rfl ?_
 have h1:=h.proto
 have h2:=h.flags
 have h3:=h.tick
 by_cases he:f.part.err=true
 ·have e:f.gY w=w:=by unfold aP.gY;rw[if_pos he]
  rw[e]
  repeat first|refine aa ?_ |intro
  refine sj (by rw[he];rfl) ?_
  repeat first|refine aa ?_ |intro
  exact ae (js (rv:= .cell 4 139) rfl ⟨_,rfl,aT.agg rfl⟩ () rfl (U.sat (ab)))
 ·have he:f.part.err=false:=by simpa using he
  have e:f.gY w={w with tr:=j1 f.ao.proto w.tr f.out f.part.flags,sn:=if lD f.ao.proto f.out then max w.sn f.tick.toNat else w.sn}:=by unfold aP.gY;rw[if_neg (by rw[he];decide)]
  rw[e]
  repeat first|refine aa ?_ |intro
  refine si (by rw[he];rfl) ?_
  repeat first|refine aa ?_ |intro
  rename_i y z
  refine aG 18 (Obj y 139 (wL w [])*(Obj q 141 (ck f P)*1)) rfl rfl rfl ?_
  repeat(first|refine ak ?_ |refine eD ?_)
  refine aC rfl rfl rfl rfl rfl (xJ f.ao.proto w.tr f.part.flags f.out hw h2 h1) (fun _=>ab) ?_
  intro _
  repeat(first|refine ak ?_ |refine eD ?_)
  repeat(first|refine bJ ?_ |(refine bN ?_;intro)|refine bK ?_ |refine bL ?_ |refine bM ?_ |refine eD ?_)
  generalize j1 f.ao.proto w.tr f.out f.part.flags=nx
  repeat first|refine aa ?_ |intro
  refine aG 99 (Obj q 141 (ck f P)*1) rfl rfl rfl ?_
  repeat(first|refine ak ?_ |refine eD ?_)
  refine aC rfl rfl rfl rfl rfl (J9 f.ao.proto f.out) (fun _=>ab) ?_
  intro _
  repeat(first|refine ak ?_ |refine eD ?_)
  cases hr:lD f.ao.proto f.out with
  |true=>
   repeat first|refine aa ?_ |intro
   refine aG 8 (Obj y 139 (wL {w with tr:=nx} [])*(Obj q 141 (ck f P)*1)) rfl rfl rfl ?_
   repeat(first|refine ak ?_ |refine eD ?_)
   repeat(first|refine bJ ?_ |(refine bN ?_;intro)|refine bK ?_ |refine bL ?_ |refine bM ?_ |refine eD ?_)
   repeat first|refine aa ?_ |intro
   have em:((max w.sn f.tick.toNat:Nat):Int)=max (w.sn:Int) f.tick:=by omega
   rw[if_pos rfl]
   exact ae (js (rv:= .cell 4 139) rfl ⟨_,rfl,aT.agg rfl⟩ () (by simp only[hJ];rw[em]) (U.sat (ab)))
  |false=>
   repeat first|refine aa ?_ |intro
   rw[if_neg (by decide)]
   exact ae (js (rv:= .cell 4 139) rfl ⟨_,rfl,aT.agg rfl⟩ () rfl (U.sat (ab)))
theorem My (hc:c.Ok){id:Nat}(h:eH f)(hid:id<3*c.np):Spec Tryz.prog 157 [.pointer pn,.pointer q,.int .i64 (id:Int)] W (aA q f*(NH pn c R*F)) (fun _:Unit=> .tuple #[]) (fun _=>aA q (f.goes c (id:Int))*(NH pn c R*F)):=by
 refine Spec.of Tryz.func157 rfl Tryz.ntmps157 rfl ?_
 have hp:=hc.p
 have ho:=hc.o
 have mM:=h.cH
 have cg:c.np=c.hi+1-c.lo:=rfl
 haveI:Pos c.np:=⟨by omega⟩
 have hr:id%c.np<c.np:=Nat.mod_lt _ (by omega)
 refine aA.open fun P=> ?_
 simp only[bW]
 repeat first|refine aa ?_ |intro
 refine aG 26 (NH pn c R*(Obj q 141 (ck f P)*1)) rfl rfl rfl ?_
 repeat(first|refine ak ?_ |refine eD ?_)
 rw[show((c.lo:Int)+(id:Int)%(c.np:Int))=((c.lo+id%c.np:Nat):Int)by omega]
 refine aC rfl rfl rfl rfl rfl (J0 (l:=f.b) mM c.o (c.lo+id%c.np) (by omega) (by omega)) (fun _=>ab) ?_
 intro z
 repeat(first|refine ak ?_ |refine eD ?_)
 simp only[sF]
 refine jr rfl rfl rfl rfl (Spec.pre (ve (q:=q) (f:=f) (l:=jH f.b true c.o (c.lo+id%c.np)) (z:=z) (e:=dv f.b) (F:=NH pn c R*F)) (U.cons (aA.bH P (by rfl) (ab)))) ?_
 intro _
 repeat(first|refine ak ?_ |refine eD ?_)
 repeat first|refine aa ?_ |intro
 exact aH (aI rfl () rfl (U.sat (U.refl _)))
end
section
open Go.RowKit
set_option maxRecDepth 10000
attribute [local irreducible] EK EX ER EN EL ES EG av aV aY
variable {W:World} {F:SL} {X:Cx} {k:List KI} {σ:Env} {pn q:Option Addr} {f:aP} {c:NC} {R:dW} {s:bc}
theorem NC.Ok.oX (h:c.Ok):eK (c.nb:Int)=true:=by
 have:=h.b
 unfold gW at this
 unfold eK
 exact decide_eq_true (by omega)
theorem NC.Ok.np (h:c.Ok):1≤c.np∧c.np≤1024:=by
 obtain⟨_,_,h3,_,_⟩:=h
 unfold NC.np
 omega
theorem NC.Ok.nb (h:c.Ok):2≤c.nb∧c.nb≤1024:=by
 have:=h.b
 unfold gW at this
 omega
theorem Bw {a b:br}:(@decide (([.int .i64 (a.st:Int),.int .i64 (a.gen:Int),.int .i64 (a.tr:Int),.int .i64 (a.sn:Int)]:List Value)=[.int .i64 (b.st:Int),.int .i64 (b.gen:Int),.int .i64 (b.tr:Int),.int .i64 (b.sn:Int)]) (Classical.propDecidable _))=decide (a=b):=by
 obtain⟨a1,a2,a3,a4⟩:=a
 obtain⟨b1,b2,b3,b4⟩:=b
 rw[decide_eq_decide]
 simp only[List.cons.injEq,Value.int.injEq,br.mk.injEq,and_true,true_and,Int.natCast_inj]
theorem zh (hc:c.Ok){id:Int}(h:eH f)(h0:0≤id)(h1:id<((3*c.np:Nat):Int)):Spec Tryz.prog 157 [.pointer pn,.pointer q,.int .i64 id] W (aA q f*(NH pn c R*F)) (fun _:Unit=> .tuple #[]) (fun _=>aA q (f.goes c id)*(NH pn c R*F)):=by
 have h:=My (W:=W) (F:=F) (pn:=pn) (q:=q) (R:=R) (id:=id.toNat) hc h (by omega)
 rw[show((id.toNat:Nat):Int)=id by omega]at h
 exact h
theorem rP {p:Option Addr}{id:Int}(hc:c.Ok)(hp:cp (3*c.np) s.pl)(h0:0≤id)(h1:id<((3*c.np:Nat):Int)):Spec Tryz.prog 67 [.pointer p,.int .i64 id] W (aJ p s.pl*F) (fun _:Unit=>hJ (cb s id)) (fun _=>aJ p s.pl*F):=by
 have cg:=hc.np
 have h:=p8 (W:=W) (F:=F) (p:=p) (i:=id.toNat) hp.len (by omega) (by omega) hp.w
 rw[show((id.toNat:Nat):Int)=id by omega]at h
 exact h
theorem rN {p:Option Addr}{id:Int}{a b:br}(hc:c.Ok)(hp:cp (3*c.np) s.pl)(h0:0≤id)(h1:id<((3*c.np:Nat):Int))(ha:a.ok)(hb:b.ok):Spec Tryz.prog 155 [.pointer p,.int .i64 id,hJ a,hJ b] W (aJ p s.pl*F) (fun _:Unit=> .bool (iX s id a b)) (fun _=>aJ p (bV s id a b).pl*F):=by
 have cg:=hc.np
 have h:=J2 (W:=W) (F:=F) (p:=p) (i:=id.toNat) hp.len (by omega) (by omega) ha hb
 rw[show((id.toNat:Nat):Int)=id by omega]at h
 have e:(bV s id a b).pl=if kr a b=true∧s.pl.getD (2*id.toNat) 0=a.num then s.pl.set (2*id.toNat) b.num else s.pl:=by
  unfold bV iX
  simp only[Bool.and_eq_true,decide_eq_true_eq]
  split<;>rfl
 rw[e]
 exact h
theorem QM (hc:c.Ok)(hp:cp (3*c.np) s.pl)(h:eH f)(h0:0≤f.id)(h1:f.id<((3*c.np:Nat):Int)):Spec Tryz.prog 156 [.pointer pn,.pointer q] W (aA q f*(NH pn c R*(aJ R.pl s.pl*(aF R.tb R.pl c.nb s.tb*F)))) (fun _:Unit=> .tuple #[])
  (fun _=>aA q (um c s f)*(NH pn c R*(aJ R.pl s.pl*(aF R.tb R.pl c.nb s.tb*F)))):=by
 refine Spec.of Tryz.func156 rfl Tryz.ntmps156 rfl ?_
 have cg:=hc.np
 have ja:=hc.oX
 have tF:(cb s f.id).tr≤4:=hp.tr f.id.toNat
 refine aA.open fun P=> ?_
 simp only[bW]
 refine pV ?_
 refine mq (γ:=Option Addr) (fun _=>True) (fun y=>[(0,.pointer pn),(1,.pointer q),(4,.pointer y)]) (fun y=>Obj y 139 (wL (cb s f.id) [])*bW q f P (NH pn c R*(aJ R.pl s.pl*(aF R.tb R.pl c.nb s.tb*F)))) ?_ ?_
 ·repeat first|refine aa ?_ |intro
  refine aG 10 (NH pn c R*(Obj q 141 (ck f P)*1)) rfl rfl rfl ?_
  repeat(first|refine ak ?_ |refine eD ?_)
  refine oE (i:=8) (j:=9) (pS rfl rfl rfl rfl (Spec.aL R.pl (rP hc hp h0 h1)) (fun _=>ab) ?_) (pT rfl rfl (nm rfl) rfl (fun _=>ab) ?_)
  ·intro _
   repeat(first|refine bJ ?_ |(refine bN ?_;intro)|refine bK ?_ |refine bL ?_ |refine bM ?_ |refine eD ?_)
   rename_i y
   repeat first|refine aa ?_ |intro
   exact fv y trivial ⟨rfl,rfl,rfl,trivial⟩ (U.sat (ab))
  ·intro y
   refine aC rfl rfl rfl rfl rfl (Spec.aL R.pl (rP hc hp h0 h1)) (fun _=>ab) ?_
   intro _
   repeat(first|refine bJ ?_ |(refine bN ?_;intro)|refine bK ?_ |refine bL ?_ |refine bM ?_ |refine eD ?_)
   repeat first|refine aa ?_ |intro
   exact fv y trivial ⟨rfl,rfl,rfl,trivial⟩ (U.sat (ab))
 intro y _
 unfold um
 generalize cb s f.id=w at*
 simp only[bW]
 by_cases hg:w.gen=f.word.gen
 ·by_cases w2:w.st=2
  ·rw[if_neg (by omega),if_neg (by omega)]
   repeat first|refine aa ?_ |intro
   (refine aG 99 (Obj y 139 (wL w [])*(Obj q 141 (ck f P)*1)) rfl rfl rfl ?_);(repeat(first|refine ak ?_ |refine eD ?_));(repeat first|refine aa ?_ |intro)
   refine aG 15 (Obj y 139 (wL w [])*(gu q 141*1)) rfl rfl rfl ?_
   repeat(first|refine ak ?_ |refine aQ 0 rfl rfl rfl rfl (by decide+kernel) (az) rfl ?_ |refine aQ 1 rfl rfl rfl rfl (by decide+kernel) (az) rfl ?_ |refine aQ 2 rfl rfl rfl rfl (by decide+kernel) (az) rfl ?_ |refine aQ 3 rfl rfl rfl rfl (by decide+kernel) (az) rfl ?_)
   refine aC rfl rfl rfl rfl rfl (Spec.aL q (DN (P:=P) h tF)) (fun _=>by(repeat(first|refine U.cons ?_ |refine U.tV ?_ |exact U.any|exact U.last))) ?_
   intro _
   repeat(first|refine ak ?_ |refine aQ 0 rfl rfl rfl rfl (by decide+kernel) (az) rfl ?_ |refine aQ 1 rfl rfl rfl rfl (by decide+kernel) (az) rfl ?_ |refine aQ 2 rfl rfl rfl rfl (by decide+kernel) (az) rfl ?_ |refine aQ 3 rfl rfl rfl rfl (by decide+kernel) (az) rfl ?_)
   repeat(first|refine bJ ?_ |(refine bN ?_;intro)|refine bK ?_ |refine bL ?_ |refine bM ?_ |refine eD ?_)
   repeat first|refine aa ?_ |intro
   obtain⟨g,hg⟩:∃g:aP,g={f with word:=w,now:=f.gY w,next:=5}:=⟨_,rfl⟩
   have s9:g.now=f.gY w:=by rw[hg]
   have s8:g.id=f.id:=by rw[hg]
   have pe:eH g:=by rw[hg];exact⟨h.cH,h.tick,h.proto,h.addr,h.port,h.flags⟩
   have e1:({f with word:=w,now:=f.gY w,next:=5}:aP)=g:=hg.symm
   rw[e1]
   refine iS (G:=Obj y 139 (wL w [])*bW q g P (NH pn c R*(aJ R.pl s.pl*(aF R.tb R.pl c.nb s.tb*F)))) (by rw[hg];exact ab) ?_
   simp only[bW]
   refine aG 99 (Obj y 139 (wL w [])*(Obj q 141 (ck g P)*1)) rfl rfl rfl ?_
   repeat(first|refine ak ?_ |refine eD ?_)
   rw[Bw]
   by_cases heq:f.gY w=w
   ·rw[if_pos heq,decide_eq_true (by rw[s9];exact heq)]
    repeat first|refine aa ?_ |intro
    refine af rfl (Spec.pre (zh (pn:=pn) (q:=q) (f:=g) (R:=R) (id:=g.id) (F:=Obj y 139 (wL w [])*(aJ R.pl s.pl*(aF R.tb R.pl c.nb s.tb*F))) hc pe (by omega) (by omega)) (aA.bH P (by rfl) (ab))) ?_
    intro _
    repeat first|refine aa ?_ |intro
    rw[s8]
    exact aH (aI rfl () rfl (U.sat (ab)))
   ·rw[if_neg heq,decide_eq_false (by rw[s9];exact heq)]
    repeat first|refine aa ?_ |intro
    exact aH (aI rfl () rfl (U.sat (aA.bH P (by rfl) (ab))))
  ·by_cases w1:w.st=1
   ·rw[if_neg (by omega),if_pos w1]
    repeat first|refine aa ?_ |intro
    (refine aG 99 (Obj y 139 (wL w [])*(Obj q 141 (ck f P)*1)) rfl rfl rfl ?_);(repeat(first|refine ak ?_ |refine eD ?_));(repeat first|refine aa ?_ |intro)
    refine aG 6 (Obj y 139 (wL w [])*(Obj q 141 (ck f P)*1)) rfl rfl rfl ?_
    repeat(first|refine ak ?_ |refine eD ?_)
    refine jr rfl rfl rfl rfl (Spec.pre (vf (q:=q) (f:=f) (id:=f.id) (w:=w) (F:=Obj y 139 (wL w [])*(NH pn c R*(aJ R.pl s.pl*(aF R.tb R.pl c.nb s.tb*F))))) (aA.bH P (by rfl) (ab))) ?_
    intro _
    repeat(first|refine ak ?_ |refine eD ?_)
    repeat first|refine aa ?_ |intro
    exact aH (aI rfl () rfl (U.sat (ab)))
   ·rw[if_pos (.inr ⟨w2,w1⟩)]
    repeat first|refine aa ?_ |intro
    (refine aG 99 (Obj y 139 (wL w [])*(Obj q 141 (ck f P)*1)) rfl rfl rfl ?_);(repeat(first|refine ak ?_ |refine eD ?_));(repeat first|refine aa ?_ |intro)
    refine af rfl (Spec.pre (zn (pn:=pn) (q:=q) (f:=f) (R:=R) (s:=s) (F:=Obj y 139 (wL w [])*(aJ R.pl s.pl*F)) ja h) (aA.bH P (by rfl) (ab))) ?_;intro _;(repeat first|refine aa ?_ |intro);exact aH (aI rfl () rfl (U.sat (ab)))
 ·rw[if_pos (.inl hg)]
  repeat first|refine aa ?_ |intro
  (refine aG 99 (Obj y 139 (wL w [])*(Obj q 141 (ck f P)*1)) rfl rfl rfl ?_);(repeat(first|refine ak ?_ |refine eD ?_));(repeat first|refine aa ?_ |intro)
  refine af rfl (Spec.pre (zn (pn:=pn) (q:=q) (f:=f) (R:=R) (s:=s) (F:=Obj y 139 (wL w [])*(aJ R.pl s.pl*F)) ja h) (aA.bH P (by rfl) (ab))) ?_;intro _;(repeat first|refine aa ?_ |intro);exact aH (aI rfl () rfl (U.sat (ab)))
end
section
open Go.RowKit
set_option maxRecDepth 10000
attribute [local irreducible] EK EX ER EN EL ES EG av aV aY
variable {W:World} {F G:SL} {X:Cx} {kk:List KI} {σ:Env} {pn q:Option Addr} {f:aP} {c:NC} {R:dW} {s:bc} {k:aU} {P:dt} {pp:Nat→Option Addr}
theorem kf {i:Nat}(hi:i<3)(ho:(k.ca i).out=none):aE (ec pp P k) 3*G=aX (P.c i) (pp i) (k.ca i).h (k.ca i).l none*(aE (dw (ec pp P k) i) 3*G):=by
 rw[aE.at 3 hi,SL.bU]
 show ec pp P k i*_=_
 unfold ec
 rw[ho,SL.bU,gE]
 rfl
theorem wu {i:Nat}(hi:i<3):aE (bC c R s) 3*G=bp (R.po i) c.np (s.po i)*(aE (dw (bC c R s) i) 3*G):=by
 rw[aE.at 3 hi,SL.bU]
 rfl
theorem CZ (k:aU)(a:dD){i j:Nat}(hj:j<3)(hi:i<3)(h:j≠i):(k.c6 i a).ca j=k.ca j:=by
 unfold aU.c6 aU.ca
 rcases(show i=0∨i=1∨i=2 by omega)with rfl|rfl|rfl<;>rcases(show j=0∨j=1∨j=2 by omega)with rfl|rfl|rfl<;>first|exact absurd rfl h|rfl
theorem yV (k:aU)(a:dD){i:Nat}(hi:i<3):(k.c6 i a).ca i=a:=by
 unfold aU.c6 aU.ca
 rcases(show i=0∨i=1∨i=2 by omega)with rfl|rfl|rfl<;>rfl
theorem yW {i:Nat}(hi:i<3)(a:dD):aE (ec pp P (k.c6 i a)) 3*G=aX (P.c i) (pp i) a.h a.l (kv a.out (P.q i))*(bt (bd (P.q i)) a.out*(aE (dw (ec pp P k) i) 3*G)):=by
 rw[aE.at 3 hi,SL.bU]
 show ec pp P (k.c6 i a) i*_=_
 have e:aE (dw (ec pp P (k.c6 i a)) i) 3=aE (dw (ec pp P k) i) 3:=aE.congr 3 fun j hj=>by
  unfold dw
  split
  ·rfl
  ·rename_i h
   unfold ec
   rw[CZ k a hj hi h]
 rw[e]
 unfold ec
 rw[yV k a hi,SL.bU]
theorem Gv (s:bc)(w:List Nat){i j:Nat}(hj:j<3)(hi:i<3)(h:j≠i):(s.eO i w).po j=s.po j:=by
 unfold bc.eO bc.po
 rcases(show i=0∨i=1∨i=2 by omega)with rfl|rfl|rfl<;>rcases(show j=0∨j=1∨j=2 by omega)with rfl|rfl|rfl<;>first|exact absurd rfl h|rfl
theorem Gu (s:bc)(w:List Nat){i:Nat}(hi:i<3):(s.eO i w).po i=w:=by
 unfold bc.eO bc.po
 rcases(show i=0∨i=1∨i=2 by omega)with rfl|rfl|rfl<;>rfl
theorem rR {i:Nat}(hi:i<3)(w:List Nat):aE (bC c R (s.eO i w)) 3*G=bp (R.po i) c.np w*(aE (dw (bC c R s) i) 3*G):=by
 rw[aE.at 3 hi,SL.bU]
 have e:aE (dw (bC c R (s.eO i w)) i) 3=aE (dw (bC c R s) i) 3:=aE.congr 3 fun j hj=>by
  unfold dw
  split
  ·rfl
  ·rename_i h
   unfold bC
   rw[Gv s w hj hi h]
 rw[e]
 unfold bC
 rw[Gu s w hi]
theorem jb (p:Nat):aB p<3:=by
 unfold aB
 split
 ·decide
 ·split<;>decide
theorem o4 {Q:nh}(hp:f.ao.proto=1∨f.ao.proto=6∨f.ao.proto=17):Spec Tryz.prog 158 [.pointer q,.pointer P.p] W (Obj q 141 (ck f Q)*(Obj P.p 148 (cS P k)*F)) (fun _:Unit=> .pointer (P.c (aB f.ao.proto))) (fun _=>Obj q 141 (ck f Q)*(Obj P.p 148 (cS P k)*F)):=by
 refine Spec.of Tryz.func158 rfl Tryz.ntmps158 rfl ?_
 repeat first|refine aa ?_ |intro
 refine aG 99 (Obj q 141 (ck f Q)*(Obj P.p 148 (cS P k)*1)) rfl rfl rfl ?_
 repeat(first|refine ak ?_ |refine eD ?_)
 refine aC rfl rfl rfl rfl rfl (xF _) (fun _=>ab) ?_
 intro _
 rcases hp with e|e|e
 ·rw[e]
  rw[show ff ((1:Nat):Int)=((0:Nat):Int)from rfl,show aB 1=0 from rfl]
  repeat(first|refine ak ?_ |refine eD ?_)
  repeat first|refine aa ?_ |intro
  exact ae (ar rfl rfl () rfl (U.sat (ab)))
 ·rw[e]
  rw[show ff ((6:Nat):Int)=((1:Nat):Int)from rfl,show aB 6=1 from rfl]
  repeat(first|refine ak ?_ |refine eD ?_)
  repeat first|refine aa ?_ |intro
  exact ae (ar rfl rfl () rfl (U.sat (ab)))
 ·rw[e]
  rw[show ff ((17:Nat):Int)=((2:Nat):Int)from rfl,show aB 17=2 from rfl]
  repeat(first|refine ak ?_ |refine eD ?_)
  repeat first|refine aa ?_ |intro
  exact ae (ar rfl rfl () rfl (U.sat (ab)))
theorem Ga (hc:c.Ok)(hp:f.ao.proto=1∨f.ao.proto=6∨f.ao.proto=17)(ho:(k.ca (aB f.ao.proto)).out=none)(hw:gm ((c.np+31)/32) (s.po (aB f.ao.proto))):
  Spec Tryz.prog 153 [.pointer pn,.pointer P.p,.pointer q] W (aA q f*(bf R.po P k (aE (bC c R s) 3*F))) (fun _:Unit=> .tuple #[]) (fun _=>aA q (f.rl c k)*(bf R.po P k (aE (bC c R s) 3*F))):=by
 refine Spec.of Tryz.func153 rfl Tryz.ntmps153 rfl ?_
 have bj:=jb f.ao.proto
 refine aA.open fun Q=> ?_
 simp only[bW,bf]
 repeat first|refine aa ?_ |intro
 refine af rfl (Spec.eY q P.p (o4 (Q:=Q) (k:=k) (P:=P) hp)) ?_
 intro _
 have ef:f.rl c k={f with fill:=some (ln c.np (k.ca (aB f.ao.proto))),next:=6}:=rfl
 rw[ef]
 generalize aB f.ao.proto=kd at*
 rw[kf bj ho]
 by_cases hl:(k.ca kd).l=[]
 ·rw[wu bj,hl]
  repeat first|refine aa ?_ |intro
  refine af rfl (Spec.eY (P.c kd) (R.po kd) (JB (h:=(k.ca kd).h) hw)) ?_
  intro g
  repeat first|refine aa ?_ |intro
  have e2:ln c.np (k.ca kd)=⟨0,ij (k.ca kd).h 8 ((c.np+31)/32),false⟩:=by unfold ln;rw[if_neg (by rw[ho,hl];simp)]
  rw[e2]
  refine aH (aI rfl () rfl (U.sat (aA.bH {Q with fill:=g.1,fin:=g.2} (by rfl) ?_)))
  simp only[cd]
  rw[show gk g.1 g.2 ⟨0,ij (k.ca kd).h 8 ((c.np+31)/32),false⟩=dU g.1 0 g.2 false*bd g.2 (ij (k.ca kd).h 8 ((c.np+31)/32))from rfl,SL.bU]
  exact ab
 ·have NL:0<(k.ca kd).l.length:=List.length_pos_iff.2 hl
  repeat first|refine aa ?_ |intro
  refine af rfl (Spec.aL (P.c kd) (JA NL)) ?_
  intro g
  repeat first|refine aa ?_ |intro
  have e2:ln c.np (k.ca kd)=ui:=by unfold ln;rw[if_pos (.inl hl)]
  rw[e2]
  refine aH (aI rfl () rfl (U.sat (aA.bH {Q with fill:=g} (by rfl) ?_)))
  simp only[cd]
  rw[show ∀i,gk g i ui=dU g 3 none false from fun i=>rfl]
  exact ab
end
section
open Go.RowKit
set_option maxRecDepth 10000
attribute [local irreducible] EK EX ER EN EL ES EG av aV aY
variable {W:World} {F G:SL} {X:Cx} {kk:List KI} {σ:Env} {pn q:Option Addr} {f:aP} {c:NC} {R:dW} {s:bc} {k:aU} {P:dt} {pp:Nat→Option Addr}
structure lL (c:NC)(s:bc)(k:aU):Prop where
 out:∀i,i<3→(k.ca i).out=none
 words:∀i,i<3→gm ((c.np+31)/32) (s.po i)
def lu (p:Nat):Prop:=p=1∨p=6∨p=17
structure B7 (c:NC)(f:aP):Prop where
 fin:eH f
 dM:f.fq=true→lu f.ao.proto
 find:f.next=2→∃t,f.find=some t∧ba c.nb (3*c.np) t∧t.done=false
 id:f.next≠2→0≤f.id∧f.id<((3*c.np:Nat):Int)
 word:f.word.ok
 now:f.now.ok
set_option maxHeartbeats 2000000 in
theorem QA (hc:c.Ok)(hp:cp (3*c.np) s.pl)(ht:cV c.nb (3*c.np) s.tb)(hk:lL c s k)(h:B7 c f)(h2:2≤f.next)(h5:f.next≤5):
  Spec Tryz.prog 115 [.pointer pn,.pointer P.p,.pointer q] W (aA q f*bf R.po P k (NH pn c R*(aJ R.pl s.pl*(aF R.tb R.pl c.nb s.tb*(aE (bC c R s) 3*F))))) (fun _:Unit=> .tuple #[])
  (fun _=>aA q (fB c s k f).2*bf R.po P k (NH pn c R*(aJ R.pl (fB c s k f).1.pl*(aF R.tb R.pl c.nb (fB c s k f).1.tb*(aE (bC c R s) 3*F))))):=by
 refine Spec.of Tryz.func115 rfl Tryz.ntmps115 rfl ?_
 have ja:=hc.oX
 have cB:=h.fin
 have iG:=h.word
 have Ab:=h.now
 refine aA.open fun Q=> ?_
 have hU:f.next=2∨f.next=3∨f.next=4∨f.next=5:=by omega
 rcases hU with e|e|e|e
 ·obtain⟨t,jX,iE,tD⟩:=h.find e
  have es:fB c s k f=({s with tb:=(bI s.pl c.nb s.tb t).1},if(bI s.pl c.nb s.tb t).2.done=false then {f with find:=some (bI s.pl c.nb s.tb t).2}else sQ c k {f with find:=some (bI s.pl c.nb s.tb t).2} (bI s.pl c.nb s.tb t).2):=by
   unfold fB;rw[if_pos e,jX]
  rw[es]
  simp only[bW,bf,jX,cd]
  repeat first|refine aa ?_ |intro
  refine aG 99 (NH pn c R*(Obj q 141 (ck f Q)*1)) rfl rfl rfl ?_
  repeat(first|refine ak ?_ |refine eD ?_)
  refine aC rfl rfl rfl rfl rfl (Spec.uY Q.find R.tb R.pl (yN ja ht hp iE tD)) (fun _=>ab) ?_
  intro _
  repeat(first|refine ak ?_ |refine eD ?_)
  generalize bI s.pl c.nb s.tb t=D at*
  obtain⟨dc,t'⟩:=D
  dsimp only at*
  cases hd:t'.done with
  |false=>
   rw[if_pos rfl]
   repeat first|refine aa ?_ |intro
   refine ae (cT rfl () rfl (U.sat (aA.bH Q (by rfl) ?_)))
   simp only[cd]
   exact ab
  |true=>
   rw[if_neg (by decide)]
   obtain⟨g,hg⟩:∃g:aP,g={f with find:=some t'}:=⟨_,rfl⟩
   have pe:eH g:=by rw[hg];exact⟨cB.cH,cB.tick,cB.proto,cB.addr,cB.port,cB.flags⟩
   have qx:g.fq=f.fq:=by rw[hg]
   have NA:g.ao=f.ao:=by rw[hg]
   rw[←hg]
   refine iS (G:=aA q g*bf R.po P k (NH pn c R*(aJ R.pl s.pl*(aF R.tb R.pl c.nb dc*(aE (bC c R s) 3*F))))) (by rw[hg];exact(aA.bH Q (by rfl) (by(try simp only[cd]);exact ab))) ?_
   unfold sQ
   by_cases h0:t'.end_=0
   ·rw[if_pos h0]
    have pf:g.find=some t':=by rw[hg]
    refine aA.open fun Q=> ?_
    simp only[bW,bf,pf,cd]
    repeat first|refine aa ?_ |intro
    refine af rfl (Spec.aL Q.find q7) ?_
    intro _
    repeat first|refine aa ?_ |intro
    refine af rfl (Spec.aL Q.find xr) ?_
    intro _
    repeat first|refine aa ?_ |intro
    refine af rfl (Spec.pre (vf (q:=q) (f:=g) (id:=t'.found) (w:=t'.aM) (F:=bf R.po P k (NH pn c R*(aJ R.pl s.pl*(aF R.tb R.pl c.nb dc*(aE (bC c R s) 3*F)))))) (aA.bH Q (by rfl) (by rw[pf];(try simp only[cd]);exact ab))) ?_
    intro _
    repeat first|refine aa ?_ |intro
    exact aH (aI rfl () rfl (U.sat (ab)))
   ·rw[if_neg h0]
    by_cases hb:f.fq=true
    ·rw[qx,if_pos hb]
     have pf:g.find=some t':=by rw[hg]
     have s7:g.fq=true:=by rw[qx];exact hb
     have nK:=h.dM hb
     have bj:=jb g.ao.proto
     refine aA.open fun Q=> ?_
     simp only[bW,bf,pf,s7,cd]
     repeat first|refine aa ?_ |intro
     refine af rfl (Spec.aL Q.find q7) ?_
     intro _
     repeat first|refine aa ?_ |intro
     refine af rfl (Spec.pre (Ga (pn:=pn) (q:=q) (f:=g) (R:=R) (s:=s) (k:=k) (P:=P) (F:=NH pn c R*(aJ R.pl s.pl*(aF R.tb R.pl c.nb dc*F))) hc (by rw[NA];exact nK) (hk.out _ bj) (hk.words _ bj)) (aA.bH Q (by unfold q8;rw[s7]) (by rw[pf];simp only[cd];exact ab))) ?_
     intro _
     repeat first|refine aa ?_ |intro
     exact aH (aI rfl () rfl (U.sat (ab)))
    ·rw[qx,if_neg hb]
     have pf:g.find=some t':=by rw[hg]
     have s7:g.fq=false:=by rw[qx];simpa using hb
     refine aA.open fun Q=> ?_
     simp only[bW,bf,pf,s7,cd]
     repeat first|refine aa ?_ |intro
     refine af rfl (Spec.aL Q.find q7) ?_
     intro _
     repeat first|refine aa ?_ |intro
     refine af rfl (Spec.pre (vd (q:=q) (f:=g) (e:=7) (F:=bf R.po P k (NH pn c R*(aJ R.pl s.pl*(aF R.tb R.pl c.nb dc*(aE (bC c R s) 3*F)))))) (aA.bH Q (by unfold q8;rw[s7]) (by rw[pf];simp only[cd];exact ab))) ?_
     intro _
     repeat first|refine aa ?_ |intro
     exact aH (aI rfl () rfl (U.sat (ab)))
 ·have es:fB c s k f=(bV s f.id f.word {f.word with st:=2},{f with next:=4}):=by unfold fB;rw[if_neg (by omega),if_pos e]
  rw[es]
  obtain⟨h0,h1⟩:=h.id (by omega)
  simp only[bW,bf]
  repeat first|refine aa ?_ |intro
  rename_i x
  have qE:({f.word with st:=2}:br).ok:=⟨by show 2≤3;decide,iG.2.1,iG.2.2.1,iG.2.2.2⟩
  refine aG 99 (NH pn c R*(Obj q 141 (ck f Q)*(Obj x 139 (wL {f.word with st:=2} [])*1))) rfl rfl rfl ?_
  repeat(first|refine ak ?_ |refine eD ?_)
  refine aC rfl rfl rfl rfl rfl (Spec.aL R.pl (rN (id:=f.id) (a:=f.word) (b:={f.word with st:=2}) hc hp h0 h1 iG qE)) (fun _=>ab) ?_
  intro _
  repeat(first|refine ak ?_ |refine eD ?_)
  repeat first|refine aa ?_ |intro
  have lX:(bV s f.id f.word {f.word with st:=2}).tb=s.tb:=by unfold bV;split<;>rfl
  rw[lX]
  exact aH (aI rfl () rfl (U.sat (aA.bH Q (by rfl) (ab))))
 ·have es:fB c s k f=(s,um c s f):=by unfold fB;rw[if_neg (by omega),if_neg (by omega),if_pos e]
  rw[es]
  obtain⟨h0,h1⟩:=h.id (by omega)
  simp only[bW,bf]
  repeat first|refine aa ?_ |intro
  refine af rfl (Spec.pre (QM (pn:=pn) (q:=q) (f:=f) (R:=R) (s:=s) (F:=bf R.po P k (aE (bC c R s) 3*F)) hc hp cB h0 h1) (aA.bH Q (by rfl) (by(try simp only[cd]);exact ab))) ?_
  intro _
  repeat first|refine aa ?_ |intro
  exact aH (aI rfl () rfl (U.sat (ab)))
 ·have es:fB c s k f=(bV s f.id f.word f.now,if iX s f.id f.word f.now=true then {f with next:=4}.goes c f.id else {f with next:=4}):=by unfold fB;rw[if_neg (by omega),if_neg (by omega),if_neg (by omega)]
  obtain⟨h0,h1⟩:=h.id (by omega)
  obtain⟨g,hg⟩:∃g:aP,g={f with next:=4}:=⟨_,rfl⟩
  have pe:eH g:=by rw[hg];exact⟨cB.cH,cB.tick,cB.proto,cB.addr,cB.port,cB.flags⟩
  have s8:g.id=f.id:=by rw[hg]
  have Ed:g.word=f.word:=by rw[hg]
  have s9:g.now=f.now:=by rw[hg]
  have Dq:fB c s k f=(bV s g.id g.word g.now,if iX s g.id g.word g.now=true then g.goes c g.id else g):=by rw[es,s8,Ed,s9,hg]
  rw[Dq]
  clear es Dq
  simp only[bW,bf]
  repeat first|refine aa ?_ |intro
  refine iS (G:=bW q g Q (bf R.po P k (NH pn c R*(aJ R.pl s.pl*(aF R.tb R.pl c.nb s.tb*(aE (bC c R s) 3*F)))))) (by rw[hg];exact ab) ?_
  simp only[bW,bf]
  refine aG 99 (NH pn c R*(Obj q 141 (ck g Q)*1)) rfl rfl rfl ?_
  repeat(first|refine ak ?_ |refine eD ?_)
  refine aC rfl rfl rfl rfl rfl (Spec.aL R.pl (rN (id:=g.id) (a:=g.word) (b:=g.now) hc hp (by omega) (by omega) (by rw[Ed];exact iG) (by rw[s9];exact Ab))) (fun _=>ab) ?_
  intro _
  repeat(first|refine ak ?_ |refine eD ?_)
  have lX:(bV s g.id g.word g.now).tb=s.tb:=by unfold bV;split<;>rfl
  rw[lX]
  generalize (bV s g.id g.word g.now).pl=Q3
  cases zG:iX s g.id g.word g.now with
  |true=>
   rw[if_pos rfl]
   repeat first|refine aa ?_ |intro
   refine af rfl (Spec.pre (zh (pn:=pn) (q:=q) (f:=g) (R:=R) (id:=g.id) (F:=bf R.po P k (aJ R.pl Q3*(aF R.tb R.pl c.nb s.tb*(aE (bC c R s) 3*F)))) hc pe (by omega) (by omega)) (aA.bH Q (by rfl) (ab))) ?_
   intro _
   repeat first|refine aa ?_ |intro
   exact aH (aI rfl () rfl (U.sat (ab)))
  |false=>
   rw[if_neg (by decide)]
   repeat first|refine aa ?_ |intro
   exact aH (aI rfl () rfl (U.sat (aA.bH Q (by rfl) (ab))))
end
section
open Go.RowKit
set_option maxRecDepth 10000
attribute [local irreducible] EK EX ER EN EL ES EG av aV aY
variable {W:World} {F G:SL} {X:Cx} {kk:List KI} {σ:Env} {pn q:Option Addr} {f:aP} {c:NC} {R:dW} {s:bc} {k:aU} {P:dt} {pp:Nat→Option Addr}
theorem nX (k:aU)(i:Nat)(a:dD):(k.c6 i a).frame=k.frame∧(k.c6 i a).bn=k.bn∧(k.c6 i a).bb=k.bb∧(k.c6 i a).b9=k.b9∧(k.c6 i a).cR=k.cR∧(k.c6 i a).kC=k.kC∧(k.c6 i a).any=k.any∧(k.c6 i a).ended=k.ended:=by
 unfold aU.c6
 split
 ·exact⟨rfl,rfl,rfl,rfl,rfl,rfl,rfl,rfl⟩
 ·split<;>exact⟨rfl,rfl,rfl,rfl,rfl,rfl,rfl,rfl⟩
theorem qQ (s:bc)(i:Nat)(w:List Nat):(s.eO i w).pl=s.pl∧(s.eO i w).tb=s.tb∧(s.eO i w).ep=s.ep∧(s.eO i w).gs=s.gs:=by
 unfold bc.eO
 split
 ·exact⟨rfl,rfl,rfl,rfl⟩
 ·split<;>exact⟨rfl,rfl,rfl,rfl⟩
theorem I0 {ps:Option Addr}{b:Bool}:Spec Tryz.prog 160 [.pointer ps] W (dU ps 3 none b*F) (fun _:Unit=> .bool false) (fun _=>dU ps 3 none b*F):=by
 refine Spec.of Tryz.func160 rfl Tryz.ntmps160 rfl ?_
 repeat first|refine aa ?_ |intro
 exact ae (ar rfl rfl () rfl (U.sat (ab)))
theorem CX (ws:List Nat)(a:dD)(xi:bG):dI ws a ⟨0,xi,false⟩=((bz ws xi).1,(if(bz ws xi).2.done=true then {a with h:=if(bz ws xi).2.bo=[]then a.h else(bz ws xi).2.word,l:=a.l++(bz ws xi).2.bo.reverse}else a),⟨0,(bz ws xi).2,(bz ws xi).2.done⟩):=by
 simp[dI]
theorem Ld (ws:List Nat)(a:dD)(xi:bG):dI ws a ⟨3,xi,false⟩=(ws,a,⟨3,xi,true⟩):=by
 simp[dI]
theorem CW (ws:List Nat)(a:dD)(xi:bG):dI ws a ⟨1,xi,false⟩=((bz ws xi).1,a,⟨1,(bz ws xi).2,(bz ws xi).2.done⟩):=by
 simp[dI]
theorem j2 {α:Type}(a:Option Addr):kv (α:=α) none a=none:=rfl
structure oH (c:NC)(k:aU)(f:aP):Prop where
 fin:eH f
 dy:lu f.ao.proto
 fill:f.next=6→∃x,f.fill=some x∧x.done=false∧((x.kind=0∧x.cU.Ok ((c.np+31)/32))∨x.kind=3)
 find:f.next=7→∃t,f.find=some t∧ba c.nb (3*c.np) t∧t.done=false
 j4:f.next=7→∃x,f.fill=some x∧x.kind=0∧x.done=true∧hY x.cU=true∧x.cU.words.length≤1000
 again:f.next=8→∃x,f.again=some x∧x.kind=1∧x.done=false∧x.cU.Ok ((c.np+31)/32)
 id:f.next=10∨f.next=11→0≤f.id∧f.id<((3*c.np:Nat):Int)
 word:f.word.ok
 len:(k.ca (aB f.ao.proto)).l.length≤1000
 top:kY (k.ca (aB f.ao.proto))<c.np
abbrev fP (q pn:Option Addr)(c:NC)(R:dW)(P:dt)(F:SL)(r:bc×aU×aP):SL:=aA q r.2.2*bf R.po P r.2.1 (NH pn c R*(aJ R.pl r.1.pl*(aF R.tb R.pl c.nb r.1.tb*(aE (bC c R r.1) 3*F))))
set_option maxHeartbeats 2000000 in
theorem MO (hT : fU W) (hc : c.Ok) (hk : lL c s k) (h : oH c k f) (e : f.next = 6) :
    Spec Tryz.prog 116 [.pointer pn, .pointer P.p, .pointer q] W (aA q f * bf R.po P k (NH pn c R * (aJ R.pl s.pl * (aF R.tb R.pl c.nb s.tb * (aE (bC c R s) 3 * F))))) (fun _ : Unit => .tuple #[]) (fun _ => fP q pn c R P F (cq c s k f)) := by
  refine Spec.of Tryz.func116 rfl Tryz.ntmps116 rfl ?_
  have ja := hc.oX
  have cB := h.fin
  have tc := cB.proto
  have hlen := h.len
  have bj := jb f.ao.proto
  have ho := hk.out _ bj
  have hw := hk.words _ bj
  obtain ⟨x, iz, vS, As⟩ := h.fill e
  have es : cq c s k f = ({ s.eO (aB f.ao.proto) (dI (s.po (aB f.ao.proto)) (k.ca (aB f.ao.proto)) x).1 with tb := s.tb }, k.c6 (aB f.ao.proto) (dI (s.po (aB f.ao.proto)) (k.ca (aB f.ao.proto)) x).2.1,
        if (dI (s.po (aB f.ao.proto)) (k.ca (aB f.ao.proto)) x).2.2.done = false then { f with fill := some (dI (s.po (aB f.ao.proto)) (k.ca (aB f.ao.proto)) x).2.2 }
        else if mG (dI (s.po (aB f.ao.proto)) (k.ca (aB f.ao.proto)) x).2.2 = true then { f with fill := some (dI (s.po (aB f.ao.proto)) (k.ca (aB f.ao.proto)) x).2.2, find := some (kA c 0 f.ao (-1) 0), next := 7 }
        else { f with fill := some (dI (s.po (aB f.ao.proto)) (k.ca (aB f.ao.proto)) x).2.2, next := 9 }) := by
    unfold cq; rw [if_pos e, iz]
  rw [es]
  clear es
  generalize vq : dI (s.po (aB f.ao.proto)) (k.ca (aB f.ao.proto)) x = D
  obtain ⟨jN, a', x'⟩ := D
  refine aA.open fun Q => ?_
  simp only [bW, fP]
  simp only [bf]
  repeat first | refine aa ?_ | intro
  refine af rfl (Spec.eY q P.p (o4 (Q := Q) (k := k) (P := P) h.dy)) ?_
  intro _
  generalize aB f.ao.proto = kd at *
  obtain ⟨p1, p2, p3, p4⟩ := qQ s kd jN
  obtain ⟨h1, h2, h3, h4, h5, h6, h7, h8⟩ := nX k kd a'
  have iY : aE (bC c R { s.eO kd jN with tb := s.tb }) 3 = aE (bC c R (s.eO kd jN)) 3 := rfl
  rw [iY, rR (s := s) bj jN, yW (k := k) bj a', p1]
  simp only [cS, h1, h2, h3, h4, h5, h6, h7, h8]
  rw [kf (k := k) bj ho, wu (s := s) (G := F) bj]
  rcases As with ⟨x0, se⟩ | x3
  · obtain ⟨xk, xi, xd⟩ := x
    dsimp only at x0 se vS iz
    subst x0 vS
    have eC : ∀ (a i : Option Addr) (y : bG) (d : Bool), gk a i ⟨0, y, d⟩ = dU a 0 i d * bd i y := fun _ _ _ _ => rfl
    have hD := vq.symm.trans (CX (s.po kd) (k.ca kd) xi)
    simp only [Prod.mk.injEq] at hD
    obtain ⟨e1, e2, e3⟩ := hD
    rw [iz, cd, eC, SL.bU]
    repeat first | refine aa ?_ | intro
    refine af rfl (Spec.aL Q.fill (Spec.pre (Ja (pc := P.c kd) (ps := Q.fill) (sp := Q.fin) (pp := R.po kd) (n := c.np) (qo := none) (h := (k.ca kd).h) (l := (k.ca kd).l) hT hw se hlen) (U.cons (U.at Q.fin rfl (U.at (P.c kd) rfl (U.at (R.po kd) rfl (U.refl _))))))) ?_
    intro _
    generalize bz (s.po kd) xi = D at *
    obtain ⟨wD, xD⟩ := D
    dsimp only at *
    subst e1 e2 e3
    cases hd : xD.done with
    | false =>
      rw [if_pos rfl, if_neg Bool.false_ne_true, if_neg Bool.false_ne_true]
      repeat first | refine aa ?_ | intro
      refine ae (cT rfl () rfl (U.sat (aA.bH Q (by rfl) ?_)))
      simp only [cd, gE, eC, ho, j2, lp, SL.bU, Bool.false_eq_true, if_true, if_false]
      exact ab
    | true =>
      rw [if_neg (fun hh => by cases hh), if_pos rfl, if_pos rfl]
      repeat first | refine aa ?_ | intro
      refine af rfl (Spec.eY Q.fill Q.fin BB) ?_
      intro _
      have eN : mG ⟨0, xD, true⟩ = hY xD := by simp [mG]
      rw [eN]
      cases hn : hY xD with
      | true =>
        rw [if_pos rfl]
        repeat first | refine aa ?_ | intro
        obtain ⟨g, hg⟩ : ∃ g : aP, g = { f with fill := some ⟨0, xD, true⟩, next := 9 } := ⟨_, rfl⟩
        have mb : g.ao = f.ao := by rw [hg]
        have jA : g.find = f.find := by rw [hg]
        refine iS (G := Obj q 141 (ck g Q) * (an 5 1 Q.b.1 f.b.length Q.b.2 (aD f.b) * (bt (cj Q.bR) f.bR * (bt (au Q.find) f.find * (dU Q.fill 0 Q.fin true * (bd Q.fin xD * (bt (gk Q.again Q.lO) f.again * (bt (au Q.enter) f.enter * (an 5 1 Q.fi.1 f.fj.length Q.fi.2 (aD f.fj) * (Obj P.p 148 (cS P k) * (aX (P.c kd) (R.po kd) (lp (k.ca kd).h xD) ((k.ca kd).l ++ xD.bo.reverse) none * (bp (R.po kd) c.np jN * (aE (dw (ec R.po P k) kd) 3 * (di P.wh k.bb * (fh gD fA P.m k.b9 * (an 5 1 P.told.1 k.cR.length P.told.2 (aD k.cR) * (an 93 2 P.ended.1 k.ended.length P.ended.2 (kV k.ended) * (NH pn c R * (aJ R.pl s.pl * (aF R.tb R.pl c.nb s.tb * (aE (dw (bC c R s) kd) 3 * F))))))))))))))))))))) (by rw [hg]; exact ab) ?_
        refine aG 13 (NH pn c R * (Obj q 141 (ck g Q) * 1)) rfl rfl rfl ?_
        repeat (first | refine ak ?_ | refine aQ 0 rfl rfl rfl rfl (by decide +kernel) (az) rfl ?_ | refine aQ 1 rfl rfl rfl rfl (by decide +kernel) (az) rfl ?_ | refine aQ 2 rfl rfl rfl rfl (by decide +kernel) (az) rfl ?_ | refine aQ 3 rfl rfl rfl rfl (by decide +kernel) (az) rfl ?_)
        rw [mb]
        refine aC rfl rfl rfl rfl rfl (Spec.aL R.tb (Cs ja (by omega) cB.addr cB.port)) (fun _ => ab) ?_
        intro z
        repeat (first | refine ak ?_ | refine aQ 0 rfl rfl rfl rfl (by decide +kernel) (az) rfl ?_ | refine aQ 1 rfl rfl rfl rfl (by decide +kernel) (az) rfl ?_ | refine aQ 2 rfl rfl rfl rfl (by decide +kernel) (az) rfl ?_ | refine aQ 3 rfl rfl rfl rfl (by decide +kernel) (az) rfl ?_)
        (refine kG rfl (cK rfl rfl rfl rfl rfl rfl) (by decide +kernel) rfl ?_); repeat (first | refine fo rfl rfl rfl (gx rfl rfl) (by decide +kernel) (by decide +kernel) rfl ?_ | refine fo rfl rfl rfl (gw rfl rfl) (by decide +kernel) (by decide +kernel) rfl ?_ | refine kH rfl rfl (cK rfl rfl rfl rfl rfl rfl) (by decide +kernel) (by decide +kernel) rfl ?_ | refine eD ?_)
        repeat first | refine aa ?_ | intro
        subst hg
        refine aH (aI rfl () rfl (U.sat (aA.bH { Q with find := z } (by rfl) ?_)))
        dsimp only [kA]
        simp only [cd, gE, eC, ho, j2, lp, SL.bU, Bool.false_eq_true, if_true, if_false]
        exact ab
      | false =>
        rw [if_neg Bool.false_ne_true]
        repeat first | refine aa ?_ | intro
        refine aH (aI rfl () rfl (U.sat (aA.bH Q (by rfl) ?_)))
        simp only [cd, gE, eC, ho, j2, lp, SL.bU, Bool.false_eq_true, if_true, if_false]
        exact ab
  · obtain ⟨xk, xi, xd⟩ := x
    dsimp only at x3 vS iz
    subst x3 vS
    have eC : ∀ (a i : Option Addr) (y : bG) (d : Bool), gk a i ⟨3, y, d⟩ = dU a 3 none d := fun _ _ _ _ => rfl
    have hD := vq.symm.trans (Ld (s.po kd) (k.ca kd) xi)
    simp only [Prod.mk.injEq] at hD
    obtain ⟨e1, e2, e3⟩ := hD
    subst e1 e2 e3
    rw [iz, cd, eC]
    rw [if_neg (fun hh => by cases hh)]
    have eN : mG ⟨3, xi, true⟩ = false := by simp [mG]
    rw [eN, if_neg Bool.false_ne_true]
    repeat first | refine aa ?_ | intro
    refine af rfl (Spec.eY (P.c kd) Q.fill Jb) ?_
    intro _
    repeat first | refine aa ?_ | intro
    refine af rfl (Spec.aL Q.fill I0) ?_
    intro _
    repeat first | refine aa ?_ | intro
    refine aH (aI rfl () rfl (U.sat (aA.bH Q (by rfl) ?_)))
    simp only [cd, gE, eC, ho, j2, lp, SL.bU, Bool.false_eq_true, if_true, if_false]
    exact ab
end
end Go.Proofs.YtimekbpkejemoaaGreatDoor
