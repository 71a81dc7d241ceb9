/-
  A part of a proof, joined by a program (wip/bundle3.py).
-/
import Derived.Test.YtakbmjoijcpdmaaGreatDoorG15
import Derived.Test.YtakbmjoijcpdmaaGreatDoorG19
import Derived.Test.YtakbmjoijcpdmaaGreatDoorG21
set_option linter.unusedVariables false
set_option linter.unusedSimpArgs false
namespace Go.Proofs.YtakbmjoijcpdmaaGreatDoor
section
open Go.RowKit
set_option maxRecDepth 10000
attribute [local irreducible] EK EX ER EN EL ES EG az ba bf
variable {W:World} {F:SL} {X:Cx} {k:List KI} {σ:Env}
theorem YN {j:Nat}(h:j<3):um ((1+j:Nat):Int) 4=1+j:=by unfold um;omega
theorem Yh {x z:Int}{pr S f:Nat}{b:List UInt8}(hb:pH b pr S f)(hp:pr=17∨pr=6):∃o:OF,o.Ok∧kH ((1+um x 3:Nat):Int) z=o.c∧o.b=b∧o.top=6∧o.tk 0=5∧o.tk 1=6∧2≤o.c.n:=by
 have h:=mr x (m:=3) (by decide)
 have hn:(kH ((1+um x 3:Nat):Int) z).n=1+um ((1+um x 3:Nat):Int) 4:=rfl
 rw[YN h]at hn
 refine⟨OF.mk (kH ((1+um x 3:Nat):Int) z) ⟨pr,S,f⟩ b (fun w=>if w=0 then 5 else 6) 6,xA (Ae _ z) (by omega) rfl hb hp (fun w=> ?_) (by omega),rfl,rfl,rfl,rfl,rfl,?_⟩
 ·show(if w=0 then 5 else 6)≤6
  split<;>omega
 ·show 2≤(kH ((1+um x 3:Nat):Int) z).n
  omega
set_option maxHeartbeats 4000000 in
theorem O2 (hT:gE W)(x y z:Int){p:Option Addr}{cp:Nat}{l:List UInt8}(out:Bool)(wt fR port fl lK tick:Int)(pT:Nat)(so:Ro W p l.length (aA l))(DD:l.length≤cp)(mT:cp≤140737488355328)(steps:Int):
  Spec Tryz.prog 4 [.agg #[.int .i64 x,.int .i64 y,.int .i64 z],.agg #[.bool out,.int .i64 wt,.int .i64 fR,.int .i64 port,.int .i64 fl,.slice p l.length cp,.int .i64 lK,.int .u8 (pT:Int),.int .i64 tick],.int .i64 steps] W F (fun _:Unit=> .bool true) (fun _=>F):=by
 refine Spec.of Tryz.func4 rfl Tryz.ntmps4 rfl ?_
 haveI rm:∀F:SL,Room W F p l.length cp:=fun F=>⟨fun _ _=>DD⟩
 have u3:=se x (m:=3) (by decide) (by decide)
 have l3:=mr x (m:=3) (by decide)
 have n3:((3:Nat):Int)=3:=rfl
 rw[n3]at u3
 repeat first|refine aa ?_ |intro
 rw[u3]
 repeat first|refine aa ?_ |intro
 refine ag rfl (Cl (Ae ((1+um x 3:Nat):Int) z) (x:=((1+um x 3:Nat):Int)) (y:=39) (z:=z) (fun _=>FQ ((1+um x 3:Nat):Int) z) (p:=none) (n:=0) (cap:=0) (j:=0) (most:=0) rfl (Nat.le_refl _) (r:=⟨fun _ _=>Nat.le_refl _⟩)) ?_
 intro ⟨⟨wo,nn⟩,d,s,t,e⟩
 dsimp only
 repeat first|refine aa ?_ |intro
 refine ag rfl (Ij (by omega) out wt fR port fl lK tick pT) ?_
 intro ⟨⟨q,b⟩,hU,lU⟩
 obtain⟨o,ho,wI,rfl,ma,TS,uI,ka⟩:=Yh (x:=x) (z:=z) lU (by split<;>simp)
 rw[wI]
 dsimp only at hU ⊢
 clear wI lU
 have oY:=ho.c.n
 have Tn:=ho.n4
 repeat first|refine aa ?_ |intro
 refine ag rfl (MA hT) ?_
 intro _
 repeat first|refine aa ?_ |intro
 obtain⟨g1,h2⟩:=XA ho (by omega)
 rw[TS,show((5:Nat):Int)=5 from rfl]at g1 h2
 refine ag rfl (Spec.pre (vi (pn:=nn) (c:=o.c) (n:=dI o.c) (w:=0) (out:=true) (q:=q.1) (l:=o.b) (cap:=q.2) (tick:=5) (F:=ao 5 1 q.1 o.b.length q.2 (aA o.b)*(Obj wo 39 (dL nn o.c none 0 0 0 (none,0) 0 o.c.n d s t e 0)*ew o.c.n d s t e F)) (by omega) (Safe.new ho.c).len (by omega)) (av)) ?_
 intro _
 rw[g1]
 repeat first|refine aa ?_ |intro
 have u2:=se steps (m:=200) (by decide) (by decide)
 rw[show((200:Nat):Int)=200 from rfl]at u2
 have u2l:=mr steps (m:=200) (by decide)
 refine ff (γ:=Nat×bm) (fun g=>g.1≤um steps 200∧S2 o g.1 g.2) (fun g=>[(2,.int .i64 steps),(7,.pointer wo),(9,.slice q.1 o.b.length q.2),(10,.int .i64 (g.1:Int))]) (fun g=>Obj wo 39 (dL nn o.c none 0 0 0 (none,0) 0 o.c.n d s t e 0)*(cM nn o.c g.2*(ao 5 1 q.1 o.b.length q.2 (aA o.b)*ew o.c.n d s t e F))) (fun g=>um steps 200-g.1) (0,_) ⟨Nat.zero_le _,h2⟩ ⟨rfl,rfl,rfl,rfl,trivial⟩ (U.sat (av)) ?_
 clear h2 g1
 intro ⟨i,n⟩ ⟨hi,h2⟩
 dsimp only at hi h2 ⊢
 generalize um steps 200=lim at*
 by_cases bJ:i<lim
 ·repeat first|refine aa ?_ |intro
  obtain⟨K,k1,k2⟩:=h2.safe
  obtain⟨G,hG⟩:=h2.one
  refine ag rfl (Spec.pre (Gy (pn:=nn) (w:=0) (F:=ao 5 1 q.1 o.b.length q.2 (aA o.b)*(Obj wo 39 (dL nn o.c none 0 0 0 (none,0) 0 o.c.n d s t e 0)*ew o.c.n d s t e F)) hT ho.c k2 (by omega) (by omega) (by omega) (hG.wk 0 (by omega)).aX) (av)) ?_
  intro _
  repeat first|refine aa ?_ |intro
  exact cT (i+1,_) ⟨bJ,Xz ho h2 (by omega)⟩ (by dsimp only;omega) ⟨rfl,rfl,rfl,rfl,trivial⟩ (U.sat (av))
 repeat first|refine aa ?_ |intro
 obtain⟨g1,h3,f,hf⟩:=XB h2 (by omega) (by omega)
 rw[uI,show((6:Nat):Int)=6 from rfl]at g1 h3 hf
 have hlen:n.wk.length=o.c.n:=by obtain⟨K,_,k2⟩:=h2.safe;exact k2.len
 refine ag rfl (Spec.pre (vi (pn:=nn) (c:=o.c) (n:=n) (w:=1) (out:=true) (q:=q.1) (l:=o.b) (cap:=q.2) (tick:=6) (F:=ao 5 1 q.1 o.b.length q.2 (aA o.b)*(Obj wo 39 (dL nn o.c none 0 0 0 (none,0) 0 o.c.n d s t e 0)*ew o.c.n d s t e F)) (by omega) hlen (by omega)) (av)) ?_
 intro _
 rw[g1]
 generalize (fp n 1 true o.b 6).1=n1 at*
 obtain⟨m,n2,m1,m2,m3,m4,m5,m6,K,k1,k2⟩:=LJ (w:=1) ho h3 (by omega) (by omega) (by omega) hf
 clear h2 h3 hf g1 hlen
 repeat first|refine aa ?_ |intro
 refine ag rfl (Spec.pre (vB (w:=1) (nn:=nn) (jp:=none) (jn:=0) (jc:=0) (evn:=0) (wn:=o.c.n) (next:=0) (clock:=0) (ev:=(none,0)) (d:=d) (s:=s) (t:=t) (e:=e) (F:=ao 5 1 q.1 o.b.length q.2 (aA o.b)*ew o.c.n d s t e F) hT ho.c k2 (by omega) (by omega) (by omega) (by omega) m2 m3) (av)) ?_
 intro _
 have Tg:=m2.1
 have hbd:(m:Int)≤vO o.c.cfg:=by
  have:=ho.c.np
  unfold vO
  rw[if_pos (tY.2 ho.c.ez)]
  unfold yb
  have:=tJ o.c.cfg
  omega
 repeat first|refine aa ?_ |intro
 refine ag rfl (Kz o.c.cfg) ?_
 intro _
 repeat first|refine aa ?_ |intro
 refine ag rfl (NR o.c.cfg ho.c.fit) ?_
 intro _
 repeat first|refine aa ?_ |intro
 obtain⟨a1,a2⟩:(n2.wk.getD 1 ax).any=true∧(n2.wk.getD 1 ax).iM=0∧(n2.wk.getD 1 ax).cj.length≤o.b.length:=by
  obtain⟨⟨G,g1⟩,_,⟨_,h6⟩,_⟩:=m4
  obtain⟨f1,y',f2,f3,_⟩:=tC g1 (by omega) m5 (h6 m5)
  exact⟨h6 m5,f1,by rw[f3];exact Av⟩
 have et:dX n2 1=((n2.wk.getD 1 ax).cj,0,true):=by
  unfold dX
  rw[if_pos a1,a2.1]
 refine ag rfl (Spec.pre (vF (pn:=nn) (c:=o.c) (n:=n2) (w:=1) (F:=ao 5 1 q.1 o.b.length q.2 (aA o.b)*(Obj wo 39 (dL nn o.c none 0 0 0 (none,0) 0 o.c.n d s t e 0)*ew o.c.n d s t e F)) (by omega) (by omega)) (av)) ?_
 intro a
 rw[et]
 dsimp only
 obtain⟨tf,zN⟩:∃tf,(n2.wk.getD 1 ax).cj=tf:=⟨_,rfl⟩
 rw[zN]
 rw[zN]at a2
 iterate 3 refine uA ?_
 refine C6 ?_
 intro px
 iterate 5 refine uA ?_
 refine kN (γ:=bm) (fun n3=>S3 o 300 n3∧(n3.wk.getD 0 ax).frame=none∧(n3.wk.getD 1 ax)=(n2.wk.getD 1 ax)) (fun _=>[(7,.pointer wo),(8,.bool true),(12,.pointer px),(97,.bool false)]) (fun n3=>ao 5 1 a.1 tf.length a.2 (aA tf)*(Obj px 46 [.slice a.1 tf.length a.2,.int .i64 ((0:Nat):Int)]*(Obj wo 39 (dL nn o.c none 0 0 0 (none,0) 0 o.c.n d s t e 0)*(cM nn o.c n3*(ao 5 1 q.1 o.b.length q.2 (aA o.b)*ew o.c.n d s t e F))))) ?_ ?_
 ·have U2:S3 o 300 n2:=⟨m4.one,by obtain⟨K,h1,h2⟩:=m4.safe;exact⟨K,by omega,h2⟩,m4.act,m4.idle⟩
  cases hf:(n2.wk.getD 0 ax).frame with
  |none=>
   have hb:(n2.wk.getD 0 ax).busy=false:=by
    obtain⟨G,hG⟩:=m4.one
    unfold aR.busy
    rw[hf,(hG.wk 0 (by omega)).aX];rfl
   repeat first|refine aa ?_ |intro
   refine ag rfl (Spec.pre (yi (pn:=nn) (c:=o.c) (n:=n2) (w:=0) (F:=ao 5 1 a.1 tf.length a.2 (aA tf)*(Obj px 46 [.slice a.1 tf.length a.2,.int .i64 ((0:Nat):Int)]*(ao 5 1 q.1 o.b.length q.2 (aA o.b)*(Obj wo 39 (dL nn o.c none 0 0 0 (none,0) 0 o.c.n d s t e 0)*ew o.c.n d s t e F)))) (by omega)) (av)) ?_
   intro _
   rw[hb]
   repeat first|refine aa ?_ |intro
   exact ei n2 ⟨U2,hf,rfl⟩ ⟨rfl,rfl,rfl,rfl,trivial⟩ (U.sat (av))
  |some f=>
   have hb:(n2.wk.getD 0 ax).busy=true:=by
    unfold aR.busy
    rw[hf];rfl
   obtain⟨mm,n3,p1,p2,p3,p4,p5,p6,K,k1,k2⟩:=LJ (w:=0) ho m4 (by omega) (by omega) (by omega) hf
   repeat first|refine aa ?_ |intro
   refine ag rfl (Spec.pre (yi (pn:=nn) (c:=o.c) (n:=n2) (w:=0) (F:=ao 5 1 a.1 tf.length a.2 (aA tf)*(Obj px 46 [.slice a.1 tf.length a.2,.int .i64 ((0:Nat):Int)]*(ao 5 1 q.1 o.b.length q.2 (aA o.b)*(Obj wo 39 (dL nn o.c none 0 0 0 (none,0) 0 o.c.n d s t e 0)*ew o.c.n d s t e F)))) (by omega)) (av)) ?_
   intro _
   rw[hb]
   repeat first|refine aa ?_ |intro
   refine ag rfl (Spec.pre (vB (w:=0) (nn:=nn) (jp:=none) (jn:=0) (jc:=0) (evn:=0) (wn:=o.c.n) (next:=0) (clock:=0) (ev:=(none,0)) (d:=d) (s:=s) (t:=t) (e:=e) (F:=ao 5 1 a.1 tf.length a.2 (aA tf)*(Obj px 46 [.slice a.1 tf.length a.2,.int .i64 ((0:Nat):Int)]*(ao 5 1 q.1 o.b.length q.2 (aA o.b)*ew o.c.n d s t e F))) hT ho.c k2 (by omega) (by omega) (by omega) (by omega) p2 p3) (av)) ?_
   intro _
   repeat first|refine aa ?_ |intro
   exact ei n3 ⟨⟨p4.one,by obtain⟨K,h1,h2⟩:=p4.safe;exact⟨K,by omega,h2⟩,p4.act,p4.idle⟩,p5,p6 1 (by omega)⟩ ⟨rfl,rfl,rfl,rfl,trivial⟩ (U.sat (av))
 intro n3 ⟨r1,r2,r3⟩
 have r4:(n3.wk.getD 1 ax).frame=none:=by rw[r3];exact m5
 obtain⟨t1,t2⟩:=XD r1 (by omega) r2 r4
 obtain⟨t3,t4,t5⟩:=t1 0 (by omega)
 have et:dX n3 0=(tf,0,true):=by
  unfold dX
  rw[if_pos t3,t4,t2,r3,zN]
 obtain⟨⟨b,b1,b2⟩,b3,b4⟩:=XC ho r1 (by omega) r2 r4 (by rw[uI,ma])
 rw[ma]at b2
 clear m4 r1 t1 t2 m6 m2 m3 k2 a1
 repeat first|refine aa ?_ |intro
 refine ag rfl (Spec.pre (vF (pn:=nn) (c:=o.c) (n:=n3) (w:=0) (F:=ao 5 1 a.1 tf.length a.2 (aA tf)*(Obj px 46 [.slice a.1 tf.length a.2,.int .i64 ((0:Nat):Int)]*(ao 5 1 q.1 o.b.length q.2 (aA o.b)*(Obj wo 39 (dL nn o.c none 0 0 0 (none,0) 0 o.c.n d s t e 0)*ew o.c.n d s t e F)))) (by omega) (by omega)) (av)) ?_
 intro a2
 rw[et]
 dsimp only
 repeat first|refine aa ?_ |intro
 rename_i py
 refine ag rfl (Spec.pre (AX (pn:=nn) (c:=o.c) (n:=n3) (F:=ao 5 1 a2.1 tf.length a2.2 (aA tf)*(Obj py 46 [.slice a2.1 tf.length a2.2,.int .i64 ((0:Nat):Int)]*(ao 5 1 a.1 tf.length a.2 (aA tf)*(Obj px 46 [.slice a.1 tf.length a.2,.int .i64 ((0:Nat):Int)]*(ao 5 1 q.1 o.b.length q.2 (aA o.b)*(Obj wo 39 (dL nn o.c none 0 0 0 (none,0) 0 o.c.n d s t e 0)*ew o.c.n d s t e F)))))) ho.c b3.pl) (av)) ?_
 intro a3
 rw[b1]
 have eb:nu [b]=[.int .i64 (b.ar.proto:Int),.int .u32 (b.ar.addr:Int),.int .u16 (b.ar.port:Int),.int .i64 (b.port:Int),.int .i64 (b.pA:Int),.int .i64 (b.seen:Int)]:=rfl
 rw[eb,b2,show([b]:List _).length=1 from rfl]
 haveI:Pos 1:=⟨by decide⟩
 haveI:eK [.int .i64 (b.ar.proto:Int),.int .u32 (b.ar.addr:Int),.int .u16 (b.ar.port:Int),.int .i64 (b.port:Int),.int .i64 (b.pA:Int),.int .i64 ((6:Nat):Int)] 0 6 5 (.int .i64 ((6:Nat):Int)) (0<1):=⟨fun _=>rfl⟩
 repeat first|refine aa ?_ |intro
 rw[show decide (tf=tf)=true from decide_eq_true rfl]
 repeat first|refine aa ?_ |intro
 refine ag rfl (Spec.pre (FR (nn:=nn) (wo:=wo) (jp:=none) (jn:=0) (jc:=0) (evn:=0) (wn:=o.c.n) (next:=0) (clock:=0) (ev:=(none,0)) (d:=d) (s:=s) (t:=t) (e:=e) (F:=ao 55 6 a3.1 1 a3.2 [.int .i64 (b.ar.proto:Int),.int .u32 (b.ar.addr:Int),.int .u16 (b.ar.port:Int),.int .i64 (b.port:Int),.int .i64 (b.pA:Int),.int .i64 ((6:Nat):Int)]*(ao 5 1 a2.1 tf.length a2.2 (aA tf)*(Obj py 46 [.slice a2.1 tf.length a2.2,.int .i64 ((0:Nat):Int)]*(ao 5 1 a.1 tf.length a.2 (aA tf)*(Obj px 46 [.slice a.1 tf.length a.2,.int .i64 ((0:Nat):Int)]*(ao 5 1 q.1 o.b.length q.2 (aA o.b)*ew o.c.n d s t e F)))))) ho.c b3 b4) (av)) ?_
 intro _
 repeat first|refine aa ?_ |intro
 exact ae (aw rfl rfl () rfl (U.sat (av)))
end
end Go.Proofs.YtakbmjoijcpdmaaGreatDoor
