/-
  A part of a proof, joined by a program (wip/bundle3.py).
-/
import Derived.SizedLaws
import Derived.Test.YtfkngchldmfpfaaGreatDoorG2
import Derived.Test.YtfkngchldmfpfaaGreatDoorG6
import Derived.Test.YtfkngchldmfpfaaGreatDoorG7
import Derived.Test.YtfkngchldmfpfaaGreatDoorG13
import Derived.Test.YtfkngchldmfpfaaGreatDoorG14
import Derived.Test.YtfkngchldmfpfaaGreatDoorG18
import Derived.Test.YtfkngchldmfpfaaGreatDoorG19
import Derived.Test.YtfkngchldmfpfaaGreatDoorG20
import Derived.Test.YtfkngchldmfpfaaGreatDoorG21
set_option linter.unusedVariables false
set_option linter.unusedSimpArgs false
namespace Go.Proofs.YtfkngchldmfpfaaGreatDoor
section
open Go.RowKit
set_option maxRecDepth 10000
attribute [local irreducible] EK EX ER EN EL ES EG an aR aU
variable {W:World} {F:SL} {X:Cx} {k:List KI} {σ:Env} {c:NC} {w:Nat} {wo nn jp:Option Addr} {jn jc:Nat}
attribute [local simp] Bj
theorem WI.bW {i:Nat}{x:fA}(h:WI c jn i x){l:List Value}(h1:dA l=true)(h2:l.length=x.evn*11):WI c jn i {x with bW:=l}:=⟨⟨h.wl.wl,h.wl.d,h.wl.e,h.wl.sl,h.wl.tl,h.wl.nx,h1,h2,h.wl.clock,h.wl.kp⟩,h.bw,h.safe,h.clock,h.kp⟩
set_option maxHeartbeats 4000000 in
theorem Ss {i:Nat}(hw:w<c.n)(hc:c.Ok){x:fA}(h:WI c jn i x){f:aM}(hf:(x.n.wk.getD w al).frame=some f)(hm:f.made=true→f.iJ<1000000):
  Spec Tryz.prog 44 [.pointer wo,.int .i64 (w:Int),.bool false] W (x.at wo nn c jp jn jc F) (fun _:{y:fA//WI c jn i y∧y.n=x.n}=> .bool true) (fun y=>y.1.at wo nn c jp jn jc F):=by
 refine Spec.of Tryz.func44 rfl Tryz.ntmps44 rfl ?_
 obtain⟨n,next,clock,evn,bW,ev,d,s,t,e,dl,sl,tl,el⟩:=x
 obtain⟨hl,hb,hs,sV,sX⟩:=h
 have iW:=hb.d
 have nI:=hc.n
 have ku:=hl.xM
 have d3:=(hb.fr w hw).2 (by rw[hf];rfl)
 obtain⟨d1,d2⟩:=hb.dr w hw
 dsimp only at iW ku d1 d2 d3 sV sX hf
 simp only[fA.at]
 obtain⟨idx,D0⟩:∃idx:Nat,dl.getD w 0=(idx:Int):=⟨(dl.getD w 0).toNat,by omega⟩
 have yk:idx<evn:=by omega
 have Jw:idx*11+11≤bW.length:=by omega
 haveI:Pos evn:=⟨by omega⟩
 refine aa ?_;intros
 refine jf rfl (by kernel_rfl) ?_
 repeat(refine cD ?_)
 rw[D0]
 repeat(refine cD ?_)
 refine aa ?_;intros
 refine af rfl (Spec.pre (GM (pn:=nn) (c:=c) (n:=n) (w:=w) (F:=Obj wo 38 (da nn c jp jn jc (next:Int) ev evn c.n d s t e (clock:Int))*(ad 83 11 ev.1 evn ev.2 bW*(ad 3 1 d.1 c.n d.2 (aJ .i64 dl)*(ad 3 1 s.1 c.n s.2 (aJ .i64 sl)*(ad 3 1 t.1 c.n t.2 (aJ .i64 tl)*(ad 3 1 e.1 c.n e.2 (aJ .i64 el)*F)))))) hw (fun f' e'=>by rw[hf]at e';injection e' with e';subst e';exact hm) hc) (ag)) ?_
 intro _
 by_cases hh:0≤vW c n w
 ·refine aa ?_;intros
  exact ae (aj rfl rfl (⟨⟨n,next,clock,evn,bW.set (idx*11+(3+3)) (.int .i64 (vW c n w)),ev,d,s,t,e,dl,sl,tl,el⟩,WI.bW (x:=⟨n,next,clock,evn,bW,ev,d,s,t,e,dl,sl,tl,el⟩) ⟨hl,hb,hs,sV,sX⟩ (BD hl.dA rfl) (by rw[List.length_set];exact ku),rfl⟩:{y:fA//WI c jn i y∧y.n=n}) rfl (U.sat (by dsimp only;exact ag)))
 ·refine aa ?_;intros
  exact ae (aj rfl rfl (⟨⟨n,next,clock,evn,bW,ev,d,s,t,e,dl,sl,tl,el⟩,⟨hl,hb,hs,sV,sX⟩,rfl⟩:{y:fA//WI c jn i y∧y.n=n}) rfl (U.sat (ag)))
theorem Aj {l:List Value}{n i:Nat}{v:Value}(h1:dA l=true)(h2:l.length=n)(hv:v.oneCell'=true):∃l',l.set i v=l'∧dA l'=true∧l'.length=n:=⟨_,rfl,BD h1 hv,by rw[List.length_set];exact h2⟩
set_option maxHeartbeats 4000000 in
theorem Sr {i:Nat}(hw:w<c.n)(hc:c.Ok){x:fA}(h:WI c jn i {x with dl:=x.dl.set w (-1)})(iW:x.dl.length=c.n)(hd:0≤x.dl.getD w 0∧x.dl.getD w 0<x.evn)(hf:(x.n.wk.getD w al).frame=none)(ha:(x.n.wk.getD w al).any=true)(hA:jd (x.n.wk.getD w al).fh (x.n.wk.getD w al).bt):
  Spec Tryz.prog 44 [.pointer wo,.int .i64 (w:Int),.bool true] W (x.at wo nn c jp jn jc F) (fun _:{y:fA//WI c jn i y∧y.n=x.n}=> .bool true) (fun y=>y.1.at wo nn c jp jn jc F):=by
 refine Spec.of Tryz.func44 rfl Tryz.ntmps44 rfl ?_
 obtain⟨n,next,clock,evn,bW,ev,d,s,t,e,dl,sl,tl,el⟩:=x
 dsimp only at h iW hd hf ha hA
 have hl:=h.wl
 have nI:=hc.n
 have ku:=hl.xM
 have lH:=hl.dA
 dsimp only at ku lH
 simp only[fA.at]
 obtain⟨idx,D0⟩:∃idx:Nat,dl.getD w 0=(idx:Int):=⟨(dl.getD w 0).toNat,by omega⟩
 have yk:idx<evn:=by omega
 have Jw:idx*11+11≤bW.length:=by omega
 haveI:Pos evn:=⟨by omega⟩
 refine aa ?_;intros
 refine jf rfl (by kernel_rfl) ?_
 repeat(refine cD ?_)
 rw[D0]
 repeat(refine cD ?_)
 refine aa ?_;intros
 refine af rfl (Spec.pre (CY (pn:=nn) (c:=c) (n:=n) (w:=w) (F:=Obj wo 38 (da nn c jp jn jc (next:Int) ev evn c.n d s t e (clock:Int))*(ad 83 11 ev.1 evn ev.2 bW*(ad 3 1 d.1 c.n d.2 (aJ .i64 dl)*(ad 3 1 s.1 c.n s.2 (aJ .i64 sl)*(ad 3 1 t.1 c.n t.2 (aJ .i64 tl)*(ad 3 1 e.1 c.n e.2 (aJ .i64 el)*F)))))) hw hA.2) (ag)) ?_
 intro a
 have et:fE n w=((n.wk.getD w al).bt,(n.wk.getD w al).fh,true):=by
  unfold fE
  rw[if_pos ha]
 rw[et]
 dsimp only
 obtain⟨tf,J2⟩:∃tf,(n.wk.getD w al).bt=tf:=⟨_,rfl⟩
 obtain⟨te,Uu⟩:∃te,(n.wk.getD w al).fh=te:=⟨_,rfl⟩
 rw[J2,Uu]at hA ⊢
 refine aa ?_;intros
 rename_i px
 refine ay 19 (Obj wo 38 (da nn c jp jn jc (next:Int) ev evn c.n d s t e (clock:Int))*(Obj px 54 [.slice a.1 tf.length a.2,.int .i64 (te:Int)]*(vp 83 11 ev.1 evn ev.2*1))) rfl rfl rfl ?_
 refine ah ?_
 refine bD ?_;intros
 obtain⟨e2,q2,KX,l2⟩:=Aj (i:=idx*11+1) (v:= .int .i64 (clock:Int)) lH ku rfl
 rw[q2]
 have lE:idx*11+11≤e2.length:=by omega
 refine bD ?_;intros
 obtain⟨e3,q3,KY,l3⟩:=Aj (i:=idx*11+7) (v:= .slice a.1 tf.length a.2) KX l2 rfl
 rw[q3]
 have AM:idx*11+11≤e3.length:=by omega
 refine bD ?_;intros
 obtain⟨e4,q4,KZ,l4⟩:=Aj (i:=idx*11+8) (v:= .int .i64 (te:Int)) KY l3 rfl
 rw[q4]
 have DZ:idx*11+11≤e4.length:=by omega
 clear q2 q3 q4 KX KY l2 l3 Jw lE AM
 refine aa ?_;intros
 refine af rfl (Hj (l:=tf) (by have:=hA.2;omega)) ?_
 intro _
 refine aa ?_;intros
 obtain⟨e5,q5,Fp,l5⟩:=Aj (i:=idx*11+(3+3)) (v:= .int .i64 (wi tf:Int)) KZ l4 rfl
 rw[q5]
 have TS:idx*11+11≤e5.length:=by omega
 clear q5 KZ l4 DZ
 refine kh (γ:=List Value) (fun l=>dA l=true∧l.length=evn*11) (fun _=>[(0,.pointer wo),(1,.int .i64 (w:Int)),(7,.pointer (Go.Proofs.YtfkngchldmfpfaaGreatDoor.el ev.1 idx 11)),(9,.pointer px),(10,.bool true)]) (fun l=>ad 83 11 ev.1 evn ev.2 l*(Obj px 54 [.slice a.1 tf.length a.2,.int .i64 (te:Int)]*(ad 5 1 a.1 tf.length a.2 (ar tf)*(dn nn c n*(Obj wo 38 (da nn c jp jn jc (next:Int) ev evn c.n d s t e (clock:Int))*(ad 3 1 d.1 c.n d.2 (aJ .i64 dl)*(ad 3 1 s.1 c.n s.2 (aJ .i64 sl)*(ad 3 1 t.1 c.n t.2 (aJ .i64 tl)*(ad 3 1 e.1 c.n e.2 (aJ .i64 el)*F))))))))) ?_ ?_
 ·by_cases e8:te=8
  ·rw[show decide ((te:Int)=8)=true from decide_eq_true (by omega)]
   refine aa ?_;intros
   exact dI _ ⟨BD (v:= .int .i64 (-1)) Fp rfl,List.length_set.trans l5⟩ ⟨rfl,rfl,rfl,rfl,rfl,trivial⟩ (U.sat (ag))
  ·rw[show decide ((te:Int)=8)=false from decide_eq_false (by omega)]
   refine aa ?_;intros
   exact dI _ ⟨Fp,l5⟩ ⟨rfl,rfl,rfl,rfl,rfl,trivial⟩ (U.sat (ag))
 clear Fp l5 TS
 intro e6 ⟨Fq,l6⟩
 have DZ:idx*11+11≤e6.length:=by omega
 refine aa ?_;intros
 refine kh (γ:=List Value) (fun l=>dA l=true∧l.length=evn*11) (fun _=>[(0,.pointer wo),(1,.int .i64 (w:Int)),(7,.pointer (Go.Proofs.YtfkngchldmfpfaaGreatDoor.el ev.1 idx 11)),(9,.pointer px),(10,.bool true)]) (fun l=>ad 83 11 ev.1 evn ev.2 l*(Obj px 54 [.slice a.1 tf.length a.2,.int .i64 (te:Int)]*(ad 5 1 a.1 tf.length a.2 (ar tf)*(dn nn c n*(Obj wo 38 (da nn c jp jn jc (next:Int) ev evn c.n d s t e (clock:Int))*(ad 3 1 d.1 c.n d.2 (aJ .i64 dl)*(ad 3 1 s.1 c.n s.2 (aJ .i64 sl)*(ad 3 1 t.1 c.n t.2 (aJ .i64 tl)*(ad 3 1 e.1 c.n e.2 (aJ .i64 el)*F))))))))) ?_ ?_
 ·by_cases e9:te=9
  ·rw[show decide ((te:Int)=9)=true from decide_eq_true (by omega)]
   refine aa ?_;intros
   exact dI _ ⟨BD (v:= .int .i64 (-2)) Fq rfl,List.length_set.trans l6⟩ ⟨rfl,rfl,rfl,rfl,rfl,trivial⟩ (U.sat (ag))
  ·rw[show decide ((te:Int)=9)=false from decide_eq_false (by omega)]
   refine aa ?_;intros
   exact dI _ ⟨Fq,l6⟩ ⟨rfl,rfl,rfl,rfl,rfl,trivial⟩ (U.sat (ag))
 clear Fq l6 DZ
 intro e7 ⟨WK,l7⟩
 have hh:vW c n w= -1:=by
  unfold vW
  rw[hf]
 have hp:BH n w=false:=by
  unfold BH
  rw[hf]
 have ho:(te=0∧0<tf.length)∨(te≠0∧¬0<tf.length):=by
  have:=hA.1
  omega
 rcases ho with ⟨o1,o2⟩|⟨o1,o2⟩
 all_goals
  refine aa ?_;intros
  refine af rfl (Spec.pre (GM (pn:=nn) (c:=c) (n:=n) (w:=w) (F:=Obj wo 38 (da nn c jp jn jc (next:Int) ev evn c.n d s t e (clock:Int))*(ad 83 11 ev.1 evn ev.2 e7*(ad 3 1 d.1 c.n d.2 (aJ .i64 (dl.set w (-1)))*(ad 3 1 s.1 c.n s.2 (aJ .i64 sl)*(ad 3 1 t.1 c.n t.2 (aJ .i64 tl)*(ad 3 1 e.1 c.n e.2 (aJ .i64 el)*(Obj px 54 [.slice a.1 tf.length a.2,.int .i64 (te:Int)]*(ad 5 1 a.1 tf.length a.2 (ar tf)*F)))))))) hw (fun f' e'=>by rw[hf]at e';cases e') hc) (ag)) ?_
  intro _
  rw[hh]
  refine aa ?_;intros
  refine af rfl (Spec.pre (PB (pn:=nn) (c:=c) (n:=n) (w:=w) (F:=Obj wo 38 (da nn c jp jn jc (next:Int) ev evn c.n d s t e (clock:Int))*(ad 83 11 ev.1 evn ev.2 e7*(ad 3 1 d.1 c.n d.2 (aJ .i64 (dl.set w (-1)))*(ad 3 1 s.1 c.n s.2 (aJ .i64 sl)*(ad 3 1 t.1 c.n t.2 (aJ .i64 tl)*(ad 3 1 e.1 c.n e.2 (aJ .i64 el)*(Obj px 54 [.slice a.1 tf.length a.2,.int .i64 (te:Int)]*(ad 5 1 a.1 tf.length a.2 (ar tf)*F)))))))) hw) (ag)) ?_
  intro _
  rw[hp]
  refine aa ?_;intros
  exact ae (aj rfl rfl (⟨⟨n,next,clock,evn,e7,ev,d,s,t,e,dl.set w (-1),sl,tl,el⟩,WI.bW (x:=⟨n,next,clock,evn,bW,ev,d,s,t,e,dl.set w (-1),sl,tl,el⟩) h WK l7,rfl⟩:{y:fA//WI c jn i y∧y.n=n}) rfl (U.sat (by dsimp only;exact ag)))
end
section
open Go.RowKit
set_option maxRecDepth 10000
attribute [local irreducible] EK EX ER EN EL ES EG an aR aU
variable {W:World} {F:SL} {X:Cx} {k:List KI} {σ:Env}
def Fi (z:Int):Nat:=[2,4,16,64].getD (um z 4) 2
def uS (x:Int)(y:Nat)(z:Int):NC:=⟨1+um x 4,3221225985,1000,1000+y,Fi z,4⟩
theorem Wc (x:Int){y:Nat}(hy:y<40)(z:Int):(uS x y z).Ok:=by
 have h:=nZ x (m:=4) (by decide)
 have h2:=nZ z (m:=4) (by decide)
 refine⟨by unfold uS;dsimp only;omega,by unfold uS;dsimp only;omega,by unfold uS;dsimp only;omega,?_,by unfold uS;dsimp only;omega⟩
 show jK ((Fi z:Nat):Int)
 unfold Fi
 generalize um z 4=i at*
 obtain rfl|rfl|rfl|rfl:i=0∨i=1∨i=2∨i=3:=by omega
 all_goals (unfold jK;decide)
theorem Nh (x:Int){y:Nat}(hy:y<40)(z:Int):Spec Tryz.prog 22 [.int .i64 x,.int .i64 (y:Int),.int .i64 z] W F (fun _:Unit=>(uS x y z).cfg.val) (fun _=>F):=by
 refine Spec.of Tryz.func22 rfl Tryz.ntmps22 rfl ?_
 have ux:=tF x (m:=4) (by decide) (by decide)
 have uz:=tF z (m:=4) (by decide) (by decide)
 have uy:(y:Int)%40=(y:Int):=by omega
 have n4:((4:Nat):Int)=4:=rfl
 rw[n4]at ux uz
 have lx:=nZ x (m:=4) (by decide)
 have lz:=nZ z (m:=4) (by decide)
 have hv:(uS x y z).cfg.val= .agg #[.int .i64 (1+(um x 4:Int)),.int .u32 3221225985,.int .i64 1000,.int .i64 (1000+(y:Int)),.int .i64 (([2,4,16,64].getD (um z 4) 2:Nat):Int),.int .i64 4]:=rfl
 refine aa ?_;intros
 rw[ux,uy,uz,hv]
 generalize um z 4=i at*
 obtain rfl|rfl|rfl|rfl:i=0∨i=1∨i=2∨i=3:=by omega
 all_goals
  refine aa ?_;intros
  refine ae (lQ (rv:= .cell 6 34) rfl ⟨_,rfl,aX.agg rfl⟩ () rfl (U.sat ?_))
  exact ag
end
section
open Go.RowKit
set_option maxRecDepth 10000
attribute [local irreducible] EK EX ER EN EL ES EG an aR aU
variable {W:World} {F:SL} {X:Cx} {k:List KI} {σ:Env} {c:NC} {w:Nat} {wo nn jp:Option Addr} {jn jc:Nat}
attribute [local simp] Bj
theorem XZ {l:List Int}{w:Nat}:l.set w (l.getD w 0)=l:=by
 refine List.ext_getElem? fun i=> ?_
 rw[List.getElem?_set,List.getD_eq_getElem?_getD]
 split
 ·rename_i e
  subst e
  split
  ·rename_i h;rw[List.getElem?_eq_getElem h];rfl
  ·rename_i h;rw[List.getElem?_eq_none (by omega)]
 ·rfl
abbrev w7 (c:NC)(jn i:Nat)(s:aW)(bz:Bool):Type:={y:fA//WI c jn (i+1) y∧cn s y.n.sh∧(bz=false→y.n.sh=s)}
set_option maxHeartbeats 4000000 in
theorem PA (hT:gC W){f:Nat→lR}[ro:Ro W jp jn (oH jn f)](hf:∀i,i<jn→(f i).Ok W){i:Nat}(hj:jn≤300)(hi:i<50000)(hw:w<c.n)(hc:c.Ok){x:fA}(h:WI c jn i x){bz:Bool}(hb:(x.n.wk.getD w al).busy=bz):
  Spec Tryz.prog 21 [.pointer wo,.int .i64 (w:Int)] W (x.at wo nn c jp jn jc F) (fun _:w7 c jn i x.n.sh bz=> .bool true) (fun y=>y.1.at wo nn c jp jn jc F):=by
 refine Spec.of Tryz.func21 rfl Tryz.ntmps21 rfl ?_
 have nI:=hc.n
 have uw:IntKind.i64.wrap ((w:Int)%(c.n:Int))=(w:Int):=by
  rw[Int.emod_eq_of_lt (by omega) (by omega),IntKind.wrap_i64]
  omega
 haveI:Pos c.n:=⟨by omega⟩
 obtain⟨n,next,clock,evn,bW,ev,d,s,t,e,dl,sl,tl,el⟩:=x
 simp only[fA.at]
 refine aa ?_;intros
 rw[uw]
 refine af rfl (Spec.pre (tM (pn:=nn) (c:=c) (n:=n) (w:=w) (F:=Obj wo 38 (da nn c jp jn jc (next:Int) ev evn c.n d s t e (clock:Int))*(ad 83 11 ev.1 evn ev.2 bW*(ad 3 1 d.1 c.n d.2 (aJ .i64 dl)*(ad 3 1 s.1 c.n s.2 (aJ .i64 sl)*(ad 3 1 t.1 c.n t.2 (aJ .i64 tl)*(ad 3 1 e.1 c.n e.2 (aJ .i64 el)*F)))))) hw) (ag)) ?_
 intro _
 dsimp only at hb
 rw[hb]
 cases bz with
 |false=>
  refine aa ?_;intros
  refine af rfl (Spec.pre (P4 (wo:=wo) (nn:=nn) (jp:=jp) (jc:=jc) (F:=F) hf hj hw hc h.wl hb) (by simp only[fA.at];exact ag)) ?_
  intro y
  obtain⟨b1,b2⟩:=h.fc hw hi hb y
  refine aa ?_;intros
  exact ae (aj rfl rfl (⟨y.1,b1,by rw[b2];exact cn.refl,fun _=>b2⟩:w7 c jn i n.sh false) rfl (U.sat (ag)))
 |true=>
  obtain⟨K,hK,hs⟩:=h.safe
  have oE:=h.wl.nx
  have sV:=h.clock
  have sX:=h.kp
  have Tv:=h.wl.clock
  dsimp only at hK hs oE sV sX Tv
  have lH:=WO (c:=c) (w:=w) (n:=n)
  have vT:=hs.wk w hw
  have kW:=hs.Ry hc (by omega) (by omega) hw
  have fg:=hs.xG hc (by omega) hw
  have ft:=hs.len
  cases hf:(n.wk.getD w al).frame with
  |some f=>
   obtain⟨b1,b2,b3,b4⟩:=h.bw.frame hw hf (vT.frame f hf).done (vT.frame f hf).le ((vT.frame f hf).hid hc)
   have d3:=(h.bw.fr w hw).2 (by rw[hf];rfl)
   obtain⟨d1,d2⟩:=h.bw.dr w hw
   dsimp only at b1 b2 b3 b4 d1 d2 d3
   have hd:=h.wl.d
   dsimp only at hd
   refine aa ?_;intros
   rw[show(clock:Int)+1=((clock+1:Nat):Int)from rfl]
   refine af rfl (Spec.pre (Hb (pn:=nn) (c:=c) (n:=n) (w:=w) (F:=Obj wo 38 (da nn c jp jn jc (next:Int) ev evn c.n d s t e ((clock+1:Nat):Int))*(ad 83 11 ev.1 evn ev.2 bW*(ad 3 1 d.1 c.n d.2 (aJ .i64 dl)*(ad 3 1 s.1 c.n s.2 (aJ .i64 sl)*(ad 3 1 t.1 c.n t.2 (aJ .i64 tl)*(ad 3 1 e.1 c.n e.2 (aJ .i64 el)*F)))))) hT hc ft hw kW) (ag)) ?_
   intro _
   generalize bX c w n=r at*
   obtain⟨n',b⟩:=r
   dsimp only at b1 b2 b3 b4 fg lH ⊢
   have fZ:(n'.wk.getD w al).busy= !b:=by
    unfold aK.busy
    rw[b1,b2]
    cases (n'.wk.getD w al).frame<;>rfl
   cases b with
   |false=>
    refine aa ?_;intros
    refine af rfl (Spec.pre (tM (pn:=nn) (c:=c) (n:=n') (w:=w) (F:=Obj wo 38 (da nn c jp jn jc (next:Int) ev evn c.n d s t e ((clock+1:Nat):Int))*(ad 83 11 ev.1 evn ev.2 bW*(ad 3 1 d.1 c.n d.2 (aJ .i64 dl)*(ad 3 1 s.1 c.n s.2 (aJ .i64 sl)*(ad 3 1 t.1 c.n t.2 (aJ .i64 tl)*(ad 3 1 e.1 c.n e.2 (aJ .i64 el)*F)))))) hw) (ag)) ?_
    intro _
    rw[fZ]
    refine aa ?_;intros
    have b5:=b3 rfl
    obtain⟨f',nL⟩:∃f',(n'.wk.getD w al).frame=some f':=by
     cases q:(n'.wk.getD w al).frame with
     |none=>rw[q]at b1;cases b1
     |some f'=>exact⟨f',rfl⟩
    refine af rfl (Spec.pre (Ss (wo:=wo) (nn:=nn) (jp:=jp) (jc:=jc) (F:=F) (i:=i+1) (x:=⟨n',next,clock+1,evn,bW,ev,d,s,t,e,dl,sl,tl,el⟩) hw hc ⟨⟨b5.wl,b5.d,b5.e,h.wl.sl,h.wl.tl,oE,h.wl.dA,h.wl.xM,by dsimp only;omega,h.wl.kp⟩,b5,⟨K+1,by omega,fg⟩,by dsimp only;omega,by dsimp only;omega⟩ nL ((b5.tA w hw).1 f' nL).1.2) (by simp only[fA.at];exact ag)) ?_
    intro y
    refine aa ?_;intros
    exact ae (aj rfl rfl (⟨y.1,y.2.1,by rw[y.2.2];exact lH,fun q=>(by cases q)⟩:w7 c jn i n.sh true) rfl (U.sat (ag)))
   |true=>
    refine aa ?_;intros
    refine af rfl (Spec.pre (tM (pn:=nn) (c:=c) (n:=n') (w:=w) (F:=Obj wo 38 (da nn c jp jn jc (next:Int) ev evn c.n d s t e ((clock+1:Nat):Int))*(ad 83 11 ev.1 evn ev.2 bW*(ad 3 1 d.1 c.n d.2 (aJ .i64 dl)*(ad 3 1 s.1 c.n s.2 (aJ .i64 sl)*(ad 3 1 t.1 c.n t.2 (aJ .i64 tl)*(ad 3 1 e.1 c.n e.2 (aJ .i64 el)*F)))))) hw) (ag)) ?_
    intro _
    rw[fZ]
    refine aa ?_;intros
    obtain⟨b5,b6,b7⟩:=b4 rfl
    have nL:(n'.wk.getD w al).frame=none:=by
     cases q:(n'.wk.getD w al).frame with
     |none=>rfl
     |some f'=>rw[q]at b1;cases b1
    refine af rfl (Spec.pre (Sr (wo:=wo) (nn:=nn) (jp:=jp) (jc:=jc) (F:=F) (i:=i+1) (x:=⟨n',next,clock+1,evn,bW,ev,d,s,t,e,dl,sl,tl,el⟩) hw hc ⟨⟨b7.wl,b7.d,b7.e,h.wl.sl,h.wl.tl,oE,h.wl.dA,h.wl.xM,by dsimp only;omega,h.wl.kp⟩,b7,⟨K+1,by omega,fg⟩,by dsimp only;omega,by dsimp only;omega⟩ hd ⟨d3,d2⟩ nL b5 b6) (by simp only[fA.at];exact ag)) ?_
    intro y
    refine aa ?_;intros
    exact ae (aj rfl rfl (⟨y.1,y.2.1,by rw[y.2.2];exact lH,fun q=>(by cases q)⟩:w7 c jn i n.sh true) rfl (U.sat (ag)))
  |none=>
   cases hx:(n.wk.getD w al).aC with
   |none=>
    unfold aK.busy at hb
    rw[hf,hx]at hb
    cases hb
   |some x=>
   obtain⟨b1,b2,b3,b4,b5⟩:=h.bw.Yn hw hf hx
   have d3:=h.bw.fr w hw
   rw[hf]at d3
   have d3:¬0≤dl.getD w 0:=fun q=>by have:=d3.1 q;cases this
   have hd:=h.wl.d
   have he:=h.wl.e
   have JF:=h.wl.dA
   have sZ:=h.wl.xM
   have kY:=h.wl.sl
   have pC:=h.wl.tl
   dsimp only at b1 b2 b3 b4 b5 hd he JF sZ kY pC
   refine aa ?_;intros
   rw[show(clock:Int)+1=((clock+1:Nat):Int)from rfl]
   refine af rfl (Spec.pre (Hb (pn:=nn) (c:=c) (n:=n) (w:=w) (F:=Obj wo 38 (da nn c jp jn jc (next:Int) ev evn c.n d s t e ((clock+1:Nat):Int))*(ad 83 11 ev.1 evn ev.2 bW*(ad 3 1 d.1 c.n d.2 (aJ .i64 dl)*(ad 3 1 s.1 c.n s.2 (aJ .i64 sl)*(ad 3 1 t.1 c.n t.2 (aJ .i64 tl)*(ad 3 1 e.1 c.n e.2 (aJ .i64 el)*F)))))) hT hc ft hw kW) (ag)) ?_
   intro _
   generalize bX c w n=r at*
   obtain⟨n',b⟩:=r
   dsimp only at b1 b2 b3 b4 b5 fg lH ⊢
   have fZ:(n'.wk.getD w al).busy= !b:=by
    unfold aK.busy
    rw[b1,b2]
    cases (n'.wk.getD w al).aC<;>rfl
   have AF:(b== !b)=false:=by cases b<;>rfl
   have AJ:=(fg.wk w hw).ended
   refine aa ?_;intros
   refine af rfl (Spec.pre (tM (pn:=nn) (c:=c) (n:=n') (w:=w) (F:=Obj wo 38 (da nn c jp jn jc (next:Int) ev evn c.n d s t e ((clock+1:Nat):Int))*(ad 83 11 ev.1 evn ev.2 bW*(ad 3 1 d.1 c.n d.2 (aJ .i64 dl)*(ad 3 1 s.1 c.n s.2 (aJ .i64 sl)*(ad 3 1 t.1 c.n t.2 (aJ .i64 tl)*(ad 3 1 e.1 c.n e.2 (aJ .i64 el)*F)))))) hw) (ag)) ?_
   intro _
   rw[fZ]
   refine aa ?_;intros
   rw[AF]
   refine aa ?_;intros
   refine af rfl (Spec.pre (GI (pn:=nn) (c:=c) (n:=n') (w:=w) (F:=Obj wo 38 (da nn c jp jn jc (next:Int) ev evn c.n d s t e ((clock+1:Nat):Int))*(ad 83 11 ev.1 evn ev.2 bW*(ad 3 1 d.1 c.n d.2 (aJ .i64 dl)*(ad 3 1 s.1 c.n s.2 (aJ .i64 sl)*(ad 3 1 t.1 c.n t.2 (aJ .i64 tl)*(ad 3 1 e.1 c.n e.2 (aJ .i64 el)*F)))))) hw (by omega)) (ag)) ?_
   intro z
   obtain⟨E,hE⟩:∃E,(n'.wk.getD w al).ended=E:=⟨_,rfl⟩
   rw[hE]at b4 b5 AJ ⊢
   obtain⟨m0,JI⟩:∃m0:Nat,el.getD w 0=(m0:Int):=⟨(el.getD w 0).toNat,by omega⟩
   refine aa ?_;intros
   refine fy (γ:=Nat×Nat×az×List Value×List Int) (fun g=>m0≤g.1∧g.1≤E.length∧evn≤g.2.1∧g.2.1≤evn+g.1∧dA g.2.2.2.1=true∧g.2.2.2.1.length=g.2.1*11∧g.2.2.2.2=el.set w (g.1:Int)) (fun _=>[(0,.pointer wo),(5,.int .i64 (w:Int)),(7,.slice z.1 E.length z.2)])
    (fun g=>Obj wo 38 (da nn c jp jn jc (next:Int) g.2.2.1 g.2.1 c.n d s t e ((clock+1:Nat):Int))*(ad 83 11 g.2.2.1.1 g.2.1 g.2.2.1.2 g.2.2.2.1*(ad 3 1 d.1 c.n d.2 (aJ .i64 dl)*(ad 3 1 s.1 c.n s.2 (aJ .i64 sl)*(ad 3 1 t.1 c.n t.2 (aJ .i64 tl)*(ad 3 1 e.1 c.n e.2 (aJ .i64 g.2.2.2.2)*(ad 132 2 z.1 E.length z.2 (cN E)*(dn nn c n'*F)))))))) (fun g=>E.length-g.1)
    (m0,evn,ev,bW,el) ⟨Nat.le_refl _,by omega,Nat.le_refl _,by dsimp only;omega,JF,sZ,by dsimp only;rw[←JI];exact XZ.symm⟩ ⟨rfl,rfl,rfl,trivial⟩ (U.sat (ag)) ?_
   intro ⟨m,vn,v,vs,xJ⟩ ⟨h1,h2,h3,h4,h5,h6,h7⟩
   dsimp only at h1 h2 h3 h4 h5 h6 h7 ⊢
   have gm:xJ.getD w 0=(m:Int):=by rw[h7,pe (by omega),if_pos rfl]
   have gl:xJ.length=c.n:=by rw[h7,List.length_set];exact he
   by_cases hm:m<E.length
   ·refine aa ?_;intros
    rw[gm]
    refine aa ?_;intros
    rename_i px
    refine ay 33 (Obj wo 38 (da nn c jp jn jc (next:Int) v vn c.n d s t e ((clock+1:Nat):Int))*(Obj px 132 [.int .i64 (E.getD m (0,0)).1,.int .i64 (E.getD m (0,0)).2]*(ad 3 1 s.1 c.n s.2 (aJ .i64 sl)*(ad 3 1 t.1 c.n t.2 (aJ .i64 tl)*1)))) rfl rfl rfl ?_
    refine ah ?_
    refine bD ?_;intros
    rename_i v2
    refine aa ?_;intros
    exact cJ (m+1,vn+1,v2,vs++[.int .i64 (sl.getD w 0),.int .i64 ((clock+1:Nat):Int),.bool true,.bool false,.slice none 0 0,.int .i64 (tl.getD w 0),.int .i64 0,.slice none 0 0,.int .i64 0,.int .i64 (E.getD m (0,0)).1,.int .i64 (E.getD m (0,0)).2],xJ.set w (xJ.getD w 0+1)) ⟨by dsimp only;omega,hm,by dsimp only;omega,by dsimp only;omega,K5 h5 rfl,by rw[List.length_append,h6,Nat.succ_mul];rfl,by rw[gm,h7,List.set_set];rfl⟩ (by dsimp only;omega) ⟨rfl,rfl,rfl,trivial⟩ (U.sat (ag))
   ·obtain rfl:m=E.length:=by omega
    refine aa ?_;intros
    have b6:=b5 vn h3
    rw[←h7]at b6
    exact ae (aj rfl rfl (⟨⟨n',next,clock+1,vn,vs,v,d,s,t,e,dl,sl,tl,xJ⟩,⟨⟨b6.wl,b6.d,b6.e,h.wl.sl,h.wl.tl,oE,h5,h6,by dsimp only;omega,by dsimp only;omega⟩,b6,⟨K+1,by omega,fg⟩,by dsimp only;omega,by dsimp only;omega⟩,lH,fun q=>(by cases q)⟩:w7 c jn i n.sh true) rfl (U.sat (by simp only[fA.at];exact ag)))
end
section
open Go.RowKit
set_option maxRecDepth 10000
attribute [local irreducible] EK EX ER EN EL ES EG an aR aU
variable {W:World} {F:SL} {X:Cx} {k:List KI} {σ:Env} {pn:Option Addr} {c:NC} {n:cH} {K B:Nat}
theorem Safe.lens (h:Safe c K B n)(hc:c.Ok):n.sh.pl.length≤10000∧n.sh.tb.length≤10000∧(∀i,i<3→(n.sh.po i).length≤10000)∧n.sh.ep.length≤10000:=by
 have hp:=hc.np
 have hn:=hc.n
 refine⟨?_,?_,fun i hi=> ?_,?_⟩
 ·have:=h.sh.pl.len
  omega
 ·have:=h.sh.tb.len
  have:=h.sh.tb.n2
  omega
 ·have:=(h.sh.po i hi).words.len
  have:=(h.sh.po i hi).words.most
  omega
 ·have:=h.sh.ep.len
  omega
theorem Gq (hc:c.Ok)(h:Safe c K B n):Spec Tryz.prog 11 [.pointer pn] W (dn pn c n*F) (fun q:az=> .slice q.1 (ir n.sh).length q.2) (fun q=>ad 61 1 q.1 (ir n.sh).length q.2 (ba .u64 (ir n.sh))*(dn pn c n*F)):=by
 obtain⟨h0,h1,h2,h3⟩:=h.lens hc
 refine Spec.uf fun R=> ?_
 have mh:U (gA pn c n R*F) (dn pn c n*F):=U.ex R (U.refl _)
 rw[gA.eq]at mh ⊢
 exact(Spec.pre (Nk (pn:=pn) (c:=c) (R:=R) (n:=n) (F:=ad 107 1 R.ws.1 c.n R.ws.2 (cF c.n fun i=>(R.wk i).p)*(ao (gk R n.wk) c.n*F)) h0 h1 h2 h3) (by simp only[bJ];exact ag)).mono fun q=>⟨q,rfl,U.cons (U.trans (by simp only[bJ];exact ag) mh)⟩
theorem QT (h:Safe c K B n)(hc:c.Ok):(ir n.sh).length≤100000:=by
 obtain⟨h0,h1,h2,h3⟩:=h.lens hc
 have:=h2 0 (by decide)
 have:=h2 1 (by decide)
 have:=h2 2 (by decide)
 unfold ir
 simp only[List.length_append]
 omega
end
section
open Go.ChangeShapes Go.WideShapes Go.ChangeAt Go.RowKit Go.Deep
inductive kO where
 |i64|bool|u8|u16|u32|bytes
def kO.At (W:World)(v:Value):kO→Prop
 | .i64=>∃n:Int,v= .int .i64 n∧ -9223372036854775808≤n∧n≤9223372036854775807
 | .bool=>∃b,v= .bool b
 | .u8=>∃n:Nat,v= .int .u8 (n:Int)∧n<256
 | .u16=>∃n:Nat,v= .int .u16 (n:Int)∧n<65536
 | .u32=>∃n:Nat,v= .int .u32 (n:Int)∧n<4294967296
 | .bytes=>∃(p:Option Addr) (l:List UInt8) (c:Nat),v= .slice p l.length c∧Ro W p l.length (ar l)∧l.length≤c∧c≤140737488355328
def Bq (P:Program)(g:TypeId→Option (List kO)):List Field→Nat→Option (List kO)
 |[],_=>some []
 |f::fs,o=>if f.offset=o then
   match g f.type with
   |some l=>if P.cellsOf f.type=l.length then
     match Bq P g fs (o+l.length)with
     |some r=>some (l++r)
     |none=>none
    else none
   |none=>none
  else none
def Br (P:Program):Nat→TypeId→Option (List kO)
 |0,_=>none
 |n+1,t=>match P.underlying t with
  |some .bool=>some [.bool]
  |some (.int .i64)=>some [.i64]
  |some (.int .u8)=>some [.u8]
  |some (.int .u16)=>some [.u16]
  |some (.int .u32)=>some [.u32]
  |some (.slice e)=>match P.underlying e with
   |some (.int .u8)=>if P.cellsOf e=1∧P.bytesOf e=1 then some [.bytes]else none
   |_=>none
  |some (.struct fs)=>match Bq P (Br P n) fs.toList 0 with
   |some ls=>if P.cellsOf t=ls.length then some ls else none
   |none=>none
  |_=>none
section
variable {H:Type} {enc:TypeId×Value→H} {P:Program} {W:World} {base:Nat} {held:Bool}
def oU (W:World)(ls:List kO)(cs:List Value):Prop:=cs.length=ls.length∧∀(i:Nat) (l:kO),ls[i]? =some l→∃v,cs[i]? =some v∧l.At W v
theorem oU.one {l:kO}{v:Value}(h:l.At W v):oU W [l] [v]:=⟨rfl,fun i l' hl=>by
 cases i with
 |zero=>
  cases hl
  exact⟨v,rfl,h⟩
 |succ i=>simp at hl⟩
theorem tJ {k:IntKind}{n:Int}(h:(Lit.int k n).wf=true):k.min≤n∧n≤k.max:=by
 have h':(decide (k.min≤n)&&decide (n≤k.max))=true:=h
 rwa[Bool.and_eq_true,decide_eq_true_eq,decide_eq_true_eq]at h'
def mG (P:Program)(t:TypeId)(d:DataW H):Prop:=∀n∈d.weights P t,n≤140737488355328
theorem Mw {t e:TypeId}{a b:List (DataW H)}(ht:P.underlying t=some (.slice e)):DataW.weights P t (.slice a b)=(a.length+b.length)*P.bytesOf e::(DataW.weightsAll P e a++DataW.weightsAll P e b):=by
 unfold DataW.weights
 rw[ht]
theorem mG.cap {t e:TypeId}{a b:List (DataW H)}(h:mG P t (.slice a b))(ht:P.underlying t=some (.slice e))(hb:0<P.bytesOf e):a.length+b.length≤140737488355328:=by
 have:=h ((a.length+b.length)*P.bytesOf e) (by rw[Mw ht];exact List.mem_cons_self)
 exact Nat.le_trans (Nat.le_mul_of_pos_right _ hb) this
theorem Mv {e:TypeId}:∀ {a:List (DataW H)} {d:DataW H},d∈a→∀n∈d.weights P e,n∈DataW.weightsAll P e a
 |x::a,d,hd,n,hn=>by
  unfold DataW.weightsAll
  rcases List.mem_cons.1 hd with rfl|hd
  ·exact List.mem_append_left _ hn
  ·exact List.mem_append_right _ (Mv hd n hn)
theorem mG.elem {t e:TypeId}{a b:List (DataW H)}(h:mG P t (.slice a b))(ht:P.underlying t=some (.slice e)){d:DataW H}(hd:d∈a):mG P e d:=fun n hn=>
 h n (by rw[Mw ht];exact List.mem_cons_of_mem _ (List.mem_append_left _ (Mv hd n hn)))
theorem mG.field {t:TypeId}{fs:Array Field}{ps:List (DataW H)}(h:mG P t (.agg ps))(ht:P.underlying t=some (.struct fs)){i:Nat}{f:Field}{d:DataW H}(hf:fs[i]? =some f)(hd:ps[i]? =some d):mG P f.type d:=fun n hn=>
 h n (by
  unfold DataW.weights
  rw[ht]
  exact DataW.weights_mem_each (j:=i) (by rw[List.getElem?_map];simp[hf]) hd n hn)
theorem Sf {ts:List TypeId}{ds:List (DataW H)}(h:(DataW.weightsEach P ts ds).all (· ≤reachBytes)=true){j:Nat}{t:TypeId}{d:DataW H}(ht:ts[j]? =some t)(hd:ds[j]? =some d):mG P t d:=fun n hn=>by
 have:=List.all_eq_true.1 h n (DataW.weights_mem_each ht hd n hn)
 exact Nat.le_trans (of_decide_eq_true this) (by decide)
theorem QN {t e:TypeId}{fuel:Nat}{cs:List Value}{x:DataW H×List MemPlace}(ht:P.underlying t=some (.slice e))(he:P.underlying e=some (.int .u8))(hc:P.cellsOf e=1)(hb:P.bytesOf e=1)(hw:mG P t x.1)
  (h:DataW.trod enc P W base (fun _=>true) held fuel t cs=some x):∃(p:Option Addr) (l:List UInt8) (c:Nat),cs=[.slice p l.length c]∧Ro W p l.length (ar l)∧l.length≤c∧c≤140737488355328:=by
 rcases open_ints ht he hc h with ⟨h0,_⟩|⟨a,len,cap,zs,h0,_,hl,hm,hz,hx,uv,J9⟩
 ·exact⟨none,[],0,h0,⟨fun i v hv=>by simp[ar]at hv,fun h=>by simp at h⟩,by simp,by decide⟩
 ·simp only[if_true]at hz
  have AI:cap≤140737488355328:=by
   rw[hx]at hw
   have:=hw.cap ht (by rw[hb];decide)
   simp only[lits,List.length_map,List.length_take,List.length_drop]at this
   omega
  have hlen:((zs.take len).map fun z=>UInt8.ofNat z.toNat).length=len:=by rw[List.length_map,List.length_take];omega
  refine⟨some a,(zs.take len).map fun z=>UInt8.ofNat z.toNat,cap,by rw[hlen];exact h0,⟨fun i v hv=> ?_,fun _=>by simp⟩,by rw[hlen];exact hl,AI⟩
  unfold ar at hv
  rw[List.map_map,List.getElem?_map,List.getElem?_take]at hv
  split at hv
  ·rename_i hi
   have bY:i<zs.length:=by omega
   rw[List.getElem?_eq_getElem bY]at hv
   simp only[Option.map_some,Option.some.injEq,Function.comp]at hv
   subst hv
   have hw:=tJ (J9 _ (List.getElem_mem bY))
   have h0:(0:Int)≤zs[i]:=hw.1
   have h1:zs[i]≤255:=hw.2
   have:=uv i bY
   rw[List.getD_eq_getElem?_getD,List.getElem?_eq_getElem bY,Option.getD_some]at this
   refine⟨a.add i,rfl,World.block_lt_of_cell? _ _ this,?_⟩
   rw[this,UInt8.toNat_ofNat',Nat.mod_eq_of_lt (by omega),Int.toNat_of_nonneg h0]
  ·simp at hv
theorem Kl {g:TypeId→Option (List kO)}{cs:List Value}{n:Nat}(hg:∀t ls c x,g t=some ls→DataW.trod enc P W base (fun _=>true) held n t c=some x→mG P t x.1→oU W ls c):
  ∀(fs:List Field) (o:Nat) (r:List kO),Bq P g fs o=some r→(∀f∈fs,∃x,DataW.trod enc P W base (fun _=>true) held n f.type ((cs.drop f.offset).take (P.cellsOf f.type))=some x∧mG P f.type x.1)→∀(i:Nat) (l:kO),r[i]? =some l→∃v,cs[o+i]? =some v∧l.At W v
 |[],o,r,h,_=>by
  cases h
  intro i l hl
  simp at hl
 |f::fs,o,r,h,hf=>by
  unfold Bq at h
  split at h
  ·rename_i ho
   split at h
   ·rename_i l1 rH
    split at h
    ·rename_i hk
     split at h
     ·rename_i r1 yy
      cases h
      obtain⟨x,hx,gU⟩:=hf f List.mem_cons_self
      obtain⟨hlen,uq⟩:=hg _ _ _ _ rH hx gU
      intro i l hl
      rcases Nat.lt_or_ge i l1.length with hi|hi
      ·rw[List.getElem?_append_left hi]at hl
       obtain⟨v,hv,hA⟩:=uq i l hl
       rw[List.getElem?_take,hk,if_pos hi,List.getElem?_drop,ho]at hv
       exact⟨v,hv,hA⟩
      ·rw[List.getElem?_append_right hi]at hl
       obtain⟨v,hv,hA⟩:=Kl hg fs _ _ yy (fun f hm=>hf f (List.mem_cons_of_mem _ hm)) _ _ hl
       exact⟨v,by rw[←hv];congr 1;omega,hA⟩
     ·cases h
    ·cases h
   ·cases h
  ·cases h
theorem Kn:∀(m:Nat) (t:TypeId) (ls:List kO) (n:Nat) (cs:List Value) (x:DataW H×List MemPlace),Br P m t=some ls→DataW.trod enc P W base (fun _=>true) held n t cs=some x→mG P t x.1→oU W ls cs
 |0,t,ls,n,cs,x,h,_,_=>by cases h
 |m+1,t,ls,n,cs,x,h,hx,gU=>by
  unfold Br at h
  split at h
  ·rename_i ht
   cases h
   obtain⟨b,rfl,_⟩:=DataW.trod_bool ht hx
   exact .one ⟨b,rfl⟩
  ·rename_i ht
   cases h
   obtain⟨z,rfl,_,hw⟩:=DataW.trod_int ht hx
   have:=tJ hw
   exact .one ⟨z,rfl,this.1,this.2⟩
  ·rename_i ht
   cases h
   obtain⟨z,rfl,_,hw⟩:=DataW.trod_int ht hx
   have h0:(0:Int)≤z:=(tJ hw).1
   have h1:z≤255:=(tJ hw).2
   exact .one ⟨z.toNat,by rw[Int.toNat_of_nonneg h0],by omega⟩
  ·rename_i ht
   cases h
   obtain⟨z,rfl,_,hw⟩:=DataW.trod_int ht hx
   have h0:(0:Int)≤z:=(tJ hw).1
   have h1:z≤65535:=(tJ hw).2
   exact .one ⟨z.toNat,by rw[Int.toNat_of_nonneg h0],by omega⟩
  ·rename_i ht
   cases h
   obtain⟨z,rfl,_,hw⟩:=DataW.trod_int ht hx
   have h0:(0:Int)≤z:=(tJ hw).1
   have h1:z≤4294967295:=(tJ hw).2
   exact .one ⟨z.toNat,by rw[Int.toNat_of_nonneg h0],by omega⟩
  ·rename_i e ht
   split at h
   ·rename_i he
    split at h
    ·rename_i hc
     cases h
     obtain⟨p,l,c,rfl,h1,h2,h3⟩:=QN ht he hc.1 hc.2 gU hx
     exact .one ⟨p,l,c,rfl,h1,h2,h3⟩
    ·cases h
   ·cases h
  ·rename_i fs ht
   split at h
   ·rename_i ls' T3
    split at h
    ·rename_i hc
     cases h
     obtain⟨ys,n',_,Bf,hl,hy,hf⟩:=DataW.trod_struct ht hx
     rw[Bf]at gU
     refine⟨by rw[hl,hc],fun i l hi=> ?_⟩
     have:=Kl (cs:=cs) (n:=n') (fun t ls c x=>Kn m t ls n' c x) fs.toList 0 _ T3 (fun f hm=>by
      obtain⟨j,hj,e⟩:=List.getElem_of_mem hm
      have oD:j<fs.size:=by simpa using hj
      have e':fs[j]? =some f:=by rw[Array.getElem?_eq_getElem oD,←e];simp
      have:=hf j f e'
      rw[List.getElem?_eq_getElem (by omega)]at this
      exact⟨_,this,gU.field ht e' (by rw[List.getElem?_map,List.getElem?_eq_getElem (by omega)];rfl)⟩) i l hi
     rwa[Nat.zero_add]at this
    ·cases h
   ·cases h
  ·cases h
theorem XF {t e:TypeId}{m fuel k:Nat}{ls:List kO}{cs:List Value}{x:DataW H×List MemPlace}(ht:P.underlying t=some (.slice e))(hl:Br P m e=some ls)(hC:P.cellsOf e=k)(hk:ls.length=k)(h0:0<k)(hb:0<P.bytesOf e)(hw:mG P t x.1)
  (h:DataW.trod enc P W base (fun _=>true) held fuel t cs=some x):∃(p:Option Addr) (n c:Nat) (f:Nat→List Value),cs=[.slice p n c]∧n≤c∧c≤140737488355328∧(∀i,i<n→oU W ls (f i))∧Ro W p n ((List.range n).flatMap f):=by
 rcases Deep.open_slice ht h with ⟨h0,_⟩|⟨a,len,cap,mm,n,D,Pl,qq,_,hle,hm,AW,hx,ku⟩
 ·exact⟨none,0,0,fun _=>[],h0,by simp,by simp,fun i hi=>by omega,⟨fun i v hv=>by simp at hv,fun h=>by simp at h⟩⟩
 ·simp only[if_true]at AW
  subst AW
  rw[hx]at hw
  have AI:mm≤140737488355328:=by
   have:=hw.cap ht hb
   simp only[List.length_map,List.length_range]at this
   omega
  have each:∀i,i<len→∃y:List Value,oU W ls y∧∀j v,y[j]? =some v→W.cell? (a.add (i*k+j))=some v:=by
   intro i hi
   obtain⟨eG,qs,qB⟩:=ku i (by omega)
   rw[hC]at qs
   obtain⟨_,jD,uq⟩:=World.cells?_some qs
   refine⟨eG,Kn _ _ _ _ _ _ hl qB (hw.elem ht (List.mem_map.2 ⟨i,List.mem_range.2 hi,rfl⟩)),fun j v hv=> ?_⟩
   have hj:j<eG.length:=(List.getElem?_eq_some_iff.1 hv).1
   have:=uq j (by omega)
   rw[Deep.add_add]at this
   rw[this]
   exact hv
  obtain⟨f,hf⟩:=Deep.choose_lt each
  refine⟨some a,len,mm,f,qq,hle,AI,fun i hi=>(hf i hi).1,⟨fun t' v hv=> ?_,fun _=>by simp⟩⟩
  have pk:∀i,i<len→(f i).length=k:=fun i hi=>by rw[(hf i hi).1.1,hk]
  have Ur:∀(n t':Nat) (v:Value),n≤len→((List.range n).flatMap f)[t']? =some v→∃i j,i<n∧j<k∧t'=i*k+j∧(f i)[j]? =some v:=by
   intro n
   induction n with
   |zero=>intro t' v _ hv;simp at hv
   |succ n ih=>
    intro t' v hn hv
    rw[List.range_succ,List.flatMap_append]at hv
    have sZ:∀n,n≤len→((List.range n).flatMap f).length=n*k:=by
     intro n
     induction n with
     |zero=>intro _;simp
     |succ n UN=>
      intro hn
      rw[List.range_succ,List.flatMap_append,List.length_append,UN (by omega)]
      simp only[List.flatMap_cons,List.flatMap_nil,List.append_nil]
      rw[pk n (by omega),Nat.succ_mul]
    have hL:=sZ n (by omega)
    rcases Nat.lt_or_ge t' (n*k)with bY|mU
    ·rw[List.getElem?_append_left (by omega)]at hv
     obtain⟨i,j,h1,h2,h3,h4⟩:=ih t' v (by omega) hv
     exact⟨i,j,by omega,h2,h3,h4⟩
    ·rw[List.getElem?_append_right (by omega),hL]at hv
     simp only[List.flatMap_cons,List.flatMap_nil,List.append_nil]at hv
     have hj:t'-n*k<k:=by
      have:=(List.getElem?_eq_some_iff.1 hv).1
      rw[pk n (by omega)]at this
      exact this
     exact⟨n,t'-n*k,by omega,hj,by omega,hv⟩
  obtain⟨i,j,h1,h2,h3,h4⟩:=Ur len t' v (Nat.le_refl _) hv
  have:=(hf i h1).2 j v h4
  rw[←h3]at this
  exact⟨a.add t',rfl,World.block_lt_of_cell? _ _ this,this⟩
end
end
section
open Go.ChangeShapes Go.WideShapes Go.ChangeAt Go.RowKit Go.Deep
section
variable {P:Program} {W:World} {r:Reach} {base:Nat}
theorem Qf {t:TypeId}{v:Value}{ts:List TypeId}(hu:(∃fs,P.underlying t=some (.struct fs))∨∃n e,P.underlying t=some (.array n e))(DQ:P.cellTypes P.depth t=some ts)(du:P.cellsOf t=ts.length)(h:Value.okWide P W r base t v):
  ∃cs:List Value,v= .agg cs.toArray∧cs.length=ts.length∧∀(i:Nat) (u:TypeId),ts[i]? =some u→∃x,cs[i]? =some x∧Cell.okWide P W r base u x:=by
 have h':∃cs,v= .agg cs∧cs.size=P.cellsOf t∧Row.okWide P W r base t cs:=by
  unfold Value.okWide at h
  rcases hu with ⟨fs,hu⟩|⟨n,e,hu⟩<;>rw[hu]at h<;>exact h
 obtain⟨cs,rfl,hs,ts',h1,_,h2⟩:=h'
 rw[DQ]at h1
 cases h1
 refine⟨cs.toList,by simp,by simp[hs,du],fun i u hi=> ?_⟩
 have bY:=(List.getElem?_eq_some_iff.1 hi).1
 have JH:i<cs.size:=by rw[hs,du];exact bY
 obtain⟨u',h3,h4⟩:=h2 i cs[i] (Array.getElem?_eq_getElem JH)
 rw[Nat.mod_eq_of_lt bY,hi]at h3
 cases h3
 exact⟨cs[i],by simp[JH],h4⟩
theorem E4 {u:TypeId}{k:IntKind}{x:Value}(hu:P.underlying u=some (.int k))(h:Cell.okWide P W r base u x):∃n,x= .int k n∧k.has n:=by
 unfold Cell.okWide Cell.ok at h
 rw[hu]at h
 cases x<;>simp only at h
 obtain⟨rfl,h⟩:=h
 exact⟨_,rfl,h⟩
end
end
section
open Go.ChangeShapes Go.WideShapes Go.ChangeAt Go.RowKit Go.Deep
section
variable {W:World}
theorem qg {l:kO}{ls:List kO}{vs:List Value}(h:oU W (l::ls) vs):∃v Ce,vs=v::Ce∧l.At W v∧oU W ls Ce:=by
 obtain⟨hl,ha⟩:=h
 match vs,hl with
 |v::Ce,hl=>
  refine⟨v,Ce,rfl,?_,by simpa using hl,fun i l' hi=> ?_⟩
  ·obtain⟨u,h1,h2⟩:=ha 0 l rfl
   cases h1
   exact h2
  ·obtain⟨u,h1,h2⟩:=ha (i+1) l' hi
   exact⟨u,h1,h2⟩
def XS:List kO:=[.bool,.i64,.i64,.i64,.i64,.bytes,.i64,.u8,.i64]
end
section
variable {P:Program} {W:World} {r:Reach} {base:Nat}
theorem Qk {t e:TypeId}{n:Nat}{v:Value}(hu:P.underlying t=some (.array n e))(DQ:P.cellTypes P.depth t=some [e,e,e])(du:P.cellsOf t=3)(hi:P.underlying e=some (.int .i64))(h:Value.okWide P W r base t v):∃x y z:Int,v= .agg #[.int .i64 x,.int .i64 y,.int .i64 z]:=by
 obtain⟨cs,rfl,hl,hc⟩:=Qf (.inr ⟨n,e,hu⟩) DQ du h
 match cs,hl with
 |[x0,x1,x2],_=>
  obtain⟨y0,e0,g0⟩:=hc 0 e rfl
  obtain⟨y1,e1,g1⟩:=hc 1 e rfl
  obtain⟨y2,e2,g2⟩:=hc 2 e rfl
  cases e0;cases e1;cases e2
  obtain⟨n0,rfl,_⟩:=E4 hi g0
  obtain⟨n1,rfl,_⟩:=E4 hi g1
  obtain⟨n2,rfl,_⟩:=E4 hi g2
  exact⟨n0,n1,n2,rfl⟩
end
end
section
open Go.ChangeShapes Go.WideShapes Go.ChangeAt Go.RowKit Go.Deep
variable {W:World}
def Bl:List kO:= .bool::XS
theorem UZ {vs:List Value}(h:oU W Bl vs):∃x:lR,vs=kB x∧x.Ok W:=by
 obtain⟨_,_,rfl,⟨b,rfl⟩,h0⟩:=qg h
 obtain⟨_,_,rfl,⟨b0,rfl⟩,h1⟩:=qg h0
 obtain⟨_,_,rfl,⟨z1,rfl,_⟩,h2⟩:=qg h1
 obtain⟨_,_,rfl,⟨z2,rfl,_⟩,h3⟩:=qg h2
 obtain⟨_,_,rfl,⟨z3,rfl,_⟩,h4⟩:=qg h3
 obtain⟨_,_,rfl,⟨z4,rfl,_⟩,h5⟩:=qg h4
 obtain⟨_,_,rfl,⟨p,l,c,rfl,r,k,m⟩,h6⟩:=qg h5
 obtain⟨_,_,rfl,⟨z6,rfl,_⟩,h7⟩:=qg h6
 obtain⟨_,_,rfl,⟨z7,rfl,q7⟩,h8⟩:=qg h7
 obtain⟨_,_,rfl,⟨z8,rfl,_⟩,h9⟩:=qg h8
 obtain rfl:=List.length_eq_zero_iff.1 h9.1
 exact⟨⟨b,b0,z1,z2,z3,z4,p,l,c,z6,z7,z8⟩,rfl,⟨r,k,m,q7⟩⟩
theorem U0 {j n:Nat}{g:Nat→lR}(h:j≤n):∃t,oH n g=oH j g++t:=by
 obtain⟨d,rfl⟩:∃d,n=j+d:=⟨n-j,by omega⟩
 unfold oH
 rw[List.range_add,List.flatMap_append]
 exact⟨_,rfl⟩
theorem U2 {p:Option Addr}{n j:Nat}{f:Nat→List Value}(h:∀i,i<n→oU W Bl (f i))(hr:Ro W p n ((List.range n).flatMap f))(hj:j≤n):∃g:Nat→lR,(∀i,i<j→(g i).Ok W)∧Ro W p j (oH j g):=by
 have hx:∀i,∃x:lR,i<n→f i=kB x∧x.Ok W:=fun i=>by
  by_cases hi:i<n
  ·obtain⟨x,hx⟩:=UZ (h i hi)
   exact⟨x,fun _=>hx⟩
  ·exact⟨⟨false,false,0,0,0,0,none,[],0,0,0,0⟩,fun q=>absurd q hi⟩
 obtain⟨g,hg⟩:=Classical.axiomOfChoice hx
 refine⟨g,fun i hi=>(hg i (by omega)).2,?_⟩
 have e:(List.range n).flatMap f=oH n g:=by
  unfold oH
  rw[List.flatMap_def,List.flatMap_def,List.map_congr_left (fun i hi=>(hg i (List.mem_range.1 hi)).1)]
 obtain⟨t,ht⟩:=U0 (g:=g) hj
 rw[e,ht]at hr
 exact⟨fun i v hv=>hr.cells i v (by rw[List.getElem?_append_left (List.getElem?_eq_some_iff.1 hv).1];exact hv),fun h=>hr.nn (by omega)⟩
end
section
open Go.RowKit
set_option maxRecDepth 10000
attribute [local irreducible] EK EX ER EN EL ES EG an aR aU
variable {W:World} {F:SL} {X:Cx} {k:List KI} {σ:Env}
attribute [local simp] Bj qF
structure nw (n i:Nat)(l:List Int):Prop where
 len:l.length=n
 le:∀v,0≤l.getD v 0∧l.getD v 0≤(i:Int)
theorem nw.zero (n:Nat):nw n 0 (List.replicate n 0):=⟨List.length_replicate,fun v=>by
 rw[List.getD_eq_getElem?_getD,List.getElem?_replicate]
 split<;>exact⟨Int.le_refl _,Int.le_refl _⟩⟩
theorem nw.more {n i:Nat}{l:List Int}(h:nw n i l):nw n (i+1) l:=⟨h.len,fun v=>by have:=h.le v;omega⟩
theorem nw.set {n i w:Nat}{l:List Int}(h:nw n i l){x:Int}(hx:0≤x∧x≤(i:Int)):nw n i (l.set w x):=⟨by rw[List.length_set];exact h.len,fun v=>by
 by_cases hw:w<l.length
 ·rw[pe hw]
  split
  ·exact hx
  ·exact h.le v
 ·rw[List.set_eq_of_length_le (by omega)];exact h.le v⟩
theorem zZ (s:aW):ir s=zY s:=rfl
theorem V3 (n:Nat):aJ .i64 (List.replicate n 0)=lh n [.int .i64 0]:=by rw[FJ,←LC];rfl
set_option maxHeartbeats 8000000 in
theorem Ou (hT:gC W)(x y z:Int){p:Option Addr}{n cp jn:Nat}(hn:n≤cp)(rF:jn=min n 20){g:Nat→lR}(hg:∀i,i<jn→(g i).Ok W)[ro:Ro W p jn (oH jn g)]{q:Option Addr}{cq:Nat}{l:List Int}[rq:Ro W q l.length (aJ .i64 l)]:
  Spec Tryz.prog 4 [.agg #[.int .i64 x,.int .i64 y,.int .i64 z],.slice p n cp,.slice q l.length cq] W F (fun _:Unit=> .bool true) (fun _=>F):=by
 refine Spec.of Tryz.func4 rfl Tryz.ntmps4 rfl ?_
 have uy:=tF y (m:=6) (by decide) (by decide)
 rw[show((6:Nat):Int)=6 from rfl]at uy
 have ly:=nZ y (m:=6) (by decide)
 refine aa ?_;intros
 rw[uy]
 refine aa ?_;intros
 obtain⟨c,hc,hC⟩:∃c:NC,c.Ok∧∀F,Spec Tryz.prog 22 [.int .i64 x,.int .i64 ((um y 6:Nat):Int),.int .i64 z] W F (fun _:Unit=>c.cfg.val) (fun _=>F):=⟨_,Wc x (by omega) z,fun F=>Nh x (by omega) z⟩
 generalize um y 6=y6 at*
 refine af rfl (Hw hc hC (p:=p) (n:=n) (cap:=cp) (j:=jn) (most:=20) (by omega) (by omega) (r:=⟨fun _ _=>hn⟩)) ?_
 intro ⟨⟨wo,nn⟩,d,s,t,e⟩
 dsimp only
 refine aa ?_;intros
 refine af rfl (ZN hT) ?_
 intro _
 refine aa ?_;intros
 refine af rfl (KG c.cfg) ?_
 intro _
 refine aa ?_;intros
 refine af rfl (M7 c.cfg hc.fit) ?_
 intro _
 have DN:2000≤tX c.cfg∧tX c.cfg≤3000:=by
  have:=hc.np
  unfold tX
  rw[if_pos (ve.2 hc.fe)]
  unfold zq
  have:=uY c.cfg
  omega
 generalize tX c.cfg=bd at*
 refine aa ?_;intros
 have nI:=hc.n
 refine kh (γ:=az×az) (fun _=>True) (fun g=>[(2,.slice q l.length cq),(7,.pointer wo),(9,.int .i64 bd),(10,.slice g.1.1 c.n g.1.2),(11,.slice g.2.1 c.n g.2.2)]) (fun g=>ad 3 1 g.1.1 c.n g.1.2 (aJ .i64 (List.replicate c.n 0))*(ad 3 1 g.2.1 c.n g.2.2 (aJ .i64 (List.replicate c.n 0))*(Obj wo 38 (da nn c p jn cp 0 (none,0) 0 c.n d s t e 0)*(oh c.n d s t e (dn nn c (fw c)*F))))) ?_ ?_
 ·refine ay 99 (Obj wo 38 (da nn c p jn cp 0 (none,0) 0 c.n d s t e 0)*1) rfl rfl rfl ?_
  refine ah ?_
  refine fm (i:=5) (l:=[11]) ⟨?a,?b,trivial⟩
  case' a=>
   refine bU rfl rfl rfl (wV rfl rfl rfl (by omega) (by decide)) rfl (fun _=>ag) (fun a=> ?_)
   refine ah ?_
   refine fm (i:=11) (l:=[]) ⟨bU rfl rfl rfl (wV rfl rfl rfl (by omega) (by decide)) rfl (fun _=>ag) (fun b=> ?_),trivial⟩
  case' b=>
   refine bU rfl rfl rfl (wV rfl rfl rfl (by omega) (by decide)) rfl (fun _=>ag) (fun b=> ?_)
   refine ah ?_
   refine fm (i:=5) (l:=[]) ⟨bU rfl rfl rfl (wV rfl rfl rfl (by omega) (by decide)) rfl (fun _=>ag) (fun a=> ?_),trivial⟩
  all_goals
   refine ah ?_
   refine aa ?_;intros
   exact dI ((a,c.n),(b,c.n)) trivial ⟨rfl,rfl,rfl,rfl,rfl,trivial⟩ (U.sat (by dsimp only;rw[V3];exact ag))
 intro ⟨a,b⟩ _
 dsimp only
 refine aa ?_;intros
 refine fy (γ:=Nat×fA×List Int×List Int) (fun g=>g.1≤l.length∧g.1≤500∧WI c jn g.1 g.2.1∧nw c.n g.1 g.2.2.1∧nw c.n g.1 g.2.2.2) (fun g=>[(2,.slice q l.length cq),(7,.pointer wo),(9,.int .i64 bd),(10,.slice a.1 c.n a.2),(11,.slice b.1 c.n b.2),(12,.int .i64 (g.1:Int))])
  (fun g=>g.2.1.at wo nn c p jn cp (ad 3 1 a.1 c.n a.2 (aJ .i64 g.2.2.1)*(ad 3 1 b.1 c.n b.2 (aJ .i64 g.2.2.2)*F))) (fun g=>l.length-g.1)
  (0,⟨fw c,0,0,0,[],(none,0),d,s,t,e,List.replicate c.n (-1),List.replicate c.n 0,List.replicate c.n 0,List.replicate c.n 0⟩,List.replicate c.n 0,List.replicate c.n 0) ⟨Nat.zero_le _,Nat.zero_le _,WI.new hc jn d s t e,nw.zero _,nw.zero _⟩ ⟨rfl,rfl,rfl,rfl,rfl,rfl,trivial⟩ (U.sat ?_) ?_
 ·dsimp only[fA.at,Hy,oh]
  simp only[←LC]
  exact U.obj wo rfl (U.none (ag))
 intro ⟨i,x,dl,cl⟩ ⟨h1,h2,hI,hD,hH⟩
 dsimp only at h1 h2 hI hD hH ⊢
 have iW:=hD.len
 have jD:=hH.len
 by_cases hi:i<l.length
 ·by_cases AM:i<500
  ·have TX:jn≤300:=by omega
   have uk:=tF (l.getD i 0) (m:=c.n) (by omega) (by omega)
   have s7:0≤IntKind.u64.wrap (l.getD i 0):=by
    rw[IntKind.wrap_u64]
    omega
   rw[Int.tmod_eq_emod_of_nonneg s7]at uk
   have lk:=nZ (l.getD i 0) (m:=c.n) (by omega)
   obtain⟨xn,next,clock,evn,bW,ev,d,s,t,e,xd,xs,xt,xe⟩:=x
   simp only[fA.at]
   obtain⟨K,hK,hs⟩:=hI.safe
   have yr:=QT hs hc
   dsimp only at hK hs yr
   refine aa ?_;intros
   refine jf rfl (by kernel_rfl) ?_
   repeat(refine cD ?_)
   refine aa ?_;intros
   rw[uk]
   generalize um (l.getD i 0) c.n=w at*
   refine aa ?_;intros
   refine af rfl (Spec.pre (tM (pn:=nn) (c:=c) (n:=xn) (w:=w) (F:=Obj wo 38 (da nn c p jn cp (next:Int) ev evn c.n d s t e (clock:Int))*(ad 83 11 ev.1 evn ev.2 bW*(ad 3 1 d.1 c.n d.2 (aJ .i64 xd)*(ad 3 1 s.1 c.n s.2 (aJ .i64 xs)*(ad 3 1 t.1 c.n t.2 (aJ .i64 xt)*(ad 3 1 e.1 c.n e.2 (aJ .i64 xe)*(ad 3 1 a.1 c.n a.2 (aJ .i64 dl)*(ad 3 1 b.1 c.n b.2 (aJ .i64 cl)*F)))))))) lk) (ag)) ?_
   intro _
   obtain⟨bz,fZ⟩:∃bz,(xn.wk.getD w al).busy=bz:=⟨_,rfl⟩
   rw[fZ]
   refine aa ?_;intros
   refine af rfl (Spec.pre (Gq (pn:=nn) (c:=c) (n:=xn) (F:=Obj wo 38 (da nn c p jn cp (next:Int) ev evn c.n d s t e (clock:Int))*(ad 83 11 ev.1 evn ev.2 bW*(ad 3 1 d.1 c.n d.2 (aJ .i64 xd)*(ad 3 1 s.1 c.n s.2 (aJ .i64 xs)*(ad 3 1 t.1 c.n t.2 (aJ .i64 xt)*(ad 3 1 e.1 c.n e.2 (aJ .i64 xe)*(ad 3 1 a.1 c.n a.2 (aJ .i64 dl)*(ad 3 1 b.1 c.n b.2 (aJ .i64 cl)*F)))))))) hc hs) (ag)) ?_
   intro q0
   refine aa ?_;intros
   refine af rfl (Spec.pre (PA (wo:=wo) (nn:=nn) (jp:=p) (jc:=cp) (F:=ad 61 1 q0.1 (ir xn.sh).length q0.2 (ba .u64 (ir xn.sh))*(ad 3 1 a.1 c.n a.2 (aJ .i64 dl)*(ad 3 1 b.1 c.n b.2 (aJ .i64 cl)*F))) hT hg TX (by omega) lk hc hI fZ) (by simp only[fA.at];exact ag)) ?_
   intro ⟨y,y1,y2,y3⟩
   obtain⟨K2,hK2,fg⟩:=y1.safe
   have rH:(ir y.n.sh).length=(ir xn.sh).length:=by rw[zZ,zZ];exact y2.one.len
   have TA:jz (ir xn.sh) (ir y.n.sh)≤1:=by rw[zZ,zZ];exact y2.one.diff
   have ff:bz=false→jz (ir xn.sh) (ir y.n.sh)=0:=fun q=>by rw[y3 q];exact Ad _
   obtain⟨yn,yS,xE,sN,xN,pa,d2,s2,t2,e2,yd,ys,yt,ye⟩:=y
   dsimp only at fg rH TA ff ⊢
   simp only[fA.at]
   refine aa ?_;intros
   refine af rfl (Spec.pre (Gq (pn:=nn) (c:=c) (n:=yn) (F:=ad 61 1 q0.1 (ir xn.sh).length q0.2 (ba .u64 (ir xn.sh))*(Obj wo 38 (da nn c p jn cp (yS:Int) pa sN c.n d2 s2 t2 e2 (xE:Int))*(ad 83 11 pa.1 sN pa.2 xN*(ad 3 1 d2.1 c.n d2.2 (aJ .i64 yd)*(ad 3 1 s2.1 c.n s2.2 (aJ .i64 ys)*(ad 3 1 t2.1 c.n t2.2 (aJ .i64 yt)*(ad 3 1 e2.1 c.n e2.2 (aJ .i64 ye)*(ad 3 1 a.1 c.n a.2 (aJ .i64 dl)*(ad 3 1 b.1 c.n b.2 (aJ .i64 cl)*F))))))))) hc fg) (ag)) ?_
   intro q1
   rw[rH]
   refine aa ?_;intros
   refine af rfl (Rf (p:=q0.1) (q:=q1.1) (l:=ir xn.sh) (m:=ir yn.sh) (by omega) rH) ?_
   intro _
   have hdw:=hD.le w
   have jq:=hH.le w
   generalize jz (ir xn.sh) (ir yn.sh)=df at*
   cases bz with
   |false=>
    have Ty:=ff rfl
    subst Ty
    refine aa ?_;intros
    exact cJ (i+1,⟨yn,yS,xE,sN,xN,pa,d2,s2,t2,e2,yd,ys,yt,ye⟩,dl.set w 0,cl.set w 0) ⟨hi,AM,y1,hD.more.set (by omega),hH.more.set (by omega)⟩ (by dsimp only;omega) ⟨rfl,rfl,rfl,rfl,rfl,rfl,trivial⟩ (U.sat (by simp only[fA.at];exact ag))
   |true=>
    have hg:(dl.set w (dl.getD w 0+1)).getD w 0=dl.getD w 0+1:=by rw[pe (by omega),if_pos rfl]
    have Ec:2000*1≤bd*(1+cl.getD w 0):=Int.mul_le_mul (by omega) (by omega) (by decide) (by omega)
    have AU:bd*(1+cl.getD w 0)≤3000*501:=Int.mul_le_mul (by omega) (by omega) (by omega) (by decide)
    have UH:=y1.bw.d
    dsimp only at UH
    refine aa ?_;intros
    obtain⟨vF,Jn⟩:∃vF,dl.set w (dl.getD w 0+1)=vF:=⟨_,rfl⟩
    have xW:nw c.n (i+1) vF:=by rw[←Jn];exact hD.more.set (by omega)
    have aea:=xW.len
    rw[Jn]at hg ⊢
    refine kh (γ:=Unit) (fun _=>True) (fun _=>[(2,.slice q l.length cq),(7,.pointer wo),(9,.int .i64 bd),(10,.slice a.1 c.n a.2),(11,.slice b.1 c.n b.2),(12,.int .i64 (i:Int)),(13,.int .i64 (w:Int)),(16,.int .i64 (df:Int)),(147,.bool false)]) (fun _=>Obj wo 38 (da nn c p jn cp (yS:Int) pa sN c.n d2 s2 t2 e2 (xE:Int))*(ad 83 11 pa.1 sN pa.2 xN*(ad 3 1 d2.1 c.n d2.2 (aJ .i64 yd)*(ad 3 1 s2.1 c.n s2.2 (aJ .i64 ys)*(ad 3 1 t2.1 c.n t2.2 (aJ .i64 yt)*(ad 3 1 e2.1 c.n e2.2 (aJ .i64 ye)*(ad 3 1 a.1 c.n a.2 (aJ .i64 vF)*(ad 3 1 b.1 c.n b.2 (aJ .i64 cl)*(dn nn c yn*F))))))))) ?_ ?_
    ·by_cases kW:0≤yd.getD w 0
     ·refine jf rfl (by kernel_rfl) ?_
      repeat(refine cD ?_)
      refine aa ?_;intros
      exact dI () trivial ⟨rfl,rfl,rfl,rfl,rfl,rfl,rfl,rfl,rfl,trivial⟩ (U.sat (ag))
     ·refine jf rfl (by kernel_rfl) ?_
      repeat(refine cD ?_)
      refine aa ?_;intros
      exact dI () trivial ⟨rfl,rfl,rfl,rfl,rfl,rfl,rfl,rfl,rfl,trivial⟩ (U.sat (ag))
    intro _ _
    refine aa ?_;intros
    refine fy (γ:=Nat×List Int) (fun g=>g.1≤c.n∧g.2.length=c.n∧∀v,0≤g.2.getD v 0∧g.2.getD v 0≤(i:Int)+if v<g.1 then 1 else 0) (fun g=>[(2,.slice q l.length cq),(7,.pointer wo),(9,.int .i64 bd),(10,.slice a.1 c.n a.2),(11,.slice b.1 c.n b.2),(12,.int .i64 (i:Int)),(13,.int .i64 (w:Int)),(16,.int .i64 (df:Int)),(17,.int .i64 (g.1:Int))])
     (fun g=>Obj wo 38 (da nn c p jn cp (yS:Int) pa sN c.n d2 s2 t2 e2 (xE:Int))*(ad 83 11 pa.1 sN pa.2 xN*(ad 3 1 d2.1 c.n d2.2 (aJ .i64 yd)*(ad 3 1 s2.1 c.n s2.2 (aJ .i64 ys)*(ad 3 1 t2.1 c.n t2.2 (aJ .i64 yt)*(ad 3 1 e2.1 c.n e2.2 (aJ .i64 ye)*(ad 3 1 a.1 c.n a.2 (aJ .i64 vF)*(ad 3 1 b.1 c.n b.2 (aJ .i64 g.2)*(dn nn c yn*F))))))))) (fun g=>c.n-g.1) (0,cl) ⟨Nat.zero_le _,jD,fun v=>by have:=hH.le v;dsimp only;rw[if_neg (Nat.not_lt_zero _)];omega⟩ ⟨rfl,rfl,rfl,rfl,rfl,rfl,rfl,rfl,rfl,trivial⟩ (U.sat (ag)) ?_
    intro ⟨o,Ab⟩ ⟨o1,o2,o3⟩
    dsimp only at o1 o2 o3 ⊢
    by_cases ho:o<c.n
    ·have o4:=o3 o
     rw[if_neg (Nat.lt_irrefl _)]at o4
     by_cases hw:o=w
     ·refine aa ?_;intros
      exact cJ (o+1,Ab) ⟨ho,o2,fun v=>by have:=o3 v;dsimp only;split<;>split at this<;>omega⟩ (by dsimp only;omega) ⟨rfl,rfl,rfl,rfl,rfl,rfl,rfl,rfl,rfl,trivial⟩ (U.sat (ag))
     ·refine aa ?_;intros
      exact cJ (o+1,Ab.set o (Ab.getD o 0+df)) ⟨ho,by dsimp only;rw[List.length_set];exact o2,fun v=>by
       have:=o3 v
       dsimp only
       rw[pe (by omega)]
       by_cases hv:v=o
       ·rw[if_pos hv,if_pos (by omega)];omega
       ·rw[if_neg hv]
        split<;>split at this<;>omega⟩ (by dsimp only;omega) ⟨rfl,rfl,rfl,rfl,rfl,rfl,rfl,rfl,rfl,trivial⟩ (U.sat (ag))
    ·obtain rfl:o=c.n:=by omega
     refine aa ?_;intros
     exact cJ (i+1,⟨yn,yS,xE,sN,xN,pa,d2,s2,t2,e2,yd,ys,yt,ye⟩,vF,Ab) ⟨hi,AM,y1,xW,⟨o2,fun v=>by have:=o3 v;dsimp only;split at this<;>omega⟩⟩ (by dsimp only;omega) ⟨rfl,rfl,rfl,rfl,rfl,rfl,trivial⟩ (U.sat (by simp only[fA.at];exact ag))
  ·refine aa ?_;intros
   exact ae (aj rfl rfl () rfl (U.sat (ag)))
 ·refine aa ?_;intros
  exact ae (aj rfl rfl () rfl (U.sat (ag)))
theorem Ot (hT:gC W)(x y z:Int){p:Option Addr}{n cp:Nat}(hn:n≤cp){f:Nat→List Value}(hL:∀i,i<n→oU W Bl (f i))(hr:Ro W p n ((List.range n).flatMap f)){q:Option Addr}{cq:Nat}{l:List Int}(rq:Ro W q l.length (aJ .i64 l)):
  Spec Tryz.prog 4 [.agg #[.int .i64 x,.int .i64 y,.int .i64 z],.slice p n cp,.slice q l.length cq] W F (fun _:Unit=> .bool true) (fun _=>F):=by
 obtain⟨g,g1,g2⟩:=U2 hL hr (j:=min n 20) (by omega)
 exact Ou hT x y z hn rfl g1
end
end Go.Proofs.YtfkngchldmfpfaaGreatDoor
