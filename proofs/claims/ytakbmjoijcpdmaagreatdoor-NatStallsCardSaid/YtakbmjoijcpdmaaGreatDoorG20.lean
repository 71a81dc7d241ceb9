/-
  A part of a proof, joined by a program (wip/bundle3.py).
-/
import Derived.Test.YtakbmjoijcpdmaaGreatDoorG14
import Derived.Test.YtakbmjoijcpdmaaGreatDoorG16
import Derived.Test.YtakbmjoijcpdmaaGreatDoorG17
import Derived.Test.YtakbmjoijcpdmaaGreatDoorG18
import Derived.Test.YtakbmjoijcpdmaaGreatDoorG19
set_option linter.unusedVariables false
set_option linter.unusedSimpArgs false
namespace Go.Proofs.YtakbmjoijcpdmaaGreatDoor
section
structure OF where
 c:NC
 fl:dQ
 b:List UInt8
 tk:Nat→Nat
 top:Nat
namespace OF
variable (o:OF)
def kd:Nat:=aF o.fl.proto
def key:Nat:=qq o.fl
def a:Nat:=(gq o.key o.c.nb).1
def bb:Nat:=(gq o.key o.c.nb).2
def pid (z:Nat):Nat:=o.kd*o.c.np+z
def v1 (w:Nat):aJ:=⟨1,1,iF o.fl.proto 0 true (dv o.b).flags,o.tk w⟩
def goes (y:Nat):List UInt8:=jf o.b true o.c.o (o.c.lo+y%o.c.np)
structure Ok:Prop where
 c:o.c.Ok
 n4:o.c.n≤4
 np:o.c.np=40
 fR:jj o.c.o true o.b=0
 cQ:cQ true o.b=o.fl
 ct:kU true o.b=true
 read:dz o.b=0
 proto:kY o.fl.proto
 Ls:mi o.fl.proto true=true
 err:(dv o.b).err=false
 tk:∀w,o.tk w≤o.top
 top:o.top≤4294967295
 tr:∀x,x≤7→iF o.fl.proto x true (dv o.b).flags≤7
 ab:o.a≠o.bb
 an:o.a<o.c.nb
end OF
structure lD (a b:aJ):Prop where
 sn:a.sn≤b.sn
 st:a.st=2→b.st=2
structure pQ (t:Nat)(a:aJ):Prop where
 sn:t≤a.sn
 st:a.st=2
theorem lD.refl {a:aJ}:lD a a:=⟨Nat.le_refl _,id⟩
theorem pQ.le {t:Nat}{a b:aJ}(h:pQ t a)(g:lD a b):pQ t b:=⟨Nat.le_trans h.sn g.sn,g.st h.st⟩
structure Gh where
 x:Option Nat
 wx:Nat
 own:Nat→Option Nat
 fd:Nat→Bool
def lR (fd:Nat→Bool):Nat→Nat
 |0=>0
 |n+1=>lR fd n+if fd n=true then 1 else 0
structure fZ (o:OF)(G:Gh)(s:aW):Prop where
 tb:Cj o.c.nb o.a G.x s.tb
 mg:s.pl.length=2*(3*o.c.np)
 xk:∀y,G.x=some y→∃z,z<o.c.np∧y=o.pid z∧G.own z=some G.wx∧GN s.pl o.key 1 (o.v1 G.wx) y∧o.tk G.wx≤(aJ.of (s.pl.getD (2*y) 0)).sn∧(aJ.of (s.pl.getD (2*y) 0)).sn≤o.top∧(aJ.of (s.pl.getD (2*y) 0)).num=s.pl.getD (2*y) 0
 rX:∀y,(∀z,z<o.c.np→y=o.pid z→G.own z=none)→s.pl.getD (2*y) 0=0
 po:mC o.c.np (s.po o.kd)
 fr:∀z,z<o.c.np→(fk (s.po o.kd) z=true↔G.own z=none)
 tH:∀i,i<3→i≠o.kd→s.po i=dy o.c.np
 ep:s.ep.getD 0 0=0
 gs:∀w,s.gs.getD w []=[]
 jI:32≤((List.range 32).filter (fk (s.po o.kd))).length+8*lR G.fd o.c.n
 lt:∀z w,G.own z=some w→w<o.c.n∧z<o.c.np
structure fT (o:OF)(w:Nat)(f:aH):Prop where
 out:f.out=true
 b:f.b=o.b
 tick:f.tick=(o.tk w:Int)
 fl:f.ar=o.fl
 part:f.part=dv o.b
 ct:f.fW=true
 done:f.done=false
inductive gZ (o:OF) (G:Gh) (s:aW) (w:Nat) (k:aR) (f:aH):Prop
 |start (h:f=nD true o.b (o.tk w:Int)) (hf:G.fd w=false)
 |bE (h:fT o w f) (e:f.next=1) (p:jl) (hp:f.bE=some p) (h1:p.worker=w∧p.mH=false∧p.done=false∧p.at_≤2∧(1≤p.at_→p.seen=0)) (hm:f.made=false) (hf:G.fd w=false)
 |find (h:fT o w f) (e:f.next=2) (t:aU) (ht:f.find=some t) (h1:mE o.a o.bb G.x o.key 1 (o.v1 G.wx) 0 (-1) t) (hm:f.made=false) (hf:G.fd w=false)
 |rF (h:fT o w f) (e:f.next=3) (y:Nat) (hy:G.x=some y) (hi:f.id=(y:Int)) (hs:f.word=o.v1 G.wx) (hm:f.made=false)
 |use (h:fT o w f) (e:f.next=4) (y:Nat) (hy:G.x=some y) (hi:f.id=(y:Int)) (hs:kj 1 (o.v1 G.wx) f.word) (hm:f.made=false)
 |renew (h:fT o w f) (e:f.next=5) (y:Nat) (hy:G.x=some y) (hi:f.id=(y:Int)) (hs:f.word.gen=1∧f.word.st=2∧f.word.ok∧f.word.sn≤o.top) (hn:f.now=f.gm f.word) (hm:f.made=false)
 |fill (h:fT o w f) (e:f.next=6) (x:j5) (hx:f.fill=some x) (h1:x.kind=0∧x.done=false∧mD o.c.np x.bG∧x.bG.done=false∧x.bG.ports=[]∧(x.bG.left=2∨(x.bG.left=1∧x.bG.word=0))∧(x.bG.read=true→cE x.bG.seen≠ [])) (hm:f.made=false) (hf:G.fd w=false)
 |bH (h:fT o w f) (e:f.next=9) (hl:(k.ca o.kd).l≠ []) (hv:∀z∈(k.ca o.kd).l,s.pl.getD (2*o.pid z) 0=0∧G.x≠some (o.pid z)) (hm:f.made=false) (hf:G.fd w=true)
 |key (h:fT o w f) (e:f.next=10∨f.next=11) (hl:(k.ca o.kd).l≠ []) (hv:∀z∈(k.ca o.kd).l,s.pl.getD (2*o.pid z) 0=0∧G.x≠some (o.pid z)) (hi:f.id=((o.pid (dA (k.ca o.kd)):Nat):Int)) (hw:f.word=w0) (hk:f.next=11→s.pl.getD (2*o.pid (dA (k.ca o.kd))+1) 0=o.key) (hm:f.made=false) (hf:G.fd w=true)
 |enter (h:fT o w f) (e:f.next=12) (z:Nat) (hz:z<o.c.np∧G.own z=some w∧z∉(k.ca o.kd).l∧(k.ca o.kd).l.length≤7) (hi:f.id=((o.pid z:Nat):Int)) (hm:f.made=true∧f.fY=o.pid z) (hw:f.word=o.v1 w) (hp:s.pl.getD (2*o.pid z) 0=(o.v1 w).num∧s.pl.getD (2*o.pid z+1) 0=o.key) (hx:G.x≠some (o.pid z)) (t:aU) (ht:f.enter=some t) (h1:mE o.a o.bb G.x o.key 1 (o.v1 G.wx) 1 f.id t) (hf:G.fd w=true)
 |live (h:fT o w f) (e:f.next=13) (y:Nat) (hy:G.x=some y) (hi:f.id=(y:Int)) (hw:f.word=o.v1 w) (hx:G.wx=w) (hm:f.made=true∧f.fY=y) (hf:G.fd w=true)
 |sf (h:fT o w f) (e:f.next=14) (z:Nat) (hz:z<o.c.np∧G.own z=some w∧z∉(k.ca o.kd).l∧(k.ca o.kd).l.length≤7) (hi:f.id=((o.pid z:Nat):Int)) (hm:f.made=true∧f.fY=o.pid z) (hw:f.word=o.v1 w) (hp:s.pl.getD (2*o.pid z) 0=(o.v1 w).num) (y:Nat) (hy:G.x=some y) (hx:y≠o.pid z) (t:aU) (ht:f.enter=some t) (h1:t.end_=10∧t.found=(y:Int)∧kj 1 (o.v1 G.wx) t.aQ) (hf:G.fd w=true)
 |fin (hd:f.done=false) (e:f.next=18) (y:Nat) (hy:G.x=some y) (ha:f.fD=o.goes y∧f.lH=0) (hs:pQ (o.tk w) (aJ.of (s.pl.getD (2*y) 0))) (hm:f.made=true→f.fY=y)
structure jH (o:OF)(G:Gh)(s:aW)(w:Nat)(k:aR):Prop where
 aX:k.aX=none
 out:∀i,i<3→(k.ca i).out=none
 cn:∀i,i<3→i≠o.kd→(k.ca i).l=[]
 nj:(k.ca o.kd).l.Nodup
 own:∀z∈(k.ca o.kd).l,z<o.c.np∧G.own z=some w
 len:(k.ca o.kd).l.length≤8
 me:G.fd w=false→(k.ca o.kd).l=[]∧∀z,G.own z≠some w
 j2:∀z∈(k.ca o.kd).l,G.x≠some (o.pid z)
 mq:∀z,G.own z=some w→z∈(k.ca o.kd).l∨G.x=some (o.pid z)∨∃f,k.frame=some f∧f.made=true∧f.fY=o.pid z∧(f.next=12∨f.next=14)
 fz:∀z,G.own z=some w→z∈(k.ca o.kd).l→(aJ.of (s.pl.getD (2*o.pid z) 0)).st=0
 ph:match k.frame with
  |none=>(G.fd w=false∧k.any=false)∨(k.any=true∧k.iM=0∧∃y,G.x=some y∧k.cj=o.goes y∧pQ (o.tk w) (aJ.of (s.pl.getD (2*y) 0)))
  |some f=>gZ o G s w k f
structure dM (o:OF)(G:Gh)(n:bm):Prop where
 sh:fZ o G n.sh
 wl:n.wk.length=o.c.n
 wk:∀w,w<o.c.n→jH o G n.sh w (n.wk.getD w ax)
end
section
section
variable {o:OF} {G G':Gh} {s s':aW} {w v:Nat} {k:aR} {f:aH}
structure Ext (o:OF)(w:Nat)(G:Gh)(s:aW)(G':Gh)(s':aW):Prop where
 x:(G'.x=G.x∧G'.wx=G.wx)∨(G.x=none∧∃z,z<o.c.np∧G'.x=some (o.pid z)∧G.own z=some w)
 own:∀z v,v≠w→(G'.own z=some v↔G.own z=some v)
 fd:∀v,v≠w→G'.fd v=G.fd v
 pl:∀z v,v≠w→G.own z=some v→G.x≠some (o.pid z)→s'.pl.getD (2*o.pid z) 0=s.pl.getD (2*o.pid z) 0∧s'.pl.getD (2*o.pid z+1) 0=s.pl.getD (2*o.pid z+1) 0
 sn:∀y,G.x=some y→lD (aJ.of (s.pl.getD (2*y) 0)) (aJ.of (s'.pl.getD (2*y) 0))
theorem pg {z z':Nat}(h:o.pid z=o.pid z'):z=z':=by unfold OF.pid at h;omega
theorem Ext.some (h:Ext o w G s G' s'){y:Nat}(e:G.x=some y):G'.x=some y∧G'.wx=G.wx:=by
 rcases h.x with ⟨h1,h2⟩|⟨h1,_⟩
 ·exact⟨h1.trans e,h2⟩
 ·rw[e]at h1;cases h1
theorem Ext.nx (h:Ext o w G s G' s')(hv:v≠w){z:Nat}(ho:G.own z=Option.some v)(e:G.x≠Option.some (o.pid z)):G'.x≠Option.some (o.pid z):=by
 rcases h.x with ⟨h1,_⟩|⟨_,z',_,h2,h3⟩
 ·rw[h1];exact e
 ·rw[h2]
  intro e'
  have:=pg (Option.some.inj e')
  subst this
  rw[h3]at ho
  exact hv (Option.some.inj ho).symm
theorem Ext.tk (h:Ext o w G s G' s'){kind:Nat}{id:Int}{t:aU}(ht:mE o.a o.bb G.x o.key 1 (o.v1 G.wx) kind id t):mE o.a o.bb G'.x o.key 1 (o.v1 G'.wx) kind id t:=by
 rcases h.x with ⟨h1,h2⟩|⟨h1,z,_,h2,_⟩
 ·rw[h1,h2];exact ht
 ·rw[h1]at ht
  rw[h2]
  exact ht.link
theorem gZ.ext (h:Ext o w G s G' s')(hv:v≠w)(ho:∀z∈(k.ca o.kd).l,z<o.c.np∧G.own z=Option.some v)(hp:gZ o G s v k f):gZ o G' s' v k f:=by
 cases hp with
 |start h1 hf=>exact .start h1 ((h.fd v hv).trans hf)
 |bE h1 e p hp h2 hm hf=>exact .bE h1 e p hp h2 hm ((h.fd v hv).trans hf)
 |find h1 e t ht h2 hm hf=>exact .find h1 e t ht (h.tk h2) hm ((h.fd v hv).trans hf)
 |rF h1 e y hy hi hs hm=>
  obtain⟨e1,e2⟩:=h.some hy
  exact .rF h1 e y e1 hi (by rw[e2];exact hs) hm
 |use h1 e y hy hi hs hm=>
  obtain⟨e1,e2⟩:=h.some hy
  exact .use h1 e y e1 hi (by rw[e2];exact hs) hm
 |renew h1 e y hy hi hs hn hm=>exact .renew h1 e y (h.some hy).1 hi hs hn hm
 |fill h1 e x hx h2 hm hf=>exact .fill h1 e x hx h2 hm ((h.fd v hv).trans hf)
 |bH h1 e hl hq hm hf=>
  refine .bH h1 e hl (fun z hz=> ?_) hm ((h.fd v hv).trans hf)
  obtain⟨q1,q2⟩:=hq z hz
  exact⟨(h.pl z v hv (ho z hz).2 q2).1.trans q1,h.nx hv (ho z hz).2 q2⟩
 |key h1 e hl hq hi hw hk hm hf=>
  have ma:dA (k.ca o.kd)∈(k.ca o.kd).l:=by
   unfold dA
   have hlen:0<(k.ca o.kd).l.length:=List.length_pos_iff.2 hl
   rw[List.getD_eq_getElem?_getD,List.getElem?_eq_getElem (by omega),Option.getD_some]
   exact List.getElem_mem _
  refine .key h1 e hl (fun z hz=> ?_) hi hw (fun e'=> ?_) hm ((h.fd v hv).trans hf)
  ·obtain⟨q1,q2⟩:=hq z hz
   exact⟨(h.pl z v hv (ho z hz).2 q2).1.trans q1,h.nx hv (ho z hz).2 q2⟩
  ·exact(h.pl _ v hv (ho _ ma).2 (hq _ ma).2).2.trans (hk e')
 |enter h1 e z hz hi hm hw hp hx t ht h2 hf=>
  have jb:=h.pl z v hv hz.2.1 hx
  exact .enter h1 e z ⟨hz.1,(h.own z v hv).2 hz.2.1,hz.2.2⟩ hi hm hw ⟨jb.1.trans hp.1,jb.2.trans hp.2⟩ (h.nx hv hz.2.1 hx) t ht (h.tk h2) ((h.fd v hv).trans hf)
 |live h1 e y hy hi hw hx hm hf=>
  obtain⟨e1,e2⟩:=h.some hy
  exact .live h1 e y e1 hi hw (e2.trans hx) hm ((h.fd v hv).trans hf)
 |sf h1 e z hz hi hm hw hp y hy hx t ht h2 hf=>
  obtain⟨e1,e2⟩:=h.some hy
  have dc:G.x≠Option.some (o.pid z):=by rw[hy];intro e';exact hx (Option.some.inj e')
  exact .sf h1 e z ⟨hz.1,(h.own z v hv).2 hz.2.1,hz.2.2⟩ hi hm hw ((h.pl z v hv hz.2.1 dc).1.trans hp) y e1 hx t ht ⟨h2.1,h2.2.1,by rw[e2];exact h2.2.2⟩ ((h.fd v hv).trans hf)
 |fin hd e y hy ha hs hm=>exact .fin hd e y (h.some hy).1 ha (hs.le (h.sn y hy)) hm
theorem jH.ext (h:Ext o w G s G' s')(hv:v≠w)(hk:jH o G s v k):jH o G' s' v k where
 aX:=hk.aX
 out:=hk.out
 cn:=hk.cn
 nj:=hk.nj
 own:=fun z hz=>⟨(hk.own z hz).1,(h.own z v hv).2 (hk.own z hz).2⟩
 len:=hk.len
 me:=fun e=>by
  obtain⟨h1,h2⟩:=hk.me ((h.fd v hv).symm.trans e)
  exact⟨h1,fun z e'=>h2 z ((h.own z v hv).1 e')⟩
 j2:=fun z hz=>h.nx hv (hk.own z hz).2 (hk.j2 z hz)
 mq:=fun z hz=>by
  rcases hk.mq z ((h.own z v hv).1 hz)with h1|h1|h1
  ·exact .inl h1
  ·exact .inr (.inl (h.some h1).1)
  ·exact .inr (.inr h1)
 fz:=fun z ho hz=>by
  have ho:=(h.own z v hv).1 ho
  rw[(h.pl z v hv ho (hk.j2 z hz)).1]
  exact hk.fz z ho hz
 ph:=by
  have:=hk.ph
  cases hf:k.frame with
  |none=>
   rw[hf]at this
   rcases this with ⟨h1,h2⟩|⟨h1,h2,y,hy,h3,h4⟩
   ·exact .inl ⟨(h.fd v hv).trans h1,h2⟩
   ·exact .inr ⟨h1,h2,y,(h.some hy).1,h3,h4.le (h.sn y hy)⟩
  |some f=>
   rw[hf]at this
   exact gZ.ext h hv hk.own this
theorem dM.gY {n:bm}(hn:dM o G n)(hw:w<o.c.n)(he:Ext o w G n.sh G' s')(hs:fZ o G' s')(hk:jH o G' s' w k):dM o G' (n.with w s' k) where
 sh:=hs
 wl:=ZA.trans hn.wl
 wk:=fun v hv=>by
  by_cases e:v=w
  ·subst e
   rw[AT (by rw[hn.wl];exact hw)]
   exact hk
  ·have:(n.with w s' k).wk.getD v ax=n.wk.getD v ax:=by
    show(n.wk.set w k).getD v ax=_
    rw[List.getD_eq_getElem?_getD,List.getElem?_set,if_neg (fun e'=>e e'.symm),←List.getD_eq_getElem?_getD]
   rw[this]
   exact(hn.wk v hv).ext he e
end
end
section
section
variable {c:NC} {w:Nat} {n:bm} {k:aR} {f:aH}
theorem AE {s:aW}(h1:2≤f.next)(h2:f.next≤5):bZ c w s k f=((fw c s k f).1,k,(fw c s k f).2):=by
 unfold bZ
 rw[if_neg (by omega),if_neg (by omega),if_pos h2]
theorem AD {s:aW}(h1:6≤f.next)(h2:f.next≤11):bZ c w s k f=cC c s k f:=by
 unfold bZ
 rw[if_neg (by omega),if_neg (by omega),if_neg (by omega),if_pos h2]
theorem Fo {s:aW}(h1:12≤f.next)(h2:f.next≤14):bZ c w s k f=fi c s k f:=by
 unfold bZ
 rw[if_neg (by omega),if_neg (by omega),if_neg (by omega),if_neg (by omega),if_pos h2]
end
end
section
theorem XU (s:aW)(i:Nat):s.dP i (s.po i)=s:=by
 unfold aW.dP aW.po
 split
 ·rfl
 ·split<;>rfl
theorem XT (k:aR)(i:Nat):k.bK i (k.ca i)=k:=by
 unfold aR.bK aR.ca
 split
 ·rfl
 ·split<;>rfl
theorem XR (s:aW)(i:Nat)(ws:List Nat):({s.dP i ws with tb:=s.tb}:aW)=s.dP i ws:=by
 unfold aW.dP
 split
 ·rfl
 ·split<;>rfl
section
variable {c:NC} {w:Nat} {n:bm} {k:aR} {f:aH}
end
end
section
section
variable {c:NC} {w:Nat} {n:bm} {k:aR} {f:aH}
theorem Ye {s:aW}(h:f.next=0):bZ c w s k f=(s,k,nP c w f):=by
 unfold bZ
 rw[if_pos h]
theorem Yf {s:aW}(h:f.next=18):bZ c w s k f=({s with ep:=s.ep.set (1+w) 0},k,{f with pinned:=false,done:=true}):=by
 unfold bZ
 rw[if_neg (by omega),if_neg (by omega),if_neg (by omega),if_neg (by omega),if_neg (by omega),if_neg (by omega)]
theorem Yg {s:aW}(h:f.next=4):bZ c w s k f=(s,k,tU c s f):=by
 rw[AE (by omega) (by omega)]
 unfold fw
 rw[if_neg (by omega),if_neg (by omega),if_pos h]
theorem Yd {s:aW}(h:f.next=5):bZ c w s k f=(bN s f.id f.word f.now,k,if fG s f.id f.word f.now=true then {f with next:=4}.goes c f.id else {f with next:=4}):=by
 rw[AE (by omega) (by omega)]
 unfold fw
 rw[if_neg (by omega),if_neg (by omega),if_neg (by omega)]
theorem Yc {s:aW}(h:f.next=9):bZ c w s k f=(s,k,{f with id:=((aF f.ar.proto*c.np+dA (k.ca (aF f.ar.proto)):Nat):Int),word:=bC s ((aF f.ar.proto*c.np+dA (k.ca (aF f.ar.proto)):Nat):Int),next:=10}):=by
 rw[AD (by omega) (by omega)]
 unfold cC
 rw[if_neg (by omega),if_neg (by omega),if_neg (by omega),if_pos h]
theorem X9 {s:aW}(h:f.next=10):bZ c w s k f=(oE s f.id f.ar,k,{f with next:=11}):=by
 rw[AD (by omega) (by omega)]
 unfold cC
 rw[if_neg (by omega),if_neg (by omega),if_neg (by omega),if_neg (by omega),if_pos h]
def tA (f:aH):aJ:=⟨1,(f.word.gen+1)%65536,iF f.ar.proto 0 true f.part.flags,f.tick.toNat⟩
def oz (a:dC):dC:={a with l:=a.l.take (a.l.length-1)}
theorem Yb {s:aW}(h:f.next=11)(hc:fG s f.id f.word (tA f)=true):bZ c w s k f=(bN s f.id f.word (tA f),k.bK (aF f.ar.proto) (oz (k.ca (aF f.ar.proto))),{f with word:=tA f,made:=true,fY:=f.id.toNat,enter:=some (jh c 1 f.ar f.id 0),next:=12}):=by
 rw[AD (by omega) (by omega)]
 unfold cC
 rw[if_neg (by omega),if_neg (by omega),if_neg (by omega),if_neg (by omega),if_neg (by omega)]
 unfold tA at hc ⊢
 dsimp only
 rw[if_pos hc]
 rfl
theorem Ya {s:aW}(h:f.next=13):bZ c w s k f=(bN s f.id f.word {f.word with st:=2},jo {k with cm:=ir k.cm f.id f.ar} (jY (f.id.toNat/c.np)) f.id f.word f.tick,f.goes c f.id):=by
 rw[Fo (by omega) (by omega)]
 unfold fi
 rw[if_neg (by omega),if_pos h]
end
end
section
section
variable {o:OF} {G G':Gh} {n:bm} {s s':aW} {w v z y:Nat} {k k':aR} {f f':aH} {V:aJ} {K j:Nat}
theorem rz {l:List Nat}{i j v:Nat}(hi:i<l.length):(l.set i v).getD j 0=if j=i then v else l.getD j 0:=by
 rw[List.getD_eq_getElem?_getD,List.getElem?_set]
 by_cases e:i=j
 ·subst e;rw[if_pos rfl,if_pos hi,if_pos rfl];rfl
 ·rw[if_neg e,if_neg (fun e'=>e e'.symm),←List.getD_eq_getElem?_getD]
theorem Ext.refl:Ext o w G s G s where
 x:= .inl ⟨rfl,rfl⟩
 own:=fun _ _ _=>Iff.rfl
 fd:=fun _ _=>rfl
 pl:=fun _ _ _ _ _=>⟨rfl,rfl⟩
 sn:=fun _ _=>lD.refl
theorem Ext.same (hp:s'.pl=s.pl):Ext o w G s G s' where
 x:= .inl ⟨rfl,rfl⟩
 own:=fun _ _ _=>Iff.rfl
 fd:=fun _ _=>rfl
 pl:=fun _ _ _ _ _=>by rw[hp];exact⟨rfl,rfl⟩
 sn:=fun _ _=>by rw[hp];exact lD.refl
theorem OF.Ok.tF (h:o.Ok)(hz:z<o.c.np):o.pid z<3*o.c.np:=by
 have:=gH o.fl.proto
 have e:o.kd≤2:=by unfold OF.kd;omega
 have:o.kd*o.c.np≤2*o.c.np:=Nat.mul_le_mul_right _ e
 unfold OF.pid;omega
theorem OF.Ok.AO (h:o.Ok)(w:Nat):(o.v1 w).ok:=by
 have h1:=h.tk w
 have h2:=h.top
 have h3:=h.tr 0 (by decide)
 refine⟨by show 1≤3;omega,by show 1≤65535;omega,h3,by show o.tk w≤_;omega⟩
theorem fZ.HW (h:fZ o G s){e:List Nat}(he:e.getD 0 0=0):fZ o G {s with ep:=e}:=⟨h.tb,h.mg,h.xk,h.rX,h.po,h.fr,h.tH,he,h.gs,h.jI,h.lt⟩
theorem fZ.xS (h:fZ o G s){t:List Nat}(he:t=s.tb):fZ o G {s with tb:=t}:=by subst he;exact h
theorem fZ.xw (h:fZ o G s)(ho:o.Ok)(hy:G.x=some y)(hV:kj 1 (o.v1 G.wx) V)(lb:V.ok)(hs:lD (aJ.of (s.pl.getD (2*y) 0)) V)(ht:V.sn≤o.top):fZ o G {s with pl:=s.pl.set (2*y) V.num}∧Ext o w G s G {s with pl:=s.pl.set (2*y) V.num}:=by
 obtain⟨z,hz,rfl,h1,h2,h3,h4,h5⟩:=h.xk y hy
 have ck:=ho.tF hz
 have hl:2*o.pid z<s.pl.length:=by rw[h.mg];omega
 have hg:∀j,(s.pl.set (2*o.pid z) V.num).getD j 0=if j=2*o.pid z then V.num else s.pl.getD j 0:=fun j=>rz hl
 refine⟨⟨h.tb,?_,fun y' jU=> ?_,fun y' jU=> ?_,h.po,h.fr,h.tH,h.ep,h.gs,h.jI,h.lt⟩,⟨.inl ⟨rfl,rfl⟩,fun _ _ _=>Iff.rfl,fun _ _=>rfl,fun z' v _ _ hx=> ?_,fun y' jU=> ?_⟩⟩
 ·show(s.pl.set _ _).length=_;rw[List.length_set];exact h.mg
 ·rw[hy]at jU
  cases jU
  refine⟨z,hz,rfl,h1,⟨h2.made,?_,?_⟩,?_,?_,?_⟩
  ·show kj 1 _ (aJ.of ((s.pl.set _ _).getD _ 0))
   rw[hg,if_pos rfl,aJ.lj lb];exact hV
  ·show(s.pl.set _ _).getD _ 0=_
   rw[hg,if_neg (by omega)];exact h2.ky
  ·show _≤(aJ.of ((s.pl.set _ _).getD _ 0)).sn
   have:=hs.sn
   rw[hg,if_pos rfl,aJ.lj lb];omega
  ·show(aJ.of ((s.pl.set _ _).getD _ 0)).sn≤_
   rw[hg,if_pos rfl,aJ.lj lb];exact ht
  ·show(aJ.of ((s.pl.set _ _).getD _ 0)).num=(s.pl.set _ _).getD _ 0
   rw[hg,if_pos rfl,aJ.lj lb]
 ·show(s.pl.set _ _).getD _ 0=0
  have dc:y'≠o.pid z:=fun e=>by
   have:=jU z hz e
   rw[h1]at this;cases this
  rw[hg,if_neg (by omega)]
  exact h.rX y' jU
 ·have dc:o.pid z'≠o.pid z:=fun e=>hx (by rw[hy,e])
  refine⟨?_,?_⟩
  ·show(s.pl.set _ _).getD _ 0=_
   rw[hg,if_neg (by omega)]
  ·show(s.pl.set _ _).getD _ 0=_
   rw[hg,if_neg (by omega)]
 ·rw[hy]at jU
  cases jU
  show lD _ (aJ.of ((s.pl.set _ _).getD _ 0))
  rw[hg,if_pos rfl,aJ.lj lb];exact hs
theorem fZ.own (h:fZ o G s)(ho:o.Ok)(hz:z<o.c.np)(hw:G.own z=some w)(hx:G.x≠some (o.pid z))(hj:j=2*o.pid z∨j=2*o.pid z+1):fZ o G {s with pl:=s.pl.set j K}∧Ext o w G s G {s with pl:=s.pl.set j K}:=by
 have ck:=ho.tF hz
 have hl:j<s.pl.length:=by rw[h.mg];omega
 have hg:∀i,(s.pl.set j K).getD i 0=if i=j then K else s.pl.getD i 0:=fun i=>rz hl
 refine⟨⟨h.tb,?_,fun y hy=> ?_,fun y hy=> ?_,h.po,h.fr,h.tH,h.ep,h.gs,h.jI,h.lt⟩,⟨.inl ⟨rfl,rfl⟩,fun _ _ _=>Iff.rfl,fun _ _=>rfl,fun z' v hv jV _=> ?_,fun y hy=> ?_⟩⟩
 ·show(s.pl.set _ _).length=_;rw[List.length_set];exact h.mg
 ·obtain⟨z',q1,q2,q3,q4,q5,q6,q7⟩:=h.xk y hy
  have dc:y≠o.pid z:=fun e=>hx (by rw[hy,e])
  have e1:(s.pl.set j K).getD (2*y) 0=s.pl.getD (2*y) 0:=by rw[hg,if_neg (by omega)]
  have e2:(s.pl.set j K).getD (2*y+1) 0=s.pl.getD (2*y+1) 0:=by rw[hg,if_neg (by omega)]
  exact⟨z',q1,q2,q3,⟨q4.made,by show kj 1 _ (aJ.of ((s.pl.set j K).getD _ 0));rw[e1];exact q4.xM,e2.trans q4.ky⟩,by show _≤(aJ.of ((s.pl.set j K).getD _ 0)).sn;rw[e1];exact q5,by show(aJ.of ((s.pl.set j K).getD _ 0)).sn≤_;rw[e1];exact q6,by show(aJ.of ((s.pl.set j K).getD _ 0)).num=(s.pl.set j K).getD _ 0;rw[e1];exact q7⟩
 ·show(s.pl.set _ _).getD _ 0=0
  have dc:y≠o.pid z:=fun e=>by
   have:=hy z hz e
   rw[hw]at this;cases this
  rw[hg,if_neg (by omega)]
  exact h.rX y hy
 ·have dc:o.pid z'≠o.pid z:=fun e=>by
   have:=pg e
   subst this
   rw[hw]at jV
   exact hv (Option.some.inj jV).symm
  refine⟨?_,?_⟩
  ·show(s.pl.set _ _).getD _ 0=_
   rw[hg,if_neg (by omega)]
  ·show(s.pl.set _ _).getD _ 0=_
   rw[hg,if_neg (by omega)]
 ·have dc:y≠o.pid z:=fun e=>hx (by rw[hy,e])
  show lD _ (aJ.of ((s.pl.set _ _).getD _ 0))
  rw[hg,if_neg (by omega)]
  exact lD.refl
theorem jH.lS (hk:jH o G s w k)(hf:k.frame=some f)(hp:gZ o G s w k f')(ht:∀z,f.made=true→f.fY=o.pid z→(f.next=12∨f.next=14)→G.x=some (o.pid z)∨(f'.made=true∧f'.fY=o.pid z∧(f'.next=12∨f'.next=14))):jH o G s w {k with frame:=some f'} where
 aX:=hk.aX
 out:=hk.out
 cn:=hk.cn
 nj:=hk.nj
 own:=hk.own
 len:=hk.len
 me:=hk.me
 j2:=hk.j2
 mq:=fun z hz=>by
  rcases hk.mq z hz with h1|h1|⟨g,h1,h2,h3,h4⟩
  ·exact .inl h1
  ·exact .inr (.inl h1)
  ·rw[hf]at h1
   cases h1
   rcases ht z h2 h3 h4 with h5|h5
   ·exact .inr (.inl h5)
   ·exact .inr (.inr ⟨f',rfl,h5⟩)
 fz:=hk.fz
 ph:=by
  show gZ o G s w {k with frame:=some f'} f'
  cases hp with
  |start a b=>exact .start a b
  |bE a b c d e g i=>exact .bE a b c d e g i
  |find a b c d e g i=>exact .find a b c d e g i
  |rF a b c d e g i=>exact .rF a b c d e g i
  |use a b c d e g i=>exact .use a b c d e g i
  |renew a b c d e g i j=>exact .renew a b c d e g i j
  |fill a b c d e g i=>exact .fill a b c d e g i
  |bH a b c d e g=>exact .bH a b c d e g
  |key a b c d e g i j l=>exact .key a b c d e g i j l
  |enter a b c d e g i j l m p q r=>exact .enter a b c d e g i j l m p q r
  |live a b c d e g i j l=>exact .live a b c d e g i j l
  |sf a b c d e g i j l m p q r t u=>exact .sf a b c d e g i j l m p q r t u
  |fin a b c d e g i=>exact .fin a b c d e g i
theorem jH.EO (hk:jH o G s w k)(hp:∀z∈(k.ca o.kd).l,s'.pl.getD (2*o.pid z) 0=s.pl.getD (2*o.pid z) 0)(nf:match k.frame with
  |none=>(G.fd w=false∧k.any=false)∨(k.any=true∧k.iM=0∧∃y,G.x=some y∧k.cj=o.goes y∧pQ (o.tk w) (aJ.of (s'.pl.getD (2*y) 0)))
  |some f=>gZ o G s' w k f):jH o G s' w k:=
 ⟨hk.aX,hk.out,hk.cn,hk.nj,hk.own,hk.len,hk.me,hk.j2,hk.mq,fun z h1 h2=>by rw[hp z h2];exact hk.fz z h1 h2,nf⟩
def rS (ws:List Nat)(x:bL):Nat:=if x.read=true then(if ws.getD x.word 0=x.seen then 1 else 4)else if cE (ws.getD x.word 0)=[]then 3 else 2
theorem WV (ws:List Nat)(x:bL):rS ws x≤4:=by
 unfold rS
 repeat' split
 all_goals omega
def Mo (o:OF)(s:aW)(f:aH):Nat:=
 if f.next=0 then 39
 else if f.next=1 then 38-(match f.bE with|some p=>p.at_|none=>0)
 else if f.next=2 then 26+(match f.find with|some t=>mn o.a s.tb t|none=>0)
 else if f.next=6 then 21+(match f.fill with|some x=>rS (s.po o.kd) x.bG|none=>0)
 else if f.next=9 then 20 else if f.next=10 then 19 else if f.next=11 then 18
 else if f.next=12 then 9+(match f.enter with|some t=>mn o.a s.tb t|none=>0)
 else if f.next=13 then 2 else if f.next=14 then 8 else if f.next=3 then 4
 else if f.next=4 then(if(bC s f.id).st=2 then 3 else 5)
 else if f.next=5 then(if s.pl.getD (2*f.id.toNat) 0=f.word.num then 2 else 6)
 else 1
def jF (o:OF)(G':Gh)(w:Nat)(n:bm):Prop:=dM o G' (de o.c w n).1∧(((de o.c w n).2=false∧∃f f',(n.wk.getD w ax).frame=some f∧((de o.c w n).1.wk.getD w ax).frame=some f'∧Mo o (de o.c w n).1.sh f'<Mo o n.sh f)∨((de o.c w n).2=true∧((de o.c w n).1.wk.getD w ax).frame=none∧((de o.c w n).1.wk.getD w ax).any=true))
theorem Gt {q:Int}(hq:q=(y:Int)):Mo o s (f.fj q V)≤5:=by
 unfold Mo aH.fj
 dsimp only
 by_cases e:V.st=1
 ·simp[e]
 ·simp only[e,if_false]
  rw[if_neg (by omega),if_neg (by omega),if_neg (by omega),if_neg (by omega),if_neg (by omega),if_neg (by omega),if_neg (by omega),if_neg (by omega),if_neg (by omega),if_neg (by omega),if_neg (by omega),if_pos trivial]
  split<;>omega
theorem Gw (e:f.next=2):26≤Mo o s f:=by simp[Mo,e]
theorem Gu (e:f.next=6):Mo o s f≤25:=by
 simp[Mo,e]
 split
 ·rename_i x _;have:=WV (s.po o.kd) x.bG;omega
 ·omega
theorem Gv (e:f.next=12):Mo o s f≤17:=by
 simp[Mo,e]
 split
 ·rename_i t _;have:=Fx o.a s.tb t;omega
 ·omega
theorem OW (e:f.next=4):Mo o s f≤5:=by
 simp[Mo,e]
 split<;>omega
theorem OV (e:f.next=5):Mo o s f=if s.pl.getD (2*f.id.toNat) 0=f.word.num then 2 else 6:=by simp[Mo,e]
theorem dM.on (hn:dM o G n)(hw:w<o.c.n)(hk:n.wk.getD w ax=k)(hf:k.frame=some f)(h:bZ o.c w n.sh k f=(s',k',f'))(hM:Mo o s' f'<Mo o n.sh f)(hd:f'.done=false)(he:Ext o w G n.sh G' s')(hs:fZ o G' s')(wA:jH o G' s' w {k' with frame:=some f'}):jF o G' w n:=by
 unfold jF
 rw[Q2 (by rw[hn.wl];exact hw) hk hf h hd]
 refine⟨hn.gY hw he hs wA,.inl ⟨rfl,f,f',by rw[hk];exact hf,?_,hM⟩⟩
 rw[AT (by rw[hn.wl];exact hw)]
end
end
section
section
variable {o:OF} {G G':Gh} {n:bm} {s s':aW} {w v z y:Nat} {k k':aR} {f f':aH} {V:aJ} {K j:Nat}
theorem WE (ho:o.Ok)(hn:dM o G n)(hw:w<o.c.n)(hk:n.wk.getD w ax=k)(hf:k.frame=some f)(h:f=nD true o.b (o.tk w:Int))(cu:G.fd w=false):jF o G w n:=by
 have hW:=hn.wk w hw
 rw[hk]at hW
 have ht:=ho.tk w
 have ma:=ho.top
 have e:nP o.c w f={f with part:=dv o.b,ar:=o.fl,fW:=true,id:= -1,bE:=some ⟨w,false,0,0,false,false⟩,next:=1}:=by
  rw[h]
  unfold nP nD
  dsimp only
  rw[if_neg (by omega),ho.fR,if_neg (fun e=>e rfl),if_neg (fun e=>by cases e.1),ho.cQ,ho.ct]
  rfl
 refine hn.on hw hk hf (Ye (by rw[h];rfl)) (by rw[e];simp[Mo,h,nD]) ?_ Ext.refl hn.sh (hW.lS hf ?_ ?_)
 ·rw[e,h];rfl
 ·rw[e]
  exact .bE ⟨by rw[h];rfl,by rw[h];rfl,by rw[h];rfl,rfl,rfl,rfl,by rw[h];rfl⟩ rfl _ rfl ⟨rfl,rfl,rfl,by show 0≤2;omega,fun h=>by have h:1≤0:=h;omega⟩ (by rw[h];rfl) cu
 ·rw[h]
  intro z h1
  cases h1
theorem Yw (S6:fT o w f):mE o.a o.bb G.x o.key 1 (o.v1 G.wx) 0 (-1) (jh o.c 0 f.ar (-1) 0):=by
 unfold jh
 rw[S6.fl]
 exact Ma rfl
theorem WC (ho:o.Ok)(hn:dM o G n)(hw:w<o.c.n)(hk:n.wk.getD w ax=k)(hf:k.frame=some f)(h:fT o w f)(e:f.next=1)(p:jl)(hp:f.bE=some p)(h1:p.worker=w∧p.mH=false∧p.done=false∧p.at_≤2∧(1≤p.at_→p.seen=0))(hm:f.made=false)(cu:G.fd w=false):jF o G w n:=by
 have hW:=hn.wk w hw
 rw[hk]at hW
 obtain⟨a1,a2,a3,a4,a5⟩:=h1
 have es:bZ o.c w n.sh k f=({n.sh with ep:=(dt o.c.n n.sh.ep p).1},k,if(dt o.c.n n.sh.ep p).2.done=false then {f with bE:=some (dt o.c.n n.sh.ep p).2}else {f with bE:=some (dt o.c.n n.sh.ep p).2,pinned:=true}.look o.c):=by
  unfold bZ
  rw[if_neg (by omega),if_pos e,hp]
  dsimp only
  rw[h.out,if_pos rfl]
 have ed:dt o.c.n n.sh.ep p=jq n.sh.ep p:=by
  unfold dt
  rw[if_neg (by rw[a3];decide),if_neg (by rw[a2];decide)]
 have wg:=hn.sh.ep
 rw[ed]at es
 by_cases c0:p.at_=0
 ·have ee:jq n.sh.ep p=(n.sh.ep,{p with seen:=n.sh.ep.getD 0 0,at_:=1}):=by unfold jq;rw[if_pos c0]
  rw[ee]at es
  dsimp only at es
  rw[if_pos a3]at es
  exact hn.on hw hk hf es (by simp[Mo,e,hp,c0]) h.done Ext.refl hn.sh (hW.lS hf (.bE ⟨h.out,h.b,h.tick,h.fl,h.part,h.ct,h.done⟩ e _ rfl ⟨a1,a2,a3,by show 1≤2;omega,fun _=>wg⟩ hm cu) (fun z q=>by rw[hm]at q;cases q))
 by_cases c1:p.at_=1
 ·have ee:jq n.sh.ep p=(n.sh.ep.set (1+p.worker) (p.seen+1),{p with at_:=2}):=by unfold jq;rw[if_neg c0,if_pos c1]
  rw[ee]at es
  dsimp only at es
  rw[if_pos a3]at es
  have nE:jH o G {n.sh with ep:=n.sh.ep.set (1+p.worker) (p.seen+1)} w k:=hW.EO (fun z _=>rfl) (by
   rw[hf]
   exact gZ.bE h e p hp ⟨a1,a2,a3,a4,a5⟩ hm cu)
  refine hn.on hw hk hf es (by simp[Mo,e,hp,c1]) h.done (Ext.same rfl) (hn.sh.HW ?_) (nE.lS hf (.bE ⟨h.out,h.b,h.tick,h.fl,h.part,h.ct,h.done⟩ e _ rfl ⟨a1,a2,a3,by show 2≤2;omega,fun _=>a5 (by omega)⟩ hm cu) (fun z q=>by rw[hm]at q;cases q))
  rw[List.getD_eq_getElem?_getD,List.getElem?_set,if_neg (by omega),←List.getD_eq_getElem?_getD];exact wg
 ·have ee:jq n.sh.ep p=(n.sh.ep,{p with done:=decide (n.sh.ep.getD 0 0=p.seen),at_:=0}):=by unfold jq;rw[if_neg c0,if_neg c1]
  rw[ee,wg,a5 (by omega)]at es
  dsimp only at es
  rw[show decide (0=0)=true from rfl,if_neg (by decide)]at es
  refine hn.on hw hk hf es (by have:=Fx o.a n.sh.tb (jh o.c 0 f.ar (-1) 0);simp[Mo,aH.look,e,hp];omega) ?_ Ext.refl hn.sh (hW.lS hf (.find ⟨h.out,h.b,h.tick,h.fl,h.part,h.ct,h.done⟩ rfl _ rfl (Yw (f:=f) h) hm cu) (fun z q=>by rw[hm]at q;cases q))
  exact h.done
theorem OF.Ok.ye (ho:o.Ok)(h:fZ o G s)(hy:G.x=some y):y<3*o.c.np∧y<4000:=by
 obtain⟨z,hz,rfl,_⟩:=h.xk y hy
 have:=ho.tF hz
 have:=ho.np
 omega
theorem Dz (h:fT o w f)(hm:f.made=false)(hy:G.x=some y)(hs:kj 1 (o.v1 G.wx) V):gZ o G s w k (f.fj (y:Int) V):=by
 have h':fT o w (f.fj (y:Int) V):=⟨h.out,h.b,h.tick,h.fl,h.part,h.ct,h.done⟩
 by_cases e:V.st=1
 ·have e1:V=o.v1 G.wx:=by
   rcases hs.2 with q|q
   ·exact q
   ·omega
  exact .rF h' (by unfold aH.fj;dsimp only;rw[if_pos e]) y hy rfl e1 hm
 ·exact .use h' (by unfold aH.fj;dsimp only;rw[if_neg e]) y hy rfl hs hm
theorem Wv (ho:o.Ok)(hn:dM o G n)(hw:w<o.c.n)(hk:n.wk.getD w ax=k)(hf:k.frame=some f)(h:fT o w f)(e:f.next=2)(t:aU)(ht:f.find=some t)(h1:mE o.a o.bb G.x o.key 1 (o.v1 G.wx) 0 (-1) t)(hm:f.made=false)(cu:G.fd w=false):jF o G w n:=by
 have hW:=hn.wk w hw
 rw[hk]at hW
 have es:bZ o.c w n.sh k f=({n.sh with tb:=(bA n.sh.pl o.c.nb n.sh.tb t).1},k,if(bA n.sh.pl o.c.nb n.sh.tb t).2.done=false then {f with find:=some (bA n.sh.pl o.c.nb n.sh.tb t).2}else oT o.c k {f with find:=some (bA n.sh.pl o.c.nb n.sh.tb t).2} (bA n.sh.pl o.c.nb n.sh.tb t).2):=by
  rw[AE (by omega) (by omega)]
  unfold fw
  rw[if_pos e,ht]
 have cJ:=Mb h1 (by decide) ho.ab ho.an hn.sh.tb (fun y hy=>by
  obtain⟨z,hz,q1,q2,q3,_⟩:=hn.sh.xk y hy
  exact⟨(ho.ye hn.sh hy).2,q3,by omega⟩) (fun q=>by cases q)
 have hY:∀g:aH,∀z,f.made=true→f.fY=o.pid z→(f.next=12∨f.next=14)→G.x=some (o.pid z)∨(g.made=true∧g.fY=o.pid z∧(g.next=12∨g.next=14)):=fun g z q=>by rw[hm]at q;cases q
 have nE:jH o G {n.sh with tb:=(bA n.sh.pl o.c.nb n.sh.tb t).1} w k:=hW.EO (fun _ _=>rfl) (by rw[hf];exact gZ.find h e t ht h1 hm cu)
 have wA:fT o w {f with find:=some (bA n.sh.pl o.c.nb n.sh.tb t).2}:=⟨h.out,h.b,h.tick,h.fl,h.part,h.ct,h.done⟩
 generalize bA n.sh.pl o.c.nb n.sh.tb t=D at*
 cases cJ with
 |on q1 q2 qm=>
  rw[if_pos q1.td]at es
  exact hn.on hw hk hf es (by simp[Mo,e,ht,q2];exact qm) h.done (Ext.same rfl) (hn.sh.xS q2) (nE.lS hf (.find wA e _ rfl q1 hm cu) (hY _))
 |fj y hy hd he kz hs q2=>
  rw[if_neg (by rw[hd];decide)]at es
  have ed:oT o.c k {f with find:=some D.2} D.2=({f with find:=some D.2}:aH).fj (y:Int) D.2.aQ:=by
   unfold oT
   rw[if_pos (by rw[he];rfl),kz]
  rw[ed]at es
  exact hn.on hw hk hf es (Nat.lt_of_le_of_lt (Gt rfl) (Nat.lt_of_lt_of_le (by decide) (Gw e))) h.done (Ext.same rfl) (hn.sh.xS q2) (nE.lS hf (Dz wA hm hy hs) (hY _))
 |none om hx hd he q2=>
  rw[if_neg (by rw[hd];decide)]at es
  have ed:oT o.c k {f with find:=some D.2} D.2=({f with find:=some D.2}:aH).qa o.c k:=by
   unfold oT
   rw[if_neg (by rw[he];decide),if_pos h.ct]
  rw[ed]at es
  have hc:({f with find:=some D.2}:aH).qa o.c k={f with find:=some D.2,fill:=some ⟨0,iL (k.ca o.kd).h 8 ((o.c.np+31)/32),false⟩,next:=6}:=by
   unfold aH.qa mN
   dsimp only
   rw[h.fl,show aF o.fl.proto=o.kd from rfl,if_neg (fun q=>by
    rcases q with q|q
    ·exact q (hW.me cu).1
    ·rw[hW.out o.kd (gH _)]at q;cases q)]
  rw[hc]at es
  refine hn.on hw hk hf es (Nat.lt_of_le_of_lt (Gu rfl) (Nat.lt_of_lt_of_le (by decide) (Gw e))) h.done (Ext.same rfl) (hn.sh.xS q2) (nE.lS hf (.fill ⟨h.out,h.b,h.tick,h.fl,h.part,h.ct,h.done⟩ rfl _ rfl ⟨rfl,rfl,?_,rfl,rfl,.inl ?_,fun q=> ?_⟩ hm cu) (hY _))
  ·exact mD.new (by rw[ho.np];decide) _
  ·show(iL _ 8 ((o.c.np+31)/32)).left=2
   rw[ho.np];rfl
  ·have q:false=true:=q
   cases q
 |put wB=>cases wB
end
end
section
section
variable {o:OF} {G G':Gh} {n:bm} {s s':aW} {w v z y:Nat} {k k':aR} {f f':aH} {V a b:aJ} {K j:Nat}
theorem gZ.yG (h:gZ o G s w k f){q:Option aH}:gZ o G s w {k with frame:=q} f:=by
 cases h with
 |start a b=>exact .start a b
 |bE a b c d e g i=>exact .bE a b c d e g i
 |find a b c d e g i=>exact .find a b c d e g i
 |rF a b c d e g i=>exact .rF a b c d e g i
 |use a b c d e g i=>exact .use a b c d e g i
 |renew a b c d e g i j=>exact .renew a b c d e g i j
 |fill a b c d e g i=>exact .fill a b c d e g i
 |bH a b c d e g=>exact .bH a b c d e g
 |key a b c d e g i j l=>exact .key a b c d e g i j l
 |enter a b c d e g i j l m p q r=>exact .enter a b c d e g i j l m p q r
 |live a b c d e g i j l=>exact .live a b c d e g i j l
 |sf a b c d e g i j l m p q r t u=>exact .sf a b c d e g i j l m p q r t u
 |fin a b c d e g i=>exact .fin a b c d e g i
theorem jH.pf (hk:jH o G s w k)(hf:k.frame=some f)(hp:∀z∈(k.ca o.kd).l,s'.pl.getD (2*o.pid z) 0=s.pl.getD (2*o.pid z) 0)(nf:gZ o G s' w k f')(ht:∀z,f.made=true→f.fY=o.pid z→(f.next=12∨f.next=14)→G.x=some (o.pid z)∨(f'.made=true∧f'.fY=o.pid z∧(f'.next=12∨f'.next=14))):jH o G s' w {k with frame:=some f'} where
 aX:=hk.aX
 out:=hk.out
 cn:=hk.cn
 nj:=hk.nj
 own:=hk.own
 len:=hk.len
 me:=hk.me
 j2:=hk.j2
 mq:=fun z hz=>by
  rcases hk.mq z hz with h1|h1|⟨g,h1,h2,h3,h4⟩
  ·exact .inl h1
  ·exact .inr (.inl h1)
  ·rw[hf]at h1
   cases h1
   rcases ht z h2 h3 h4 with h5|h5
   ·exact .inr (.inl h5)
   ·exact .inr (.inr ⟨f',rfl,h5⟩)
 fz:=fun z h1 h2=>by rw[hp z h2];exact hk.fz z h1 h2
 ph:=nf.yG
theorem MM (ho:o.Ok)(h:fZ o G s)(hy:G.x=some y):kj 1 (o.v1 G.wx) (bC s (y:Int))∧(bC s (y:Int)).ok∧o.tk G.wx≤(bC s (y:Int)).sn∧(bC s (y:Int)).sn≤o.top∧(bC s (y:Int)).num=s.pl.getD (2*y) 0∧bC s (y:Int)=aJ.of (s.pl.getD (2*y) 0):=by
 obtain⟨z,hz,rfl,q1,q2,q3,q4,q5⟩:=h.xk y hy
 have e:bC s ((o.pid z:Nat):Int)=aJ.of (s.pl.getD (2*o.pid z) 0):=by unfold bC;rw[Int.toNat_natCast]
 rw[e]
 have:=ho.top
 exact⟨q2.xM,⟨by unfold aJ.of;dsimp only;omega,by unfold aJ.of;dsimp only;omega,by unfold aJ.of;dsimp only;omega,by omega⟩,q3,q4,q5,rfl⟩
theorem EZ (ho:o.Ok)(h:fZ o G s)(hy:G.x=some y)(hb:s.pl.getD (2*y) 0=a.num→kE a b=true→kj 1 (o.v1 G.wx) b∧b.ok∧lD (aJ.of (s.pl.getD (2*y) 0)) b∧b.sn≤o.top):
  fZ o G (bN s (y:Int) a b)∧Ext o w G s G (bN s (y:Int) a b)∧(∀z,G.x≠some (o.pid z)→(bN s (y:Int) a b).pl.getD (2*o.pid z) 0=s.pl.getD (2*o.pid z) 0)∧(fG s (y:Int) a b=true→aJ.of ((bN s (y:Int) a b).pl.getD (2*y) 0)=b):=by
 unfold bN
 by_cases hc:fG s (y:Int) a b=true
 ·rw[if_pos hc]
  unfold fG at hc
  rw[Int.toNat_natCast,Bool.and_eq_true,decide_eq_true_eq]at hc
  obtain⟨h1,h2,h3,h4⟩:=hb hc.2 hc.1
  rw[Int.toNat_natCast]
  obtain⟨q1,q2⟩:=h.xw (w:=w) ho hy h1 h2 h3 h4
  have hl:2*y<s.pl.length:=by
   have:=(ho.ye h hy).1
   rw[h.mg];omega
  refine⟨q1,q2,fun z hz=> ?_,fun _=> ?_⟩
  ·show(s.pl.set _ _).getD _ 0=_
   rw[rz hl,if_neg (fun e=>hz (by rw[hy];congr 1;omega))]
  ·show aJ.of ((s.pl.set _ _).getD _ 0)=_
   rw[rz hl,if_pos rfl,aJ.lj h2]
 ·rw[if_neg hc]
  exact⟨h,Ext.refl,fun _ _=>rfl,fun e=>absurd e hc⟩
theorem IM (ho:o.Ok)(h:fZ o G s)(hy:G.x=some y):s.pl.getD (2*y) 0=(o.v1 G.wx).num→kE (o.v1 G.wx) {o.v1 G.wx with st:=2}=true→kj 1 (o.v1 G.wx) {o.v1 G.wx with st:=2}∧({o.v1 G.wx with st:=2}:aJ).ok∧lD (aJ.of (s.pl.getD (2*y) 0)) {o.v1 G.wx with st:=2}∧({o.v1 G.wx with st:=2}:aJ).sn≤o.top:=fun e _=>by
 obtain⟨h1,h2,h3,h4⟩:=ho.AO G.wx
 refine⟨⟨rfl,.inr rfl⟩,⟨by show 2≤3;omega,h2,h3,h4⟩,?_,ho.tk _⟩
 rw[e,aJ.lj ⟨h1,h2,h3,h4⟩]
 exact⟨Nat.le_refl _,fun _=>rfl⟩
theorem IN (ho:o.Ok)(h:fZ o G s)(hy:G.x=some y):(bC (bN s (y:Int) (o.v1 G.wx) {o.v1 G.wx with st:=2}) (y:Int)).st=2:=by
 obtain⟨x1,x2,x3,x4,x5,x6⟩:=MM ho h hy
 have hlen:2*y<s.pl.length:=by
  have:=(ho.ye h hy).1
  rw[h.mg];omega
 obtain⟨_,o2,o3,o4⟩:=ho.AO G.wx
 have lb:({o.v1 G.wx with st:=2}:aJ).ok:=⟨by show 2≤3;omega,o2,o3,o4⟩
 unfold bN
 by_cases hc:fG s (y:Int) (o.v1 G.wx) {o.v1 G.wx with st:=2}=true
 ·rw[if_pos hc]
  unfold bC
  rw[Int.toNat_natCast]
  show(aJ.of ((s.pl.set _ _).getD _ 0)).st=2
  rw[rz hlen,if_pos rfl,aJ.lj lb]
 ·rw[if_neg hc]
  rcases x1.2 with q|q
  ·exfalso
   apply hc
   unfold fG
   rw[Int.toNat_natCast,←x5,q,xq rfl]
   simp
  ·exact q
theorem Ww (ho:o.Ok)(hn:dM o G n)(hw:w<o.c.n)(hk:n.wk.getD w ax=k)(hf:k.frame=some f)(h:fT o w f)(e:f.next=3)(y:Nat)(hy:G.x=some y)(hi:f.id=(y:Int))(hs:f.word=o.v1 G.wx)(hm:f.made=false):jF o G w n:=by
 have hW:=hn.wk w hw
 rw[hk]at hW
 have es:bZ o.c w n.sh k f=(bN n.sh (y:Int) (o.v1 G.wx) {o.v1 G.wx with st:=2},k,{f with next:=4}):=by
  rw[AE (by omega) (by omega)]
  unfold fw
  rw[if_neg (by omega),if_pos e,hi,hs]
 obtain⟨q1,q2,q3,_⟩:=EZ (w:=w) ho hn.sh hy (IM ho hn.sh hy)
 have cJ:=IN ho hn.sh hy
 refine hn.on hw hk hf es (by simp[Mo,e,hi,cJ]) h.done q2 q1 (hW.pf hf (fun z hz=>q3 z (hW.j2 z hz)) (.use ⟨h.out,h.b,h.tick,h.fl,h.part,h.ct,h.done⟩ rfl y hy hi ?_ hm) (fun z q=>by rw[hm]at q;cases q))
 show kj 1 _ f.word
 rw[hs]
 exact⟨rfl,.inl rfl⟩
theorem LM (ho:o.Ok)(h:fT o w f):f.gm V=⟨V.st,V.gen,iF o.fl.proto V.tr true (dv o.b).flags,max V.sn (o.tk w)⟩:=by
 unfold aH.gm
 rw[h.part,ho.err,if_neg (by decide),h.fl,h.out,ho.Ls,if_pos rfl,h.tick,Int.toNat_natCast]
theorem CT (ho:o.Ok)(h1:f.b=o.b)(hd:f.done=false)(hy:G.x=some y)(hs:pQ (o.tk w) (aJ.of (s.pl.getD (2*y) 0)))(hm:f.made=true→f.fY=y):gZ o G s w k (f.goes o.c (y:Int)):=by
 refine .fin hd rfl y hy ⟨?_,?_⟩ hs hm
 ·show jf f.b true o.c.o (o.c.lo+((y:Int)).toNat%o.c.np)=_
  rw[h1,Int.toNat_natCast];rfl
 ·show u4 f.b=0
  rw[h1];exact ho.read
theorem WI (ho:o.Ok)(hn:dM o G n)(hw:w<o.c.n)(hk:n.wk.getD w ax=k)(hf:k.frame=some f)(h:fT o w f)(e:f.next=4)(y:Nat)(hy:G.x=some y)(hi:f.id=(y:Int))(hs:kj 1 (o.v1 G.wx) f.word)(hm:f.made=false):jF o G w n:=by
 have hW:=hn.wk w hw
 rw[hk]at hW
 have es:=Yg (c:=o.c) (w:=w) (k:=k) (s:=n.sh) e
 obtain⟨x1,x2,x3,x4,x5,x6⟩:=MM ho hn.sh hy
 unfold tU at es
 rw[hi]at es
 generalize hL:bC n.sh (y:Int)=V at*
 rw[if_neg (by
  rintro (q|⟨q1,q2⟩)
  ·exact q (x1.1.trans hs.1.symm)
  ·rcases x1.2 with q|q
   ·exact q2 (by rw[q];rfl)
   ·exact q1 q)]at es
 have hY:∀g:aH,∀z,f.made=true→f.fY=o.pid z→(f.next=12∨f.next=14)→G.x=some (o.pid z)∨(g.made=true∧g.fY=o.pid z∧(g.next=12∨g.next=14)):=fun g z q=>by rw[hm]at q;cases q
 by_cases h1:V.st=1
 ·rw[if_pos h1]at es
  exact hn.on hw hk hf es (by simp[Mo,aH.fj,e,hi,hL,h1]) h.done Ext.refl hn.sh (hW.lS hf (Dz h hm hy x1) (hY _))
 rw[if_neg h1]at es
 by_cases h2:f.gm V=V
 ·rw[if_pos h2]at es
  have cJ:V.st=2:=by
   rcases x1.2 with q|q
   ·exact absurd (by rw[q];rfl) h1
   ·exact q
  have ht:o.tk w≤V.sn:=by
   have e2:=LM (V:=V) ho h
   rw[h2]at e2
   have:=congrArg aJ.sn e2
   dsimp only at this
   omega
  refine hn.on hw hk hf es (by simp[Mo,e,aH.goes,aH.fin];split<;>omega) h.done Ext.refl hn.sh (hW.lS hf (CT ho h.b h.done hy (by rw[←x6];exact⟨ht,cJ⟩) (fun q=> ?_)) (hY _))
  have q:f.made=true:=q
  rw[hm]at q;cases q
 ·rw[if_neg h2]at es
  have cJ:V.st=2:=by
   rcases x1.2 with q|q
   ·exact absurd (by rw[q];rfl) h1
   ·exact q
  exact hn.on hw hk hf es (by simp[Mo,e,hi,hL,cJ,x5]) h.done Ext.refl hn.sh (hW.lS hf (.renew ⟨h.out,h.b,h.tick,h.fl,h.part,h.ct,h.done⟩ rfl y hy rfl ⟨x1.1,cJ,x2,x4⟩ rfl hm) (hY _))
theorem WD (ho:o.Ok)(hn:dM o G n)(hw:w<o.c.n)(hk:n.wk.getD w ax=k)(hf:k.frame=some f)(h:fT o w f)(e:f.next=5)(y:Nat)(hy:G.x=some y)(hi:f.id=(y:Int))(hs:f.word.gen=1∧f.word.st=2∧f.word.ok∧f.word.sn≤o.top)(zD:f.now=f.gm f.word)(hm:f.made=false):jF o G w n:=by
 have hW:=hn.wk w hw
 rw[hk]at hW
 have es:=Yd (c:=o.c) (w:=w) (k:=k) (s:=n.sh) e
 obtain⟨s1,s2,s3,s4⟩:=hs
 obtain⟨o1,o2,o3,o4⟩:=s3
 have et:=LM (V:=f.word) ho h
 rw[hi,zD]at es
 have nh:=ho.tk w
 have ma:=ho.top
 obtain⟨q1,q2,q3,q4⟩:=EZ (w:=w) (a:=f.word) (b:=f.gm f.word) ho hn.sh hy (fun c1 _=>by
  rw[et,c1,aJ.lj ⟨o1,o2,o3,o4⟩]
  refine⟨⟨s1,.inr s2⟩,⟨o1,o2,ho.tr _ o3,?_⟩,⟨?_,fun _=>s2⟩,?_⟩
  ·show max _ _≤_;omega
  ·show _≤max _ _;omega
  ·show max _ _≤_;omega)
 have hY:∀g:aH,∀z,f.made=true→f.fY=o.pid z→(f.next=12∨f.next=14)→G.x=some (o.pid z)∨(g.made=true∧g.fY=o.pid z∧(g.next=12∨g.next=14)):=fun g z q=>by rw[hm]at q;cases q
 by_cases hc:fG n.sh (y:Int) f.word (f.gm f.word)=true
 ·rw[if_pos hc]at es
  refine hn.on hw hk hf es (by simp[Mo,e,aH.goes,aH.fin];split<;>omega) h.done q2 q1 (hW.pf hf (fun z hz=>q3 z (hW.j2 z hz)) (CT ho h.b h.done hy ?_ (fun q=> ?_)) (hY _))
  ·rw[q4 hc,et]
   exact⟨by show _≤max _ _;omega,s2⟩
  ·have q:f.made=true:=q
   rw[hm]at q;cases q
 ·rw[if_neg hc]at es
  have oY:¬n.sh.pl.getD (2*y) 0=f.word.num:=fun q=>hc (by
   unfold fG
   rw[Int.toNat_natCast,q,xr s2,et,if_pos s2]
   simp
   omega)
  exact hn.on hw hk hf es (by rw[OV e,hi,Int.toNat_natCast,if_neg oY];exact Nat.lt_succ_of_le (OW rfl)) h.done q2 q1 (hW.pf hf (fun z hz=>q3 z (hW.j2 z hz)) (.use ⟨h.out,h.b,h.tick,h.fl,h.part,h.ct,h.done⟩ rfl y hy rfl ⟨s1,.inr s2⟩ hm) (hY _))
theorem Wu (ho:o.Ok)(hn:dM o G n)(hw:w<o.c.n)(hk:n.wk.getD w ax=k)(hf:k.frame=some f)(e:f.next=18)(y:Nat)(hy:G.x=some y)(ha:f.fD=o.goes y∧f.lH=0)(hs:pQ (o.tk w) (aJ.of (n.sh.pl.getD (2*y) 0))):jF o G w n:=by
 have hW:=hn.wk w hw
 rw[hk]at hW
 have es:=Yf (c:=o.c) (w:=w) (k:=k) (s:=n.sh) e
 unfold jF
 rw[Q3 (by rw[hn.wl];exact hw) hk hf es rfl hW.aX]
 refine⟨?_,.inr ⟨rfl,by rw[AT (by rw[hn.wl];exact hw)],by rw[AT (by rw[hn.wl];exact hw)]⟩⟩
 refine hn.gY hw (Ext.same rfl) (hn.sh.HW ?_) ⟨hW.aX,hW.out,hW.cn,hW.nj,hW.own,hW.len,hW.me,hW.j2,fun z hz=> ?_,hW.fz,.inr ⟨rfl,ha.2,y,hy,ha.1,hs⟩⟩
 ·rw[List.getD_eq_getElem?_getD,List.getElem?_set,if_neg (by omega),←List.getD_eq_getElem?_getD];exact hn.sh.ep
 ·rcases hW.mq z hz with h1|h1|⟨g,h1,_,_,h4⟩
  ·exact .inl h1
  ·exact .inr (.inl h1)
  ·rw[hf]at h1
   cases h1
   omega
end
end
section
open Go.RowKit
abbrev ky (pl:List Nat)(x:Nat):Nat:=pl.getD (2*x+1) 0
def gp (p:Nat):Prop:=p=1∨p=6∨p=17
section
variable {c:NC} {pl Ai tb xR:List Nat} {x y K:Nat} {V:aJ}
end
section
variable {c:NC} {pl Ai:List Nat} {po po':Nat→List Nat} {ca ca':Nat→Nat→dC} {w:Nat}
end
end
section
open Go.RowKit
section
variable {c:NC} {pl Ai:List Nat} {po:Nat→List Nat} {ca:Nat→Nat→dC} {w kd:Nat}
end
section
variable {c:NC} {n:bm} {mk:Nat→Nat} {w:Nat}
theorem Ec {np x kd:Nat}(hx:x<np):(kd*np+x)/np=kd∧(kd*np+x)%np=x:=by
 constructor
 ·rw[Nat.add_comm,Nat.mul_comm,Nat.add_mul_div_left _ _ (by omega),Nat.div_eq_of_lt hx,Nat.zero_add]
 ·rw[Nat.add_comm,Nat.add_mul_mod_self_right,Nat.mod_eq_of_lt hx]
end
end
section
open Go.RowKit
section
variable {c:NC} {n:bm} {w:Nat} {s:aW} {k:aR} {mk:Nat→Nat} {D C:List Nat} {x:Nat}
theorem three {q:Nat}(h:q<3):q=0∨q=1∨q=2:=by omega
end
end
section
open Go.RowKit
section
variable {c:NC} {w j k:Nat} {n n' uP:bm} {b:Bool}
end
section
variable {c:NC} {n:bm} {w:Nat}
theorem KH:∀ {l m:List Nat},l.Nodup→(∀x∈l,x∈m)→l.length≤m.length
 |[],m,_,_=>Nat.zero_le _
 |a::l,m,hn,hs=>by
  rw[List.nodup_cons]at hn
  have ha:=hs a List.mem_cons_self
  have h1:=KH (l:=l) (m:=m.erase a) hn.2 fun x hx=>(List.mem_erase_of_ne (fun e=>hn.1 (by rw[←e];exact hx))).2 (hs x (List.mem_cons_of_mem _ hx))
  have h2:=List.length_erase_of_mem ha
  have h3:=List.length_pos_of_mem ha
  simp only[List.length_cons]
  omega
end
end
section
section
variable {o:OF} {G G':Gh} {n:bm} {s s':aW} {w v z y:Nat} {k k':aR} {f f':aH} {V a b:aJ} {K j:Nat} {gB ports:List Nat}
theorem RM {p:Nat→Bool}{l ports:List Nat}(hl:l.Nodup):(l.filter p).length≤(l.filter fun x=>p x&& !decide (x∈ports)).length+ports.length:=by
 have h1:∀(l:List Nat),(l.filter p).length=(l.filter fun x=>p x&& !decide (x∈ports)).length+(l.filter fun x=>p x&&decide (x∈ports)).length:=by
  intro l
  induction l with
  |nil=>rfl
  |cons x l ih=>
   simp only[List.filter_cons]
   cases p x<;>cases decide (x∈ports)<;>simp<;>omega
 have h2:(l.filter fun x=>p x&&decide (x∈ports)).length≤ports.length:=KH (hl.filter _) fun x hx=>by
  have:=(List.mem_filter.1 hx).2
  simp only[Bool.and_eq_true,decide_eq_true_eq]at this
  exact this.2
 rw[h1 l];omega
theorem CQ (fd:Nat→Bool)(w:Nat)(hf:fd w=false):∀n,lR (fun v=>if v=w then true else fd v) n=lR fd n+if w<n then 1 else 0
 |0=>rfl
 |n+1=>by
  show lR _ n+_=lR fd n+_+_
  rw[CQ fd w hf n]
  by_cases e:n=w
  ·subst e
   simp[hf]
  ·by_cases h:w<n
   ·have:w<n+1:=by omega
    simp[e,h,this];omega
   ·have:¬w<n+1:=by omega
    simp[e,h,this]
def Gh.take (G:Gh)(w:Nat)(ports:List Nat):Gh:={G with own:=fun z=>if z∈ports then some w else G.own z,fd:=fun v=>if v=w then true else G.fd v}
theorem fZ.take (h:fZ o G s)(ho:o.Ok)(hw:w<o.c.n)(cu:G.fd w=false)(hp:mC o.c.np gB)(mZ:∀g∈ports,fk (s.po o.kd) g=true)(ck:∀g∈ports,g<o.c.np)(hle:ports.length≤8)(IL:∀x,fk gB x=true↔fk (s.po o.kd) x=true∧x∉ports):
  fZ o (G.take w ports) (s.dP o.kd gB)∧Ext o w G s (G.take w ports) (s.dP o.kd gB):=by
 obtain⟨r1,r2,r3,r4⟩:=qy s o.kd gB
 have hk:o.kd<3:=gH _
 have hY:∀g∈ports,G.own g=none:=fun g hg=>(h.fr g (ck g hg)).1 (mZ g hg)
 have zF:∀z q,G.own z=some q→(G.take w ports).own z=some q:=fun z q e=>by
  show(if z∈ports then _ else _)=_
  rw[if_neg (fun hz=>by rw[hY z hz]at e;cases e)];exact e
 refine⟨⟨?_,?_,fun y hy=> ?_,fun y hy=> ?_,?_,fun z hz=> ?_,fun i hi dc=> ?_,?_,fun v=> ?_,?_,fun z v e=> ?_⟩,⟨.inl ⟨rfl,rfl⟩,fun z v hv=> ?_,fun v hv=> ?_,fun z v _ _ _=> ?_,fun y _=> ?_⟩⟩
 ·rw[r2];exact h.tb
 ·rw[r1];exact h.mg
 ·rw[r1]
  obtain⟨z,q1,q2,q3,q4⟩:=h.xk y hy
  exact⟨z,q1,q2,zF z _ q3,q4⟩
 ·rw[r1]
  refine h.rX y fun z hz e=> ?_
  have:=hy z hz e
  have this:(if z∈ports then some w else G.own z)=none:=this
  split at this
  ·cases this
  ·exact this
 ·rw[xF _ _ hk];exact hp
 ·rw[xF _ _ hk,IL z,h.fr z hz]
  show _↔(if z∈ports then some w else G.own z)=none
  by_cases e:z∈ports
  ·rw[if_pos e];exact⟨fun q=>absurd e q.2,fun q=>by cases q⟩
  ·rw[if_neg e];exact⟨fun q=>q.1,fun q=>⟨q,e⟩⟩
 ·rw[ET _ _ hi hk dc];exact h.tH i hi dc
 ·rw[r3];exact h.ep
 ·rw[r4];exact h.gs v
 ·rw[xF _ _ hk]
  have e1:fk gB=fun x=>fk (s.po o.kd) x&& !decide (x∈ports):=by
   funext x
   rw[Bool.eq_iff_iff,IL x]
   simp
  rw[e1]
  have h1:=RM (p:=fk (s.po o.kd)) (l:=List.range 32) (ports:=ports) List.nodup_range
  have h2:lR (G.take w ports).fd o.c.n=lR G.fd o.c.n+1:=by
   show lR (fun v=>if v=w then true else G.fd v) o.c.n=_
   rw[CQ G.fd w cu,if_pos hw]
  have h3:=h.jI
  rw[h2];omega
 ·have e:(if z∈ports then some w else G.own z)=some v:=e
  split at e
  ·cases e;exact⟨hw,ck z ‹_›⟩
  ·exact h.lt z v e
 ·show(if z∈ports then some w else G.own z)=some v↔_
  by_cases e:z∈ports
  ·rw[if_pos e,hY z e]
   exact⟨fun q=>absurd (Option.some.inj q).symm hv,fun q=>by cases q⟩
  ·rw[if_neg e]
 ·show(if v=w then true else G.fd v)=_
  rw[if_neg hv]
 ·rw[r1];exact⟨rfl,rfl⟩
 ·rw[r1];exact lD.refl
theorem X3 (ho:o.Ok)(h:fZ o G s)(hw:w<o.c.n)(cu:G.fd w=false):cE ((s.po o.kd).getD 0 0)≠ []:=by
 have ck:∀(fd:Nat→Bool) (m:Nat),lR fd m≤m:=fun fd m=>by
  induction m with
  |zero=>exact Nat.le_refl _
  |succ m ih=>
   show lR fd m+(if fd m=true then 1 else 0)≤_
   split<;>omega
 have Te:∀(fd:Nat→Bool) (m:Nat),w<m→fd w=false→lR fd m+1≤m:=fun fd m hm hf=>by
  have:=CQ fd w hf m
  rw[if_pos hm]at this
  have:=ck (fun v=>if v=w then true else fd v) m
  omega
 have h1:=Te G.fd o.c.n hw cu
 have h2:=h.jI
 have h3:=ho.n4
 intro e
 have e2:(List.range 32).filter (fk (s.po o.kd))=[]:=by
  rw[List.filter_eq_nil_iff]
  intro x hx
  have hx:=List.mem_range.1 hx
  intro hf
  have:x∈cE ((s.po o.kd).getD 0 0):=ow.2 ⟨hx,by
   unfold fk at hf
   rw[show x/32=0 by omega,show x%32=x by omega]at hf
   simpa using hf⟩
  rw[e]at this
  cases this
 rw[e2]at h2
 simp at h2
 omega
theorem take_one (ho:o.Ok)(h:fZ o G s)(hw:w<o.c.n)(cu:G.fd w=false){x:bL}(hx:mD o.c.np x)(hd:x.done=false)(hp:x.ports=[])(hl:x.left=2∨(x.left=1∧x.word=0))(hr:x.read=true→cE x.seen≠ []):
  ((bh (s.po o.kd) x).2.done=false∧(bh (s.po o.kd) x).1=s.po o.kd∧(bh (s.po o.kd) x).2.ports=[]∧((bh (s.po o.kd) x).2.left=2∨((bh (s.po o.kd) x).2.left=1∧(bh (s.po o.kd) x).2.word=0))∧((bh (s.po o.kd) x).2.read=true→cE (bh (s.po o.kd) x).2.seen≠ [])∧rS (s.po o.kd) (bh (s.po o.kd) x).2<rS (s.po o.kd) x)∨
  ((bh (s.po o.kd) x).2.done=true∧(bh (s.po o.kd) x).2.ports≠ []):=by
 have hs:=X3 ho h hw cu
 obtain⟨t1,t2,t3,t4,t5,t6⟩:=hx.ok.lu hx.kind
 have hm:mW o.c.np=2:=by rw[ho.np]
 have e:bh (s.po o.kd) x=ji (s.po o.kd) x:=by unfold bh;rw[if_neg (by simp[hd]),if_pos hx.kind]
 rw[e]
 unfold ji
 by_cases c1:x.read=true
 ·rw[if_pos c1]
  by_cases c2:(s.po o.kd).getD x.word 0=x.seen
  ·rw[if_pos c2]
   right
   refine⟨rfl,?_⟩
   show(eA x.seen x.most).map (x.word*32+ ·)≠ []
   intro q
   have q:=List.map_eq_nil_iff.1 q
   unfold eA at q
   have:=hr c1
   rcases hq:cE x.seen with _|⟨g,l⟩
   ·exact this hq
   ·rw[hq]at q
    obtain⟨m,hz⟩:∃m,x.most=m+1:=⟨x.most-1,by omega⟩
    rw[hz]at q
    simp at q
  ·rw[if_neg c2]
   exact .inl ⟨hd,rfl,hp,hl,fun q=>(by cases q),by simp[rS,c1];rw[List.getD_eq_getElem?_getD]at c2;rw[if_neg c2];split<;>omega⟩
 ·rw[if_neg c1]
  by_cases c2:cE ((s.po o.kd).getD x.word 0)=[]
  ·rw[if_pos c2]
   left
   have wX:x.word≠0:=fun q=>hs (by rw[q]at c2;exact c2)
   have Ta:x.left=2:=by
    rcases hl with q|q
    ·exact q
    ·exact absurd q.2 wX
   have e1:x.word=1:=by omega
   refine⟨?_,rfl,hp,.inr ⟨?_,?_⟩,fun q=>absurd q c1,?_⟩
   ·show decide (x.left-1=0)=false
    rw[Ta];rfl
   ·show x.left-1=1
    omega
   ·show(x.word+1)%x.words.length=0
    rw[e1,t1,hm]
   ·have e3:(x.word+1)%x.words.length=0:=by rw[e1,t1,hm]
    unfold rS
    dsimp only
    rw[if_neg c1,if_neg c1,if_pos c2,e3,if_neg hs]
    decide
  ·rw[if_neg c2]
   exact .inl ⟨hd,rfl,hp,hl,fun _=>c2,by unfold rS;dsimp only;rw[if_neg c1,if_neg c2,if_pos rfl,if_pos rfl];decide⟩
theorem XQ (s:aW)(i:Nat):s.dP i (s.po i)=s:=XU s i
theorem Wt (ho:o.Ok)(hn:dM o G n)(hw:w<o.c.n)(hk:n.wk.getD w ax=k)(hf:k.frame=some f)(h:fT o w f)(e:f.next=6)(x:j5)(hx:f.fill=some x)(h1:x.kind=0∧x.done=false∧mD o.c.np x.bG∧x.bG.done=false∧x.bG.ports=[]∧(x.bG.left=2∨(x.bG.left=1∧x.bG.word=0))∧(x.bG.read=true→cE x.bG.seen≠ []))(hm:f.made=false)(cu:G.fd w=false):∃G',jF o G' w n∧G'.x=G.x:=by
 have hW:=hn.wk w hw
 rw[hk]at hW
 obtain⟨a1,a2,a3,a4,a5,a6,a7⟩:=h1
 have il:o.kd<3:=gH _
 have bl:aF f.ar.proto=o.kd:=by rw[h.fl];rfl
 obtain⟨DC,Tv⟩:=hW.me cu
 have SF:eh (n.sh.po o.kd) (k.ca o.kd) x=((bh (n.sh.po o.kd) x.bG).1,if(bh (n.sh.po o.kd) x.bG).2.done=true then {k.ca o.kd with h:=if(bh (n.sh.po o.kd) x.bG).2.ports=[]then(k.ca o.kd).h else(bh (n.sh.po o.kd) x.bG).2.word,l:=(k.ca o.kd).l++(bh (n.sh.po o.kd) x.bG).2.ports.reverse}else k.ca o.kd,{x with bG:=(bh (n.sh.po o.kd) x.bG).2,done:=(bh (n.sh.po o.kd) x.bG).2.done}):=by
  unfold eh
  rw[if_neg (by rw[a2];decide),if_neg (by omega),if_neg (by omega)]
  simp only[a1,true_and]
 have es:=AD (c:=o.c) (w:=w) (k:=k) (s:=n.sh) (f:=f) (by omega) (by omega)
 unfold cC at es
 rw[if_pos e,hx]at es
 dsimp only at es
 rw[bl,SF]at es
 dsimp only at es
 have zo:=L4 hn.sh.po.words a3.ok a3.kind a4 a5
 have uE:=a3.HO hn.sh.po a4
 rcases take_one ho hn.sh hw cu a3 a4 a5 a6 a7 with ⟨d1,d2,d3,d4,d5,d6⟩|⟨d1,d2⟩
 ·rw[d1,d2,if_neg (by decide),if_pos rfl,XT,XQ]at es
  refine⟨G,hn.on hw hk hf es (by simp[Mo,e,hx];exact d6) h.done Ext.refl hn.sh (hW.lS hf (.fill ⟨h.out,h.b,h.tick,h.fl,h.part,h.ct,h.done⟩ e _ rfl ⟨a1,rfl,uE.2,d1,d3,d4,d5⟩ hm cu) (fun z q=>by rw[hm]at q;cases q)),rfl⟩
 ·have oY:ny {x with bG:=(bh (n.sh.po o.kd) x.bG).2,done:=(bh (n.sh.po o.kd) x.bG).2.done}=false:=by
   unfold ny jd
   dsimp only
   rw[decide_eq_false d2]
   simp
  rw[oY,d1,if_pos rfl,if_neg d2,if_neg (show ¬true=false by decide),if_neg (show ¬false=true by decide),DC,List.nil_append,XR]at es
  obtain⟨q1,q2⟩:=hn.sh.take ho hw cu uE.1 zo.free uE.2.lt uE.2.sU zo.after
  have jb:=uE.2.lt
  have TA:=uE.2.sU
  have SN:=zo.free
  have wH:=zo.nodup
  generalize (bh (n.sh.po o.kd) x.bG).2.ports=ports at*
  generalize (bh (n.sh.po o.kd) x.bG).1=gB at*
  obtain⟨r1,r2,r3,r4,r5,r6,r7,r8⟩:=nO k o.kd {k.ca o.kd with h:=(bh (n.sh.po o.kd) x.bG).2.word,l:=ports.reverse}
  obtain⟨p1,p2,p3,p4⟩:=qy n.sh o.kd gB
  have nF:∀z,z∈ports→G.own z=none:=fun z hz=>(hn.sh.fr z (jb z hz)).1 (SN z hz)
  have zF:∀z,z∈ports→(G.take w ports).own z=some w:=fun z hz=>if_pos hz
  have Jh:∀z,z∈ports→G.x≠some (o.pid z):=fun z hz e=>by
   obtain⟨z',_,q2,q3,_⟩:=hn.sh.xk _ e
   have:=pg q2
   subst this
   rw[nF z hz]at q3
   cases q3
  have j8:∀i,i<3→i≠o.kd→(k.bK o.kd {k.ca o.kd with h:=(bh (n.sh.po o.kd) x.bG).2.word,l:=ports.reverse}).ca i=k.ca i:=fun i hi dc=>vP k _ hi il dc
  have gV:(k.bK o.kd {k.ca o.kd with h:=(bh (n.sh.po o.kd) x.bG).2.word,l:=ports.reverse}).ca o.kd={k.ca o.kd with h:=(bh (n.sh.po o.kd) x.bG).2.word,l:=ports.reverse}:=uk k _ il
  refine⟨G.take w ports,hn.on hw hk hf es (by simp[Mo,e,hx];omega) h.done q2 q1 ⟨?_,fun i hi=> ?_,fun i hi dc=> ?_,?_,fun z hz=> ?_,?_,fun q=> ?_,fun z hz=> ?_,fun z hz=> ?_,fun z _ hz=> ?_,?_⟩,rfl⟩
  ·show(k.bK o.kd _).aX=none;rw[r2];exact hW.aX
  ·show((k.bK o.kd _).ca i).out=none
   by_cases q:i=o.kd
   ·subst q;rw[gV];exact hW.out _ il
   ·rw[j8 i hi q];exact hW.out i hi
  ·show((k.bK o.kd _).ca i).l=[]
   rw[j8 i hi dc];exact hW.cn i hi dc
  ·show((k.bK o.kd _).ca o.kd).l.Nodup
   rw[gV];exact List.pairwise_reverse.2 (wH.imp fun h=>h.symm)
  ·have hz:z∈((k.bK o.kd _).ca o.kd).l:=hz
   rw[gV]at hz
   have hz:=List.mem_reverse.1 hz
   exact⟨jb z hz,zF z hz⟩
  ·show((k.bK o.kd _).ca o.kd).l.length≤8
   rw[gV];show ports.reverse.length≤8
   rw[List.length_reverse];exact TA
  ·have q:(if w=w then true else G.fd w)=false:=q
   rw[if_pos rfl]at q;cases q
  ·have hz:z∈((k.bK o.kd _).ca o.kd).l:=hz
   rw[gV]at hz
   exact Jh z (List.mem_reverse.1 hz)
  ·left
   show z∈((k.bK o.kd _).ca o.kd).l
   rw[gV]
   have hz:(if z∈ports then some w else G.own z)=some w:=hz
   by_cases q:z∈ports
   ·exact List.mem_reverse.2 q
   ·rw[if_neg q]at hz
    exact absurd hz (Tv z)
  ·have hz:z∈((k.bK o.kd _).ca o.kd).l:=hz
   rw[gV]at hz
   have hz:=List.mem_reverse.1 hz
   rw[p1,hn.sh.rX _ fun z' _ e'=>by rw[←pg e'];exact nF z hz]
   rfl
  ·have SS:(G.take w ports).fd w=true:=if_pos rfl
   have nf:gZ o (G.take w ports) (n.sh.dP o.kd gB) w (k.bK o.kd {k.ca o.kd with h:=(bh (n.sh.po o.kd) x.bG).2.word,l:=ports.reverse}) {f with fill:=some {x with bG:=(bh (n.sh.po o.kd) x.bG).2,done:=true},next:=9}:=by
    refine .bH ⟨h.out,h.b,h.tick,h.fl,h.part,h.ct,h.done⟩ rfl ?_ (fun z hz=> ?_) hm SS
    ·rw[gV]
     intro q
     exact d2 (List.reverse_eq_nil_iff.1 q)
    ·rw[gV]at hz
     have hz:=List.mem_reverse.1 hz
     rw[p1]
     exact⟨hn.sh.rX _ fun z' _ e'=>by rw[←pg e'];exact nF z hz,Jh z hz⟩
   exact nf.yG
end
end
section
section
variable {o:OF} {G G':Gh} {n:bm} {s s':aW} {w v z y:Nat} {k k':aR} {f f':aH} {V a b:aJ} {K j:Nat}
theorem Md {a:dC}(hl:a.l≠ []):(oz a).l++[dA a]=a.l:=by
 have h0:a.l.length-1<a.l.length:=by
  have:=List.length_pos_iff.2 hl;omega
 unfold dA oz
 dsimp only
 rw[tQ (l:=a.l) (i:=a.l.length-1) (d:=0) h0,show a.l.length-1+1=a.l.length by omega,List.take_length]
theorem Fy {a:dC}(hl:a.l≠ []):dA a∈a.l:=by
 rw[←Md hl]
 exact List.mem_append_right _ (List.mem_singleton.2 rfl)
theorem WB (ho:o.Ok)(hn:dM o G n)(hw:w<o.c.n)(hk:n.wk.getD w ax=k)(hf:k.frame=some f)(h:fT o w f)(e:f.next=9)(hl:(k.ca o.kd).l≠ [])(hv:∀z∈(k.ca o.kd).l,n.sh.pl.getD (2*o.pid z) 0=0∧G.x≠some (o.pid z))(hm:f.made=false)(cu:G.fd w=true):jF o G w n:=by
 have hW:=hn.wk w hw
 rw[hk]at hW
 have bl:aF f.ar.proto=o.kd:=by rw[h.fl];rfl
 have es:=Yc (c:=o.c) (w:=w) (k:=k) (s:=n.sh) e
 rw[bl]at es
 have hz:=hv _ (Fy hl)
 have e0:bC n.sh ((o.kd*o.c.np+dA (k.ca o.kd):Nat):Int)=w0:=by
  unfold bC
  rw[Int.toNat_natCast]
  have:n.sh.pl.getD (2*(o.kd*o.c.np+dA (k.ca o.kd))) 0=0:=hz.1
  rw[this];rfl
 rw[e0]at es
 exact hn.on hw hk hf es (by simp[Mo,e]) h.done Ext.refl hn.sh (hW.lS hf (.key ⟨h.out,h.b,h.tick,h.fl,h.part,h.ct,h.done⟩ (.inl rfl) hl hv rfl rfl (fun q=>by have q:10=11:=q;omega) hm cu) (fun z q=>by rw[hm]at q;cases q))
theorem Wx (ho:o.Ok)(hn:dM o G n)(hw:w<o.c.n)(hk:n.wk.getD w ax=k)(hf:k.frame=some f)(h:fT o w f)(e:f.next=10)(hl:(k.ca o.kd).l≠ [])(hv:∀z∈(k.ca o.kd).l,n.sh.pl.getD (2*o.pid z) 0=0∧G.x≠some (o.pid z))(hi:f.id=((o.pid (dA (k.ca o.kd)):Nat):Int))(kC:f.word=w0)(hm:f.made=false)(cu:G.fd w=true):jF o G w n:=by
 have hW:=hn.wk w hw
 rw[hk]at hW
 have es:=X9 (c:=o.c) (w:=w) (k:=k) (s:=n.sh) e
 have ht:=Fy hl
 obtain⟨t1,t2⟩:=hW.own _ ht
 unfold oE at es
 rw[hi,Int.toNat_natCast]at es
 obtain⟨q1,q2⟩:=hn.sh.own (w:=w) (K:=qq f.ar) ho t1 t2 (hv _ ht).2 (.inr rfl)
 have ck:=ho.tF t1
 have hlen:2*o.pid (dA (k.ca o.kd))+1<n.sh.pl.length:=by rw[hn.sh.mg];omega
 have hg:∀j,(n.sh.pl.set (2*o.pid (dA (k.ca o.kd))+1) (qq f.ar)).getD j 0=if j=2*o.pid (dA (k.ca o.kd))+1 then qq f.ar else n.sh.pl.getD j 0:=fun j=>rz hlen
 have hz:∀z,(n.sh.pl.set (2*o.pid (dA (k.ca o.kd))+1) (qq f.ar)).getD (2*o.pid z) 0=n.sh.pl.getD (2*o.pid z) 0:=fun z=>by rw[hg,if_neg (by omega)]
 refine hn.on hw hk hf es (by simp[Mo,e]) h.done q2 q1 (hW.pf hf (fun z _=>hz z) (.key ⟨h.out,h.b,h.tick,h.fl,h.part,h.ct,h.done⟩ (.inr rfl) hl (fun z jV=>⟨(hz z).trans (hv z jV).1,(hv z jV).2⟩) rfl kC (fun _=> ?_) hm cu) (fun z q=>by rw[hm]at q;cases q))
 show(n.sh.pl.set (2*o.pid (dA (k.ca o.kd))+1) (qq f.ar)).getD (2*o.pid (dA (k.ca o.kd))+1) 0=o.key
 rw[hg,if_pos rfl,h.fl];rfl
theorem Wz (ho:o.Ok)(hn:dM o G n)(hw:w<o.c.n)(hk:n.wk.getD w ax=k)(hf:k.frame=some f)(h:fT o w f)(e:f.next=11)(hl:(k.ca o.kd).l≠ [])(hv:∀z∈(k.ca o.kd).l,n.sh.pl.getD (2*o.pid z) 0=0∧G.x≠some (o.pid z))(hi:f.id=((o.pid (dA (k.ca o.kd)):Nat):Int))(kC:f.word=w0)(DB:n.sh.pl.getD (2*o.pid (dA (k.ca o.kd))+1) 0=o.key)(hm:f.made=false)(cu:G.fd w=true):jF o G w n:=by
 have hW:=hn.wk w hw
 rw[hk]at hW
 have bl:aF f.ar.proto=o.kd:=by rw[h.fl];rfl
 have il:o.kd<3:=gH _
 have ht:=Fy hl
 obtain⟨t1,t2⟩:=hW.own _ ht
 have zD:tA f=o.v1 w:=by
  unfold tA OF.v1
  rw[kC,h.fl,h.part,h.tick,Int.toNat_natCast];rfl
 have hc:fG n.sh f.id f.word (tA f)=true:=by
  unfold fG
  rw[hi,kC,zD,Int.toNat_natCast,(hv _ ht).1,Ep rfl]
  simp[OF.v1,w0,aJ.num]
 have es:=Yb (c:=o.c) (w:=w) (k:=k) (s:=n.sh) e hc
 unfold bN at es
 rw[if_pos hc,zD,bl,hi,Int.toNat_natCast]at es
 obtain⟨q1,q2⟩:=hn.sh.own (w:=w) (K:=(o.v1 w).num) ho t1 t2 (hv _ ht).2 (.inl rfl)
 have ck:=ho.tF t1
 have tu:=Md hl
 have wH:=hW.nj
 rw[←tu]at wH
 have Je:dA (k.ca o.kd)∉(oz (k.ca o.kd)).l:=fun q=>(List.nodup_append.1 wH).2.2 _ q _ (List.mem_singleton.2 rfl) rfl
 have D0:∀z,z∈(oz (k.ca o.kd)).l→z∈(k.ca o.kd).l:=fun z hz=>by rw[←tu];exact List.mem_append_left _ hz
 have jb:(oz (k.ca o.kd)).l.length+1=(k.ca o.kd).l.length:=by rw[←tu,List.length_append];rfl
 have adS:=hW.len
 have hlen:2*o.pid (dA (k.ca o.kd))<n.sh.pl.length:=by rw[hn.sh.mg];omega
 have hg:∀j,(n.sh.pl.set (2*o.pid (dA (k.ca o.kd))) (o.v1 w).num).getD j 0=if j=2*o.pid (dA (k.ca o.kd))then(o.v1 w).num else n.sh.pl.getD j 0:=fun j=>rz hlen
 obtain⟨r1,r2,r3,r4,r5,r6,r7,r8⟩:=nO k o.kd (oz (k.ca o.kd))
 have j8:∀i,i<3→i≠o.kd→(k.bK o.kd (oz (k.ca o.kd))).ca i=k.ca i:=fun i hi dc=>vP k _ hi il dc
 have gV:(k.bK o.kd (oz (k.ca o.kd))).ca o.kd=oz (k.ca o.kd):=uk k _ il
 refine hn.on hw hk hf es (Nat.lt_of_le_of_lt (Gv rfl) (by simp[Mo,e])) h.done q2 q1 ⟨?_,fun i hi=> ?_,fun i hi dc=> ?_,?_,fun z hz=> ?_,?_,fun q=> ?_,fun z hz=> ?_,fun z hz=> ?_,fun z _ hz=> ?_,?_⟩
 ·show(k.bK o.kd _).aX=none;rw[r2];exact hW.aX
 ·show((k.bK o.kd _).ca i).out=none
  by_cases q:i=o.kd
  ·subst q;rw[gV];exact hW.out _ il
  ·rw[j8 i hi q];exact hW.out i hi
 ·show((k.bK o.kd _).ca i).l=[]
  rw[j8 i hi dc];exact hW.cn i hi dc
 ·show((k.bK o.kd _).ca o.kd).l.Nodup
  rw[gV];exact(List.nodup_append.1 wH).1
 ·have hz:z∈((k.bK o.kd _).ca o.kd).l:=hz
  rw[gV]at hz
  exact hW.own z (D0 z hz)
 ·show((k.bK o.kd _).ca o.kd).l.length≤8
  rw[gV];omega
 ·rw[cu]at q;cases q
 ·have hz:z∈((k.bK o.kd _).ca o.kd).l:=hz
  rw[gV]at hz
  exact hW.j2 z (D0 z hz)
 ·rcases hW.mq z hz with h1|h1|⟨g,h1,h2,_⟩
  ·rw[←tu]at h1
   rcases List.mem_append.1 h1 with h2|h2
   ·left
    show z∈((k.bK o.kd _).ca o.kd).l
    rw[gV];exact h2
   ·right;right
    rw[List.mem_singleton.1 h2]
    exact⟨_,rfl,rfl,rfl,.inl rfl⟩
  ·exact .inr (.inl h1)
  ·rw[hf]at h1
   cases h1
   rw[hm]at h2;cases h2
 ·have hz:z∈((k.bK o.kd _).ca o.kd).l:=hz
  rw[gV]at hz
  have dc:o.pid z≠o.pid (dA (k.ca o.kd)):=fun q=>Je (by rw[←pg q];exact hz)
  show(aJ.of ((n.sh.pl.set _ _).getD _ 0)).st=0
  rw[hg,if_neg (by omega),(hv z (D0 z hz)).1];rfl
 ·have nf:gZ o G {n.sh with pl:=n.sh.pl.set (2*o.pid (dA (k.ca o.kd))) (o.v1 w).num} w (k.bK o.kd (oz (k.ca o.kd))) {f with id:=((o.pid (dA (k.ca o.kd)):Nat):Int),word:=o.v1 w,made:=true,fY:=o.pid (dA (k.ca o.kd)),enter:=some (jh o.c 1 f.ar ((o.pid (dA (k.ca o.kd)):Nat):Int) 0),next:=12}:=by
   refine .enter ⟨h.out,h.b,h.tick,h.fl,h.part,h.ct,h.done⟩ rfl (dA (k.ca o.kd)) ⟨t1,t2,?_,?_⟩ rfl ⟨rfl,rfl⟩ rfl ⟨?_,?_⟩ (hv _ ht).2 _ rfl ?_ cu
   ·rw[gV];exact Je
   ·rw[gV];omega
   ·show(n.sh.pl.set _ _).getD _ 0=_
    rw[hg,if_pos rfl]
   ·show(n.sh.pl.set _ _).getD _ 0=_
    rw[hg,if_neg (by omega)];exact DB
   ·unfold jh
    rw[h.fl]
    exact Ma rfl
  exact nf.yG
end
end
section
section
variable {o:OF} {G G':Gh} {n:bm} {s s':aW} {w v z y:Nat} {k k':aR} {f f':aH} {V a b:aJ} {K j:Nat}
theorem Ws (ho:o.Ok)(hn:dM o G n)(hw:w<o.c.n)(hk:n.wk.getD w ax=k)(hf:k.frame=some f)(h:fT o w f)(e:f.next=12)(z:Nat)(hz:z<o.c.np∧G.own z=some w∧z∉(k.ca o.kd).l∧(k.ca o.kd).l.length≤7)(hi:f.id=((o.pid z:Nat):Int))(hm:f.made=true∧f.fY=o.pid z)(hv:f.word=o.v1 w)(hp:n.sh.pl.getD (2*o.pid z) 0=(o.v1 w).num∧n.sh.pl.getD (2*o.pid z+1) 0=o.key)(hx:G.x≠some (o.pid z))(t:aU)(ht:f.enter=some t)(h1:mE o.a o.bb G.x o.key 1 (o.v1 G.wx) 1 f.id t)(cu:G.fd w=true):
  ∃G',jF o G' w n∧(G.x=none∨G'.x=G.x):=by
 have hW:=hn.wk w hw
 rw[hk]at hW
 have es:bZ o.c w n.sh k f=({n.sh with tb:=(bA n.sh.pl o.c.nb n.sh.tb t).1},k,if(bA n.sh.pl o.c.nb n.sh.tb t).2.done=false then {f with enter:=some (bA n.sh.pl o.c.nb n.sh.tb t).2}else {f with enter:=some (bA n.sh.pl o.c.nb n.sh.tb t).2,next:=if(bA n.sh.pl o.c.nb n.sh.tb t).2.end_=0 then 13 else 14}):=by
  rw[Fo (by omega) (by omega)]
  unfold fi
  rw[if_pos e,ht]
 have ck:=ho.tF hz.1
 have c3:=ho.np
 have cJ:=Mb h1 (by decide) ho.ab ho.an hn.sh.tb (fun y hy=>by
  obtain⟨z',jV,q1,q2,q3,_⟩:=hn.sh.xk y hy
  refine⟨(ho.ye hn.sh hy).2,q3,fun q=>hx ?_⟩
  rw[hy];congr 1;omega) (fun _=>by rw[hi];omega)
 have nE:jH o G {n.sh with tb:=(bA n.sh.pl o.c.nb n.sh.tb t).1} w k:=hW.EO (fun _ _=>rfl) (by rw[hf];exact gZ.enter h e z hz hi hm hv hp hx t ht h1 cu)
 generalize bA n.sh.pl o.c.nb n.sh.tb t=D at*
 cases cJ with
 |on q1 q2 qm=>
  rw[if_pos q1.td]at es
  refine⟨G,hn.on hw hk hf es (by simp[Mo,e,ht,q2];exact qm) h.done (Ext.same rfl) (hn.sh.xS q2) (nE.lS hf (.enter ⟨h.out,h.b,h.tick,h.fl,h.part,h.ct,h.done⟩ e z hz hi hm hv hp hx _ rfl q1 cu) (fun z' _ a2 _=> .inr ⟨hm.1,a2,.inl e⟩)),.inr rfl⟩
 |fj y hy hd he kz hs q2=>
  rw[if_neg (by rw[hd];decide),he,if_pos rfl,if_neg (by decide)]at es
  refine⟨G,hn.on hw hk hf es (by simp[Mo,e,ht];omega) h.done (Ext.same rfl) (hn.sh.xS q2) (nE.lS hf (.sf ⟨h.out,h.b,h.tick,h.fl,h.part,h.ct,h.done⟩ rfl z hz hi hm hv hp.1 y hy (fun q=>hx (by rw[hy,q])) _ rfl ⟨he,kz,hs⟩ cu) (fun z' _ a2 _=> .inr ⟨hm.1,a2,.inr rfl⟩)),.inr rfl⟩
 |none om=>cases om
 |put wB ou hd he hT=>
  rw[if_neg (by rw[hd];decide),he,if_pos rfl]at es
  rw[hi,Int.toNat_natCast]at hT
  have uK:=ho.AO w
  have fI:=ho.tk w
  have hE:Ext o w G n.sh {G with x:=some (o.pid z),wx:=w} {n.sh with tb:=D.1}:=⟨.inr ⟨ou,z,hz.1,rfl,hz.2.1⟩,fun _ _ _=>Iff.rfl,fun _ _=>rfl,fun _ _ _ _ _=>⟨rfl,rfl⟩,fun _ _=>lD.refl⟩
  have hS:fZ o {G with x:=some (o.pid z),wx:=w} {n.sh with tb:=D.1}:=by
   refine⟨hT,hn.sh.mg,fun y hy=> ?_,hn.sh.rX,hn.sh.po,hn.sh.fr,hn.sh.tH,hn.sh.ep,hn.sh.gs,hn.sh.jI,hn.sh.lt⟩
   have hy:=(Option.some.inj hy).symm
   subst hy
   refine⟨z,hz.1,rfl,hz.2.1,⟨⟨rfl,rfl⟩,?_,hp.2⟩,?_,?_,?_⟩
   ·show kj 1 _ (aJ.of (n.sh.pl.getD _ 0))
    rw[hp.1,aJ.lj uK];exact⟨rfl,.inl rfl⟩
   ·show _≤(aJ.of (n.sh.pl.getD _ 0)).sn
    rw[hp.1,aJ.lj uK];exact Nat.le_refl _
   ·show(aJ.of (n.sh.pl.getD _ 0)).sn≤_
    rw[hp.1,aJ.lj uK];exact fI
   ·show(aJ.of (n.sh.pl.getD _ 0)).num=n.sh.pl.getD _ 0
    rw[hp.1,aJ.lj uK]
  have w5:∀z'∈(k.ca o.kd).l,some (o.pid z)≠some (o.pid z'):=fun z' jV q=>hz.2.2.1 (by rw[pg (Option.some.inj q)];exact jV)
  refine⟨{G with x:=some (o.pid z),wx:=w},hn.on hw hk hf es (by simp[Mo,e,ht];omega) h.done hE hS ⟨hW.aX,hW.out,hW.cn,hW.nj,hW.own,hW.len,hW.me,w5,fun z' jV=> ?_,hW.fz,?_⟩,.inl ou⟩
  ·rcases hW.mq z' jV with h2|h2|⟨g,h2,_,h4,_⟩
   ·exact .inl h2
   ·rw[ou]at h2;cases h2
   ·rw[hf]at h2
    cases h2
    right;left
    show some (o.pid z)=some (o.pid z')
    rw[←hm.2,h4]
  ·exact gZ.live ⟨h.out,h.b,h.tick,h.fl,h.part,h.ct,h.done⟩ rfl (o.pid z) rfl hi hv rfl hm cu
theorem Wy (ho:o.Ok)(hn:dM o G n)(hw:w<o.c.n)(hk:n.wk.getD w ax=k)(hf:k.frame=some f)(h:fT o w f)(e:f.next=13)(y:Nat)(hy:G.x=some y)(hi:f.id=(y:Int))(hv:f.word=o.v1 w)(hx:G.wx=w)(hm:f.made=true∧f.fY=y):jF o G w n:=by
 have hW:=hn.wk w hw
 rw[hk]at hW
 have es:=Ya (c:=o.c) (w:=w) (k:=k) (s:=n.sh) e
 rw[yH]at es
 generalize (jo {k with cm:=ir k.cm f.id f.ar} (jY (f.id.toNat/o.c.np)) f.id f.word f.tick).bp=wh at es
 rw[hi,hv]at es
 have hb:=IM ho hn.sh hy
 rw[hx]at hb
 obtain⟨q1,q2,q3,_⟩:=EZ (w:=w) (a:=o.v1 w) (b:={o.v1 w with st:=2}) ho hn.sh hy (by rw[hx];exact hb)
 refine hn.on hw hk hf es (by simp[Mo,e,aH.goes,aH.fin]) h.done q2 q1 ⟨hW.aX,hW.out,hW.cn,hW.nj,hW.own,hW.len,hW.me,hW.j2,fun z hz=> ?_,fun z a1 a2=> ?_,?_⟩
 ·rcases hW.mq z hz with h1|h1|⟨g,h1,_,_,h4⟩
  ·exact .inl h1
  ·exact .inr (.inl h1)
  ·rw[hf]at h1
   cases h1
   omega
 ·rw[q3 z (hW.j2 z a2)];exact hW.fz z a1 a2
 ·refine CT ho h.b h.done hy ?_ (fun _=>hm.2)
  have h5:=(q1.xk y hy)
  obtain⟨z,_,_,_,_,q5,_⟩:=h5
  rw[hx]at q5
  have q6:=IN ho hn.sh hy
  rw[hx]at q6
  unfold bC at q6
  rw[Int.toNat_natCast]at q6
  exact⟨q5,q6⟩
theorem WH (ho:o.Ok)(hn:dM o G n)(hw:w<o.c.n)(hk:n.wk.getD w ax=k)(hf:k.frame=some f)(h:fT o w f)(e:f.next=14)(z:Nat)(hz:z<o.c.np∧G.own z=some w∧z∉(k.ca o.kd).l∧(k.ca o.kd).l.length≤7)(hi:f.id=((o.pid z:Nat):Int))(hm:f.made=true∧f.fY=o.pid z)(hv:f.word=o.v1 w)(hp:n.sh.pl.getD (2*o.pid z) 0=(o.v1 w).num)(y:Nat)(hy:G.x=some y)(hx:y≠o.pid z)(t:aU)(ht:f.enter=some t)(h1:t.end_=10∧t.found=(y:Int)∧kj 1 (o.v1 G.wx) t.aQ)(cu:G.fd w=true):jF o G w n:=by
 have hW:=hn.wk w hw
 rw[hk]at hW
 have bl:aF f.ar.proto=o.kd:=by rw[h.fl];rfl
 have il:o.kd<3:=gH _
 have uK:=ho.AO w
 have lb:({o.v1 w with st:=0}:aJ).ok:=⟨by show 0≤3;omega,uK.2⟩
 have hc:fG n.sh ((o.pid z:Nat):Int) (o.v1 w) {o.v1 w with st:=0}=true:=by
  unfold fG
  rw[Int.toNat_natCast,hp,xq rfl]
  simp
 have Tm:o.pid z%o.c.np=z:=(Ec (kd:=o.kd) hz.1).2
 have zm:(kp o.c.np (k.ca o.kd) z).1={k.ca o.kd with l:=(k.ca o.kd).l++[z]}:=by
  unfold kp
  rw[if_neg (by rw[List.length_append];have:=hz.2.2.2;simp;omega)]
 have es:bZ o.c w n.sh k f=({n.sh with pl:=n.sh.pl.set (2*o.pid z) ({o.v1 w with st:=0}:aJ).num},k.bK o.kd {k.ca o.kd with l:=(k.ca o.kd).l++[z]},({f with made:=false}:aH).fj (y:Int) t.aQ):=by
  rw[Fo (by omega) (by omega)]
  unfold fi
  rw[if_neg (by omega),if_neg (by omega),ht]
  dsimp only
  rw[if_pos h1.1,h1.2.1,←ht,hi,hv,bl,Int.toNat_natCast,Tm,zm]
  unfold bN
  rw[if_pos hc,Int.toNat_natCast,←hi,←hv]
 have dc:G.x≠some (o.pid z):=fun q=>hx (by rw[hy]at q;exact Option.some.inj q)
 obtain⟨q1,q2⟩:=hn.sh.own (w:=w) (K:=({o.v1 w with st:=0}:aJ).num) ho hz.1 hz.2.1 dc (.inl rfl)
 have ck:=ho.tF hz.1
 have hlen:2*o.pid z<n.sh.pl.length:=by rw[hn.sh.mg];omega
 have hg:∀j,(n.sh.pl.set (2*o.pid z) ({o.v1 w with st:=0}:aJ).num).getD j 0=if j=2*o.pid z then({o.v1 w with st:=0}:aJ).num else n.sh.pl.getD j 0:=fun j=>rz hlen
 obtain⟨r1,r2,r3,r4,r5,r6,r7,r8⟩:=nO k o.kd {k.ca o.kd with l:=(k.ca o.kd).l++[z]}
 have j8:∀i,i<3→i≠o.kd→(k.bK o.kd {k.ca o.kd with l:=(k.ca o.kd).l++[z]}).ca i=k.ca i:=fun i hi dc=>vP k _ hi il dc
 have gV:(k.bK o.kd {k.ca o.kd with l:=(k.ca o.kd).l++[z]}).ca o.kd={k.ca o.kd with l:=(k.ca o.kd).l++[z]}:=uk k _ il
 have bJ:∀z',z'∈((k.bK o.kd {k.ca o.kd with l:=(k.ca o.kd).l++[z]}).ca o.kd).l↔z'∈(k.ca o.kd).l∨z'=z:=fun z'=>by
  rw[gV]
  show z'∈(k.ca o.kd).l++[z]↔_
  rw[List.mem_append,List.mem_singleton]
 refine hn.on hw hk hf es (Nat.lt_of_le_of_lt (Gt rfl) (by simp[Mo,e])) h.done q2 q1 ⟨?_,fun i hi=> ?_,fun i hi dc=> ?_,?_,fun z' jV=> ?_,?_,fun q=> ?_,fun z' jV=> ?_,fun z' jV=> ?_,fun z' h1 jV=> ?_,?_⟩
 ·show(k.bK o.kd _).aX=none;rw[r2];exact hW.aX
 ·show((k.bK o.kd _).ca i).out=none
  by_cases q:i=o.kd
  ·subst q;rw[gV];exact hW.out _ il
  ·rw[j8 i hi q];exact hW.out i hi
 ·show((k.bK o.kd _).ca i).l=[]
  rw[j8 i hi dc];exact hW.cn i hi dc
 ·show((k.bK o.kd _).ca o.kd).l.Nodup
  rw[gV]
  show((k.ca o.kd).l++[z]).Nodup
  refine List.nodup_append.2 ⟨hW.nj,List.pairwise_singleton _ _,fun a ha b hb q=>hz.2.2.1 ?_⟩
  rw[←List.mem_singleton.1 hb,←q];exact ha
 ·rcases(bJ z').1 jV with h2|h2
  ·exact hW.own z' h2
  ·rw[h2];exact⟨hz.1,hz.2.1⟩
 ·show((k.bK o.kd _).ca o.kd).l.length≤8
  rw[gV]
  show((k.ca o.kd).l++[z]).length≤8
  rw[List.length_append]
  have:=hz.2.2.2
  simp;omega
 ·rw[cu]at q;cases q
 ·rcases(bJ z').1 jV with h2|h2
  ·exact hW.j2 z' h2
  ·rw[h2];exact dc
 ·rcases hW.mq z' jV with h2|h2|⟨g,h2,_,h4,_⟩
  ·exact .inl ((bJ z').2 (.inl h2))
  ·exact .inr (.inl h2)
  ·rw[hf]at h2
   cases h2
   refine .inl ((bJ z').2 (.inr ?_))
   exact pg (h4.symm.trans hm.2)
 ·show(aJ.of ((n.sh.pl.set _ _).getD _ 0)).st=0
  rcases(bJ z').1 jV with h2|h2
  ·have:o.pid z'≠o.pid z:=fun q=>hz.2.2.1 (by rw[←pg q];exact h2)
   rw[hg,if_neg (by omega)]
   exact hW.fz z' (hW.own z' h2).2 h2
  ·rw[hg,if_pos (by rw[h2]),aJ.lj lb]
 ·have nf:gZ o G {n.sh with pl:=n.sh.pl.set (2*o.pid z) ({o.v1 w with st:=0}:aJ).num} w (k.bK o.kd {k.ca o.kd with l:=(k.ca o.kd).l++[z]}) (({f with made:=false}:aH).fj (y:Int) t.aQ):=Dz ⟨h.out,h.b,h.tick,h.fl,h.part,h.ct,h.done⟩ rfl hy h1.2.2
  exact nf.yG
end
end
section
open Go.RowKit
section
variable {c:NC}
theorem xJ {α:Type}(n i:Nat)(a:α):(List.replicate n a).getD i a=a:=by
 rw[List.getD_eq_getElem?_getD,List.getElem?_replicate]
 split<;>rfl
theorem ve (c:NC){i:Nat}(hi:i<c.n):(dI c).wk.getD i ax=jB i:=by
 show((List.range c.n).map jB).getD i ax=_
 rw[List.getD_eq_getElem?_getD,List.getElem?_map,List.getElem?_range hi];rfl
theorem Ak (c:NC){kd:Nat}(h:kd<3):(dI c).sh.po kd=dy c.np:=by
 obtain rfl|rfl|rfl:=three h
 all_goals rfl
theorem Qo (c:NC){i kd:Nat}(hi:i<c.n):((dI c).wk.getD i ax).ca kd=pV i:=by
 rw[ve c hi]
 unfold aR.ca jB
 dsimp only
 split<;>(try split)<;>rfl
end
end
end Go.Proofs.YtakbmjoijcpdmaaGreatDoor
