/-
  A part of a proof, joined by a program (wip/bundle3.py).
-/
import Derived.Test.YtakbmjoijcpdmaaGreatDoorG2
import Derived.Test.YtakbmjoijcpdmaaGreatDoorG14
import Derived.Test.YtakbmjoijcpdmaaGreatDoorG15
import Derived.Test.YtakbmjoijcpdmaaGreatDoorG17
set_option linter.unusedVariables false
set_option linter.unusedSimpArgs false
namespace Go.Proofs.YtakbmjoijcpdmaaGreatDoor
section
open Go.RowKit
section
variable {np:Nat} {ws:List Nat} {s:bL}
abbrev mW (np:Nat):Nat:=(np+31)/32
structure mC (np:Nat)(ws:List Nat):Prop where
 words:hJ (mW np) ws
 tail:∀x,np≤x→x<mW np*32→fk ws x=false
theorem mC.new (h1:1≤np)(h2:np≤1024):mC np (dy np):=⟨V5 h1 h2,fun x h3 h4=>(Ey h1).2 h3 h4⟩
structure mD (np:Nat)(s:bL):Prop where
 ok:s.Ok (mW np)
 kind:s.kind=0
 most:s.most≤8
 none:s.done=false→s.ports=[]
 lt:∀g∈s.ports,g<np
 sU:s.ports.length≤8
theorem Ym (ws:List Nat)(s:bL):(ji ws s).2.most=s.most∧(s.ports=[]→(ji ws s).2.ports.length≤s.most):=by
 unfold ji
 repeat' split
 all_goals refine⟨rfl,fun e=> ?_⟩
 ·show((eA s.seen s.most).map (s.word*32+ ·)).length≤_
  unfold eA
  rw[List.length_map,List.length_take]
  omega
 all_goals (show s.ports.length≤_;rw[e];simp)
theorem mD.HO (hp:mC np ws)(h:mD np s)(hd:s.done=false):mC np (bh ws s).1∧mD np (bh ws s).2:=by
 obtain⟨q1,q2⟩:=yO hp.words h.ok
 have vU:=L4 hp.words h.ok h.kind hd (h.none hd)
 have e:bh ws s=ji ws s:=by unfold bh;rw[if_neg (by simp[hd]),if_pos h.kind]
 obtain⟨m1,m2⟩:=Ym ws s
 refine⟨⟨q1,fun x h1 h2=> ?_⟩,⟨q2,vU.kind,by rw[e,m1];exact h.most,vU.none,fun g hg=> ?_,?_⟩⟩
 ·have:=(vU.after x)
  cases hf:fk (bh ws s).1 x with
  |false=>rfl
  |true=>rw[hp.tail x h1 h2]at this;exact absurd (this.1 hf).1 (by decide)
 ·have h1:=vU.free g hg
  have h2:=vU.small g hg
  rw[hp.words.len]at h2
  rcases Nat.lt_or_ge g np with h3|h3
  ·exact h3
  ·rw[hp.tail g h3 h2]at h1;cases h1
 ·have:=m2 (h.none hd)
  have:=h.most
  rw[e];omega
theorem mD.new (h1:1≤np)(hd:Int):mD np (iL hd 8 (mW np)):=
 ⟨Yl hd 8 (by unfold mW;omega),rfl,by show(min (max (8:Int) 1) 32).toNat≤8;decide,fun _=>rfl,fun g hg=>(by cases hg),(by show 0≤8;decide)⟩
structure yh (np:Nat)(s:bL):Prop where
 ok:s.Ok (mW np)
 kind:s.kind=2
 done:s.done=false
 len:s.parts.length≤8
 ne:s.parts≠ []
 nz:∀p∈s.parts,p.2≠0
 lt:∀y∈fm s.parts,y<np
theorem yh.new {l:List Nat}(c3:np≤1024)(hl:∀x∈l,x<np)(h0:l≠ [])(h8:l.length≤8):yh np (re np (l.map fun y:Nat=>(y:Int))):=by
 obtain⟨p1,p2⟩:=Hh np (l.map fun y:Nat=>(y:Int))
 refine⟨PW (by unfold mW;omega) _,rfl,rfl,?_,?_,p1.ne,fun y hy=>(p2 y hy).2⟩
 ·have:=PX np (l.map fun y:Nat=>(y:Int))
  rw[List.length_map]at this
  show(rh _ _).length≤8
  omega
 ·intro e
  obtain⟨x,hx⟩:=List.exists_mem_of_ne_nil l h0
  have:=(VP np l x).2 ⟨hx,hl x hx⟩
  have e:rh np (l.map fun(x:Nat)=>(x:Int))=[]:=e
  rw[e]at this
  simp[fm]at this
structure kg (np:Nat)(a:dC):Prop where
 len:a.l.length≤16
 lt:∀x∈a.l,x<np
 out:∀o,a.out=some o→yh np o
theorem kg.new (h:Nat):kg np (pV h):=⟨(by show 0≤16;decide),fun x hx=>(by cases hx),fun o h=>(by cases h)⟩
theorem kg.pop {a:dC}(h:kg np a):kg np {a with l:=a.l.take (a.l.length-1)}∧(a.l.take (a.l.length-1)).length≤15:=by
 have:=h.len
 refine⟨⟨by rw[List.length_take];omega,fun x hx=>h.lt x (List.mem_of_mem_take hx),h.out⟩,by rw[List.length_take];omega⟩
theorem kg.put {a:dC}(h:kg np a)(c3:np≤1024){x:Nat}(hx:x<np)(ho:a.out=none):
  kg np (kp np a x).1∧(((kp np a x).1.out=none∧(kp np a x).2=xQ)∨((∃o,(kp np a x).1.out=some o)∧(kp np a x).2=⟨2,EV,false⟩)):=by
 have hl:=h.len
 have ck:∀y∈a.l++[x],y<np:=fun y hy=>by
  rcases List.mem_append.1 hy with hy|hy
  ·exact h.lt y hy
  ·rw[List.mem_singleton.1 hy];exact hx
 unfold kp
 split
 ·rename_i hh
  refine⟨⟨by dsimp only;rw[List.length_drop,List.length_append,List.length_singleton];omega,fun y hy=>ck y (List.mem_of_mem_drop hy),fun o e=> ?_⟩,.inr ⟨⟨_,rfl⟩,rfl⟩⟩
  injection e with e
  subst e
  refine yh.new c3 (fun y hy=>ck y (List.mem_of_mem_take hy)) (fun e=> ?_) (by rw[List.length_take];omega)
  have:((a.l++[x]).take 8).length=0:=by rw[e];rfl
  rw[List.length_take,List.length_append,List.length_singleton]at this
  rw[List.length_append,List.length_singleton]at hh
  omega
 ·rename_i hh
  rw[ho]at hh
  simp only[Option.isSome_none,and_true]at hh
  exact⟨⟨by dsimp only;omega,ck,h.out⟩,.inl ⟨ho,rfl⟩⟩
theorem kg.W0 {a:dC}(h:kg np a){x:Nat}(hl:a.l.length≤15):(kp np a x).1.out=a.out:=by
 unfold kp
 rw[if_neg (by rw[List.length_append,List.length_singleton];omega)]
theorem Qn {a:dC}{b:j5}(hd:b.done=false)(hk:b.kind=3):eh ws a b=(ws,a,{b with done:=true}):=by
 unfold eh
 rw[if_neg (by simp[hd]),if_pos hk]
end
section
variable {c:NC} {s:aW} {n:Nat} {pl:List Nat}
theorem cK.put {i:Nat}{v:aJ}(h:cK n pl)(hv:v.ok)(ht:v.tr≤4):cK n (pl.set (2*i) v.num) where
 len:=by rw[List.length_set];exact h.len
 w:=Aa h.w (aJ.Wj hv)
 tr:=fun x=>by
  by_cases e:i=x
  ·subst e
   rcases Nat.lt_or_ge (2*i) pl.length with hl|hl
   ·rw[rC hl,aJ.lj hv];exact ht
   ·rw[List.set_eq_of_length_le hl];exact h.tr i
  ·rw[mQ (by omega)];exact h.tr x
theorem cK.key {i v:Nat}(h:cK n pl)(hv:v<18446744073709551616):cK n (pl.set (2*i+1) v) where
 len:=by rw[List.length_set];exact h.len
 w:=Aa h.w hv
 tr:=fun x=>by rw[mQ (by omega)];exact h.tr x
theorem cK.bN {id:Int}{a b:aJ}(h:cK n s.pl)(hb:b.ok)(ht:b.tr≤4):cK n (bN s id a b).pl:=by
 unfold Go.Proofs.YtakbmjoijcpdmaaGreatDoor.bN
 split
 ·exact h.put hb ht
 ·exact h
theorem cK.oE {id:Int}{f:dQ}(h:cK n s.pl)(h1:f.proto<256)(h2:f.addr<4294967296)(h3:f.port<65536):cK n (oE s id f).pl:=by
 unfold Go.Proofs.YtakbmjoijcpdmaaGreatDoor.oE
 exact h.key (by unfold qq gz;omega)
theorem cK.bC {id:Int}(h:cK n s.pl):(bC s id).ok∧(bC s id).tr≤4:=by
 unfold Go.Proofs.YtakbmjoijcpdmaaGreatDoor.bC
 exact⟨aJ.xA (h.w _),h.tr _⟩
theorem RR (v:Nat)(h:v<18446744073709551616):(nC v).addr<4294967296∧(nC v).port<65536:=⟨Nat.mod_lt _ (by decide),Nat.mod_lt _ (by decide)⟩
end
section
variable {n:Nat} {cs pl:List Nat} {s:aU}
theorem zZ:(dx pl s).1.kind=s.kind:=by
 unfold dx jv
 dsimp only
 repeat' split
 all_goals rfl
theorem XP (v x:Nat):(s.jg v x).kind=s.kind:=by
 unfold aU.jg
 repeat' split
 all_goals rfl
theorem LP (v x:Nat):(s.ic v x).kind=s.kind:=by
 unfold aU.ic
 repeat' split
 all_goals rfl
theorem qs {p:Prop}[Decidable p]{a b:aU}{k:Nat}(ha:a.kind=k)(hb:b.kind=k):(if p then a else b).kind=k:=by split<;>assumption
theorem gA {p:Prop}[Decidable p]{a b:List Nat×aU}{k:Nat}(ha:a.2.kind=k)(hb:b.2.kind=k):(if p then a else b).2.kind=k:=by split<;>assumption
theorem XK:(ib cs pl s).2.kind=s.kind:=by
 unfold ib
 refine gA rfl (gA (qs zZ zZ) (gA rfl (gA (qs zZ zZ) (gA (qs rfl rfl) (gA rfl rfl)))))
theorem QS:(cx pl n cs s).2.kind=s.kind:=by
 unfold cx
 refine gA rfl (gA rfl (gA (XP _ _) (gA (qs (LP _ _) (LP _ _)) (gA rfl (gA (qs rfl (qs (qs rfl rfl) rfl)) (gA rfl rfl))))))
theorem SP:(gF pl n cs s).2.kind=s.kind:=by
 unfold gF
 refine gA (qs rfl rfl) (gA rfl (gA rfl (gA rfl (gA rfl ?_))))
 unfold yK
 exact gA rfl (gA rfl (gA rfl (gA rfl (gA rfl rfl))))
theorem KX:(rR s).kind=s.kind:=by
 unfold rR
 exact qs rfl rfl
theorem Q6:(ri cs s).2.kind=s.kind:=by
 unfold ri
 exact gA (gA KX rfl) (gA rfl KX)
theorem L2:(bA pl n cs s).2.kind=s.kind:=by
 unfold bA
 split
 ·rfl
 split
 ·exact Q6
 split
 ·exact SP
 split
 ·exact QS
 ·exact XK
end
end
section
open Go.RowKit
structure vr (f:dQ):Prop where
 proto:f.proto<256
 addr:f.addr<4294967296
 port:f.port<65536
structure dE (c:NC)(K:Nat)(ca:Nat→dC)(f:aH):Prop where
 le:f.next≤18
 done:f.done=false
 da:f.b.length≤140737488355328
 fin:f.next≠0→fB f
 ct:f.fW=true→kY f.ar.proto
 bE:f.next=1→∃e,f.bE=some e∧e.Ok c.n∧e.done=false∧e.seen≤K∧e.mH=false
 start:f.next=0→f.fW=false
 ov:f.next=1→f.out=false→0≤f.id∧f.id<((3*c.np:Nat):Int)
 find:f.next=2∨f.next=7→∃t,f.find=some t∧bt c.nb (3*c.np) t∧t.done=false∧t.kind=0
 id:(3≤f.next∧f.next≤5)∨(10≤f.next∧f.next≤17)→0≤f.id∧f.id<((3*c.np:Nat):Int)
 word:f.word.ok
 tr:f.word.tr≤4
 now:f.now.ok
 c6:f.now.tr≤4
 ez:6≤f.next→f.next≤14→kY f.ar.proto
 fill:f.next=6→∃x,f.fill=some x∧x.done=false∧((x.kind=0∧mD c.np x.bG∧x.bG.done=false∧(ca (aF f.ar.proto)).l=[])∨x.kind=3)
 lq:f.next=7→∃x,f.fill=some x∧x.kind=0∧x.done=true∧jd x.bG=true∧x.bG.Ok (mW c.np)∧x.bG.kind=0
 again:f.next=8→∃x,f.again=some x∧x.kind=1∧x.done=false∧x.bG.Ok (mW c.np)∧x.bG.kind=1∧x.bG.done=false
 enter:f.next=12→∃t,f.enter=some t∧bt c.nb (3*c.np) t∧t.done=false
 back:f.next=14→∃t,f.enter=some t∧bt c.nb (3*c.np) t∧t.done=true
 pop:12≤f.next→f.next≤14→(ca (aF f.ar.proto)).l.length≤15
 addr:f.next=17→f.dU.addr<4294967296∧f.dU.port<65536
structure yE (c:NC)(K:Nat)(ca:Nat→dC)(x:gR):Prop where
 le:x.next≤9
 done:x.done=false
 tick:0≤x.tick∧x.tick≤4294967295
 due:∀y∈x.due,y<3*c.np
 word:x.word.ok
 tr:x.word.tr≤4
 has:2≤x.next→x.next≤4→x.due≠ []
 drop:x.next=3→∃t,x.drop=some t∧bt c.nb (3*c.np) t∧t.done=false
 on:x.next=5→∃p,x.on=some p∧p.Ok c.n∧p.done=false∧p.seen≤K∧p.mH=true∧p.at_≤c.n+1
 early:x.next≤6→x.dr=[]
 dr:∀y∈x.dr,y<3*c.np
 cl:x.dr.length≤K
 c8:x.next=8→x.dr≠ []
 out:x.next≠9→∀i,i<3→(ca i).out=none
 back:x.next=9→∃b,x.back=some b∧b.done=false∧((b.kind=3∧∀i,i<3→(ca i).out=none)∨(b.kind=2∧∃d,d<3∧(∃o,(ca d).out=some o)∧∀i,i<3→i≠d→(ca i).out=none))
def iN (o:Option aH):Nat:=match o with
 |some f=>if f.next=18 then 0 else 1
 |none=>0
def tW (o:Option gR):Nat:=match o with
 |some x=>x.due.length
 |none=>0
structure nW (c:NC)(K B:Nat)(k:aR):Prop where
 ca:∀i,i<3→kg c.np (k.ca i)
 bp:nt k.bp
 aS:k.bp.aS≤K
 ids:∀y∈k.bp.all,0≤y.id∧y.id<((3*c.np:Nat):Int)
 keys:(k.cm.map (·.1)).Nodup
 cm:∀p∈k.cm,vr p.2
 ended:k.ended.length≤K
 lL:k.bp.all.length+iN k.frame+tW k.aX≤B
 one:k.frame.isSome=true→k.aX=none
 frame:∀f,k.frame=some f→dE c K k.ca f
 aX:∀x,k.aX=some x→yE c K k.ca x
 out:k.aX=none→∀i,i<3→(k.ca i).out=none
structure qS (c:NC)(K:Nat)(ep:List Nat)(gs:List (List (Nat×Nat))):Prop where
 len:ep.length=c.n+1
 rA:gs.length=c.n
 now:ep.getD 0 0≤K
 pins:∀j,ep.getD j 0≤K+1
 ids:∀w t,t∈gs.getD w []→t.1<3*c.np∧t.2≤K
 sU:∀w,(gs.getD w []).length≤K
structure iz (c:NC)(K:Nat)(s:aW):Prop where
 pl:cK (3*c.np) s.pl
 tb:dD c.nb (3*c.np) s.tb
 po:∀i,i<3→mC c.np (s.po i)
 ep:qS c K s.ep s.gs
structure pS (H:Nat→List Nat)(k:aR):Prop where
 find:∀f t,k.frame=some f→f.next=2∨f.next=7→f.find=some t→gS H t
 enter:∀f t,k.frame=some f→f.next=12→f.enter=some t→gS H t
 drop:∀x t,k.aX=some x→x.next=3→x.drop=some t→gS H t
structure Safe (c:NC)(K B:Nat)(n:bm):Prop where
 wl:n.wk.length=c.n
 sh:iz c K n.sh
 wk:∀w,w<c.n→nW c K B (n.wk.getD w ax)
 iE:∃H,eH c.nb n.sh.tb H K∧∀w,w<c.n→pS H (n.wk.getD w ax)
section
variable {c:NC} {K B w:Nat} {s:aW} {k:aR} {f:aH} {H:Nat→List Nat}
theorem qS.more (h:qS c K s.ep s.gs):qS c (K+1) s.ep s.gs:=⟨h.len,h.rA,by have:=h.now;omega,fun j=>by have:=h.pins j;omega,fun w t ht=>⟨(h.ids w t ht).1,by have:=(h.ids w t ht).2;omega⟩,fun w=>by have:=h.sU w;omega⟩
theorem qS.ok (h:qS c K s.ep s.gs)(hc:c.Ok)(hK:K<65000):vp c.n s.ep s.gs where
 len:=h.len
 n1:=hc.n.2
 rA:=h.rA
 w:=fun j=>by have:=h.pins j;omega
 g:=fun i t ht=>by
  have:=h.ids i t ht
  have:=hc.np
  omega
theorem dE.more (h:dE c K k.ca f):dE c (K+1) k.ca f:={h with
 bE:=fun e=>by
  obtain⟨x,a1,a2,a3,a4,a5⟩:=h.bE e
  exact⟨x,a1,a2,a3,by omega,a5⟩}
theorem yE.more {x:gR}(h:yE c K k.ca x):yE c (K+1) k.ca x:={h with
 on:=fun e=>by
  obtain⟨x,a1,a2,a3,a4,a5⟩:=h.on e
  exact⟨x,a1,a2,a3,by omega,a5⟩
 cl:=by have:=h.cl;omega}
theorem nW.more (h:nW c K B k):nW c (K+1) B k:={h with
 aS:=by have:=h.aS;omega
 ended:=by have:=h.ended;omega
 frame:=fun f e=>(h.frame f e).more
 aX:=fun x e=>(h.aX x e).more}
theorem pS.ext {H':Nat→List Nat}(h:pS H k)(hk:nW c K B k)(e:fg c.nb H H'):pS H' k where
 find:=fun f t h1 h2 h3=>by
  obtain⟨t',q1,q2,_⟩:=(hk.frame f h1).find h2
  rw[h3]at q1
  injection q1 with q1
  subst q1
  exact(h.find f t h1 h2 h3).ext e q2.m
 enter:=fun f t h1 h2 h3=>by
  obtain⟨t',q1,q2,_⟩:=(hk.frame f h1).enter h2
  rw[h3]at q1
  injection q1 with q1
  subst q1
  exact(h.enter f t h1 h2 h3).ext e q2.m
 drop:=fun x t h1 h2 h3=>by
  obtain⟨t',q1,q2,_⟩:=(hk.aX x h1).drop h2
  rw[h3]at q1
  injection q1 with q1
  subst q1
  exact(h.drop x t h1 h2 h3).ext e q2.m
structure Kept (c:NC)(K B:Nat)(H:Nat→List Nat)(s:aW)(k:aR):Prop where
 sh:iz c (K+1) s
 wk:nW c (K+1) B k
 iE:∃H',fg c.nb H H'∧eH c.nb s.tb H' (K+1)∧pS H' k
structure cS (c:NC)(K B:Nat)(H:Nat→List Nat)(s:aW)(k:aR):Prop where
 ok:c.Ok
 hK:K<65000
 sh:iz c K s
 wk:nW c K B k
 iE:eH c.nb s.tb H K
 Fv:pS H k
theorem CG (hd:f.done=false):ft k f={k with frame:=some f}:=if_neg (by rw[hd];decide)
theorem cS.ku (h:cS c K B H s k)(hf:k.frame=some f){f':aH}(hn:dE c (K+1) k.ca f')(hw:iN (some f')≤iN (some f))(ht:f'.next≠2∧f'.next≠7∧f'.next≠12){s':aW}(hs:iz c (K+1) s')(lf:s'.tb=s.tb):Kept c K B H s' (ft k f'):=by
 rw[CG hn.done]
 have hk:=h.wk
 have gG:k.aX=none:=hk.one (by rw[hf];rfl)
 refine⟨hs,?_,H,fg.refl _ _,by rw[lf];exact h.iE.more (by omega),⟨fun g t e1 e2 e3=> ?_,fun g t e1 e2 e3=> ?_,fun x t e1=> ?_⟩⟩
 ·have hm:=hk.more
  have hb:=hk.lL
  rw[hf]at hb
  exact {hm with
   lL:=by show k.bp.all.length+iN (some f')+tW k.aX≤B;omega
   one:=fun _=>gG
   frame:=fun g e=>by injection e with e;subst e;exact hn
   aX:=fun x e=>by
    have e:k.aX=some x:=e
    rw[gG]at e;cases e
   out:=hk.out}
 ·injection e1 with e1;subst e1;omega
 ·injection e1 with e1;subst e1;omega
 ·have e1:k.aX=some x:=e1
  rw[gG]at e1;cases e1
theorem cS.uu (h:cS c K B H s k)(hf:k.frame=some f){f':aH}(hn:dE c (K+1) k.ca f')(hw:iN (some f')≤iN (some f)){s':aW}(hs:iz c (K+1) s')
  {H':Nat→List Nat} (he:fg c.nb H H') (hh:eH c.nb s'.tb H' (K+1)) (ht:∀t,f'.next=2∨f'.next=7→f'.find=some t→gS H' t) (uJ:∀t,f'.next=12→f'.enter=some t→gS H' t):Kept c K B H s' (ft k f'):=by
 rw[CG hn.done]
 have hk:=h.wk
 have gG:k.aX=none:=hk.one (by rw[hf];rfl)
 refine⟨hs,?_,H',he,hh,⟨fun g t e1 e2 e3=> ?_,fun g t e1 e2 e3=> ?_,fun x t e1=> ?_⟩⟩
 ·have hm:=hk.more
  have hb:=hk.lL
  rw[hf]at hb
  exact {hm with
   lL:=by show k.bp.all.length+iN (some f')+tW k.aX≤B;omega
   one:=fun _=>gG
   frame:=fun g e=>by injection e with e;subst e;exact hn
   aX:=fun x e=>by
    have e:k.aX=some x:=e
    rw[gG]at e;cases e
   out:=hk.out}
 ·injection e1 with e1;subst e1;exact ht t e2 e3
 ·injection e1 with e1;subst e1;exact uJ t e2 e3
 ·have e1:k.aX=some x:=e1
  rw[gG]at e1;cases e1
theorem iz.more (h:iz c K s):iz c (K+1) s:=⟨h.pl,h.tb,h.po,h.ep.more⟩
theorem iu (f f':aH)(h:f.next≠18):iN (some f')≤iN (some f):=by
 unfold iN
 dsimp only
 rw[if_neg h]
 split<;>omega
theorem fB.same {f':aH}(h:fB f)(h1:f'.b=f.b)(h2:f'.tick=f.tick)(h3:f'.ar=f.ar)(h4:f'.part=f.part):fB f':=⟨by rw[h1];exact h.da,by rw[h2];exact h.tick,by rw[h3];exact h.proto,by rw[h3];exact h.addr,by rw[h3];exact h.port,by rw[h4];exact h.flags⟩
theorem dE.qb (hd:f.done=false)(hb:f.b.length≤140737488355328)(hi:fB f)(sY:f.fW=true→kY f.ar.proto)(h1:f.word.ok)(h2:f.word.tr≤4)(h3:f.now.ok)(h4:f.now.tr≤4)(l:List UInt8)(e:Nat):dE c K k.ca (f.fin l e) where
 le:=by show 18≤18;omega
 done:=hd
 da:=hb
 fin:=fun _=>hi.same rfl rfl rfl rfl
 ct:=sY
 bE:=fun e=>by have e:18=1:=e;omega
 start:=fun e=>by have e:18=0:=e;omega
 ov:=fun e=>by have e:18=1:=e;omega
 find:=fun e=>by have e:18=2∨18=7:=e;omega
 id:=fun e=>by have e:(3≤18∧18≤5)∨(10≤18∧18≤17):=e;omega
 word:=h1
 tr:=h2
 now:=h3
 c6:=h4
 ez:=fun _ e=>by have e:18≤14:=e;omega
 fill:=fun e=>by have e:18=6:=e;omega
 lq:=fun e=>by have e:18=7:=e;omega
 again:=fun e=>by have e:18=8:=e;omega
 enter:=fun e=>by have e:18=12:=e;omega
 back:=fun e=>by have e:18=14:=e;omega
 pop:=fun _ e=>by have e:18≤14:=e;omega
 addr:=fun e=>by have e:18=17:=e;omega
theorem dE.zr (hd:f.done=false)(hb:f.b.length≤140737488355328)(hi:fB f)(sY:f.fW=true→kY f.ar.proto)(h3:f.now.ok)(h4:f.now.tr≤4){id:Int}{v:aJ}(hv:v.ok)(ht:v.tr≤4)(i0:0≤id)(i1:id<((3*c.np:Nat):Int)):dE c K k.ca (f.fj id v):=by
 have hx:(f.fj id v).next=3∨(f.fj id v).next=4:=by unfold aH.fj;dsimp only;split<;>omega
 refine {
  le:=by omega
  done:=hd
  da:=hb
  fin:=fun _=>hi.same rfl rfl rfl rfl
  ct:=sY
  bE:=fun e=>by omega
  start:=fun e=>by omega
  ov:=fun e=>by omega
  find:=fun e=>by omega
  id:=fun _=>⟨i0,i1⟩
  word:=hv
  tr:=ht
  now:=h3
  c6:=h4
  ez:=fun e=>by omega
  fill:=fun e=>by omega
  lq:=fun e=>by omega
  again:=fun e=>by omega
  enter:=fun e=>by omega
  back:=fun e=>by omega
  pop:=fun e=>by omega
  addr:=fun e=>by omega}
theorem zt (id:Int)(v:aJ):(f.fj id v).next=3∨(f.fj id v).next=4:=by unfold aH.fj;dsimp only;split<;>omega
theorem L3 (hc:c.Ok){fl:dQ}(h1:fl.proto<256)(h2:fl.addr<4294967296)(h3:fl.port<65536):bt c.nb (3*c.np) (jh c 0 fl (-1) 0):=
 L5 hc.nb.1 (by have:=hc.np;omega) (by omega) h2 h3 (by omega) (by have:=hc.np;omega) (by decide) (fun e=>absurd rfl e) (.inl rfl)
theorem Yk (hc:c.Ok){fl:dQ}(h1:fl.proto<256)(h2:fl.addr<4294967296)(h3:fl.port<65536){id:Int}(i0:0≤id)(i1:id<((3*c.np:Nat):Int)):bt c.nb (3*c.np) (jh c 1 fl id 0):=
 L5 hc.nb.1 (by have:=hc.np;omega) (by omega) h2 h3 (by omega) i1 (by decide) (fun _=>i0) (.inl rfl)
theorem AH {kind next:Nat}{fl:dQ}{id:Int}(hx:next=0∨next=23):gS H (jh c kind fl id next):=Yp hx
theorem dE.JK (hc:c.Ok)(hd:f.done=false)(hb:f.b.length≤140737488355328)(hi:fB f)(sY:f.fW=true→kY f.ar.proto)(h1:f.word.ok)(h2:f.word.tr≤4)(h3:f.now.ok)(h4:f.now.tr≤4):dE c K k.ca (f.look c) where
 le:=by show 2≤18;omega
 done:=hd
 da:=hb
 fin:=fun _=>hi.same rfl rfl rfl rfl
 ct:=sY
 bE:=fun e=>by have e:2=1:=e;omega
 start:=fun e=>by have e:2=0:=e;omega
 ov:=fun e=>by have e:2=1:=e;omega
 find:=fun _=>⟨_,rfl,L3 hc hi.proto hi.addr hi.port,rfl,rfl⟩
 id:=fun e=>by have e:(3≤2∧2≤5)∨(10≤2∧2≤17):=e;omega
 word:=h1
 tr:=h2
 now:=h3
 c6:=h4
 ez:=fun e=>by have e:6≤2:=e;omega
 fill:=fun e=>by have e:2=6:=e;omega
 lq:=fun e=>by have e:2=7:=e;omega
 again:=fun e=>by have e:2=8:=e;omega
 enter:=fun e=>by have e:2=12:=e;omega
 back:=fun e=>by have e:2=14:=e;omega
 pop:=fun e=>by have e:12≤2:=e;omega
 addr:=fun e=>by have e:2=17:=e;omega
theorem dE.H8 (hc:c.Ok)(hk:(k.ca (aF f.ar.proto)).out=none)(hd:f.done=false)(hb:f.b.length≤140737488355328)(hi:fB f)(hg:kY f.ar.proto)(h1:f.word.ok)(h2:f.word.tr≤4)(h3:f.now.ok)(h4:f.now.tr≤4):dE c K k.ca (f.qa c k) where
 le:=by show 6≤18;omega
 done:=hd
 da:=hb
 fin:=fun _=>hi.same rfl rfl rfl rfl
 ct:=fun _=>hg
 bE:=fun e=>by have e:6=1:=e;omega
 start:=fun e=>by have e:6=0:=e;omega
 ov:=fun e=>by have e:6=1:=e;omega
 find:=fun e=>by have e:6=2∨6=7:=e;omega
 id:=fun e=>by have e:(3≤6∧6≤5)∨(10≤6∧6≤17):=e;omega
 word:=h1
 tr:=h2
 now:=h3
 c6:=h4
 ez:=fun _ _=>hg
 fill:=fun _=>by
  refine⟨_,rfl,?_⟩
  show(mN c.np (k.ca (aF f.ar.proto))).done=false∧(((mN c.np (k.ca (aF f.ar.proto))).kind=0∧mD c.np (mN c.np (k.ca (aF f.ar.proto))).bG∧(mN c.np (k.ca (aF f.ar.proto))).bG.done=false∧(k.ca (aF f.ar.proto)).l=[])∨(mN c.np (k.ca (aF f.ar.proto))).kind=3)
  unfold mN
  split
  ·exact⟨rfl,.inr rfl⟩
  ·rename_i hh
   have hl:(k.ca (aF f.ar.proto)).l=[]:=Classical.byContradiction fun e=>hh (.inl e)
   exact⟨rfl,.inl ⟨rfl,mD.new hc.np.1 _,rfl,hl⟩⟩
 lq:=fun e=>by have e:6=7:=e;omega
 again:=fun e=>by have e:6=8:=e;omega
 enter:=fun e=>by have e:6=12:=e;omega
 back:=fun e=>by have e:6=14:=e;omega
 pop:=fun e=>by have e:12≤6:=e;omega
 addr:=fun e=>by have e:6=17:=e;omega
end
end
section
open Go.RowKit
section
variable {c:NC} {K B w:Nat} {s:aW} {k:aR} {f:aH} {H:Nat→List Nat}
theorem P3 {out:Bool}{b:List UInt8}(h:kU out b=true):kY (cQ out b).proto:=by
 unfold kU at h
 simp only[Bool.and_eq_true,decide_eq_true_eq,Bool.not_eq_true']at h
 obtain⟨⟨⟨h1,h2⟩,h3⟩,h4⟩:=h
 subst h1
 have e1:dw false b=0:=by
  unfold dz at h2
  split at h2
  ·assumption
  ·exact absurd h2 (by assumption)
 have e2:iG (bd b) b=0:=by
  unfold dz at h2
  rwa[if_pos e1]at h2
 have e3:(cQ true b).proto=(bd b).proto:=by
  unfold cQ uM
  rw[if_pos rfl,if_neg (by rw[h3];decide)]
 rw[e3]
 unfold iG at e2
 unfold kY
 split at e2
 ·omega
 split at e2
 ·omega
 split at e2
 ·omega
 ·cases e2
theorem WU (hc:c.Ok)(proto port:Int)(h:0≤iH c.cfg proto port):iH c.cfg proto port<((3*c.np:Nat):Int):=by
 have hp:=hc.ports
 have c3:=hc.np
 have e:c.cfg.lo=(c.lo:Int):=rfl
 have e2:c.cfg.hi=(c.hi:Int):=rfl
 have hk:fX proto≤2:=by unfold fX;repeat' split<;>omega
 unfold iH at h ⊢
 rw[hp]at h ⊢
 split at h
 ·omega
 rename_i hh
 rw[if_neg hh]
 rw[e,e2]at hh
 rw[e]at h ⊢
 have hn:c.np=c.hi+1-c.lo:=rfl
 have h0:0≤fX proto:=by omega
 have h1:fX proto=0∨fX proto=1∨fX proto=2:=by omega
 rcases h1 with h1|h1|h1<;>rw[h1]<;>omega
theorem fB.Wq (hb:f.b.length≤140737488355328)(ht:¬(f.tick<0∨f.tick>4294967295))(h1:f.ar=cQ f.out f.b)(h2:f.part=dv f.b):fB f:=by
 obtain⟨p1,p2,p3⟩:=Mt f.out f.b
 exact⟨hb,by omega,by rw[h1];exact p1,by rw[h1];exact p2,by rw[h1];exact p3,by rw[h2];exact(qY.of (bd f.b) f.b).flags⟩
theorem Ri {e:jl}(hk:qS c K s.ep s.gs)(ho:e.Ok c.n)(hs:e.seen≤K)(ha:e.mH=false)(hd:e.done=false)(hK:K<65000):qS c (K+1) (dt c.n s.ep e).1 s.gs∧(dt c.n s.ep e).2.Ok c.n∧(dt c.n s.ep e).2.seen≤K+1∧(dt c.n s.ep e).2.mH=false∧(dt c.n s.ep e).2.worker=e.worker:=by
 unfold dt
 rw[if_neg (by rw[hd];decide),if_neg (by rw[ha];decide)]
 unfold jq
 have hn:=hk.now
 split
 ·exact⟨hk.more,⟨ho.worker,by show 1≤100;omega,fun _=>by show 1≤2;omega,by show s.ep.getD 0 0<_;have:=hk.pins 0;have:=ho.seen;omega⟩,by show s.ep.getD 0 0≤_;omega,ha,rfl⟩
 split
 ·refine⟨?_,⟨ho.worker,by show 2≤100;omega,fun _=>by show 2≤2;omega,ho.seen⟩,by show e.seen≤_;omega,ha,rfl⟩
  refine⟨by rw[List.length_set];exact hk.len,hk.rA,?_,fun j=> ?_,hk.more.ids,hk.more.sU⟩
  ·rw[mQ (by omega)];omega
  ·by_cases e:1+e.worker=j
   ·subst e
    rw[rC (by rw[hk.len];have:=ho.worker;omega)];omega
   ·rw[mQ e];have:=hk.pins j;omega
 ·exact⟨hk.more,⟨ho.worker,by show 0≤100;omega,fun _=>by show 0≤2;omega,ho.seen⟩,by show e.seen≤_;omega,ha,rfl⟩
theorem LL {v:aJ}(hi:fB f)(hv:v.ok)(ht:v.tr≤4):(f.gm v).ok∧(f.gm v).tr≤4:=by
 unfold aH.gm
 split
 ·exact⟨hv,ht⟩
 ·have h1:=Ez (proto:=f.ar.proto) (s:=v.tr) (flags:=f.part.flags) (out:=f.out) ht
  have h2:=hi.tick
  obtain⟨a,b,d,e⟩:=hv
  refine⟨⟨a,b,by dsimp only;omega,?_⟩,h1⟩
  dsimp only
  split<;>omega
theorem cS.y9 (h:cS c K B H s k)(hf:k.frame=some f){f':aH}(hd:f'.done=true){s':aW}(hs:iz c (K+1) s')(lf:s'.tb=s.tb):Kept c K B H s' (ft k f'):=by
 have e:ft k f'={k with cj:=f'.fD,iM:=f'.lH,any:=true,frame:=none}:=if_pos hd
 rw[e]
 have hk:=h.wk
 have gG:k.aX=none:=hk.one (by rw[hf];rfl)
 refine⟨hs,?_,H,fg.refl _ _,by rw[lf];exact h.iE.more (by omega),⟨fun g t e1=>(by cases e1),fun g t e1=>(by cases e1),fun x t e1=> ?_⟩⟩
 ·have hm:=hk.more
  have hb:=hk.lL
  exact {hm with
   lL:=by show k.bp.all.length+0+tW k.aX≤B;omega
   one:=fun e=>by cases e
   frame:=fun g e=>by cases e
   aX:=fun x e=>by
    have e:k.aX=some x:=e
    rw[gG]at e;cases e
   out:=hk.out}
 ·have e1:k.aX=some x:=e1
  rw[gG]at e1;cases e1
theorem Um (h:cS c K B H s k)(hw:w<c.n)(hf:k.frame=some f)(e:f.next=0):Kept c K B H s (ft k (nP c w f)):=by
 have hs:=h.wk.frame f hf
 unfold nP
 split
 ·exact h.y9 hf rfl h.sh.more rfl
 rename_i ht
 split
 ·exact h.y9 hf rfl h.sh.more rfl
 rename_i he
 split
 ·exact h.y9 hf rfl h.sh.more rfl
 rename_i hp
 refine h.ku hf ?_ (iu _ _ (by omega)) ⟨by show 1≠2;omega,by show 1≠7;omega,by show 1≠12;omega⟩ h.sh.more rfl
 exact {
  le:=by show 1≤18;omega
  done:=hs.done
  da:=hs.da
  fin:=fun _=>fB.Wq hs.da ht rfl rfl
  ct:=fun e=>P3 e
  bE:=fun _=>⟨_,rfl,⟨hw,by show 0≤100;omega,fun _=>by show 0≤2;omega,by show 0<4611686018427387904;omega⟩,rfl,Nat.zero_le _,rfl⟩
  start:=fun e=>by have e:1=0:=e;omega
  ov:=fun _ e=>by
   have e:f.out=false:=e
   have zH:0≤iH c.cfg (cQ f.out f.b).proto (cQ f.out f.b).port:=by
    by_cases hh:iH c.cfg (cQ f.out f.b).proto (cQ f.out f.b).port<0
    ·exact absurd ⟨e,hh⟩ hp
    ·omega
   have hid:(if f.out=true then f.id else iH c.cfg (cQ f.out f.b).proto (cQ f.out f.b).port)=iH c.cfg (cQ f.out f.b).proto (cQ f.out f.b).port:=if_neg (by rw[e];decide)
   dsimp only
   rw[hid]
   exact⟨zH,WU h.ok _ _ zH⟩
  find:=fun e=>by have e:1=2∨1=7:=e;omega
  id:=fun e=>by have e:(3≤1∧1≤5)∨(10≤1∧1≤17):=e;omega
  word:=hs.word
  tr:=hs.tr
  now:=hs.now
  c6:=hs.c6
  ez:=fun e=>by have e:6≤1:=e;omega
  fill:=fun e=>by have e:1=6:=e;omega
  lq:=fun e=>by have e:1=7:=e;omega
  again:=fun e=>by have e:1=8:=e;omega
  enter:=fun e=>by have e:1=12:=e;omega
  back:=fun e=>by have e:1=14:=e;omega
  pop:=fun e=>by have e:12≤1:=e;omega
  addr:=fun e=>by have e:1=17:=e;omega}
theorem Un (h:cS c K B H s k)(hf:k.frame=some f)(e:f.next=1){p:jl}(hp:f.bE=some p):
  Kept c K B H {s with ep:=(dt c.n s.ep p).1} (ft k (if(dt c.n s.ep p).2.done=false then {f with bE:=some (dt c.n s.ep p).2}
    else if f.out=true then {f with bE:=some (dt c.n s.ep p).2,pinned:=true}.look c else {f with bE:=some (dt c.n s.ep p).2,pinned:=true,next:=15})):=by
 have hs:=h.wk.frame f hf
 have cB:=hs.fin (by omega)
 obtain⟨p',q1,q2,q3,q4,q5⟩:=hs.bE e
 rw[hp]at q1
 injection q1 with q1
 subst q1
 obtain⟨r1,r2,r3,r4,_⟩:=Ri h.sh.ep q2 q4 q5 q3 h.hK
 have fv:iz c (K+1) {s with ep:=(dt c.n s.ep p).1}:=⟨h.sh.pl,h.sh.tb,h.sh.po,r1⟩
 generalize dt c.n s.ep p=D at*
 obtain⟨gB,p2⟩:=D
 dsimp only at*
 split
 ·rename_i hd
  refine h.ku hf ?_ (iu _ _ (by omega)) ⟨by show f.next≠2;omega,by show f.next≠7;omega,by show f.next≠12;omega⟩ fv rfl
  exact {hs.more with
   fin:=fun e=>(hs.fin e).same rfl rfl rfl rfl
   bE:=fun _=>⟨p2,rfl,r2,hd,r3,r4⟩}
 split
 ·refine h.uu hf (dE.JK (f:={f with bE:=some p2,pinned:=true}) h.ok hs.done hs.da (cB.same rfl rfl rfl rfl) hs.ct hs.word hs.tr hs.now hs.c6) (iu _ _ (by omega)) fv (fg.refl _ _) (h.iE.more (by omega)) (fun t _ e=> ?_) (fun t e=>by have e:2=12:=e;omega)
  injection e with e
  subst e
  exact AH (.inl rfl)
 ·rename_i ho
  have ho:f.out=false:=by simpa using ho
  refine h.ku hf ?_ (iu _ _ (by omega)) ⟨by show 15≠2;omega,by show 15≠7;omega,by show 15≠12;omega⟩ fv rfl
  exact {
   le:=by show 15≤18;omega
   done:=hs.done
   da:=hs.da
   fin:=fun _=>cB.same rfl rfl rfl rfl
   ct:=hs.ct
   bE:=fun e=>by have e:15=1:=e;omega
   start:=fun e=>by have e:15=0:=e;omega
   ov:=fun e=>by have e:15=1:=e;omega
   find:=fun e=>by have e:15=2∨15=7:=e;omega
   id:=fun _=>hs.ov e ho
   word:=hs.word
   tr:=hs.tr
   now:=hs.now
   c6:=hs.c6
   ez:=fun _ e=>by have e:15≤14:=e;omega
   fill:=fun e=>by have e:15=6:=e;omega
   lq:=fun e=>by have e:15=7:=e;omega
   again:=fun e=>by have e:15=8:=e;omega
   enter:=fun e=>by have e:15=12:=e;omega
   back:=fun e=>by have e:15=14:=e;omega
   pop:=fun _ e=>by have e:15≤14:=e;omega
   addr:=fun e=>by have e:15=17:=e;omega}
theorem iz.Fq (h:iz c K s){cs:List Nat}(Dj:dD c.nb (3*c.np) cs):iz c (K+1) {s with tb:=cs}:=⟨h.pl,Dj,h.po,h.ep.more⟩
theorem iz.put (h:iz c K s){id:Int}{a b:aJ}(hb:b.ok)(ht:b.tr≤4):iz c (K+1) (bN s id a b):=by
 have:=h.pl.bN (id:=id) (a:=a) hb ht
 unfold bN at*
 split
 ·rename_i e
  rw[if_pos e]at this
  exact⟨this,h.tb,h.po,h.ep.more⟩
 ·exact h.more
theorem Uv (h:cS c K B H s k)(hf:k.frame=some f)(e:f.next=2){t:aU}(ht:f.find=some t):
  Kept c K B H {s with tb:=(bA s.pl c.nb s.tb t).1} (ft k (if(bA s.pl c.nb s.tb t).2.done=false then {f with find:=some (bA s.pl c.nb s.tb t).2}else oT c k {f with find:=some (bA s.pl c.nb s.tb t).2} (bA s.pl c.nb s.tb t).2)):=by
 have hs:=h.wk.frame f hf
 have cB:=hs.fin (by omega)
 obtain⟨t',q1,q2,q3,q4⟩:=hs.find (.inl e)
 rw[ht]at q1
 injection q1 with q1
 subst q1
 obtain⟨⟨H',e1,e2,e3⟩,kc,ko⟩:=Fp h.sh.tb h.sh.pl h.iE h.hK q2 (h.Fv.find f t hf (.inl e) ht)
 have bl:(bA s.pl c.nb s.tb t).2.kind=0:=by rw[L2];exact q4
 have fv:=h.sh.Fq kc
 generalize bA s.pl c.nb s.tb t=D at*
 obtain⟨dN,t2⟩:=D
 dsimp only at*
 split
 ·rename_i hd
  refine h.uu hf ?_ (iu _ _ (by omega)) fv e1 e2 (fun u _ eu=>by injection eu with eu;subst eu;exact e3) (fun u eu=>by have eu:f.next=12:=eu;omega)
  exact {hs.more with
   fin:=fun e=>(hs.fin e).same rfl rfl rfl rfl
   find:=fun _=>⟨t2,rfl,ko,hd,bl⟩}
 ·rename_i hd
  have hd:t2.done=true:=by simpa using hd
  unfold oT
  split
  ·rename_i h0
   obtain hx:=zt (f:={f with find:=some t2}) t2.found t2.aQ
   exact h.uu hf (dE.zr (f:={f with find:=some t2}) hs.done hs.da (cB.same rfl rfl rfl rfl) hs.ct hs.now hs.c6 ko.aQ ko.vY (ko.tc hd bl h0) ko.vX) (iu _ _ (by omega)) fv e1 e2 (fun u eu=>by omega) (fun u eu=>by omega)
  split
  ·rename_i hb
   exact h.uu hf (dE.H8 (f:={f with find:=some t2}) h.ok (h.wk.out (h.wk.one (by rw[hf];rfl)) _ (gH _)) hs.done hs.da (cB.same rfl rfl rfl rfl) (hs.ct hb) hs.word hs.tr hs.now hs.c6) (iu _ _ (by omega)) fv e1 e2 (fun u eu=>by have eu:6=2∨6=7:=eu;omega) (fun u eu=>by have eu:6=12:=eu;omega)
  ·exact h.uu hf (dE.qb (f:={f with find:=some t2}) hs.done hs.da (cB.same rfl rfl rfl rfl) hs.ct hs.word hs.tr hs.now hs.c6 [] 7) (iu _ _ (by omega)) fv e1 e2 (fun u eu=>by have eu:18=2∨18=7:=eu;omega) (fun u eu=>by have eu:18=12:=eu;omega)
theorem dE.known (hs:dE c K k.ca f)(h1:3≤f.next)(h2:f.next≤5){n2:Nat}(h3:3≤n2)(h4:n2≤5){v u:aJ}(hv:v.ok)(ht:v.tr≤4)(hu:u.ok)(TV:u.tr≤4):dE c K k.ca {f with next:=n2,word:=v,now:=u} where
 le:=by show n2≤18;omega
 done:=hs.done
 da:=hs.da
 fin:=fun _=>(hs.fin (by omega)).same rfl rfl rfl rfl
 ct:=hs.ct
 bE:=fun e=>by have e:n2=1:=e;omega
 start:=fun e=>by have e:n2=0:=e;omega
 ov:=fun e=>by have e:n2=1:=e;omega
 find:=fun e=>by have e:n2=2∨n2=7:=e;omega
 id:=fun _=>hs.id (.inl ⟨h1,h2⟩)
 word:=hv
 tr:=ht
 now:=hu
 c6:=TV
 ez:=fun e=>by have e:6≤n2:=e;omega
 fill:=fun e=>by have e:n2=6:=e;omega
 lq:=fun e=>by have e:n2=7:=e;omega
 again:=fun e=>by have e:n2=8:=e;omega
 enter:=fun e=>by have e:n2=12:=e;omega
 back:=fun e=>by have e:n2=14:=e;omega
 pop:=fun e=>by have e:12≤n2:=e;omega
 addr:=fun e=>by have e:n2=17:=e;omega
theorem Uw (h:cS c K B H s k)(hf:k.frame=some f)(e1:3≤f.next)(e2:f.next≤5):Kept c K B H (fw c s k f).1 (ft k (fw c s k f).2):=by
 have hs:=h.wk.frame f hf
 have cB:=hs.fin (by omega)
 obtain⟨l1,l2⟩:=h.sh.pl.bC (id:=f.id)
 unfold fw
 rw[if_neg (by omega)]
 split
 ·refine h.ku hf ?_ (iu _ _ (by omega)) ⟨by show 4≠2;omega,by show 4≠7;omega,by show 4≠12;omega⟩ (h.sh.put ⟨by show 2≤3;omega,hs.word.2⟩ hs.tr) (jz _ _ _ _).2.2.1
  exact hs.more.known e1 e2 (by omega) (by omega) hs.word hs.tr hs.now hs.c6
 split
 ·unfold tU
  split
  ·refine h.uu hf (dE.JK h.ok hs.done hs.da (cB.same rfl rfl rfl rfl) hs.ct hs.word hs.tr hs.now hs.c6) (iu _ _ (by omega)) h.sh.more (fg.refl _ _) (h.iE.more (by omega)) (fun t _ e=> ?_) (fun t e=>by have e:2=12:=e;omega)
   injection e with e
   subst e
   exact AH (.inl rfl)
  split
  ·obtain hx:=zt (f:=f) f.id (bC s f.id)
   exact h.ku hf (dE.zr hs.done hs.da (cB.same rfl rfl rfl rfl) hs.ct hs.now hs.c6 l1 l2 (hs.id (.inl ⟨e1,e2⟩)).1 (hs.id (.inl ⟨e1,e2⟩)).2) (iu _ _ (by omega)) ⟨by omega,by omega,by omega⟩ h.sh.more rfl
  obtain⟨s1,s2⟩:=LL cB l1 l2
  split
  ·exact h.ku hf (dE.qb (f:={f with word:=bC s f.id,now:=f.gm (bC s f.id),next:=5}) hs.done hs.da (cB.same rfl rfl rfl rfl) hs.ct l1 l2 s1 s2 _ _) (iu _ _ (by omega)) ⟨by show 18≠2;omega,by show 18≠7;omega,by show 18≠12;omega⟩ h.sh.more rfl
  ·exact h.ku hf (hs.more.known e1 e2 (by omega) (by omega) l1 l2 s1 s2) (iu _ _ (by omega)) ⟨by show 5≠2;omega,by show 5≠7;omega,by show 5≠12;omega⟩ h.sh.more rfl
 ·split
  ·exact h.ku hf (dE.qb (f:={f with next:=4}) hs.done hs.da (cB.same rfl rfl rfl rfl) hs.ct hs.word hs.tr hs.now hs.c6 _ _) (iu _ _ (by omega)) ⟨by show 18≠2;omega,by show 18≠7;omega,by show 18≠12;omega⟩ (h.sh.put hs.now hs.c6) (jz _ _ _ _).2.2.1
  ·exact h.ku hf (hs.more.known e1 e2 (by omega) (by omega) hs.word hs.tr hs.now hs.c6) (iu _ _ (by omega)) ⟨by show 4≠2;omega,by show 4≠7;omega,by show 4≠12;omega⟩ (h.sh.put hs.now hs.c6) (jz _ _ _ _).2.2.1
theorem Ut (h:cS c K B H s k)(hf:k.frame=some f)(e1:15≤f.next)(e2:f.next≤17):Kept c K B H (hZ c s f).1 (ft k (hZ c s f).2):=by
 have hs:=h.wk.frame f hf
 have cB:=hs.fin (by omega)
 obtain⟨l1,l2⟩:=h.sh.pl.bC (id:=f.id)
 have hid:=hs.id (.inr ⟨by omega,e2⟩)
 have to:∀ {g:aH},15≤g.next→g.next≤17→g.done=f.done→g.b=f.b→fB g→g.fW=f.fW→g.ar=f.ar→g.id=f.id→g.word.ok→g.word.tr≤4→g.now.ok→g.now.tr≤4→(g.next=17→g.dU.addr<4294967296∧g.dU.port<65536)→dE c (K+1) k.ca g:=fun {g} a1 a2 a3 a4 a5 a6 a7 a8 a9 b1 b2 b3 b4=>{
  le:=by omega
  done:=by rw[a3];exact hs.done
  da:=by rw[a4];exact hs.da
  fin:=fun _=>a5
  ct:=by rw[a6,a7];exact hs.ct
  bE:=fun e=>by omega
  start:=fun e=>by omega
  ov:=fun e=>by omega
  find:=fun e=>by omega
  id:=fun _=>by rw[a8];exact hid
  word:=a9
  tr:=b1
  now:=b2
  c6:=b3
  ez:=fun _ e=>by omega
  fill:=fun e=>by omega
  lq:=fun e=>by omega
  again:=fun e=>by omega
  enter:=fun e=>by omega
  back:=fun e=>by omega
  pop:=fun _ e=>by omega
  addr:=b4}
 have n18:∀ {g:aH},g.next=18→g.next≠2∧g.next≠7∧g.next≠12:=fun e=>by omega
 unfold hZ
 split
 ·split
  ·exact h.ku hf (dE.qb (f:={f with word:=bC s f.id,next:=16}) hs.done hs.da (cB.same rfl rfl rfl rfl) hs.ct l1 l2 hs.now hs.c6 _ _) (iu _ _ (by omega)) (n18 rfl) h.sh.more rfl
  ·exact h.ku hf (to (g:={f with word:=bC s f.id,next:=16}) (by show 15≤16;omega) (by show 16≤17;omega) rfl rfl (cB.same rfl rfl rfl rfl) rfl rfl rfl l1 l2 hs.now hs.c6 (fun e=>by have e:16=17:=e;omega)) (iu _ _ (by omega)) ⟨by show 16≠2;omega,by show 16≠7;omega,by show 16≠12;omega⟩ h.sh.more rfl
 split
 ·obtain⟨s1,s2⟩:=LL cB hs.word hs.tr
  exact h.ku hf (to (g:={f with dU:=nC (o9 s f.id),now:=f.gm f.word,next:=17}) (by show 15≤17;omega) (by show 17≤17;omega) rfl rfl (cB.same rfl rfl rfl rfl) rfl rfl rfl hs.word hs.tr s1 s2 (fun _=>RR _ (h.sh.pl.w _))) (iu _ _ (by omega)) ⟨by show 17≠2;omega,by show 17≠7;omega,by show 17≠12;omega⟩ h.sh.more rfl
 split
 ·split
  ·exact h.ku hf (dE.qb (f:={f with next:=15}) hs.done hs.da (cB.same rfl rfl rfl rfl) hs.ct hs.word hs.tr hs.now hs.c6 _ _) (iu _ _ (by omega)) (n18 rfl) h.sh.more rfl
  ·exact h.ku hf (to (g:={f with next:=15}) (by show 15≤15;omega) (by show 15≤17;omega) rfl rfl (cB.same rfl rfl rfl rfl) rfl rfl rfl hs.word hs.tr hs.now hs.c6 (fun e=>by have e:15=17:=e;omega)) (iu _ _ (by omega)) ⟨by show 15≠2;omega,by show 15≠7;omega,by show 15≠12;omega⟩ h.sh.more rfl
 ·split
  ·exact h.ku hf (dE.qb (f:={f with next:=15}) hs.done hs.da (cB.same rfl rfl rfl rfl) hs.ct hs.word hs.tr hs.now hs.c6 _ _) (iu _ _ (by omega)) (n18 rfl) (h.sh.put hs.now hs.c6) (jz _ _ _ _).2.2.1
  ·exact h.ku hf (to (g:={f with next:=15}) (by show 15≤15;omega) (by show 15≤17;omega) rfl rfl (cB.same rfl rfl rfl rfl) rfl rfl rfl hs.word hs.tr hs.now hs.c6 (fun e=>by have e:15=17:=e;omega)) (iu _ _ (by omega)) ⟨by show 15≠2;omega,by show 15≠7;omega,by show 15≠12;omega⟩ (h.sh.put hs.now hs.c6) (jz _ _ _ _).2.2.1
theorem Uu (h:cS c K B H s k)(hw:w<c.n)(hf:k.frame=some f):Kept c K B H {s with ep:=s.ep.set (1+w) 0} (ft k {f with pinned:=false,done:=true}):=by
 refine h.y9 hf rfl ⟨h.sh.pl,h.sh.tb,h.sh.po,?_⟩ rfl
 have hk:=h.sh.ep
 refine⟨by rw[List.length_set];exact hk.len,hk.rA,?_,fun j=> ?_,hk.more.ids,hk.more.sU⟩
 ·dsimp only
  rw[mQ (by omega)];have:=hk.now;omega
 ·dsimp only
  by_cases e:1+w=j
  ·subst e
   rw[rC (by rw[hk.len];omega)];omega
  ·rw[mQ e];have:=hk.pins j;omega
end
end
section
open Go.RowKit
section
variable {c:NC} {K B w:Nat} {s:aW} {k:aR} {f:aH} {H:Nat→List Nat}
structure vt (c:NC)(K:Nat)(k:aR):Prop where
 ca:∀i,i<3→kg c.np (k.ca i)
 bp:nt k.bp
 aS:k.bp.aS≤K
 ids:∀y∈k.bp.all,0≤y.id∧y.id<((3*c.np:Nat):Int)
 keys:(k.cm.map (·.1)).Nodup
 cm:∀p∈k.cm,vr p.2
 ended:k.ended.length≤K
 aX:k.aX=none
 out:∀i,i<3→(k.ca i).out=none
theorem cS.part (h:cS c K B H s k)(hf:k.frame=some f):vt c (K+1) k:=by
 have hm:=h.wk.more
 have gG:k.aX=none:=h.wk.one (by rw[hf];rfl)
 exact⟨hm.ca,hm.bp,hm.aS,hm.ids,hm.keys,hm.cm,hm.ended,gG,hm.out gG⟩
theorem cS.kept {k1:aR}{f':aH}(hp:vt c (K+1) k1)(hb:k1.bp.all.length+iN (some f')≤B)(hn:dE c (K+1) k1.ca f'){s':aW}(hs:iz c (K+1) s')
  {H':Nat→List Nat} (he:fg c.nb H H') (hh:eH c.nb s'.tb H' (K+1)) (ht:∀t,f'.next=2∨f'.next=7→f'.find=some t→gS H' t) (uJ:∀t,f'.next=12→f'.enter=some t→gS H' t):Kept c K B H s' (ft k1 f'):=by
 rw[CG hn.done]
 refine⟨hs,?_,H',he,hh,⟨fun g t e1 e2 e3=> ?_,fun g t e1 e2 e3=> ?_,fun x t e1=> ?_⟩⟩
 ·exact {
   ca:=hp.ca
   bp:=hp.bp
   aS:=hp.aS
   ids:=hp.ids
   keys:=hp.keys
   cm:=hp.cm
   ended:=hp.ended
   lL:=by
    show k1.bp.all.length+iN (some f')+tW k1.aX≤B
    rw[hp.aX];exact hb
   one:=fun _=>hp.aX
   frame:=fun g e=>by injection e with e;subst e;exact hn
   aX:=fun x e=>by
    have e:k1.aX=some x:=e
    rw[hp.aX]at e;cases e
   out:=fun _=>hp.out}
 ·injection e1 with e1;subst e1;exact ht t e2 e3
 ·injection e1 with e1;subst e1;exact uJ t e2 e3
 ·have e1:k1.aX=some x:=e1
  rw[hp.aX]at e1;cases e1
theorem vt.bK (h:vt c K k){i:Nat}(hi:i<3){a:dC}(ha:kg c.np a)(ho:a.out=none):vt c K (k.bK i a):=by
 obtain⟨r1,r2,r3,r4,r5,r6,r7,r8⟩:=nO k i a
 refine⟨fun j hj=> ?_,by rw[r3];exact h.bp,by rw[r3];exact h.aS,by rw[r3];exact h.ids,by rw[r4];exact h.keys,by rw[r4];exact h.cm,by rw[r8];exact h.ended,by rw[r2];exact h.aX,fun j hj=> ?_⟩
 ·rw[LO k i j hi hj]
  split
  ·exact ha
  ·exact h.ca j hj
 ·rw[LO k i j hi hj]
  split
  ·exact ho
  ·exact h.out j hj
theorem iz.xG (h:iz c K s){i:Nat}(hi:i<3){ws:List Nat}(hw:mC c.np ws):iz c (K+1) (s.dP i ws):=by
 obtain⟨r1,r2,r3,r4⟩:=qy s i ws
 refine⟨by rw[r1];exact h.pl,by rw[r2];exact h.tb,fun j hj=> ?_,by rw[r3,r4];exact h.ep.more⟩
 by_cases e:j=i
 ·subst e;rw[xF s ws hj];exact hw
 ·rw[ET s ws hj hi e];exact h.po j hj
theorem qE (h:cS c K B H s k)(hf:k.frame=some f)(hn:f.next≠18):k.bp.all.length+1≤B:=by
 have hb:=h.wk.lL
 rw[hf]at hb
 unfold iN at hb
 dsimp only at hb
 rw[if_neg hn]at hb
 omega
theorem qD (f:aH):iN (some f)≤1:=by
 unfold iN
 dsimp only
 split<;>omega
theorem dE.qB {ca:Nat→dC}(hs:dE c K k.ca f)(h1:6≤f.next)(h2:f.next≤14){g:aH}(g6:6≤g.next)(g14:g.next≤14)(gd:g.done=f.done)(gb:g.b=f.b)(gt:g.tick=f.tick)(gf:g.ar=f.ar)(gp:g.part=f.part)(gg:g.fW=f.fW)(w1:g.word.ok)(w2:g.word.tr≤4)(w3:g.now.ok)(w4:g.now.tr≤4)
  (a7:g.next=7→∃t,g.find=some t∧bt c.nb (3*c.np) t∧t.done=false∧t.kind=0) (PJ:10≤g.next→0≤g.id∧g.id<((3*c.np:Nat):Int))
  (a6:g.next=6→∃x,g.fill=some x∧x.done=false∧((x.kind=0∧mD c.np x.bG∧x.bG.done=false∧(ca (aF f.ar.proto)).l=[])∨x.kind=3))
  (PC:g.next=7→∃x,g.fill=some x∧x.kind=0∧x.done=true∧jd x.bG=true∧x.bG.Ok (mW c.np)∧x.bG.kind=0)
  (a8:g.next=8→∃x,g.again=some x∧x.kind=1∧x.done=false∧x.bG.Ok (mW c.np)∧x.bG.kind=1∧x.bG.done=false)
  (a12:g.next=12→∃t,g.enter=some t∧bt c.nb (3*c.np) t∧t.done=false) (PB:g.next=14→∃t,g.enter=some t∧bt c.nb (3*c.np) t∧t.done=true)
  (ap:12≤g.next→(ca (aF f.ar.proto)).l.length≤15):dE c K ca g where
 le:=by omega
 done:=by rw[gd];exact hs.done
 da:=by rw[gb];exact hs.da
 fin:=fun _=>(hs.fin (by omega)).same gb gt gf gp
 ct:=by rw[gg,gf];exact hs.ct
 bE:=fun e=>by omega
 start:=fun e=>by omega
 ov:=fun e=>by omega
 find:=fun e=>a7 (by omega)
 id:=fun e=>PJ (by omega)
 word:=w1
 tr:=w2
 now:=w3
 c6:=w4
 ez:=fun _ _=>by rw[gf];exact hs.ez h1 h2
 fill:=fun e=>by rw[gf];exact a6 e
 lq:=PC
 again:=a8
 enter:=a12
 back:=PB
 pop:=fun e _=>by rw[gf];exact ap e
 addr:=fun e=>by omega
theorem Hv (k:aR){i:Nat}(hi:i<3)(a:dC):(k.bK i a).ca i=a:=uk k a hi
theorem XS (s:aW)(i:Nat)(ws:List Nat):({s.dP i ws with tb:=s.tb}:aW)=s.dP i ws:=by
 unfold aW.dP;repeat' split
 all_goals rfl
theorem Ux (h:cS c K B H s k)(hf:k.frame=some f)(e:f.next=6):Kept c K B H (cC c s k f).1 (ft (cC c s k f).2.1 (cC c s k f).2.2):=by
 have hs:=h.wk.frame f hf
 have hg:=hs.ez (by omega) (by omega)
 have cO:=h.part hf
 have hU:=qE h hf (by omega)
 have bl:=gH f.ar.proto
 obtain⟨x,q1,q2,q3⟩:=hs.fill e
 unfold cC
 rw[if_pos e,q1]
 dsimp only
 have oo:=h.sh.po _ bl
 have j8:=cO.ca _ bl
 have mU:=cO.out _ bl
 have e2:(({s.dP (aF f.ar.proto) (eh (s.po (aF f.ar.proto)) (k.ca (aF f.ar.proto)) x).1 with tb:=s.tb}:aW))=s.dP (aF f.ar.proto) (eh (s.po (aF f.ar.proto)) (k.ca (aF f.ar.proto)) x).1:=XS s _ _
 rw[e2]
 generalize I5:aF f.ar.proto=kd at*
 have RL:∀ {x2:j5} {a:dC},x2.kind=0→x2.done=true→jd x2.bG=true→x2.bG.Ok (mW c.np)→x2.bG.kind=0→dE c (K+1) (k.bK kd a).ca {f with fill:=some x2,find:=some (jh c 0 f.ar (-1) 0),next:=7}:=fun {x2 a} b1 b2 b3 b4 b5=>by
  have cB:=hs.fin (by omega)
  refine hs.more.qB (by omega) (by omega) (by show 6≤7;omega) (by show 7≤14;omega) rfl rfl rfl rfl rfl rfl hs.word hs.tr hs.now hs.c6 (fun _=>⟨_,rfl,L3 h.ok cB.proto cB.addr cB.port,rfl,rfl⟩) (fun e=>by have e:10≤7:=e;omega) (fun e=>by have e:7=6:=e;omega) (fun _=>⟨x2,rfl,b1,b2,b3,b4,b5⟩) (fun e=>by have e:7=8:=e;omega) (fun e=>by have e:7=12:=e;omega) (fun e=>by have e:7=14:=e;omega) (fun e=>by have e:12≤7:=e;omega)
 have H5:∀ {x2:j5} {a:dC},dE c (K+1) (k.bK kd a).ca {f with fill:=some x2,next:=9}:=fun {x2 a}=>by
  refine hs.more.qB (by omega) (by omega) (by show 6≤9;omega) (by show 9≤14;omega) rfl rfl rfl rfl rfl rfl hs.word hs.tr hs.now hs.c6 (fun e=>by have e:9=7:=e;omega) (fun e=>by have e:10≤9:=e;omega) (fun e=>by have e:9=6:=e;omega) (fun e=>by have e:9=7:=e;omega) (fun e=>by have e:9=8:=e;omega) (fun e=>by have e:9=12:=e;omega) (fun e=>by have e:9=14:=e;omega) (fun e=>by have e:12≤9:=e;omega)
 have jL:∀ {a:dC} (g:aH),(k.bK kd a).bp.all.length+iN (some g)≤B:=fun {a} g=>by
  rw[(nO k kd a).2.2.1];have:=qD g;omega
 have n9:∀ {g:aH} {H':Nat→List Nat},g.next=9→∀t,g.next=2∨g.next=7→g.find=some t→gS H' t:=fun e t e2=>by omega
 have n12:∀ {g:aH} {H':Nat→List Nat},g.next≠12→∀t,g.next=12→g.enter=some t→gS H' t:=fun e t e2=>absurd e2 e
 have lf:∀ {ws:List Nat},eH c.nb (s.dP kd ws).tb H (K+1):=fun {ws}=>by rw[(qy s kd ws).2.1];exact h.iE.more (by omega)
 rcases q3 with ⟨k0,jQ,hid,hl⟩|k3
 ·obtain⟨kind,bG,done⟩:=x
  dsimp only at q2 k0 jQ hid
  subst q2 k0
  rw[Hu]
  obtain⟨p1,p2⟩:=jQ.HO oo hid
  generalize bh (s.po kd) bG=D at*
  obtain⟨gB,i2⟩:=D
  dsimp only at*
  cases hd:i2.done with
  |false=>
   rw[if_neg (by decide:¬(false=true)),if_pos rfl]
   refine cS.kept (cO.bK bl j8 mU) (jL _) ?_ (h.sh.xG bl p1) (fg.refl _ _) lf (fun t e2=>by have e2:f.next=2∨f.next=7:=e2;omega) (fun t e2=>by have e2:f.next=12:=e2;omega)
   exact hs.more.qB (by omega) (by omega) (by show 6≤f.next;omega) (by show f.next≤14;omega) rfl rfl rfl rfl rfl rfl hs.word hs.tr hs.now hs.c6 (fun e=>by have e:f.next=7:=e;omega) (fun e=>by have e:10≤f.next:=e;omega)
    (fun _=>⟨⟨0,i2,false⟩,rfl,rfl,.inl ⟨rfl,p2,hd,by rw[I5,Hv k bl];exact hl⟩⟩) (fun e=>by have e:f.next=7:=e;omega) (fun e=>by have e:f.next=8:=e;omega) (fun e=>by have e:f.next=12:=e;omega) (fun e=>by have e:f.next=14:=e;omega) (fun e=>by have e:12≤f.next:=e;omega)
  |true=>
   rw[if_pos rfl,if_neg (by decide:¬(true=false))]
   have ha:kg c.np {k.ca kd with h:=if i2.ports=[]then(k.ca kd).h else i2.word,l:=(k.ca kd).l++i2.ports.reverse}:=by
    refine⟨?_,fun y hy=> ?_,j8.out⟩
    ·dsimp only
     rw[hl,List.nil_append,List.length_reverse]
     have:=p2.sU
     omega
    ·dsimp only at hy
     rw[hl,List.nil_append,List.mem_reverse]at hy
     exact p2.lt y hy
   have oY:ny ⟨0,i2,true⟩=jd i2:=by unfold ny;simp
   rw[oY]
   cases hn:jd i2 with
   |true=>
    rw[if_pos rfl]
    exact cS.kept (cO.bK bl ha mU) (jL _) (RL (x2:=⟨0,i2,true⟩) rfl rfl hn p2.ok p2.kind) (h.sh.xG bl p1) (fg.refl _ _) lf (fun t _ e3=>by injection e3 with e3;subst e3;exact AH (.inl rfl)) (n12 (by show 7≠12;omega))
   |false=>
    rw[if_neg (by decide:¬(false=true))]
    exact cS.kept (cO.bK bl ha mU) (jL _) (H5 (x2:=⟨0,i2,true⟩)) (h.sh.xG bl p1) (fg.refl _ _) lf (n9 rfl) (n12 (by show 9≠12;omega))
 ·rw[Qn q2 k3]
  dsimp only
  rw[if_neg (by decide)]
  have oY:ny {x with done:=true}=false:=by
   unfold ny
   dsimp only
   rw[k3];rfl
  rw[oY,if_neg (by decide)]
  exact cS.kept (cO.bK bl j8 mU) (jL _) H5 (h.sh.xG bl oo) (fg.refl _ _) lf (n9 rfl) (n12 (by show 9≠12;omega))
theorem Uy (h:cS c K B H s k)(hf:k.frame=some f)(e:f.next=7):Kept c K B H (cC c s k f).1 (ft (cC c s k f).2.1 (cC c s k f).2.2):=by
 have hs:=h.wk.frame f hf
 have cB:=hs.fin (by omega)
 have cO:=h.part hf
 have hU:=qE h hf (by omega)
 obtain⟨t,q1,q2,q3,q4⟩:=hs.find (.inr e)
 obtain⟨x,x1,x2,x3,x4,x5,x6⟩:=hs.lq e
 unfold cC
 rw[if_neg (by omega),if_pos e,q1,x1]
 dsimp only
 rw[←x1]
 obtain⟨⟨H',e1,e2,e3⟩,kc,ko⟩:=Fp h.sh.tb h.sh.pl h.iE h.hK q2 (h.Fv.find f t hf (.inr e) q1)
 have bl:(bA s.pl c.nb s.tb t).2.kind=0:=by rw[L2];exact q4
 have fv:=h.sh.Fq kc
 have jL:∀(g:aH),k.bp.all.length+iN (some g)≤B:=fun g=>by have:=qD g;omega
 generalize bA s.pl c.nb s.tb t=D at*
 obtain⟨dN,t2⟩:=D
 dsimp only at*
 split
 ·rename_i hd
  refine cS.kept cO (jL _) ?_ fv e1 e2 (fun u _ eu=>by injection eu with eu;subst eu;exact e3) (fun u eu=>by have eu:f.next=12:=eu;omega)
  exact {hs.more with
   fin:=fun e=>(hs.fin e).same rfl rfl rfl rfl
   find:=fun _=>⟨t2,rfl,ko,hd,bl⟩}
 rename_i hd
 have hd:t2.done=true:=by simpa using hd
 split
 ·rename_i h0
  obtain hx:=zt (f:={f with find:=some t2}) t2.found t2.aQ
  exact cS.kept cO (jL _) (dE.zr (f:={f with find:=some t2}) hs.done hs.da (cB.same rfl rfl rfl rfl) hs.ct hs.now hs.c6 ko.aQ ko.vY (ko.tc hd bl h0) ko.vX) fv e1 e2 (fun u eu=>by omega) (fun u eu=>by omega)
 ·refine cS.kept cO (jL _) ?_ fv e1 e2 (fun u eu=>by have eu:8=2∨8=7:=eu;omega) (fun u eu=>by have eu:8=12:=eu;omega)
  exact hs.more.qB (by omega) (by omega) (by show 6≤8;omega) (by show 8≤14;omega) rfl rfl rfl rfl rfl rfl hs.word hs.tr hs.now hs.c6 (fun e=>by have e:8=7:=e;omega) (fun e=>by have e:10≤8:=e;omega) (fun e=>by have e:8=6:=e;omega) (fun e=>by have e:8=7:=e;omega)
   (fun _=>⟨Hs x,rfl,rfl,rfl,XF x5 x6 (by have:=h.ok.np;unfold mW;omega),rfl,rfl⟩) (fun e=>by have e:8=12:=e;omega) (fun e=>by have e:8=14:=e;omega) (fun e=>by have e:12≤8:=e;omega)
theorem XG {ws:List Nat}{p:bL}(hd:p.done=false)(hk:p.kind=1):(bh ws p).1=ws∧(bh ws p).2.kind=1:=by
 unfold bh
 rw[if_neg (by rw[hd];decide),if_neg (by omega),if_pos hk]
 unfold qx
 split<;>exact⟨rfl,hk⟩
theorem Uz (h:cS c K B H s k)(hf:k.frame=some f)(e:f.next=8):Kept c K B H (cC c s k f).1 (ft (cC c s k f).2.1 (cC c s k f).2.2):=by
 have hs:=h.wk.frame f hf
 have cB:=hs.fin (by omega)
 have hg:=hs.ez (by omega) (by omega)
 have cO:=h.part hf
 have hU:=qE h hf (by omega)
 have bl:=gH f.ar.proto
 obtain⟨x,q1,q2,q3,q4,q5,q6⟩:=hs.again e
 unfold cC
 rw[if_neg (by omega),if_neg (by omega),if_pos e,q1]
 dsimp only
 obtain⟨kind,bG,done⟩:=x
 dsimp only at q2 q3 q4 q5 q6
 subst q2 q3
 rw[Ht]
 have oo:=h.sh.po _ bl
 have mU:=cO.out _ bl
 obtain⟨d1,d2⟩:=yO oo.words q4
 obtain⟨d3,d4⟩:=XG (ws:=s.po (aF f.ar.proto)) q6 q5
 have jL:∀(g:aH),k.bp.all.length+iN (some g)≤B:=fun g=>by have:=qD g;omega
 have lf:∀ {ws:List Nat},eH c.nb (s.dP (aF f.ar.proto) ws).tb H (K+1):=fun {ws}=>by rw[(qy s _ ws).2.1];exact h.iE.more (by omega)
 have fv:iz c (K+1) (s.dP (aF f.ar.proto) (bh (s.po (aF f.ar.proto)) bG).1):=by rw[d3];exact h.sh.xG bl oo
 generalize bh (s.po (aF f.ar.proto)) bG=D at*
 obtain⟨gB,i2⟩:=D
 dsimp only at*
 split
 ·rename_i hd
  refine cS.kept cO (jL _) ?_ fv (fg.refl _ _) lf (fun u eu=>by have eu:f.next=2∨f.next=7:=eu;omega) (fun u eu=>by have eu:f.next=12:=eu;omega)
  exact {hs.more with
   fin:=fun e=>(hs.fin e).same rfl rfl rfl rfl
   again:=fun _=>⟨⟨1,i2,i2.done⟩,rfl,rfl,hd,d2,d4,hd⟩}
 split
 ·exact cS.kept cO (jL _) (dE.qb (f:={f with again:=some ⟨1,i2,i2.done⟩}) hs.done hs.da (cB.same rfl rfl rfl rfl) hs.ct hs.word hs.tr hs.now hs.c6 [] 8) fv (fg.refl _ _) lf (fun u eu=>by have eu:18=2∨18=7:=eu;omega) (fun u eu=>by have eu:18=12:=eu;omega)
 ·exact cS.kept cO (jL _) (dE.H8 (f:={f with again:=some ⟨1,i2,i2.done⟩}) h.ok mU hs.done hs.da (cB.same rfl rfl rfl rfl) hg hs.word hs.tr hs.now hs.c6) fv (fg.refl _ _) lf (fun u eu=>by have eu:6=2∨6=7:=eu;omega) (fun u eu=>by have eu:6=12:=eu;omega)
theorem Mc {a:dC}{np:Nat}(h:kg np a)(c3:1≤np):dA a<np:=by
 unfold dA
 rw[List.getD_eq_getElem?_getD]
 rcases Nat.lt_or_ge (a.l.length-1) a.l.length with hl|hl
 ·rw[List.getElem?_eq_getElem hl]
  exact h.lt _ (List.getElem_mem hl)
 ·rw[List.getElem?_eq_none hl];exact c3
theorem UA (h:cS c K B H s k)(hf:k.frame=some f)(e:f.next=9):Kept c K B H (cC c s k f).1 (ft (cC c s k f).2.1 (cC c s k f).2.2):=by
 have hs:=h.wk.frame f hf
 have cO:=h.part hf
 have hU:=qE h hf (by omega)
 have bl:=gH f.ar.proto
 have ma:=Mc (cO.ca _ bl) h.ok.np.1
 unfold cC
 rw[if_neg (by omega),if_neg (by omega),if_neg (by omega),if_pos e]
 obtain⟨l1,l2⟩:=h.sh.pl.bC (id:=((aF f.ar.proto*c.np+dA (k.ca (aF f.ar.proto)):Nat):Int))
 have hid:aF f.ar.proto*c.np+dA (k.ca (aF f.ar.proto))<3*c.np:=by
  generalize dA (k.ca (aF f.ar.proto))=y at*
  generalize aF f.ar.proto=kd at*
  have:kd*c.np≤2*c.np:=Nat.mul_le_mul_right _ (by omega)
  omega
 generalize aF f.ar.proto*c.np+dA (k.ca (aF f.ar.proto))=y at*
 refine cS.kept cO (Nat.le_trans (Nat.add_le_add_left (qD _) _) hU) ?_ h.sh.more (fg.refl _ _) (h.iE.more (by omega)) (fun u eu=>by have eu:10=2∨10=7:=eu;omega) (fun u eu=>by have eu:10=12:=eu;omega)
 exact hs.more.qB (by omega) (by omega) (by show 6≤10;omega) (by show 10≤14;omega) rfl rfl rfl rfl rfl rfl l1 l2 hs.now hs.c6 (fun e=>by have e:10=7:=e;omega) (fun _=>⟨by show(0:Int)≤(y:Int);omega,by show(y:Int)<_;omega⟩) (fun e=>by have e:10=6:=e;omega) (fun e=>by have e:10=7:=e;omega)
  (fun e=>by have e:10=8:=e;omega) (fun e=>by have e:10=12:=e;omega) (fun e=>by have e:10=14:=e;omega) (fun e=>by have e:12≤10:=e;omega)
theorem Uo (h:cS c K B H s k)(hf:k.frame=some f)(e:f.next=10):Kept c K B H (cC c s k f).1 (ft (cC c s k f).2.1 (cC c s k f).2.2):=by
 have hs:=h.wk.frame f hf
 have cB:=hs.fin (by omega)
 have cO:=h.part hf
 have hU:=qE h hf (by omega)
 unfold cC
 rw[if_neg (by omega),if_neg (by omega),if_neg (by omega),if_neg (by omega),if_pos e]
 have hid:=hs.id (.inr ⟨by omega,by omega⟩)
 refine cS.kept cO (Nat.le_trans (Nat.add_le_add_left (qD _) _) hU) ?_ ⟨h.sh.pl.oE cB.proto cB.addr cB.port,h.sh.tb,h.sh.po,h.sh.ep.more⟩ (fg.refl _ _) (h.iE.more (by omega)) (fun u eu=>by have eu:11=2∨11=7:=eu;omega) (fun u eu=>by have eu:11=12:=eu;omega)
 exact hs.more.qB (by omega) (by omega) (by show 6≤11;omega) (by show 11≤14;omega) rfl rfl rfl rfl rfl rfl hs.word hs.tr hs.now hs.c6 (fun e=>by have e:11=7:=e;omega) (fun _=>hid) (fun e=>by have e:11=6:=e;omega) (fun e=>by have e:11=7:=e;omega)
  (fun e=>by have e:11=8:=e;omega) (fun e=>by have e:11=12:=e;omega) (fun e=>by have e:11=14:=e;omega) (fun e=>by have e:12≤11:=e;omega)
theorem We (hi:fB f):(jX f).ok∧(jX f).tr≤4:=by
 have h1:=Ez (proto:=f.ar.proto) (s:=0) (flags:=f.part.flags) (out:=true) (by decide)
 have h2:=hi.tick
 exact⟨⟨by show 1≤3;omega,by show(f.word.gen+1)%65536≤65535;omega,by show iF _ _ _ _≤7;omega,by show f.tick.toNat≤_;omega⟩,h1⟩
theorem Up (h:cS c K B H s k)(hf:k.frame=some f)(e:f.next=11):Kept c K B H (cC c s k f).1 (ft (cC c s k f).2.1 (cC c s k f).2.2):=by
 have hs:=h.wk.frame f hf
 have cB:=hs.fin (by omega)
 have cO:=h.part hf
 have hU:=qE h hf (by omega)
 have bl:=gH f.ar.proto
 have mU:=cO.out _ bl
 unfold cC
 rw[if_neg (by omega),if_neg (by omega),if_neg (by omega),if_neg (by omega),if_neg (by omega)]
 have hid:=hs.id (.inr ⟨by omega,by omega⟩)
 obtain⟨n1,n2⟩:=We cB
 have en:(⟨1,(f.word.gen+1)%65536,iF f.ar.proto 0 true f.part.flags,f.tick.toNat⟩:aJ)=jX f:=rfl
 dsimp only
 rw[en]
 split
 ·obtain⟨c1,c2⟩:=(cO.ca _ bl).pop
  refine cS.kept (cO.bK bl c1 mU) (by rw[(nO k _ _).2.2.1];exact Nat.le_trans (Nat.add_le_add_left (qD _) _) hU) ?_ (h.sh.put n1 n2) (fg.refl _ _) (by rw[(jz _ _ _ _).2.2.1];exact h.iE.more (by omega)) (fun u eu=>by have eu:12=2∨12=7:=eu;omega) (fun u _ eu=>by injection eu with eu;subst eu;exact AH (.inl rfl))
  exact hs.more.qB (by omega) (by omega) (by show 6≤12;omega) (by show 12≤14;omega) rfl rfl rfl rfl rfl rfl n1 n2 hs.now hs.c6 (fun e=>by have e:12=7:=e;omega) (fun _=>hid) (fun e=>by have e:12=6:=e;omega) (fun e=>by have e:12=7:=e;omega)
   (fun e=>by have e:12=8:=e;omega) (fun _=>⟨_,rfl,Yk h.ok cB.proto cB.addr cB.port hid.1 hid.2,rfl⟩) (fun e=>by have e:12=14:=e;omega) (fun _=>by rw[Hv k bl];exact c2)
 ·refine cS.kept cO (Nat.le_trans (Nat.add_le_add_left (qD _) _) hU) ?_ h.sh.more (fg.refl _ _) (h.iE.more (by omega)) (fun u eu=>by have eu:9=2∨9=7:=eu;omega) (fun u eu=>by have eu:9=12:=eu;omega)
  exact hs.more.qB (by omega) (by omega) (by show 6≤9;omega) (by show 9≤14;omega) rfl rfl rfl rfl rfl rfl hs.word hs.tr hs.now hs.c6 (fun e=>by have e:9=7:=e;omega) (fun e=>by have e:10≤9:=e;omega) (fun e=>by have e:9=6:=e;omega) (fun e=>by have e:9=7:=e;omega)
   (fun e=>by have e:9=8:=e;omega) (fun e=>by have e:9=12:=e;omega) (fun e=>by have e:9=14:=e;omega) (fun e=>by have e:12≤9:=e;omega)
theorem Uq (h:cS c K B H s k)(hf:k.frame=some f)(e:f.next=12):Kept c K B H (fi c s k f).1 (ft (fi c s k f).2.1 (fi c s k f).2.2):=by
 have hs:=h.wk.frame f hf
 have cO:=h.part hf
 have hU:=qE h hf (by omega)
 obtain⟨t,q1,q2,q3⟩:=hs.enter e
 unfold fi
 rw[if_pos e,q1]
 dsimp only
 obtain⟨⟨H',e1,e2,e3⟩,kc,ko⟩:=Fp h.sh.tb h.sh.pl h.iE h.hK q2 (h.Fv.enter f t hf e q1)
 have fv:=h.sh.Fq kc
 have jL:∀(g:aH),k.bp.all.length+iN (some g)≤B:=fun g=>by have:=qD g;omega
 have hid:=hs.id (.inr ⟨by omega,by omega⟩)
 have DS:=hs.pop (by omega) (by omega)
 generalize bA s.pl c.nb s.tb t=D at*
 obtain⟨dN,t2⟩:=D
 dsimp only at*
 split
 ·rename_i hd
  refine cS.kept cO (jL _) ?_ fv e1 e2 (fun u eu=>by have eu:f.next=2∨f.next=7:=eu;omega) (fun u _ eu=>by injection eu with eu;subst eu;exact e3)
  exact {hs.more with
   fin:=fun e=>(hs.fin e).same rfl rfl rfl rfl
   enter:=fun _=>⟨t2,rfl,ko,hd⟩
   back:=fun e=>by have e:f.next=14:=e;omega}
 ·rename_i hd
  have hd:t2.done=true:=by simpa using hd
  have hx:(if t2.end_=0 then 13 else 14)=13∨(if t2.end_=0 then 13 else 14)=14:=by split<;>omega
  generalize (if t2.end_=0 then 13 else 14)=nx at hx
  refine cS.kept cO (jL _) ?_ fv e1 e2 (fun u eu=>by have eu:nx=2∨nx=7:=eu;omega) (fun u eu=>by have eu:nx=12:=eu;omega)
  exact hs.more.qB (by omega) (by omega) (by show 6≤nx;omega) (by show nx≤14;omega) rfl rfl rfl rfl rfl rfl hs.word hs.tr hs.now hs.c6 (fun e=>by have e:nx=7:=e;omega) (fun _=>hid) (fun e=>by have e:nx=6:=e;omega) (fun e=>by have e:nx=7:=e;omega)
   (fun e=>by have e:nx=8:=e;omega) (fun e=>by have e:nx=12:=e;omega) (fun _=>⟨t2,rfl,ko,hd⟩) (fun _=>DS)
theorem W2 {l:List (Int×dQ)}{i:Int}{v:dQ}(h:(l.map (·.1)).Nodup):((ir l i v).map (·.1)).Nodup:=by
 unfold ir
 split
 ·have:(l.map fun p=>if p.1=i then(i,v)else p).map (·.1)=l.map (·.1):=by
   rw[List.map_map]
   refine List.map_congr_left fun p _=> ?_
   show(if p.1=i then(i,v)else p).1=p.1
   split
   ·rename_i e;exact e.symm
   ·rfl
  rw[this];exact h
 ·rename_i hh
  rw[List.map_append,List.nodup_append]
  refine⟨h,by simp,fun a ha b hb e=> ?_⟩
  obtain⟨p,p1,p2⟩:=List.mem_map.1 ha
  simp only[List.map_cons,List.map_nil,List.mem_singleton]at hb
  refine hh (List.any_eq_true.2 ⟨p,p1,?_⟩)
  simp[p2,e,hb]
theorem W1 {l:List (Int×dQ)}{i:Int}{v:dQ}(h:∀p∈l,vr p.2)(hv:vr v):∀p∈ir l i v,vr p.2:=by
 unfold ir
 split
 ·intro p hp
  obtain⟨q,q1,rfl⟩:=List.mem_map.1 hp
  split
  ·exact hv
  ·exact h q q1
 ·intro p hp
  rcases List.mem_append.1 hp with hp|hp
  ·exact h p hp
  ·rw[List.mem_singleton.1 hp];exact hv
theorem PM {k:aR}{p:Nat}{id:Int}{v:aJ}{t:Int}(hg:nt k.bp)(hi:∀y∈k.bp.all,0≤y.id∧y.id<((3*c.np:Nat):Int))(h0:0≤id)(h1:id<((3*c.np:Nat):Int)):
  nt (jo k p id v t).bp∧(jo k p id v t).bp.aS≤k.bp.aS+1∧(∀y∈(jo k p id v t).bp.all,0≤y.id∧y.id<((3*c.np:Nat):Int))∧(jo k p id v t).bp.all.length≤k.bp.all.length+1:=by
 have add:∀a,a<4294967296→nt (mG k.bp id a)∧(mG k.bp id a).aS≤k.bp.aS+1∧(∀y∈(mG k.bp id a).all,0≤y.id∧y.id<((3*c.np:Nat):Int))∧(mG k.bp id a).all.length≤k.bp.all.length+1:=fun a ha=>by
  obtain⟨a1,a2,a3,a4⟩:=G4 (id:=id) hg ha
  refine⟨a1,by omega,fun y hy=> ?_,by rw[a4.length_eq];simp⟩
  rcases List.mem_cons.1 (a4.mem_iff.1 hy)with rfl|hy
  ·exact⟨h0,h1⟩
  ·exact hi y hy
 have no:nt k.bp∧k.bp.aS≤k.bp.aS+1∧(∀y∈k.bp.all,0≤y.id∧y.id<((3*c.np:Nat):Int))∧k.bp.all.length≤k.bp.all.length+1:=⟨hg,by omega,hi,by omega⟩
 unfold jo
 split
 ·split
  ·exact add _ (by omega)
  ·exact no
 ·split
  ·exact add _ (by omega)
  ·exact no
theorem Ur (h:cS c K B H s k)(hf:k.frame=some f)(e:f.next=13):Kept c K B H (fi c s k f).1 (ft (fi c s k f).2.1 (fi c s k f).2.2):=by
 have hs:=h.wk.frame f hf
 have cB:=hs.fin (by omega)
 have cO:=h.part hf
 have hU:=qE h hf (by omega)
 have hid:=hs.id (.inr ⟨by omega,by omega⟩)
 unfold fi
 rw[if_neg (by omega),if_pos e]
 dsimp only
 obtain⟨w1,w2,w3,w4⟩:=PM (c:=c) (k:={k with cm:=ir k.cm f.id f.ar}) (p:=jY (f.id.toNat/c.np)) (v:=f.word) (t:=f.tick) cO.bp cO.ids hid.1 hid.2
 have er:=yH {k with cm:=ir k.cm f.id f.ar} (jY (f.id.toNat/c.np)) f.id f.word f.tick
 generalize jo {k with cm:=ir k.cm f.id f.ar} (jY (f.id.toNat/c.np)) f.id f.word f.tick=k2 at*
 have j8:∀i,k2.ca i=k.ca i:=fun i=>by rw[er];rfl
 have e4:k2.cm=ir k.cm f.id f.ar:=by rw[er]
 have e5:k2.ended=k.ended:=by rw[er]
 have e6:k2.aX=k.aX:=by rw[er]
 have ht:=h.wk.aS
 refine cS.kept ⟨fun i hi=>by rw[j8];exact cO.ca i hi,w1,by dsimp only at w2;omega,w3,by rw[e4];exact W2 cO.keys,by rw[e4];exact W1 cO.cm ⟨cB.proto,cB.addr,cB.port⟩,by rw[e5];exact cO.ended,by rw[e6];exact cO.aX,fun i hi=>by rw[j8];exact cO.out i hi⟩
  (by have:iN (some (f.goes c f.id))=0:=rfl;dsimp only at w4;omega) ?_ (h.sh.put ⟨by show 2≤3;omega,hs.word.2⟩ hs.tr) (fg.refl _ _) (by rw[(jz _ _ _ _).2.2.1];exact h.iE.more (by omega)) (fun u eu=>by have eu:18=2∨18=7:=eu;omega) (fun u eu=>by have eu:18=12:=eu;omega)
 exact dE.qb hs.done hs.da (cB.same rfl rfl rfl rfl) hs.ct hs.word hs.tr hs.now hs.c6 _ _
theorem Us (h:cS c K B H s k)(hf:k.frame=some f)(e:f.next=14):Kept c K B H (fi c s k f).1 (ft (fi c s k f).2.1 (fi c s k f).2.2):=by
 have hs:=h.wk.frame f hf
 have cB:=hs.fin (by omega)
 have cO:=h.part hf
 have hU:=qE h hf (by omega)
 have bl:=gH f.ar.proto
 have c3:=h.ok.np
 have mU:=cO.out _ bl
 have DS:=hs.pop (by omega) (by omega)
 obtain⟨t,q1,q2,q3⟩:=hs.back e
 unfold fi
 rw[if_neg (by omega),if_neg (by omega),q1]
 dsimp only
 rw[←q1]
 have hx:f.id.toNat%c.np<c.np:=Nat.mod_lt _ (by omega)
 obtain⟨c1,_⟩:=(cO.ca _ bl).put c3.2 hx mU
 have c2:(kp c.np (k.ca (aF f.ar.proto)) (f.id.toNat%c.np)).1.out=none:=by
  rw[(cO.ca _ bl).W0 DS];exact mU
 have fv:=h.sh.put (id:=f.id) (a:=f.word) (b:={f.word with st:=0}) ⟨by show 0≤3;omega,hs.word.2⟩ hs.tr
 have lf:eH c.nb (bN s f.id f.word {f.word with st:=0}).tb H (K+1):=by rw[(jz _ _ _ _).2.2.1];exact h.iE.more (by omega)
 have jL:∀(g:aH) a,(k.bK (aF f.ar.proto) a).bp.all.length+iN (some g)≤B:=fun g a=>by
  rw[(nO k _ a).2.2.1];have:=qD g;omega
 split
 ·rename_i zf
  obtain hx:=zt (f:={f with made:=false}) t.found t.aQ
  exact cS.kept (cO.bK bl c1 c2) (jL _ _) (dE.zr (f:={f with made:=false}) hs.done hs.da (cB.same rfl rfl rfl rfl) hs.ct hs.now hs.c6 q2.aQ q2.vY (q2.uH q3 zf) q2.vX) fv (fg.refl _ _) lf (fun u eu=>by omega) (fun u eu=>by omega)
 ·exact cS.kept (cO.bK bl c1 c2) (jL _ _) (dE.qb (f:={f with made:=false}) hs.done hs.da (cB.same rfl rfl rfl rfl) hs.ct hs.word hs.tr hs.now hs.c6 [] 9) fv (fg.refl _ _) lf (fun u eu=>by have eu:18=2∨18=7:=eu;omega) (fun u eu=>by have eu:18=12:=eu;omega)
theorem Yi (h:cS c K B H s k)(hw:w<c.n)(hf:k.frame=some f):Kept c K B H (bZ c w s k f).1 (ft (bZ c w s k f).2.1 (bZ c w s k f).2.2):=by
 have hs:=h.wk.frame f hf
 have hle:=hs.le
 unfold bZ
 split
 ·exact Um h hw hf (by assumption)
 split
 ·rename_i e
  obtain⟨p,q1,_⟩:=hs.bE e
  rw[q1]
  exact Un h hf e q1
 split
 ·rename_i e0 e1 e5
  by_cases e:f.next=2
  ·obtain⟨t,q1,_⟩:=hs.find (.inl e)
   unfold fw
   rw[if_pos e,q1]
   exact Uv h hf e q1
  ·exact Uw h hf (by omega) e5
 split
 ·rename_i e0 e1 e5 Rb
  have:f.next=6∨f.next=7∨f.next=8∨f.next=9∨f.next=10∨f.next=11:=by omega
  rcases this with e|e|e|e|e|e
  ·exact Ux h hf e
  ·exact Uy h hf e
  ·exact Uz h hf e
  ·exact UA h hf e
  ·exact Uo h hf e
  ·exact Up h hf e
 split
 ·rename_i e0 e1 e5 Rb e14
  have:f.next=12∨f.next=13∨f.next=14:=by omega
  rcases this with e|e|e
  ·exact Uq h hf e
  ·exact Ur h hf e
  ·exact Us h hf e
 split
 ·exact Ut h hf (by omega) (by assumption)
 ·exact Uu h hw hf
end
end
section
open Go.RowKit
section
variable {c:NC} {K B w:Nat} {n:bm} {s:aW} {k:aR} {f:aH} {x:gR} {H:Nat→List Nat}
theorem cS.AF (h:cS c K B H s k)(hB:B≤300)(hw:w<c.n)(hf:k.frame=some f):vE c w s k f:=by
 have hs:=h.wk.frame f hf
 have cO:=h.part hf
 have c3:=h.ok.np
 have hb:=h.wk.lL
 have ht:=h.wk.aS
 have hK:=h.hK
 exact {
  w:=hw
  gs:=h.sh.ep.rA
  ep:=h.sh.ep.ok h.ok h.hK
  pl:=h.sh.pl
  tb:=h.sh.tb
  wk:=⟨cO.out,fun i hi=>(h.sh.po i hi).words⟩
  da:=hs.da
  le:=hs.le
  fin:=fun e=>hs.fin (by omega)
  bE:=fun e=>by
   obtain⟨p,a1,a2,a3,_⟩:=hs.bE e
   exact⟨p,a1,a2,a3⟩
  known:=fun e1 e2=>{
   fin:=hs.fin (by omega)
   ct:=hs.ct
   find:=fun e=>by
    obtain⟨t,a1,a2,a3,_⟩:=hs.find (.inl e)
    exact⟨t,a1,a2,a3⟩
   id:=fun e=>hs.id (.inl ⟨by omega,e2⟩)
   word:=hs.word
   now:=hs.now}
  fresh:=fun e1 e2=>{
   fin:=hs.fin (by omega)
   ez:=hs.ez e1 (by omega)
   fill:=fun e=>by
    obtain⟨x,a1,a2,a3⟩:=hs.fill e
    refine⟨x,a1,a2,?_⟩
    rcases a3 with ⟨a3,a4,_⟩|a3
    ·exact .inl ⟨a3,a4.ok⟩
    ·exact .inr a3
   find:=fun e=>by
    obtain⟨t,a1,a2,a3,_⟩:=hs.find (.inr e)
    exact⟨t,a1,a2,a3⟩
   lq:=fun e=>by
    obtain⟨x,a1,a2,a3,a4,a5,a6⟩:=hs.lq e
    refine⟨x,a1,a2,a3,a4,?_⟩
    have:=(a5.lu a6).1
    rw[this];unfold mW;omega
   again:=fun e=>by
    obtain⟨x,a1,a2,a3,a4,_⟩:=hs.again e
    exact⟨x,a1,a2,a3,a4⟩
   id:=fun e=>hs.id (.inr ⟨by omega,by omega⟩)
   word:=hs.word
   len:=by have:=(cO.ca _ (gH f.ar.proto)).len;omega
   top:=Mc (cO.ca _ (gH f.ar.proto)) c3.1}
  enters:=fun e1 e2=>{
   fin:=hs.fin (by omega)
   ez:=hs.ez (by omega) e2
   enter:=hs.enter
   back:=fun e=>by
    obtain⟨t,a1,_⟩:=hs.back e
    exact⟨t,a1⟩
   id:=hs.id (.inr ⟨by omega,by omega⟩)
   word:=hs.word
   tr:=hs.tr
   bp:=cO.bp
   all:=by omega
   aS:=by omega
   keys:=cO.keys
   room:=fun e=>by have:=hs.pop (by omega) (by omega);omega}
  JB:=fun e1 e2=>{
   fin:=hs.fin (by omega)
   id:=hs.id (.inr ⟨by omega,by omega⟩)
   word:=hs.word
   now:=hs.now
   tr:=hs.tr
   addr:=fun e=>(hs.addr e).1
   port:=fun e=>(hs.addr e).2}}
theorem Safe.base (h:Safe c K B n)(hc:c.Ok)(hK:K<65000)(hw:w<c.n):∃H,cS c K B H n.sh (n.wk.getD w ax)∧∀v,v<c.n→pS H (n.wk.getD v ax):=by
 obtain⟨H,h1,h2⟩:=h.iE
 exact⟨H,⟨hc,hK,h.sh,h.wk w hw,h1,h2 w hw⟩,h2⟩
theorem Safe.kept (h:Safe c K B n)(hw:w<c.n){s':aW}{k':aR}(hk:Kept c K B H s' k')(ht:∀v,v<c.n→pS H (n.wk.getD v ax)):Safe c (K+1) B ⟨s',n.wk.set w k'⟩:=by
 obtain⟨H',e1,e2,e3⟩:=hk.iE
 have hl:=h.wl
 refine⟨by dsimp only;rw[List.length_set];exact hl,hk.sh,fun v hv=> ?_,H',e2,fun v hv=> ?_⟩
 ·dsimp only
  rw[uy _ _ _ _ (by omega)]
  split
  ·exact hk.wk
  ·exact(h.wk v hv).more
 ·dsimp only
  rw[uy _ _ _ _ (by omega)]
  split
  ·exact e3
  ·exact(ht v hv).ext (h.wk v hv) e1
theorem Safe.AF (h:Safe c K B n)(hc:c.Ok)(hK:K<65000)(hB:B≤300)(hw:w<c.n){f:aH}(hf:(n.wk.getD w ax).frame=some f):(n.wk.getD w ax).aX=none∧vE c w n.sh (n.wk.getD w ax) f:=by
 obtain⟨H,hb,_⟩:=h.base hc hK hw
 exact⟨hb.wk.one (by rw[hf];rfl),hb.AF hB hw hf⟩
theorem Safe.HP (h:Safe c K B n)(hc:c.Ok)(hK:K<65000)(hw:w<c.n){f:aH}(hf:(n.wk.getD w ax).frame=some f):Safe c (K+1) B (de c w n).1:=by
 obtain⟨H,hb,ht⟩:=h.base hc hK hw
 rw[KA h.wl hw hf]
 exact h.kept hw (Yi hb hw hf) ht
theorem nW.room (h:nW c K B k):nW c K (B+1) k:={h with lL:=by have:=h.lL;omega}
theorem Safe.room (h:Safe c K B n):Safe c K (B+1) n:=⟨h.wl,h.sh,fun v hv=>(h.wk v hv).room,h.iE⟩
theorem Safe.fW (h:Safe c K B n)(hw:w<c.n){k':aR}(hk:nW c K B k')(ht:∀H,pS H k'):Safe c K B ⟨n.sh,n.wk.set w k'⟩:=by
 obtain⟨H,h1,h2⟩:=h.iE
 have hl:=h.wl
 refine⟨by dsimp only;rw[List.length_set];exact hl,h.sh,fun v hv=> ?_,H,h1,fun v hv=> ?_⟩
 ·dsimp only
  rw[uy _ _ _ _ (by omega)]
  split
  ·exact hk
  ·exact h.wk v hv
 ·dsimp only
  rw[uy _ _ _ _ (by omega)]
  split
  ·exact ht H
  ·exact h2 v hv
def oN (k:aR)(out:Bool)(b:List UInt8)(tick:Int):aR:={k with frame:=some (nD out b tick)}
theorem Qh (h:k.busy=false):k.frame=none∧k.aX=none:=by
 unfold aR.busy at h
 rw[Bool.or_eq_false_iff]at h
 obtain⟨h1,h2⟩:=h
 exact⟨by simpa using h1,by simpa using h2⟩
theorem Safe.begin (h:Safe c K B n)(hw:w<c.n)(hi:(n.wk.getD w ax).busy=false)(out:Bool){b:List UInt8}(hb:b.length≤140737488355328)(tick:Int):Safe c K (B+1) ⟨n.sh,n.wk.set w (oN (n.wk.getD w ax) out b tick)⟩:=by
 obtain⟨i1,i2⟩:=Qh hi
 have hk:=h.wk w hw
 refine h.room.fW hw ?_ (fun H=>⟨fun g t e1 e2=> ?_,fun g t e1 e2=> ?_,fun y t e1=> ?_⟩)
 ·exact {
   ca:=hk.ca
   bp:=hk.bp
   aS:=hk.aS
   ids:=hk.ids
   keys:=hk.keys
   cm:=hk.cm
   ended:=hk.ended
   lL:=by
    show(n.wk.getD w ax).bp.all.length+1+tW (n.wk.getD w ax).aX≤B+1
    have:=hk.lL
    rw[i2]at this ⊢
    have e:tW none=0:=rfl
    rw[e]at this ⊢
    omega
   one:=fun _=>i2
   frame:=fun g e=>by
    injection e with e
    subst e
    exact {
     le:=by show 0≤18;omega
     done:=rfl
     da:=hb
     fin:=fun e=>absurd rfl e
     ct:=fun e=>by cases e
     bE:=fun e=>by have e:0=1:=e;omega
     start:=fun _=>rfl
     ov:=fun e=>by have e:0=1:=e;omega
     find:=fun e=>by have e:0=2∨0=7:=e;omega
     id:=fun e=>by have e:(3≤0∧0≤5)∨(10≤0∧0≤17):=e;omega
     word:=AQ
     tr:=by show 0≤4;omega
     now:=AQ
     c6:=by show 0≤4;omega
     ez:=fun e=>by have e:6≤0:=e;omega
     fill:=fun e=>by have e:0=6:=e;omega
     lq:=fun e=>by have e:0=7:=e;omega
     again:=fun e=>by have e:0=8:=e;omega
     enter:=fun e=>by have e:0=12:=e;omega
     back:=fun e=>by have e:0=14:=e;omega
     pop:=fun e=>by have e:12≤0:=e;omega
     addr:=fun e=>by have e:0=17:=e;omega}
   aX:=fun y e=>by
    have e:(n.wk.getD w ax).aX=some y:=e
    rw[i2]at e;cases e
   out:=fun _=>hk.out i2}
 ·injection e1 with e1;subst e1
  have e2:0=2∨0=7:=e2
  omega
 ·injection e1 with e1;subst e1
  have e2:0=12:=e2
  omega
 ·have e1:(n.wk.getD w ax).aX=some y:=e1
  rw[i2]at e1;cases e1
theorem KC {w:Nat}(hw:w<c.n):(dI c).wk.getD w ax=jB w:=by
 unfold dI
 simp[List.getD_eq_getElem?_getD,hw]
theorem uW {α:Type}(m i:Nat)(v:α):(List.replicate m v).getD i v=v:=by
 rw[List.getD_eq_getElem?_getD,List.getElem?_replicate]
 split<;>rfl
theorem Safe.new (hc:c.Ok):Safe c 0 0 (dI c):=by
 have c3:=hc.np
 have zA:=hc.nb
 refine⟨by unfold dI;simp,⟨⟨by unfold dI;simp,fun j=> ?_,fun x=> ?_⟩,?_,fun i hi=> ?_,?_⟩,fun w hw=> ?_,fun _=>[0],?_,fun w hw=> ?_⟩
 ·show(List.replicate (2*(3*c.np)) 0).getD j 0<_
  rw[uW];decide
 ·show(aJ.of ((List.replicate (2*(3*c.np)) 0).getD (2*x) 0)).tr≤4
  rw[uW];decide
 ·have e:∀j,(dI c).sh.tb.getD j 0=0:=fun j=>uW _ _ _
  refine⟨by unfold dI;simp,zA.1,zA.2,by omega,by omega,fun j=>by rw[e];decide,fun b _=>by rw[e];exact Ap,?_,?_,?_⟩
  all_goals (rw[e];show 0<_;omega)
 ·have e:(dI c).sh.po i=dy c.np:=by unfold dI aW.po;(repeat' split)<;>rfl
  rw[e]
  exact mC.new c3.1 c3.2
 ·have e:∀j,(dI c).sh.ep.getD j 0=0:=fun j=>uW _ _ _
  have e2:∀j,(dI c).sh.gs.getD j []=[]:=fun j=>uW _ _ _
  refine⟨by unfold dI;simp,by unfold dI;simp,by rw[e];omega,fun j=>by rw[e];omega,fun i t ht=> ?_,fun i=>by rw[e2];exact Nat.le_refl _⟩
  rw[e2]at ht;cases ht
 ·rw[KC hw]
  have iC:(jB w).bp.all=[]:=KE
  exact {
   ca:=fun i hi=>by
    have e:(jB w).ca i=pV w:=by unfold jB aR.ca;(repeat' split)<;>rfl
    rw[e];exact kg.new w
   bp:=V6
   aS:=Nat.le_refl _
   ids:=fun y hy=>by rw[iC]at hy;cases hy
   keys:=by show([]:List Int).Nodup;exact List.nodup_nil
   cm:=fun p hp=>by cases hp
   ended:=Nat.zero_le _
   lL:=by rw[iC];exact Nat.le_refl _
   one:=fun e=>by cases e
   frame:=fun g e=>by cases e
   aX:=fun y e=>by cases e
   out:=fun _ i hi=>by
    have e:(jB w).ca i=pV w:=by unfold jB aR.ca;(repeat' split)<;>rfl
    rw[e];rfl}
 ·have e:∀j,(dI c).sh.tb.getD j 0=0:=fun j=>uW _ _ _
  refine⟨fun b hb=>⟨by decide,by rw[e];rfl⟩,fun b hb i hi=> ?_,fun b hb=>by decide,fun hp=> ?_⟩
  ·have:i=0:=by have:i<1:=hi;omega
   subst this
   rfl
  ·rw[e]at hp;exact absurd rfl hp
 ·rw[KC hw]
  exact⟨fun g t e=>(by cases e),fun g t e=>(by cases e),fun y t e=>(by cases e)⟩
end
end
section
open Go.RowKit
abbrev Hk:qJ:=⟨qc,0,0,0⟩
def nu (l:List qJ):List Value:=l.flatMap Hl
theorem P0 (l:List qJ)(b:qJ):nu (l++[b])=nu l++Hl b:=by simp[nu]
end
section
open Go.RowKit
set_option maxRecDepth 10000
attribute [local irreducible] EK EX ER EN EL ES EG az ba bf
variable {W:World} {F:SL} {X:Cx} {k:List KI} {σ:Env}
section
variable {p:Option Addr} {c:Nat} {l:List UInt8}
theorem Xa (hl:l.length≤140737488355328)[s:Src W F p l.length (aA l)][r:Room W F p l.length c]:Spec Tryz.prog 45 [.slice p l.length c] W F (fun _:Unit=> .tuple #[.agg (bV (mh l)).toArray,.bool (decide (dz l=0))]) (fun _=>F):=by
 refine Spec.of Tryz.func45 rfl Tryz.ntmps45 rfl ?_
 repeat first|refine aa ?_ |intro
 refine ag rfl (Ln false hl) ?_
 intro _
 by_cases g1:dw false l=0
 ·have g0:=pK.of g1
  have eR:dz l=iG (bd l) l:=if_pos g1
  rw[lV g1,g1,if_pos rfl]
  repeat first|refine aa ?_ |intro
  refine ag rfl (W8 (bd l) g0) ?_
  intro _
  by_cases g2:iG (bd l) l=0
  ·have jJ:dz l=0:=by rw[eR,g2]
   rw[show oy (bd l) l=dv l from if_pos g2,g2,show mh l=dv l from if_pos jJ,jJ]
   repeat first|refine aa ?_ |intro
   exact ae (bq (rs:=[.cell 2 129,.tmp 3]) (v:= .agg (bV (dv l)).toArray) (u:= .bool true) (vs:=[]) rfl ⟨⟨_,rfl,bc.agg rfl⟩,rfl,trivial⟩ () rfl (U.sat (av)))
  ·have jJ:¬dz l=0:=by rw[eR];exact g2
   rw[show oy (bd l) l=bz from if_neg g2,show mh l=bz from if_neg jJ,decide_eq_false jJ]
   repeat first|refine aa ?_ |intro
   exact ae (bq (rs:=[.cell 2 129,.tmp 3]) (v:= .agg (bV bz).toArray) (u:= .bool false) (vs:=[]) rfl ⟨⟨_,rfl,bc.agg rfl⟩,rfl,trivial⟩ () rfl (U.sat (av)))
 ·have eR:dz l=dw false l:=if_neg g1
  have jJ:¬dz l=0:=by rw[eR];exact g1
  rw[lV (rfl:dw false l=_),if_neg g1,show mh l=bz from if_neg jJ,decide_eq_false jJ]
  repeat first|refine aa ?_ |intro
  exact ae (bq (rs:=[.cell 2 129,.tmp 3]) (v:= .agg (bV bz).toArray) (u:= .bool false) (vs:=[]) rfl ⟨⟨_,rfl,bc.agg rfl⟩,rfl,trivial⟩ () rfl (U.sat (av)))
end
end
section
open Go.RowKit
set_option maxRecDepth 10000
attribute [local irreducible] EK EX ER EN EL ES EG az ba bf
variable {W:World} {F:SL} {X:Cx} {k:List KI} {σ:Env} {pn:Option Addr} {c:NC} {R:pN}
attribute [local simp] EW CC pe
theorem Qw (x:Nat):Spec Tryz.prog 65 [.slice none 0 0,.int .i64 (x:Int)] W F (fun _:Unit=> .bool false) (fun _=>F):=by
 haveI:Src W F none 0 (bB .i64 []):=⟨fun _ _ i v h=>by simp[bB]at h,fun _ _ h=>by omega⟩
 have h:=vS (W:=W) (F:=F) none 0 [] x (by decide)
 rw[decide_eq_false (by simp)]at h
 exact h
theorem T8 {kd x np:Nat}(hx:x<np):((kd*np+x:Nat):Int)/(np:Int)=(kd:Int)∧((kd*np+x:Nat):Int)%(np:Int)=(x:Int):=by
 have h1:(kd*np+x)/np=kd:=by
  rw[Nat.add_comm,Nat.mul_comm,Nat.add_mul_div_left _ _ (by omega),Nat.div_eq_of_lt hx,Nat.zero_add]
 have h2:(kd*np+x)%np=x:=by
  rw[Nat.add_comm,Nat.add_mul_mod_self_right,Nat.mod_eq_of_lt hx]
 exact⟨by rw[←Int.natCast_ediv,h1],by rw[←Int.natCast_emod,h2]⟩
theorem WT (hc:c.Ok){kd x:Nat}(hk:kd≤2)(hx:x<c.np):iH c.cfg (oA kd) ((c.lo:Int)+x)=((kd*c.np+x:Nat):Int):=by
 have hp:=hc.ports
 have h1:fX (oA kd)=kd:=UK kd (by omega) (by omega)
 obtain⟨_,_,h3,_,_⟩:=hc
 unfold iH
 rw[hp,h1]
 have h2:¬((c.np:Int)=0∨(kd:Int)<0∨¬(c.cfg.lo≤(c.lo:Int)+x∧(c.lo:Int)+x≤c.cfg.hi)):=by
  unfold NC.np at hx
  unfold NC.cfg
  dsimp only
  unfold NC.np
  omega
 rw[if_neg h2,show c.cfg.lo=(c.lo:Int)from rfl,Int.natCast_add,Int.natCast_mul]
 omega
end
end Go.Proofs.YtakbmjoijcpdmaaGreatDoor
