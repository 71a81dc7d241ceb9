/-
  Joined by a program (wip/bundle2.py).
-/
import Derived.Test.YtimekbpkejemoaaGreatDoorG2
import Derived.Test.YtimekbpkejemoaaGreatDoorG13
import Derived.Test.YtimekbpkejemoaaGreatDoorG14
import Derived.Test.YtimekbpkejemoaaGreatDoorG15
import Derived.Test.YtimekbpkejemoaaGreatDoorG17
set_option linter.unusedVariables false
set_option linter.unusedSimpArgs false
namespace Go.Proofs.YtimekbpkejemoaaGreatDoor
section
open Go.RowKit
section
variable {c:NC} {K B w:Nat} {s:bc} {k:aU} {f:aP} {H:Nat→List Nat}
structure sv (c:NC)(K:Nat)(k:aU):Prop where
 ca:∀i,i<3→jq c.np (k.ca i)
 bb:lj k.bb
 aK:k.bb.aK≤K
 ids:∀y∈k.bb.all,0≤y.id∧y.id<((3*c.np:Nat):Int)
 keys:(k.b9.map (·.1)).Nodup
 b9:∀p∈k.b9,su p.2
 ended:k.ended.length≤K
 bn:k.bn=none
 out:∀i,i<3→(k.ca i).out=none
theorem cv.part (h:cv c K B H s k)(hf:k.frame=some f):sv c (K+1) k:=by
 have hm:=h.wk.more
 have fy:k.bn=none:=h.wk.one (by rw[hf];rfl)
 exact⟨hm.ca,hm.bb,hm.aK,hm.ids,hm.keys,hm.b9,hm.ended,fy,hm.out fy⟩
theorem cv.kept {k1:aU}{f':aP}(hp:sv c (K+1) k1)(hb:k1.bb.all.length+gH (some f')≤B)(hn:cW c (K+1) k1.ca f'){s':bc}(hs:gy c (K+1) s')
  {H':Nat→List Nat} (he:dV c.nb H H') (hh:dF c.nb s'.tb H' (K+1)) (ht:∀t,f'.next=2∨f'.next=7→f'.find=some t→fI H' t) (rI:∀t,f'.next=12→f'.enter=some t→fI H' t):Kept c K B H s' (ei k1 f'):=by
 rw[za hn.done]
 refine⟨hs,?_,H',he,hh,⟨fun g t e1 e2 e3=> ?_,fun g t e1 e2 e3=> ?_,fun x t e1=> ?_⟩⟩
 ·exact {
   ca:=hp.ca
   bb:=hp.bb
   aK:=hp.aK
   ids:=hp.ids
   keys:=hp.keys
   b9:=hp.b9
   ended:=hp.ended
   kb:=by
    show k1.bb.all.length+gH (some f')+qV k1.bn≤B
    rw[hp.bn];exact hb
   one:=fun _=>hp.bn
   frame:=fun g e=>by injection e with e;subst e;exact hn
   bn:=fun x e=>by
    have e:k1.bn=some x:=e
    rw[hp.bn]at e;cases e
   out:=fun _=>hp.out}
 ·injection e1 with e1;subst e1;exact ht t e2 e3
 ·injection e1 with e1;subst e1;exact rI t e2 e3
 ·have e1:k1.bn=some x:=e1
  rw[hp.bn]at e1;cases e1
theorem sv.c6 (h:sv c K k){i:Nat}(hi:i<3){a:dD}(ha:jq c.np a)(ho:a.out=none):sv c K (k.c6 i a):=by
 obtain⟨r1,r2,r3,r4,r5,r6,r7,r8⟩:=nX k i a
 refine⟨fun j hj=> ?_,by rw[r3];exact h.bb,by rw[r3];exact h.aK,by rw[r3];exact h.ids,by rw[r4];exact h.keys,by rw[r4];exact h.b9,by rw[r8];exact h.ended,by rw[r2];exact h.bn,fun j hj=> ?_⟩
 ·rw[G5 k i j hi hj]
  split
  ·exact ha
  ·exact h.ca j hj
 ·rw[G5 k i j hi hj]
  split
  ·exact ho
  ·exact h.out j hj
theorem gy.ua (h:gy c K s){i:Nat}(hi:i<3){ws:List Nat}(hw:p9 c.np ws):gy c (K+1) (s.eO i ws):=by
 obtain⟨r1,r2,r3,r4⟩:=qQ s i ws
 refine⟨by rw[r1];exact h.pl,by rw[r2];exact h.tb,fun j hj=> ?_,by rw[r3,r4];exact h.ep.more⟩
 by_cases e:j=i
 ·subst e;rw[Gu s ws hj];exact hw
 ·rw[Gv s ws hj hi e];exact h.po j hj
theorem ot (h:cv c K B H s k)(hf:k.frame=some f)(hn:f.next≠18):k.bb.all.length+1≤B:=by
 have hb:=h.wk.kb
 rw[hf]at hb
 unfold gH at hb
 dsimp only at hb
 rw[if_neg hn]at hb
 omega
theorem oo (f:aP):gH (some f)≤1:=by
 unfold gH
 dsimp only
 split<;>omega
theorem cW.oc {ca:Nat→dD}(hs:cW c K k.ca f)(h1:6≤f.next)(h2:f.next≤14){g:aP}(g6:6≤g.next)(g14:g.next≤14)(gd:g.done=f.done)(gb:g.b=f.b)(gt:g.tick=f.tick)(gf:g.ao=f.ao)(gp:g.part=f.part)(gg:g.fq=f.fq)(w1:g.word.ok)(w2:g.word.tr≤4)(w3:g.now.ok)(w4:g.now.tr≤4)
  (a7:g.next=7→∃t,g.find=some t∧ba c.nb (3*c.np) t∧t.done=false∧t.kind=0) (Kz:10≤g.next→0≤g.id∧g.id<((3*c.np:Nat):Int))
  (a6:g.next=6→∃x,g.fill=some x∧x.done=false∧((x.kind=0∧nt c.np x.cU∧x.cU.done=false∧(ca (aB f.ao.proto)).l=[])∨x.kind=3))
  (Kr:g.next=7→∃x,g.fill=some x∧x.kind=0∧x.done=true∧hY x.cU=true∧x.cU.Ok (mW c.np)∧x.cU.kind=0)
  (a8:g.next=8→∃x,g.again=some x∧x.kind=1∧x.done=false∧x.cU.Ok (mW c.np)∧x.cU.kind=1∧x.cU.done=false)
  (a12:g.next=12→∃t,g.enter=some t∧ba c.nb (3*c.np) t∧t.done=false) (Kq:g.next=14→∃t,g.enter=some t∧ba c.nb (3*c.np) t∧t.done=true)
  (ap:12≤g.next→(ca (aB f.ao.proto)).l.length≤15):cW c K ca g where
 le:=by omega
 done:=by rw[gd];exact hs.done
 cH:=by rw[gb];exact hs.cH
 fin:=fun _=>(hs.fin (by omega)).same gb gt gf gp
 dM:=by rw[gg,gf];exact hs.dM
 bR:=fun e=>by omega
 start:=fun e=>by omega
 me:=fun e=>by omega
 find:=fun e=>a7 (by omega)
 id:=fun e=>Kz (by omega)
 word:=w1
 tr:=w2
 now:=w3
 cE:=w4
 dy:=fun _ _=>by rw[gf];exact hs.dy h1 h2
 fill:=fun e=>by rw[gf];exact a6 e
 j4:=Kr
 again:=a8
 enter:=a12
 back:=Kq
 pop:=fun e _=>by rw[gf];exact ap e
 addr:=fun e=>by omega
theorem CY (k:aU){i:Nat}(hi:i<3)(a:dD):(k.c6 i a).ca i=a:=yV k a hi
theorem RY (s:bc)(i:Nat)(ws:List Nat):({s.eO i ws with tb:=s.tb}:bc)=s.eO i ws:=by
 unfold bc.eO;repeat' split
 all_goals rfl
theorem O0 (h:cv c K B H s k)(hf:k.frame=some f)(e:f.next=6):Kept c K B H (cq c s k f).1 (ei (cq c s k f).2.1 (cq c s k f).2.2):=by
 have hs:=h.wk.frame f hf
 have hg:=hs.dy (by omega) (by omega)
 have ct:=h.part hf
 have iZ:=ot h hf (by omega)
 have bj:=jb f.ao.proto
 obtain⟨x,q1,q2,q3⟩:=hs.fill e
 unfold cq
 rw[if_pos e,q1]
 dsimp only
 have nN:=h.sh.po _ bj
 have rA:=ct.ca _ bj
 have kQ:=ct.out _ bj
 have e2:(({s.eO (aB f.ao.proto) (dI (s.po (aB f.ao.proto)) (k.ca (aB f.ao.proto)) x).1 with tb:=s.tb}:bc))=s.eO (aB f.ao.proto) (dI (s.po (aB f.ao.proto)) (k.ca (aB f.ao.proto)) x).1:=RY s _ _
 rw[e2]
 generalize Ek:aB f.ao.proto=kd at*
 have Mz:∀ {x2:jO} {a:dD},x2.kind=0→x2.done=true→hY x2.cU=true→x2.cU.Ok (mW c.np)→x2.cU.kind=0→cW c (K+1) (k.c6 kd a).ca {f with fill:=some x2,find:=some (kA c 0 f.ao (-1) 0),next:=7}:=fun {x2 a} b1 b2 b3 b4 b5=>by
  have b7:=hs.fin (by omega)
  refine hs.more.oc (by omega) (by omega) (by show 6≤7;omega) (by show 7≤14;omega) rfl rfl rfl rfl rfl rfl hs.word hs.tr hs.now hs.cE (fun _=>⟨_,rfl,Hg h.ok b7.proto b7.addr b7.port,rfl,rfl⟩) (fun e=>by have e:10≤7:=e;omega) (fun e=>by have e:7=6:=e;omega) (fun _=>⟨x2,rfl,b1,b2,b3,b4,b5⟩) (fun e=>by have e:7=8:=e;omega) (fun e=>by have e:7=12:=e;omega) (fun e=>by have e:7=14:=e;omega) (fun e=>by have e:12≤7:=e;omega)
 have Dt:∀ {x2:jO} {a:dD},cW c (K+1) (k.c6 kd a).ca {f with fill:=some x2,next:=9}:=fun {x2 a}=>by
  refine hs.more.oc (by omega) (by omega) (by show 6≤9;omega) (by show 9≤14;omega) rfl rfl rfl rfl rfl rfl hs.word hs.tr hs.now hs.cE (fun e=>by have e:9=7:=e;omega) (fun e=>by have e:10≤9:=e;omega) (fun e=>by have e:9=6:=e;omega) (fun e=>by have e:9=7:=e;omega) (fun e=>by have e:9=8:=e;omega) (fun e=>by have e:9=12:=e;omega) (fun e=>by have e:9=14:=e;omega) (fun e=>by have e:12≤9:=e;omega)
 have ix:∀ {a:dD} (g:aP),(k.c6 kd a).bb.all.length+gH (some g)≤B:=fun {a} g=>by
  rw[(nX k kd a).2.2.1];have:=oo g;omega
 have n9:∀ {g:aP} {H':Nat→List Nat},g.next=9→∀t,g.next=2∨g.next=7→g.find=some t→fI H' t:=fun e t e2=>by omega
 have n12:∀ {g:aP} {H':Nat→List Nat},g.next≠12→∀t,g.next=12→g.enter=some t→fI H' t:=fun e t e2=>absurd e2 e
 have jY:∀ {ws:List Nat},dF c.nb (s.eO kd ws).tb H (K+1):=fun {ws}=>by rw[(qQ s kd ws).2.1];exact h.gB.more (by omega)
 rcases q3 with ⟨k0,iD,hid,hl⟩|k3
 ·obtain⟨kind,cU,done⟩:=x
  dsimp only at q2 k0 iD hid
  subst q2 k0
  rw[CX]
  obtain⟨p1,p2⟩:=iD.LX nN hid
  generalize bz (s.po kd) cU=D at*
  obtain⟨jN,i2⟩:=D
  dsimp only at*
  cases hd:i2.done with
  |false=>
   rw[if_neg (by decide:¬(false=true)),if_pos rfl]
   refine cv.kept (ct.c6 bj rA kQ) (ix _) ?_ (h.sh.ua bj p1) (dV.refl _ _) jY (fun t e2=>by have e2:f.next=2∨f.next=7:=e2;omega) (fun t e2=>by have e2:f.next=12:=e2;omega)
   exact hs.more.oc (by omega) (by omega) (by show 6≤f.next;omega) (by show f.next≤14;omega) rfl rfl rfl rfl rfl rfl hs.word hs.tr hs.now hs.cE (fun e=>by have e:f.next=7:=e;omega) (fun e=>by have e:10≤f.next:=e;omega)
    (fun _=>⟨⟨0,i2,false⟩,rfl,rfl,.inl ⟨rfl,p2,hd,by rw[Ek,CY k bj];exact hl⟩⟩) (fun e=>by have e:f.next=7:=e;omega) (fun e=>by have e:f.next=8:=e;omega) (fun e=>by have e:f.next=12:=e;omega) (fun e=>by have e:f.next=14:=e;omega) (fun e=>by have e:12≤f.next:=e;omega)
  |true=>
   rw[if_pos rfl,if_neg (by decide:¬(true=false))]
   have ha:jq c.np {k.ca kd with h:=if i2.bo=[]then(k.ca kd).h else i2.word,l:=(k.ca kd).l++i2.bo.reverse}:=by
    refine⟨?_,fun y hy=> ?_,rA.out⟩
    ·dsimp only
     rw[hl,List.nil_append,List.length_reverse]
     have:=p2.sT
     omega
    ·dsimp only at hy
     rw[hl,List.nil_append,List.mem_reverse]at hy
     exact p2.lt y hy
   have vv:mG ⟨0,i2,true⟩=hY i2:=by unfold mG;simp
   rw[vv]
   cases hn:hY i2 with
   |true=>
    rw[if_pos rfl]
    exact cv.kept (ct.c6 bj ha kQ) (ix _) (Mz (x2:=⟨0,i2,true⟩) rfl rfl hn p2.ok p2.kind) (h.sh.ua bj p1) (dV.refl _ _) jY (fun t _ e3=>by injection e3 with e3;subst e3;exact wR (.inl rfl)) (n12 (by show 7≠12;omega))
   |false=>
    rw[if_neg (by decide:¬(false=true))]
    exact cv.kept (ct.c6 bj ha kQ) (ix _) (Dt (x2:=⟨0,i2,true⟩)) (h.sh.ua bj p1) (dV.refl _ _) jY (n9 rfl) (n12 (by show 9≠12;omega))
 ·rw[Le q2 k3]
  dsimp only
  rw[if_neg (by decide)]
  have vv:mG {x with done:=true}=false:=by
   unfold mG
   dsimp only
   rw[k3];rfl
  rw[vv,if_neg (by decide)]
  exact cv.kept (ct.c6 bj rA kQ) (ix _) Dt (h.sh.ua bj nN) (dV.refl _ _) jY (n9 rfl) (n12 (by show 9≠12;omega))
theorem O1 (h:cv c K B H s k)(hf:k.frame=some f)(e:f.next=7):Kept c K B H (cq c s k f).1 (ei (cq c s k f).2.1 (cq c s k f).2.2):=by
 have hs:=h.wk.frame f hf
 have b7:=hs.fin (by omega)
 have ct:=h.part hf
 have iZ:=ot h hf (by omega)
 obtain⟨t,q1,q2,q3,q4⟩:=hs.find (.inr e)
 obtain⟨x,x1,x2,x3,x4,x5,x6⟩:=hs.j4 e
 unfold cq
 rw[if_neg (by omega),if_pos e,q1,x1]
 dsimp only
 rw[←x1]
 obtain⟨⟨H',e1,e2,e3⟩,kc,ko⟩:=Bh h.sh.tb h.sh.pl h.gB h.hK q2 (h.Bl.find f t hf (.inr e) q1)
 have bj:(bI s.pl c.nb s.tb t).2.kind=0:=by rw[Hf];exact q4
 have ew:=h.sh.Bi kc
 have ix:∀(g:aP),k.bb.all.length+gH (some g)≤B:=fun g=>by have:=oo g;omega
 generalize bI s.pl c.nb s.tb t=D at*
 obtain⟨dc,t2⟩:=D
 dsimp only at*
 split
 ·rename_i hd
  refine cv.kept ct (ix _) ?_ ew e1 e2 (fun u _ eu=>by injection eu with eu;subst eu;exact e3) (fun u eu=>by have eu:f.next=12:=eu;omega)
  exact {hs.more with
   fin:=fun e=>(hs.fin e).same rfl rfl rfl rfl
   find:=fun _=>⟨t2,rfl,ko,hd,bj⟩}
 rename_i hd
 have hd:t2.done=true:=by simpa using hd
 split
 ·rename_i h0
  obtain hx:=vy (f:={f with find:=some t2}) t2.found t2.aM
  exact cv.kept ct (ix _) (cW.vx (f:={f with find:=some t2}) hs.done hs.cH (b7.same rfl rfl rfl rfl) hs.dM hs.now hs.cE ko.aM ko.sX (ko.qz hd bj h0) ko.sW) ew e1 e2 (fun u eu=>by omega) (fun u eu=>by omega)
 ·refine cv.kept ct (ix _) ?_ ew e1 e2 (fun u eu=>by have eu:8=2∨8=7:=eu;omega) (fun u eu=>by have eu:8=12:=eu;omega)
  exact hs.more.oc (by omega) (by omega) (by show 6≤8;omega) (by show 8≤14;omega) rfl rfl rfl rfl rfl rfl hs.word hs.tr hs.now hs.cE (fun e=>by have e:8=7:=e;omega) (fun e=>by have e:10≤8:=e;omega) (fun e=>by have e:8=6:=e;omega) (fun e=>by have e:8=7:=e;omega)
   (fun _=>⟨CV x,rfl,rfl,rfl,RO x5 x6 (by have:=h.ok.np;unfold mW;omega),rfl,rfl⟩) (fun e=>by have e:8=12:=e;omega) (fun e=>by have e:8=14:=e;omega) (fun e=>by have e:12≤8:=e;omega)
theorem RP {ws:List Nat}{p:bG}(hd:p.done=false)(hk:p.kind=1):(bz ws p).1=ws∧(bz ws p).2.kind=1:=by
 unfold bz
 rw[if_neg (by rw[hd];decide),if_neg (by omega),if_pos hk]
 unfold nW
 split<;>exact⟨rfl,hk⟩
theorem O2 (h:cv c K B H s k)(hf:k.frame=some f)(e:f.next=8):Kept c K B H (cq c s k f).1 (ei (cq c s k f).2.1 (cq c s k f).2.2):=by
 have hs:=h.wk.frame f hf
 have b7:=hs.fin (by omega)
 have hg:=hs.dy (by omega) (by omega)
 have ct:=h.part hf
 have iZ:=ot h hf (by omega)
 have bj:=jb f.ao.proto
 obtain⟨x,q1,q2,q3,q4,q5,q6⟩:=hs.again e
 unfold cq
 rw[if_neg (by omega),if_neg (by omega),if_pos e,q1]
 dsimp only
 obtain⟨kind,cU,done⟩:=x
 dsimp only at q2 q3 q4 q5 q6
 subst q2 q3
 rw[CW]
 have nN:=h.sh.po _ bj
 have kQ:=ct.out _ bj
 obtain⟨d1,d2⟩:=u6 nN.words q4
 obtain⟨d3,d4⟩:=RP (ws:=s.po (aB f.ao.proto)) q6 q5
 have ix:∀(g:aP),k.bb.all.length+gH (some g)≤B:=fun g=>by have:=oo g;omega
 have jY:∀ {ws:List Nat},dF c.nb (s.eO (aB f.ao.proto) ws).tb H (K+1):=fun {ws}=>by rw[(qQ s _ ws).2.1];exact h.gB.more (by omega)
 have ew:gy c (K+1) (s.eO (aB f.ao.proto) (bz (s.po (aB f.ao.proto)) cU).1):=by rw[d3];exact h.sh.ua bj nN
 generalize bz (s.po (aB f.ao.proto)) cU=D at*
 obtain⟨jN,i2⟩:=D
 dsimp only at*
 split
 ·rename_i hd
  refine cv.kept ct (ix _) ?_ ew (dV.refl _ _) jY (fun u eu=>by have eu:f.next=2∨f.next=7:=eu;omega) (fun u eu=>by have eu:f.next=12:=eu;omega)
  exact {hs.more with
   fin:=fun e=>(hs.fin e).same rfl rfl rfl rfl
   again:=fun _=>⟨⟨1,i2,i2.done⟩,rfl,rfl,hd,d2,d4,hd⟩}
 split
 ·exact cv.kept ct (ix _) (cW.nB (f:={f with again:=some ⟨1,i2,i2.done⟩}) hs.done hs.cH (b7.same rfl rfl rfl rfl) hs.dM hs.word hs.tr hs.now hs.cE [] 8) ew (dV.refl _ _) jY (fun u eu=>by have eu:18=2∨18=7:=eu;omega) (fun u eu=>by have eu:18=12:=eu;omega)
 ·exact cv.kept ct (ix _) (cW.Dw (f:={f with again:=some ⟨1,i2,i2.done⟩}) h.ok kQ hs.done hs.cH (b7.same rfl rfl rfl rfl) hg hs.word hs.tr hs.now hs.cE) ew (dV.refl _ _) jY (fun u eu=>by have eu:6=2∨6=7:=eu;omega) (fun u eu=>by have eu:6=12:=eu;omega)
theorem Hm {a:dD}{np:Nat}(h:jq np a)(cg:1≤np):kY a<np:=by
 unfold kY
 rw[List.getD_eq_getElem?_getD]
 rcases Nat.lt_or_ge (a.l.length-1) a.l.length with hl|hl
 ·rw[List.getElem?_eq_getElem hl]
  exact h.lt _ (List.getElem_mem hl)
 ·rw[List.getElem?_eq_none hl];exact cg
theorem O3 (h:cv c K B H s k)(hf:k.frame=some f)(e:f.next=9):Kept c K B H (cq c s k f).1 (ei (cq c s k f).2.1 (cq c s k f).2.2):=by
 have hs:=h.wk.frame f hf
 have ct:=h.part hf
 have iZ:=ot h hf (by omega)
 have bj:=jb f.ao.proto
 have Oj:=Hm (ct.ca _ bj) h.ok.np.1
 unfold cq
 rw[if_neg (by omega),if_neg (by omega),if_neg (by omega),if_pos e]
 obtain⟨l1,l2⟩:=h.sh.pl.cb (id:=((aB f.ao.proto*c.np+kY (k.ca (aB f.ao.proto)):Nat):Int))
 have hid:aB f.ao.proto*c.np+kY (k.ca (aB f.ao.proto))<3*c.np:=by
  generalize kY (k.ca (aB f.ao.proto))=y at*
  generalize aB f.ao.proto=kd at*
  have:kd*c.np≤2*c.np:=Nat.mul_le_mul_right _ (by omega)
  omega
 generalize aB f.ao.proto*c.np+kY (k.ca (aB f.ao.proto))=y at*
 refine cv.kept ct (Nat.le_trans (Nat.add_le_add_left (oo _) _) iZ) ?_ h.sh.more (dV.refl _ _) (h.gB.more (by omega)) (fun u eu=>by have eu:10=2∨10=7:=eu;omega) (fun u eu=>by have eu:10=12:=eu;omega)
 exact hs.more.oc (by omega) (by omega) (by show 6≤10;omega) (by show 10≤14;omega) rfl rfl rfl rfl rfl rfl l1 l2 hs.now hs.cE (fun e=>by have e:10=7:=e;omega) (fun _=>⟨by show(0:Int)≤(y:Int);omega,by show(y:Int)<_;omega⟩) (fun e=>by have e:10=6:=e;omega) (fun e=>by have e:10=7:=e;omega)
  (fun e=>by have e:10=8:=e;omega) (fun e=>by have e:10=12:=e;omega) (fun e=>by have e:10=14:=e;omega) (fun e=>by have e:12≤10:=e;omega)
theorem OR (h:cv c K B H s k)(hf:k.frame=some f)(e:f.next=10):Kept c K B H (cq c s k f).1 (ei (cq c s k f).2.1 (cq c s k f).2.2):=by
 have hs:=h.wk.frame f hf
 have b7:=hs.fin (by omega)
 have ct:=h.part hf
 have iZ:=ot h hf (by omega)
 unfold cq
 rw[if_neg (by omega),if_neg (by omega),if_neg (by omega),if_neg (by omega),if_pos e]
 have hid:=hs.id (.inr ⟨by omega,by omega⟩)
 refine cv.kept ct (Nat.le_trans (Nat.add_le_add_left (oo _) _) iZ) ?_ ⟨h.sh.pl.nY b7.proto b7.addr b7.port,h.sh.tb,h.sh.po,h.sh.ep.more⟩ (dV.refl _ _) (h.gB.more (by omega)) (fun u eu=>by have eu:11=2∨11=7:=eu;omega) (fun u eu=>by have eu:11=12:=eu;omega)
 exact hs.more.oc (by omega) (by omega) (by show 6≤11;omega) (by show 11≤14;omega) rfl rfl rfl rfl rfl rfl hs.word hs.tr hs.now hs.cE (fun e=>by have e:11=7:=e;omega) (fun _=>hid) (fun e=>by have e:11=6:=e;omega) (fun e=>by have e:11=7:=e;omega)
  (fun e=>by have e:11=8:=e;omega) (fun e=>by have e:11=12:=e;omega) (fun e=>by have e:11=14:=e;omega) (fun e=>by have e:12≤11:=e;omega)
theorem QF (hi:eH f):(iJ f).ok∧(iJ f).tr≤4:=by
 have h1:=AO (proto:=f.ao.proto) (s:=0) (flags:=f.part.flags) (out:=true) (by decide)
 have h2:=hi.tick
 exact⟨⟨by show 1≤3;omega,by show(f.word.gen+1)%65536≤65535;omega,by show j1 _ _ _ _≤7;omega,by show f.tick.toNat≤_;omega⟩,h1⟩
theorem OS (h:cv c K B H s k)(hf:k.frame=some f)(e:f.next=11):Kept c K B H (cq c s k f).1 (ei (cq c s k f).2.1 (cq c s k f).2.2):=by
 have hs:=h.wk.frame f hf
 have b7:=hs.fin (by omega)
 have ct:=h.part hf
 have iZ:=ot h hf (by omega)
 have bj:=jb f.ao.proto
 have kQ:=ct.out _ bj
 unfold cq
 rw[if_neg (by omega),if_neg (by omega),if_neg (by omega),if_neg (by omega),if_neg (by omega)]
 have hid:=hs.id (.inr ⟨by omega,by omega⟩)
 obtain⟨n1,n2⟩:=QF b7
 have en:(⟨1,(f.word.gen+1)%65536,j1 f.ao.proto 0 true f.part.flags,f.tick.toNat⟩:br)=iJ f:=rfl
 dsimp only
 rw[en]
 split
 ·obtain⟨c1,c2⟩:=(ct.ca _ bj).pop
  refine cv.kept (ct.c6 bj c1 kQ) (by rw[(nX k _ _).2.2.1];exact Nat.le_trans (Nat.add_le_add_left (oo _) _) iZ) ?_ (h.sh.put n1 n2) (dV.refl _ _) (by rw[(ie _ _ _ _).2.2.1];exact h.gB.more (by omega)) (fun u eu=>by have eu:12=2∨12=7:=eu;omega) (fun u _ eu=>by injection eu with eu;subst eu;exact wR (.inl rfl))
  exact hs.more.oc (by omega) (by omega) (by show 6≤12;omega) (by show 12≤14;omega) rfl rfl rfl rfl rfl rfl n1 n2 hs.now hs.cE (fun e=>by have e:12=7:=e;omega) (fun _=>hid) (fun e=>by have e:12=6:=e;omega) (fun e=>by have e:12=7:=e;omega)
   (fun e=>by have e:12=8:=e;omega) (fun _=>⟨_,rfl,Sb h.ok b7.proto b7.addr b7.port hid.1 hid.2,rfl⟩) (fun e=>by have e:12=14:=e;omega) (fun _=>by rw[CY k bj];exact c2)
 ·refine cv.kept ct (Nat.le_trans (Nat.add_le_add_left (oo _) _) iZ) ?_ h.sh.more (dV.refl _ _) (h.gB.more (by omega)) (fun u eu=>by have eu:9=2∨9=7:=eu;omega) (fun u eu=>by have eu:9=12:=eu;omega)
  exact hs.more.oc (by omega) (by omega) (by show 6≤9;omega) (by show 9≤14;omega) rfl rfl rfl rfl rfl rfl hs.word hs.tr hs.now hs.cE (fun e=>by have e:9=7:=e;omega) (fun e=>by have e:10≤9:=e;omega) (fun e=>by have e:9=6:=e;omega) (fun e=>by have e:9=7:=e;omega)
   (fun e=>by have e:9=8:=e;omega) (fun e=>by have e:9=12:=e;omega) (fun e=>by have e:9=14:=e;omega) (fun e=>by have e:12≤9:=e;omega)
theorem OT (h:cv c K B H s k)(hf:k.frame=some f)(e:f.next=12):Kept c K B H (e9 c s k f).1 (ei (e9 c s k f).2.1 (e9 c s k f).2.2):=by
 have hs:=h.wk.frame f hf
 have ct:=h.part hf
 have iZ:=ot h hf (by omega)
 obtain⟨t,q1,q2,q3⟩:=hs.enter e
 unfold e9
 rw[if_pos e,q1]
 dsimp only
 obtain⟨⟨H',e1,e2,e3⟩,kc,ko⟩:=Bh h.sh.tb h.sh.pl h.gB h.hK q2 (h.Bl.enter f t hf e q1)
 have ew:=h.sh.Bi kc
 have ix:∀(g:aP),k.bb.all.length+gH (some g)≤B:=fun g=>by have:=oo g;omega
 have hid:=hs.id (.inr ⟨by omega,by omega⟩)
 have Ah:=hs.pop (by omega) (by omega)
 generalize bI s.pl c.nb s.tb t=D at*
 obtain⟨dc,t2⟩:=D
 dsimp only at*
 split
 ·rename_i hd
  refine cv.kept ct (ix _) ?_ ew e1 e2 (fun u eu=>by have eu:f.next=2∨f.next=7:=eu;omega) (fun u _ eu=>by injection eu with eu;subst eu;exact e3)
  exact {hs.more with
   fin:=fun e=>(hs.fin e).same rfl rfl rfl rfl
   enter:=fun _=>⟨t2,rfl,ko,hd⟩
   back:=fun e=>by have e:f.next=14:=e;omega}
 ·rename_i hd
  have hd:t2.done=true:=by simpa using hd
  have hx:(if t2.end_=0 then 13 else 14)=13∨(if t2.end_=0 then 13 else 14)=14:=by split<;>omega
  generalize (if t2.end_=0 then 13 else 14)=nx at hx
  refine cv.kept ct (ix _) ?_ ew e1 e2 (fun u eu=>by have eu:nx=2∨nx=7:=eu;omega) (fun u eu=>by have eu:nx=12:=eu;omega)
  exact hs.more.oc (by omega) (by omega) (by show 6≤nx;omega) (by show nx≤14;omega) rfl rfl rfl rfl rfl rfl hs.word hs.tr hs.now hs.cE (fun e=>by have e:nx=7:=e;omega) (fun _=>hid) (fun e=>by have e:nx=6:=e;omega) (fun e=>by have e:nx=7:=e;omega)
   (fun e=>by have e:nx=8:=e;omega) (fun e=>by have e:nx=12:=e;omega) (fun _=>⟨t2,rfl,ko,hd⟩) (fun _=>Ah)
theorem Rg {l:List (Int×dE)}{i:Int}{v:dE}(h:(l.map (·.1)).Nodup):((gX l i v).map (·.1)).Nodup:=by
 unfold gX
 split
 ·have:(l.map fun p=>if p.1=i then(i,v)else p).map (·.1)=l.map (·.1):=by
   rw[List.map_map]
   refine List.map_congr_left fun p _=> ?_
   show(if p.1=i then(i,v)else p).1=p.1
   split
   ·rename_i e;exact e.symm
   ·rfl
  rw[this];exact h
 ·rename_i hh
  rw[List.map_append,List.nodup_append]
  refine⟨h,by simp,fun a ha b hb e=> ?_⟩
  obtain⟨p,p1,p2⟩:=List.mem_map.1 ha
  simp only[List.map_cons,List.map_nil,List.mem_singleton]at hb
  refine hh (List.any_eq_true.2 ⟨p,p1,?_⟩)
  simp[p2,e,hb]
theorem Rf {l:List (Int×dE)}{i:Int}{v:dE}(h:∀p∈l,su p.2)(hv:su v):∀p∈gX l i v,su p.2:=by
 unfold gX
 split
 ·intro p hp
  obtain⟨q,q1,rfl⟩:=List.mem_map.1 hp
  split
  ·exact hv
  ·exact h q q1
 ·intro p hp
  rcases List.mem_append.1 hp with hp|hp
  ·exact h p hp
  ·rw[List.mem_singleton.1 hp];exact hv
theorem KC {k:aU}{p:Nat}{id:Int}{v:br}{t:Int}(hg:lj k.bb)(hi:∀y∈k.bb.all,0≤y.id∧y.id<((3*c.np:Nat):Int))(h0:0≤id)(h1:id<((3*c.np:Nat):Int)):
  lj (iW k p id v t).bb∧(iW k p id v t).bb.aK≤k.bb.aK+1∧(∀y∈(iW k p id v t).bb.all,0≤y.id∧y.id<((3*c.np:Nat):Int))∧(iW k p id v t).bb.all.length≤k.bb.all.length+1:=by
 have add:∀a,a<4294967296→lj (kJ k.bb id a)∧(kJ k.bb id a).aK≤k.bb.aK+1∧(∀y∈(kJ k.bb id a).all,0≤y.id∧y.id<((3*c.np:Nat):Int))∧(kJ k.bb id a).all.length≤k.bb.all.length+1:=fun a ha=>by
  obtain⟨a1,a2,a3,a4⟩:=CA (id:=id) hg ha
  refine⟨a1,by omega,fun y hy=> ?_,by rw[a4.length_eq];simp⟩
  rcases List.mem_cons.1 (a4.mem_iff.1 hy)with rfl|hy
  ·exact⟨h0,h1⟩
  ·exact hi y hy
 have no:lj k.bb∧k.bb.aK≤k.bb.aK+1∧(∀y∈k.bb.all,0≤y.id∧y.id<((3*c.np:Nat):Int))∧k.bb.all.length≤k.bb.all.length+1:=⟨hg,by omega,hi,by omega⟩
 unfold iW
 split
 ·split
  ·exact add _ (by omega)
  ·exact no
 ·split
  ·exact add _ (by omega)
  ·exact no
theorem OU (h:cv c K B H s k)(hf:k.frame=some f)(e:f.next=13):Kept c K B H (e9 c s k f).1 (ei (e9 c s k f).2.1 (e9 c s k f).2.2):=by
 have hs:=h.wk.frame f hf
 have b7:=hs.fin (by omega)
 have ct:=h.part hf
 have iZ:=ot h hf (by omega)
 have hid:=hs.id (.inr ⟨by omega,by omega⟩)
 unfold e9
 rw[if_neg (by omega),if_pos e]
 dsimp only
 obtain⟨w1,w2,w3,w4⟩:=KC (c:=c) (k:={k with b9:=gX k.b9 f.id f.ao}) (p:=jG (f.id.toNat/c.np)) (v:=f.word) (t:=f.tick) ct.bb ct.ids hid.1 hid.2
 have er:=yS {k with b9:=gX k.b9 f.id f.ao} (jG (f.id.toNat/c.np)) f.id f.word f.tick
 generalize iW {k with b9:=gX k.b9 f.id f.ao} (jG (f.id.toNat/c.np)) f.id f.word f.tick=k2 at*
 have rA:∀i,k2.ca i=k.ca i:=fun i=>by rw[er];rfl
 have e4:k2.b9=gX k.b9 f.id f.ao:=by rw[er]
 have e5:k2.ended=k.ended:=by rw[er]
 have e6:k2.bn=k.bn:=by rw[er]
 have ht:=h.wk.aK
 refine cv.kept ⟨fun i hi=>by rw[rA];exact ct.ca i hi,w1,by dsimp only at w2;omega,w3,by rw[e4];exact Rg ct.keys,by rw[e4];exact Rf ct.b9 ⟨b7.proto,b7.addr,b7.port⟩,by rw[e5];exact ct.ended,by rw[e6];exact ct.bn,fun i hi=>by rw[rA];exact ct.out i hi⟩
  (by have:gH (some (f.goes c f.id))=0:=rfl;dsimp only at w4;omega) ?_ (h.sh.put ⟨by show 2≤3;omega,hs.word.2⟩ hs.tr) (dV.refl _ _) (by rw[(ie _ _ _ _).2.2.1];exact h.gB.more (by omega)) (fun u eu=>by have eu:18=2∨18=7:=eu;omega) (fun u eu=>by have eu:18=12:=eu;omega)
 exact cW.nB hs.done hs.cH (b7.same rfl rfl rfl rfl) hs.dM hs.word hs.tr hs.now hs.cE _ _
theorem OV (h:cv c K B H s k)(hf:k.frame=some f)(e:f.next=14):Kept c K B H (e9 c s k f).1 (ei (e9 c s k f).2.1 (e9 c s k f).2.2):=by
 have hs:=h.wk.frame f hf
 have b7:=hs.fin (by omega)
 have ct:=h.part hf
 have iZ:=ot h hf (by omega)
 have bj:=jb f.ao.proto
 have cg:=h.ok.np
 have kQ:=ct.out _ bj
 have Ah:=hs.pop (by omega) (by omega)
 obtain⟨t,q1,q2,q3⟩:=hs.back e
 unfold e9
 rw[if_neg (by omega),if_neg (by omega),q1]
 dsimp only
 rw[←q1]
 have hx:f.id.toNat%c.np<c.np:=Nat.mod_lt _ (by omega)
 obtain⟨c1,_⟩:=(ct.ca _ bj).put cg.2 hx kQ
 have c2:(ke c.np (k.ca (aB f.ao.proto)) (f.id.toNat%c.np)).1.out=none:=by
  rw[(ct.ca _ bj).Re Ah];exact kQ
 have ew:=h.sh.put (id:=f.id) (a:=f.word) (b:={f.word with st:=0}) ⟨by show 0≤3;omega,hs.word.2⟩ hs.tr
 have jY:dF c.nb (bV s f.id f.word {f.word with st:=0}).tb H (K+1):=by rw[(ie _ _ _ _).2.2.1];exact h.gB.more (by omega)
 have ix:∀(g:aP) a,(k.c6 (aB f.ao.proto) a).bb.all.length+gH (some g)≤B:=fun g a=>by
  rw[(nX k _ a).2.2.1];have:=oo g;omega
 split
 ·rename_i vo
  obtain hx:=vy (f:={f with made:=false}) t.found t.aM
  exact cv.kept (ct.c6 bj c1 c2) (ix _ _) (cW.vx (f:={f with made:=false}) hs.done hs.cH (b7.same rfl rfl rfl rfl) hs.dM hs.now hs.cE q2.aM q2.sX (q2.rD q3 vo) q2.sW) ew (dV.refl _ _) jY (fun u eu=>by omega) (fun u eu=>by omega)
 ·exact cv.kept (ct.c6 bj c1 c2) (ix _ _) (cW.nB (f:={f with made:=false}) hs.done hs.cH (b7.same rfl rfl rfl rfl) hs.dM hs.word hs.tr hs.now hs.cE [] 9) ew (dV.refl _ _) jY (fun u eu=>by have eu:18=2∨18=7:=eu;omega) (fun u eu=>by have eu:18=12:=eu;omega)
theorem R9 (h:cv c K B H s k)(hw:w<c.n)(hf:k.frame=some f):Kept c K B H (c7 c w s k f).1 (ei (c7 c w s k f).2.1 (c7 c w s k f).2.2):=by
 have hs:=h.wk.frame f hf
 have hle:=hs.le
 unfold c7
 split
 ·exact OP h hw hf (by assumption)
 split
 ·rename_i e
  obtain⟨p,q1,_⟩:=hs.bR e
  rw[q1]
  exact OQ h hf e q1
 split
 ·rename_i e0 e1 e5
  by_cases e:f.next=2
  ·obtain⟨t,q1,_⟩:=hs.find (.inl e)
   unfold fB
   rw[if_pos e,q1]
   exact OY h hf e q1
  ·exact OZ h hf (by omega) e5
 split
 ·rename_i e0 e1 e5 L3
  have:f.next=6∨f.next=7∨f.next=8∨f.next=9∨f.next=10∨f.next=11:=by omega
  rcases this with e|e|e|e|e|e
  ·exact O0 h hf e
  ·exact O1 h hf e
  ·exact O2 h hf e
  ·exact O3 h hf e
  ·exact OR h hf e
  ·exact OS h hf e
 split
 ·rename_i e0 e1 e5 L3 UE
  have:f.next=12∨f.next=13∨f.next=14:=by omega
  rcases this with e|e|e
  ·exact OT h hf e
  ·exact OU h hf e
  ·exact OV h hf e
 split
 ·exact OW h hf (by omega) (by assumption)
 ·exact OX h hw hf
end
end
section
open Go.RowKit
section
variable {c:NC} {K B w:Nat} {n:dx} {s:bc} {k:aU} {f:aP} {x:fT} {H:Nat→List Nat}
theorem cv.Bg (h:cv c K B H s k)(hB:B≤300)(hw:w<c.n)(hf:k.frame=some f):sH c w s k f:=by
 have hs:=h.wk.frame f hf
 have ct:=h.part hf
 have cg:=h.ok.np
 have hb:=h.wk.kb
 have ht:=h.wk.aK
 have hK:=h.hK
 exact {
  w:=hw
  gs:=h.sh.ep.qq
  ep:=h.sh.ep.ok h.ok h.hK
  pl:=h.sh.pl
  tb:=h.sh.tb
  wk:=⟨ct.out,fun i hi=>(h.sh.po i hi).words⟩
  cH:=hs.cH
  le:=hs.le
  fin:=fun e=>hs.fin (by omega)
  bR:=fun e=>by
   obtain⟨p,a1,a2,a3,_⟩:=hs.bR e
   exact⟨p,a1,a2,a3⟩
  known:=fun e1 e2=>{
   fin:=hs.fin (by omega)
   dM:=hs.dM
   find:=fun e=>by
    obtain⟨t,a1,a2,a3,_⟩:=hs.find (.inl e)
    exact⟨t,a1,a2,a3⟩
   id:=fun e=>hs.id (.inl ⟨by omega,e2⟩)
   word:=hs.word
   now:=hs.now}
  fresh:=fun e1 e2=>{
   fin:=hs.fin (by omega)
   dy:=hs.dy e1 (by omega)
   fill:=fun e=>by
    obtain⟨x,a1,a2,a3⟩:=hs.fill e
    refine⟨x,a1,a2,?_⟩
    rcases a3 with ⟨a3,a4,_⟩|a3
    ·exact .inl ⟨a3,a4.ok⟩
    ·exact .inr a3
   find:=fun e=>by
    obtain⟨t,a1,a2,a3,_⟩:=hs.find (.inr e)
    exact⟨t,a1,a2,a3⟩
   j4:=fun e=>by
    obtain⟨x,a1,a2,a3,a4,a5,a6⟩:=hs.j4 e
    refine⟨x,a1,a2,a3,a4,?_⟩
    have:=(a5.kB a6).1
    rw[this];unfold mW;omega
   again:=fun e=>by
    obtain⟨x,a1,a2,a3,a4,_⟩:=hs.again e
    exact⟨x,a1,a2,a3,a4⟩
   id:=fun e=>hs.id (.inr ⟨by omega,by omega⟩)
   word:=hs.word
   len:=by have:=(ct.ca _ (jb f.ao.proto)).len;omega
   top:=Hm (ct.ca _ (jb f.ao.proto)) cg.1}
  enters:=fun e1 e2=>{
   fin:=hs.fin (by omega)
   dy:=hs.dy (by omega) e2
   enter:=hs.enter
   back:=fun e=>by
    obtain⟨t,a1,_⟩:=hs.back e
    exact⟨t,a1⟩
   id:=hs.id (.inr ⟨by omega,by omega⟩)
   word:=hs.word
   tr:=hs.tr
   bb:=ct.bb
   all:=by omega
   aK:=by omega
   keys:=ct.keys
   room:=fun e=>by have:=hs.pop (by omega) (by omega);omega}
  E0:=fun e1 e2=>{
   fin:=hs.fin (by omega)
   id:=hs.id (.inr ⟨by omega,by omega⟩)
   word:=hs.word
   now:=hs.now
   tr:=hs.tr
   addr:=fun e=>(hs.addr e).1
   port:=fun e=>(hs.addr e).2}}
theorem Safe.base (h:Safe c K B n)(hc:c.Ok)(hK:K<65000)(hw:w<c.n):∃H,cv c K B H n.sh (n.wk.getD w bF)∧∀v,v<c.n→ns H (n.wk.getD v bF):=by
 obtain⟨H,h1,h2⟩:=h.gB
 exact⟨H,⟨hc,hK,h.sh,h.wk w hw,h1,h2 w hw⟩,h2⟩
theorem Safe.kept (h:Safe c K B n)(hw:w<c.n){s':bc}{k':aU}(hk:Kept c K B H s' k')(ht:∀v,v<c.n→ns H (n.wk.getD v bF)):Safe c (K+1) B ⟨s',n.wk.set w k'⟩:=by
 obtain⟨H',e1,e2,e3⟩:=hk.gB
 have hl:=h.wl
 refine⟨by dsimp only;rw[List.length_set];exact hl,hk.sh,fun v hv=> ?_,H',e2,fun v hv=> ?_⟩
 ·dsimp only
  rw[rp _ _ _ _ (by omega)]
  split
  ·exact hk.wk
  ·exact(h.wk v hv).more
 ·dsimp only
  rw[rp _ _ _ _ (by omega)]
  split
  ·exact e3
  ·exact(ht v hv).ext (h.wk v hv) e1
theorem Safe.Bg (h:Safe c K B n)(hc:c.Ok)(hK:K<65000)(hB:B≤300)(hw:w<c.n){f:aP}(hf:(n.wk.getD w bF).frame=some f):(n.wk.getD w bF).bn=none∧sH c w n.sh (n.wk.getD w bF) f:=by
 obtain⟨H,hb,_⟩:=h.base hc hK hw
 exact⟨hb.wk.one (by rw[hf];rfl),hb.Bg hB hw hf⟩
theorem Safe.LY (h:Safe c K B n)(hc:c.Ok)(hK:K<65000)(hw:w<c.n){f:aP}(hf:(n.wk.getD w bF).frame=some f):Safe c (K+1) B (iI c w n).1:=by
 obtain⟨H,hb,ht⟩:=h.base hc hK hw
 rw[F2 h.wl hw hf]
 exact h.kept hw (R9 hb hw hf) ht
theorem lM.room (h:lM c K B k):lM c K (B+1) k:={h with kb:=by have:=h.kb;omega}
theorem Safe.room (h:Safe c K B n):Safe c K (B+1) n:=⟨h.wl,h.sh,fun v hv=>(h.wk v hv).room,h.gB⟩
theorem Safe.fq (h:Safe c K B n)(hw:w<c.n){k':aU}(hk:lM c K B k')(ht:∀H,ns H k'):Safe c K B ⟨n.sh,n.wk.set w k'⟩:=by
 obtain⟨H,h1,h2⟩:=h.gB
 have hl:=h.wl
 refine⟨by dsimp only;rw[List.length_set];exact hl,h.sh,fun v hv=> ?_,H,h1,fun v hv=> ?_⟩
 ·dsimp only
  rw[rp _ _ _ _ (by omega)]
  split
  ·exact hk
  ·exact h.wk v hv
 ·dsimp only
  rw[rp _ _ _ _ (by omega)]
  split
  ·exact ht H
  ·exact h2 v hv
def KO (k:aU)(out:Bool)(b:List UInt8)(tick:Int):aU:={k with frame:=some (qp out b tick)}
theorem K9 (h:k.busy=false):k.frame=none∧k.bn=none:=by
 unfold aU.busy at h
 rw[Bool.or_eq_false_iff]at h
 obtain⟨h1,h2⟩:=h
 exact⟨by simpa using h1,by simpa using h2⟩
theorem Safe.begin (h:Safe c K B n)(hw:w<c.n)(hi:(n.wk.getD w bF).busy=false)(out:Bool){b:List UInt8}(hb:b.length≤140737488355328)(tick:Int):Safe c K (B+1) ⟨n.sh,n.wk.set w (KO (n.wk.getD w bF) out b tick)⟩:=by
 obtain⟨i1,i2⟩:=K9 hi
 have hk:=h.wk w hw
 refine h.room.fq hw ?_ (fun H=>⟨fun g t e1 e2=> ?_,fun g t e1 e2=> ?_,fun y t e1=> ?_⟩)
 ·exact {
   ca:=hk.ca
   bb:=hk.bb
   aK:=hk.aK
   ids:=hk.ids
   keys:=hk.keys
   b9:=hk.b9
   ended:=hk.ended
   kb:=by
    show(n.wk.getD w bF).bb.all.length+1+qV (n.wk.getD w bF).bn≤B+1
    have:=hk.kb
    rw[i2]at this ⊢
    have e:qV none=0:=rfl
    rw[e]at this ⊢
    omega
   one:=fun _=>i2
   frame:=fun g e=>by
    injection e with e
    subst e
    exact {
     le:=by show 0≤18;omega
     done:=rfl
     cH:=hb
     fin:=fun e=>absurd rfl e
     dM:=fun e=>by cases e
     bR:=fun e=>by have e:0=1:=e;omega
     start:=fun _=>rfl
     me:=fun e=>by have e:0=1:=e;omega
     find:=fun e=>by have e:0=2∨0=7:=e;omega
     id:=fun e=>by have e:(3≤0∧0≤5)∨(10≤0∧0≤17):=e;omega
     word:=wY
     tr:=by show 0≤4;omega
     now:=wY
     cE:=by show 0≤4;omega
     dy:=fun e=>by have e:6≤0:=e;omega
     fill:=fun e=>by have e:0=6:=e;omega
     j4:=fun e=>by have e:0=7:=e;omega
     again:=fun e=>by have e:0=8:=e;omega
     enter:=fun e=>by have e:0=12:=e;omega
     back:=fun e=>by have e:0=14:=e;omega
     pop:=fun e=>by have e:12≤0:=e;omega
     addr:=fun e=>by have e:0=17:=e;omega}
   bn:=fun y e=>by
    have e:(n.wk.getD w bF).bn=some y:=e
    rw[i2]at e;cases e
   out:=fun _=>hk.out i2}
 ·injection e1 with e1;subst e1
  have e2:0=2∨0=7:=e2
  omega
 ·injection e1 with e1;subst e1
  have e2:0=12:=e2
  omega
 ·have e1:(n.wk.getD w bF).bn=some y:=e1
  rw[i2]at e1;cases e1
theorem F5 {w:Nat}(hw:w<c.n):(ez c).wk.getD w bF=jM w:=by
 unfold ez
 simp[List.getD_eq_getElem?_getD,hw]
theorem rT {α:Type}(m i:Nat)(v:α):(List.replicate m v).getD i v=v:=by
 rw[List.getD_eq_getElem?_getD,List.getElem?_replicate]
 split<;>rfl
theorem Safe.new (hc:c.Ok):Safe c 0 0 (ez c):=by
 have cg:=hc.np
 have Et:=hc.nb
 refine⟨by unfold ez;simp,⟨⟨by unfold ez;simp,fun j=> ?_,fun x=> ?_⟩,?_,fun i hi=> ?_,?_⟩,fun w hw=> ?_,fun _=>[0],?_,fun w hw=> ?_⟩
 ·show(List.replicate (2*(3*c.np)) 0).getD j 0<_
  rw[rT];decide
 ·show(br.of ((List.replicate (2*(3*c.np)) 0).getD (2*x) 0)).tr≤4
  rw[rT];decide
 ·have e:∀j,(ez c).sh.tb.getD j 0=0:=fun j=>rT _ _ _
  refine⟨by unfold ez;simp,Et.1,Et.2,by omega,by omega,fun j=>by rw[e];decide,fun b _=>by rw[e];exact wB,?_,?_,?_⟩
  all_goals (rw[e];show 0<_;omega)
 ·have e:(ez c).sh.po i=cJ c.np:=by unfold ez bc.po;(repeat' split)<;>rfl
  rw[e]
  exact p9.new cg.1 cg.2
 ·have e:∀j,(ez c).sh.ep.getD j 0=0:=fun j=>rT _ _ _
  have e2:∀j,(ez c).sh.gs.getD j []=[]:=fun j=>rT _ _ _
  refine⟨by unfold ez;simp,by unfold ez;simp,by rw[e];omega,fun j=>by rw[e];omega,fun i t ht=> ?_,fun i=>by rw[e2];exact Nat.le_refl _⟩
  rw[e2]at ht;cases ht
 ·rw[F5 hw]
  have jz:(jM w).bb.all=[]:=F9
  exact {
   ca:=fun i hi=>by
    have e:(jM w).ca i=qf w:=by unfold jM aU.ca;(repeat' split)<;>rfl
    rw[e];exact jq.new w
   bb:=Qw
   aK:=Nat.le_refl _
   ids:=fun y hy=>by rw[jz]at hy;cases hy
   keys:=by show([]:List Int).Nodup;exact List.nodup_nil
   b9:=fun p hp=>by cases hp
   ended:=Nat.zero_le _
   kb:=by rw[jz];exact Nat.le_refl _
   one:=fun e=>by cases e
   frame:=fun g e=>by cases e
   bn:=fun y e=>by cases e
   out:=fun _ i hi=>by
    have e:(jM w).ca i=qf w:=by unfold jM aU.ca;(repeat' split)<;>rfl
    rw[e];rfl}
 ·have e:∀j,(ez c).sh.tb.getD j 0=0:=fun j=>rT _ _ _
  refine⟨fun b hb=>⟨by decide,by rw[e];rfl⟩,fun b hb i hi=> ?_,fun b hb=>by decide,fun hp=> ?_⟩
  ·have:i=0:=by have:i<1:=hi;omega
   subst this
   rfl
  ·rw[e]at hp;exact absurd rfl hp
 ·rw[F5 hw]
  exact⟨fun g t e=>(by cases e),fun g t e=>(by cases e),fun y t e=>(by cases e)⟩
end
end
section
open Go.RowKit
abbrev CM:oy:=⟨nC,0,0,0⟩
def mB (l:List oy):List Value:=l.flatMap CN
theorem KK (l:List oy)(b:oy):mB (l++[b])=mB l++CN b:=by simp[mB]
end
section
open Go.RowKit
set_option maxRecDepth 10000
attribute [local irreducible] EK EX ER EN EL ES EG av aV aY
variable {W:World} {F:SL} {X:Cx} {k:List KI} {σ:Env}
section
variable {p:Option Addr} {c:Nat} {l:List UInt8}
theorem Rr (hl:l.length≤140737488355328)[s:Src W F p l.length (aD l)][r:Room W F p l.length c]:Spec Tryz.prog 73 [.slice p l.length c] W F (fun _:Unit=> .tuple #[.agg (bu (kx l)).toArray,.bool (decide (dv l=0))]) (fun _=>F):=by
 refine Spec.of Tryz.func73 rfl Tryz.ntmps73 rfl ?_
 repeat first|refine aa ?_ |intro
 refine af rfl (GI false hl) ?_
 intro _
 by_cases g1:c5 false l=0
 ·have g0:=ni.of g1
  have eR:dv l=ic (aW l) l:=if_pos g1
  rw[kl g1,g1,if_pos rfl]
  repeat first|refine aa ?_ |intro
  refine af rfl (Ro (aW l) g0) ?_
  intro _
  by_cases g2:ic (aW l) l=0
  ·have iv:dv l=0:=by rw[eR,g2]
   rw[show mg (aW l) l=dY l from if_pos g2,g2,show kx l=dY l from if_pos iv,iv]
   repeat first|refine aa ?_ |intro
   exact ae (aZ (rs:=[.cell 2 117,.tmp 3]) (v:= .agg (bu (dY l)).toArray) (u:= .bool true) (vs:=[]) rfl ⟨⟨_,rfl,aT.agg rfl⟩,rfl,trivial⟩ () rfl (U.sat (az)))
  ·have iv:¬dv l=0:=by rw[eR];exact g2
   rw[show mg (aW l) l=bm from if_neg g2,show kx l=bm from if_neg iv,decide_eq_false iv]
   repeat first|refine aa ?_ |intro
   exact ae (aZ (rs:=[.cell 2 117,.tmp 3]) (v:= .agg (bu bm).toArray) (u:= .bool false) (vs:=[]) rfl ⟨⟨_,rfl,aT.agg rfl⟩,rfl,trivial⟩ () rfl (U.sat (az)))
 ·have eR:dv l=c5 false l:=if_neg g1
  have iv:¬dv l=0:=by rw[eR];exact g1
  rw[kl (rfl:c5 false l=_),if_neg g1,show kx l=bm from if_neg iv,decide_eq_false iv]
  repeat first|refine aa ?_ |intro
  exact ae (aZ (rs:=[.cell 2 117,.tmp 3]) (v:= .agg (bu bm).toArray) (u:= .bool false) (vs:=[]) rfl ⟨⟨_,rfl,aT.agg rfl⟩,rfl,trivial⟩ () rfl (U.sat (az)))
end
end
section
open Go.RowKit
set_option maxRecDepth 10000
attribute [local irreducible] EK EX ER EN EL ES EG av aV aY
variable {W:World} {F:SL} {X:Cx} {k:List KI} {σ:Env} {pn:Option Addr} {c:NC} {R:lI}
attribute [local simp] GA C9 pz
theorem I8:Spec Tryz.prog 24 [.pointer pn] W (bT pn c R F) (fun _:Unit=>c.cfg.val) (fun _=>bT pn c R F):=by
 refine Spec.of Tryz.func24 rfl Tryz.ntmps24 rfl ?_
 simp only[bT]
 repeat first|refine aa ?_ |intro
 refine ae (js (rv:= .cell 2 63) rfl ⟨_,rfl,aT.agg rfl⟩ () rfl (U.sat ?_))
 exact ab
theorem I7:Spec Tryz.prog 24 [.pointer none] W F (fun _:Unit=> .agg #[.int .i64 0,.int .u32 0,.int .i64 0,.int .i64 0,.int .i64 0,.int .i64 0]) (fun _=>F):=by
 refine Spec.of Tryz.func24 rfl Tryz.ntmps24 rfl ?_
 repeat first|refine aa ?_ |intro
 refine ae (js (rv:= .cell 2 63) rfl ⟨_,rfl,aT.agg rfl⟩ () rfl (U.sat ?_))
 exact ab
theorem w8 {p0 p1 p2:Option Addr}{wk:Nat→j8}{n w:Nat}(hw:w<n)(G:SL):aE (iq p0 p1 p2 wk) n*G=Obj (wk w).p 148 (Bv (wk w))*(aX (wk w).c0 p0 w [] none*(aX (wk w).c1 p1 w [] none*(aX (wk w).c2 p2 w [] none*(di (wk w).wh jg*(SL.cC (wk w).m (.map #[] 0)*(aE (dw (iq p0 p1 p2 wk) w) n*G)))))):=by
 rw[aE.at n hw,SL.bU,iq.eq]
theorem A7 (hc:c.Ok){w id:Nat}(hw:w<c.n)(hid:id<1000000):Spec Tryz.prog 68 [.pointer pn,.int .i64 (w:Int),.int .i64 (id:Int)] W (bT pn c R F) (fun _:Unit=> .bool false) (fun _=>bT pn c R F):=by
 refine Spec.of Tryz.func68 rfl Tryz.ntmps68 rfl ?_
 have hn:=hc.n
 have Ec:(List.replicate c.n ([]:List (Nat×Nat))).getD w []=[]:=by simp[List.getD_eq_getElem?_getD,hw]
 simp only[bT]
 rw[w8 hw]
 repeat first|refine aa ?_ |intro
 refine af rfl (Spec.aL R.ep (JE R.ep (w:=w) (by simpa using hw) (by simpa using hn.2) (by rw[Ec];decide))) ?_
 intro q
 rw[Ec]
 simp only[List.map_nil]
 repeat first|refine aa ?_ |intro
 refine af rfl (Ls q.1 q.2 [] id (by decide)) ?_
 intro _
 rw[decide_eq_false (by simp)]
 repeat first|refine aa ?_ |intro
 exact ae (ar rfl rfl () rfl (U.sat (ab)))
theorem y6 (x:Nat):Spec Tryz.prog 63 [.slice none 0 0,.int .i64 (x:Int)] W F (fun _:Unit=> .bool false) (fun _=>F):=by
 haveI:Src W F none 0 (bA .i64 []):=⟨fun _ _ i v h=>by simp[bA]at h,fun _ _ h=>by omega⟩
 have h:=qh (W:=W) (F:=F) none 0 [] x (by decide)
 rw[decide_eq_false (by simp)]at h
 exact h
def jf:List (Int×Int):=[(1, -1)]
theorem wg:iu jf=[.int .i64 1,.int .i64 (-1)]:=rfl
theorem AA {kd x np:Nat}(hx:x<np):((kd*np+x:Nat):Int)/(np:Int)=(kd:Int)∧((kd*np+x:Nat):Int)%(np:Int)=(x:Int):=by
 have h1:(kd*np+x)/np=kd:=by
  rw[Nat.add_comm,Nat.mul_comm,Nat.add_mul_div_left _ _ (by omega),Nat.div_eq_of_lt hx,Nat.zero_add]
 have h2:(kd*np+x)%np=x:=by
  rw[Nat.add_comm,Nat.add_mul_mod_self_right,Nat.mod_eq_of_lt hx]
 exact⟨by rw[←Int.natCast_ediv,h1],by rw[←Int.natCast_emod,h2]⟩
theorem AX (hc:c.Ok){kd x:Nat}(hk:kd≤2)(hx:x<c.np):fN c.cfg (jh kd) ((c.lo:Int)+x)=((kd*c.np+x:Nat):Int):=by
 have hp:=hc.bo
 have h1:ff (jh kd)=kd:=Pd kd (by omega) (by omega)
 obtain⟨_,_,h3,_,_⟩:=hc
 unfold fN
 rw[hp,h1]
 have h2:¬((c.np:Int)=0∨(kd:Int)<0∨¬(c.cfg.lo≤(c.lo:Int)+x∧(c.lo:Int)+x≤c.cfg.hi)):=by
  unfold NC.np at hx
  unfold NC.cfg
  dsimp only
  unfold NC.np
  omega
 rw[if_neg h2,show c.cfg.lo=(c.lo:Int)from rfl,Int.natCast_add,Int.natCast_mul]
 omega
set_option maxHeartbeats 4000000 in
theorem Ln (hc:c.Ok){x:Nat}(hx:x<c.np)(hf:x∈fc (cJ c.np) ((c.np+31)/32*32)):Spec Tryz.prog 23 [.pointer pn,.int .i64 (jh 0),.int .i64 ((c.lo:Int)+x)] W (bT pn c R F) (fun z:aO=> .slice z.1 1 z.2) (fun z=>an 69 2 z.1 1 z.2 (iu jf)*bT pn c R F):=by
 refine Spec.of Tryz.func23 rfl Tryz.ntmps23 rfl ?_
 have hn:=hc.n
 have cg:1≤c.np∧c.np≤1024:=by
  obtain⟨_,_,h3,_,_⟩:=hc
  unfold NC.np
  omega
 haveI:Pos c.np:=⟨cg.1⟩
 have Eo:(c.lo:Int)≤65535:=by
  obtain⟨_,_,h3,_,_⟩:=hc
  omega
 have gn:=AX hc (kd:=0) (x:=x) (by decide) hx
 obtain⟨hq,hr⟩:=AA (kd:=0) hx
 have ta:0*c.np+x<3072:=by omega
 have pg:0*c.np+x<3*c.np:=by omega
 generalize Ef:0*c.np+x=id at gn hq hr ta pg
 have nI:=vk (cJ c.np) ((c.np+31)/32*32)
 simp only[bT]
 refine uD (U.sat (U.none (e:=69) (sz:=2) (U.refl _))) ?_
 repeat first|refine aa ?_ |intro
 refine af rfl (sD c.cfg hc.fit _ _ (by unfold gJ;omega)) ?_
 intro _
 rw[show(((0:Nat):Int))=(0:Int)from rfl]at gn
 rw[gn]
 repeat first|refine aa ?_ |intro
 refine lb rfl (by kernel_rfl) ?_
 repeat(refine cI ?_)
 rw[hq,hr]
 repeat first|refine aa ?_ |intro
 refine af rfl (Spec.aL R.p0 (xt (wi cg.1 cg.2))) ?_
 intro fr
 repeat first|refine aa ?_ |intro
 refine af rfl (qh fr.1 fr.2 _ x (by omega)) ?_
 intro _
 rw[decide_eq_true hf]
 repeat first|refine aa ?_ |intro
 rename_i z
 refine sk (γ:=Unit) (fun _=>True) (fun _=>[(0,.pointer pn),(7,.int .i64 (id:Int)),(10,.slice z.1 1 z.2)]) (fun _=>an 69 2 z.1 1 z.2 (iu jf)*bT pn c R F) ?_ ?_
 ·refine ed (γ:=Nat) (fun w=>w≤c.n) (fun w=>[(0,.pointer pn),(7,.int .i64 (id:Int)),(8,.int .i64 0),(9,.int .i64 (x:Int)),(10,.slice z.1 1 z.2),(55,.slice R.ws.1 c.n R.ws.2),(56,.int .i64 (c.n:Int)),(57,.int .i64 (w:Int))]) (fun _=>an 69 2 z.1 1 z.2 (iu jf)*bT pn c R F) (fun w=>c.n-w) 0 (Nat.zero_le _) ⟨rfl,rfl,rfl,rfl,rfl,rfl,rfl,rfl,trivial⟩ (U.sat ?_) ?_
  ·simp only[bT,wg,List.nil_append,Nat.zero_add]
   exact ab
  intro w h1
  by_cases hw:w<c.n
  ·simp only[bT]
   rw[w8 hw]
   repeat first|refine aa ?_ |intro
   refine af rfl (Spec.aL (R.wk w).c0 (xh (by decide))) ?_
   intro al
   repeat first|refine aa ?_ |intro
   refine af rfl (qh al.1 al.2 [] x (by decide)) ?_
   intro _
   rw[decide_eq_false (by simp)]
   repeat first|refine aa ?_ |intro
   refine af rfl (Spec.aL (R.wk w).c0 xG) ?_
   intro _
   repeat first|refine aa ?_ |intro
   refine af rfl (y6 x) ?_
   intro _
   repeat first|refine aa ?_ |intro
   refine db (w+1) (by omega) (by omega) ⟨rfl,rfl,rfl,rfl,rfl,rfl,rfl,rfl,trivial⟩ (U.sat ?_)
   exact ab
  ·have e:w=c.n:=by omega
   subst e
   repeat first|refine aa ?_ |intro
   exact fv () trivial ⟨rfl,rfl,rfl,trivial⟩ (U.sat (ab))
 ·intro _ _
  simp only[bT]
  repeat first|refine aa ?_ |intro
  refine af rfl (Spec.aL R.pl (p8 (n:=3*c.np) (by simp) (by omega) pg (fun j=>by rw[List.getD_eq_getElem?_getD,List.getElem?_replicate];split<;>simp))) ?_
  intro _
  have hz:(List.replicate (2*(3*c.np)) 0).getD (2*id) 0=0:=by rw[List.getD_eq_getElem?_getD,List.getElem?_replicate];split<;>rfl
  rw[hz]
  repeat first|refine aa ?_ |intro
  refine ed (γ:=Nat) (fun w=>w≤c.n) (fun w=>[(0,.pointer pn),(7,.int .i64 (id:Int)),(10,.slice z.1 1 z.2),(105,.int .i64 (c.n:Int)),(106,.int .i64 (w:Int))]) (fun _=>an 69 2 z.1 1 z.2 (iu jf)*bT pn c R F) (fun w=>c.n-w) 0 (Nat.zero_le _) ⟨rfl,rfl,rfl,rfl,rfl,trivial⟩ (U.sat ?_) ?_
  ·simp only[bT]
   exact ab
  intro w h1
  by_cases hw:w<c.n
  ·repeat first|refine aa ?_ |intro
   refine af rfl (Spec.pre (A7 (R:=R) (F:=an 69 2 z.1 1 z.2 (iu jf)*F) hc hw (by omega)) (by simp only[bT];exact ab)) ?_
   intro _
   repeat first|refine aa ?_ |intro
   refine db (w+1) (by omega) (by omega) ⟨rfl,rfl,rfl,rfl,rfl,trivial⟩ (U.sat ?_)
   simp only[bT]
   exact ab
  ·have e:w=c.n:=by omega
   subst e
   repeat first|refine aa ?_ |intro
   exact ae (ar rfl rfl z rfl (U.sat (U.refl _)))
set_option maxHeartbeats 4000000 in
theorem Lo (hc:c.Ok){x:Nat}(hx:x<c.np)(hf:x∈fc (cJ c.np) ((c.np+31)/32*32)):Spec Tryz.prog 23 [.pointer pn,.int .i64 (jh 1),.int .i64 ((c.lo:Int)+x)] W (bT pn c R F) (fun z:aO=> .slice z.1 1 z.2) (fun z=>an 69 2 z.1 1 z.2 (iu jf)*bT pn c R F):=by
 refine Spec.of Tryz.func23 rfl Tryz.ntmps23 rfl ?_
 have hn:=hc.n
 have cg:1≤c.np∧c.np≤1024:=by
  obtain⟨_,_,h3,_,_⟩:=hc
  unfold NC.np
  omega
 haveI:Pos c.np:=⟨cg.1⟩
 have Eo:(c.lo:Int)≤65535:=by
  obtain⟨_,_,h3,_,_⟩:=hc
  omega
 have gn:=AX hc (kd:=1) (x:=x) (by decide) hx
 obtain⟨hq,hr⟩:=AA (kd:=1) hx
 have ta:1*c.np+x<3072:=by omega
 have pg:1*c.np+x<3*c.np:=by omega
 generalize Ef:1*c.np+x=id at gn hq hr ta pg
 have nI:=vk (cJ c.np) ((c.np+31)/32*32)
 simp only[bT]
 refine uD (U.sat (U.none (e:=69) (sz:=2) (U.refl _))) ?_
 repeat first|refine aa ?_ |intro
 refine af rfl (sD c.cfg hc.fit _ _ (by unfold gJ;omega)) ?_
 intro _
 rw[show(((1:Nat):Int))=(1:Int)from rfl]at gn
 rw[gn]
 repeat first|refine aa ?_ |intro
 refine lb rfl (by kernel_rfl) ?_
 repeat(refine cI ?_)
 rw[hq,hr]
 repeat first|refine aa ?_ |intro
 refine af rfl (Spec.aL R.p1 (xt (wi cg.1 cg.2))) ?_
 intro fr
 repeat first|refine aa ?_ |intro
 refine af rfl (qh fr.1 fr.2 _ x (by omega)) ?_
 intro _
 rw[decide_eq_true hf]
 repeat first|refine aa ?_ |intro
 rename_i z
 refine sk (γ:=Unit) (fun _=>True) (fun _=>[(0,.pointer pn),(7,.int .i64 (id:Int)),(10,.slice z.1 1 z.2)]) (fun _=>an 69 2 z.1 1 z.2 (iu jf)*bT pn c R F) ?_ ?_
 ·refine ed (γ:=Nat) (fun w=>w≤c.n) (fun w=>[(0,.pointer pn),(7,.int .i64 (id:Int)),(8,.int .i64 1),(9,.int .i64 (x:Int)),(10,.slice z.1 1 z.2),(55,.slice R.ws.1 c.n R.ws.2),(56,.int .i64 (c.n:Int)),(57,.int .i64 (w:Int))]) (fun _=>an 69 2 z.1 1 z.2 (iu jf)*bT pn c R F) (fun w=>c.n-w) 0 (Nat.zero_le _) ⟨rfl,rfl,rfl,rfl,rfl,rfl,rfl,rfl,trivial⟩ (U.sat ?_) ?_
  ·simp only[bT,wg,List.nil_append,Nat.zero_add]
   exact ab
  intro w h1
  by_cases hw:w<c.n
  ·simp only[bT]
   rw[w8 hw]
   repeat first|refine aa ?_ |intro
   refine af rfl (Spec.aL (R.wk w).c1 (xh (by decide))) ?_
   intro al
   repeat first|refine aa ?_ |intro
   refine af rfl (qh al.1 al.2 [] x (by decide)) ?_
   intro _
   rw[decide_eq_false (by simp)]
   repeat first|refine aa ?_ |intro
   refine af rfl (Spec.aL (R.wk w).c1 xG) ?_
   intro _
   repeat first|refine aa ?_ |intro
   refine af rfl (y6 x) ?_
   intro _
   repeat first|refine aa ?_ |intro
   refine db (w+1) (by omega) (by omega) ⟨rfl,rfl,rfl,rfl,rfl,rfl,rfl,rfl,trivial⟩ (U.sat ?_)
   exact ab
  ·have e:w=c.n:=by omega
   subst e
   repeat first|refine aa ?_ |intro
   exact fv () trivial ⟨rfl,rfl,rfl,trivial⟩ (U.sat (ab))
 ·intro _ _
  simp only[bT]
  repeat first|refine aa ?_ |intro
  refine af rfl (Spec.aL R.pl (p8 (n:=3*c.np) (by simp) (by omega) pg (fun j=>by rw[List.getD_eq_getElem?_getD,List.getElem?_replicate];split<;>simp))) ?_
  intro _
  have hz:(List.replicate (2*(3*c.np)) 0).getD (2*id) 0=0:=by rw[List.getD_eq_getElem?_getD,List.getElem?_replicate];split<;>rfl
  rw[hz]
  repeat first|refine aa ?_ |intro
  refine ed (γ:=Nat) (fun w=>w≤c.n) (fun w=>[(0,.pointer pn),(7,.int .i64 (id:Int)),(10,.slice z.1 1 z.2),(105,.int .i64 (c.n:Int)),(106,.int .i64 (w:Int))]) (fun _=>an 69 2 z.1 1 z.2 (iu jf)*bT pn c R F) (fun w=>c.n-w) 0 (Nat.zero_le _) ⟨rfl,rfl,rfl,rfl,rfl,trivial⟩ (U.sat ?_) ?_
  ·simp only[bT]
   exact ab
  intro w h1
  by_cases hw:w<c.n
  ·repeat first|refine aa ?_ |intro
   refine af rfl (Spec.pre (A7 (R:=R) (F:=an 69 2 z.1 1 z.2 (iu jf)*F) hc hw (by omega)) (by simp only[bT];exact ab)) ?_
   intro _
   repeat first|refine aa ?_ |intro
   refine db (w+1) (by omega) (by omega) ⟨rfl,rfl,rfl,rfl,rfl,trivial⟩ (U.sat ?_)
   simp only[bT]
   exact ab
  ·have e:w=c.n:=by omega
   subst e
   repeat first|refine aa ?_ |intro
   exact ae (ar rfl rfl z rfl (U.sat (U.refl _)))
set_option maxHeartbeats 4000000 in
theorem Lp (hc:c.Ok){x:Nat}(hx:x<c.np)(hf:x∈fc (cJ c.np) ((c.np+31)/32*32)):Spec Tryz.prog 23 [.pointer pn,.int .i64 (jh 2),.int .i64 ((c.lo:Int)+x)] W (bT pn c R F) (fun z:aO=> .slice z.1 1 z.2) (fun z=>an 69 2 z.1 1 z.2 (iu jf)*bT pn c R F):=by
 refine Spec.of Tryz.func23 rfl Tryz.ntmps23 rfl ?_
 have hn:=hc.n
 have cg:1≤c.np∧c.np≤1024:=by
  obtain⟨_,_,h3,_,_⟩:=hc
  unfold NC.np
  omega
 haveI:Pos c.np:=⟨cg.1⟩
 have Eo:(c.lo:Int)≤65535:=by
  obtain⟨_,_,h3,_,_⟩:=hc
  omega
 have gn:=AX hc (kd:=2) (x:=x) (by decide) hx
 obtain⟨hq,hr⟩:=AA (kd:=2) hx
 have ta:2*c.np+x<3072:=by omega
 have pg:2*c.np+x<3*c.np:=by omega
 generalize Ef:2*c.np+x=id at gn hq hr ta pg
 have nI:=vk (cJ c.np) ((c.np+31)/32*32)
 simp only[bT]
 refine uD (U.sat (U.none (e:=69) (sz:=2) (U.refl _))) ?_
 repeat first|refine aa ?_ |intro
 refine af rfl (sD c.cfg hc.fit _ _ (by unfold gJ;omega)) ?_
 intro _
 rw[show(((2:Nat):Int))=(2:Int)from rfl]at gn
 rw[gn]
 repeat first|refine aa ?_ |intro
 refine lb rfl (by kernel_rfl) ?_
 repeat(refine cI ?_)
 rw[hq,hr]
 repeat first|refine aa ?_ |intro
 refine af rfl (Spec.aL R.p2 (xt (wi cg.1 cg.2))) ?_
 intro fr
 repeat first|refine aa ?_ |intro
 refine af rfl (qh fr.1 fr.2 _ x (by omega)) ?_
 intro _
 rw[decide_eq_true hf]
 repeat first|refine aa ?_ |intro
 rename_i z
 refine sk (γ:=Unit) (fun _=>True) (fun _=>[(0,.pointer pn),(7,.int .i64 (id:Int)),(10,.slice z.1 1 z.2)]) (fun _=>an 69 2 z.1 1 z.2 (iu jf)*bT pn c R F) ?_ ?_
 ·refine ed (γ:=Nat) (fun w=>w≤c.n) (fun w=>[(0,.pointer pn),(7,.int .i64 (id:Int)),(8,.int .i64 2),(9,.int .i64 (x:Int)),(10,.slice z.1 1 z.2),(55,.slice R.ws.1 c.n R.ws.2),(56,.int .i64 (c.n:Int)),(57,.int .i64 (w:Int))]) (fun _=>an 69 2 z.1 1 z.2 (iu jf)*bT pn c R F) (fun w=>c.n-w) 0 (Nat.zero_le _) ⟨rfl,rfl,rfl,rfl,rfl,rfl,rfl,rfl,trivial⟩ (U.sat ?_) ?_
  ·simp only[bT,wg,List.nil_append,Nat.zero_add]
   exact ab
  intro w h1
  by_cases hw:w<c.n
  ·simp only[bT]
   rw[w8 hw]
   repeat first|refine aa ?_ |intro
   refine af rfl (Spec.aL (R.wk w).c2 (xh (by decide))) ?_
   intro al
   repeat first|refine aa ?_ |intro
   refine af rfl (qh al.1 al.2 [] x (by decide)) ?_
   intro _
   rw[decide_eq_false (by simp)]
   repeat first|refine aa ?_ |intro
   refine af rfl (Spec.aL (R.wk w).c2 xG) ?_
   intro _
   repeat first|refine aa ?_ |intro
   refine af rfl (y6 x) ?_
   intro _
   repeat first|refine aa ?_ |intro
   refine db (w+1) (by omega) (by omega) ⟨rfl,rfl,rfl,rfl,rfl,rfl,rfl,rfl,trivial⟩ (U.sat ?_)
   exact ab
  ·have e:w=c.n:=by omega
   subst e
   repeat first|refine aa ?_ |intro
   exact fv () trivial ⟨rfl,rfl,rfl,trivial⟩ (U.sat (ab))
 ·intro _ _
  simp only[bT]
  repeat first|refine aa ?_ |intro
  refine af rfl (Spec.aL R.pl (p8 (n:=3*c.np) (by simp) (by omega) pg (fun j=>by rw[List.getD_eq_getElem?_getD,List.getElem?_replicate];split<;>simp))) ?_
  intro _
  have hz:(List.replicate (2*(3*c.np)) 0).getD (2*id) 0=0:=by rw[List.getD_eq_getElem?_getD,List.getElem?_replicate];split<;>rfl
  rw[hz]
  repeat first|refine aa ?_ |intro
  refine ed (γ:=Nat) (fun w=>w≤c.n) (fun w=>[(0,.pointer pn),(7,.int .i64 (id:Int)),(10,.slice z.1 1 z.2),(105,.int .i64 (c.n:Int)),(106,.int .i64 (w:Int))]) (fun _=>an 69 2 z.1 1 z.2 (iu jf)*bT pn c R F) (fun w=>c.n-w) 0 (Nat.zero_le _) ⟨rfl,rfl,rfl,rfl,rfl,trivial⟩ (U.sat ?_) ?_
  ·simp only[bT]
   exact ab
  intro w h1
  by_cases hw:w<c.n
  ·repeat first|refine aa ?_ |intro
   refine af rfl (Spec.pre (A7 (R:=R) (F:=an 69 2 z.1 1 z.2 (iu jf)*F) hc hw (by omega)) (by simp only[bT];exact ab)) ?_
   intro _
   repeat first|refine aa ?_ |intro
   refine db (w+1) (by omega) (by omega) ⟨rfl,rfl,rfl,rfl,rfl,trivial⟩ (U.sat ?_)
   simp only[bT]
   exact ab
  ·have e:w=c.n:=by omega
   subst e
   repeat first|refine aa ?_ |intro
   exact ae (ar rfl rfl z rfl (U.sat (U.refl _)))
end
section
open Go.RowKit
set_option maxRecDepth 10000
attribute [local irreducible] EK EX ER EN EL ES EG av aV aY
variable {W:World} {F G:SL} {X:Cx} {kk:List KI} {σ:Env} {pn:Option Addr} {c:NC} {R:dW} {n:dx} {k:aU} {P:dt} {b:Option Addr} {w:Nat}
theorem J6 (hc:c.Ok){i:Nat}(hi:i<3*c.np):Spec Tryz.prog 70 [c.cfg.val,.int .i64 (i:Int)] W F (fun _:Unit=> .tuple #[.int .i64 ((jG (i/c.np):Nat):Int),.int .i64 ((c.lo:Int)+((i%c.np:Nat):Int))]) (fun _=>F):=by
 have h:=Cm (W:=W) (F:=F) c.cfg hc.fit (i:Int)
 rw[AP hc hi]at h
 exact h
set_option maxHeartbeats 1000000 in
theorem BA (hc:c.Ok)(hp:cp (3*c.np) n.sh.pl):Spec Tryz.prog 25 [.pointer pn] W (fG pn c n*F) (fun z:aO=> .slice z.1 (lS c n.sh).length z.2) (fun z=>an 105 6 z.1 (lS c n.sh).length z.2 (mB (lS c n.sh))*(fG pn c n*F)):=by
 unfold lS
 refine Spec.vc fun R=> ?_
 refine Spec.of Tryz.func25 rfl Tryz.ntmps25 rfl ?_
 have cg:=hc.np
 have vH:=hc.p
 have nE:U (fQ pn c n R*F) (fG pn c n*F):=U.ex R (U.refl _)
 rw[fQ.eq]at nE ⊢
 obtain⟨G,hG⟩:∃G,G=an 129 1 R.ws.1 c.n R.ws.2 (dA c.n fun i=>(R.wk i).p)*(aE (jo R n.wk) c.n*(bO R.ep n.sh.ep n.sh.gs*(aF R.tb R.pl c.nb n.sh.tb*(aE (bC c R n.sh) 3*F)))):=⟨_,rfl⟩
 have nE:U (NH pn c R*(aJ R.pl n.sh.pl*G)) (fG pn c n*F):=U.trans (by rw[hG];simp only[eV];exact ab) nE
 refine iS (G:=NH pn c R*(aJ R.pl n.sh.pl*G)) (by rw[hG];simp only[eV];exact ab) ?_
 have hz:=Cj (W:=W) (p:=R.pl) (ws:=n.sh.pl) (F:=NH pn c R*G) hp.len (by omega)
 repeat first|refine aa ?_ |intro
 refine af rfl (Spec.pre hz (ab)) ?_
 intro _
 repeat first|refine aa ?_ |intro
 refine ed (γ:=Nat×aO) (fun g=>g.1≤3*c.np) (fun g=>[(0,.pointer pn),(3,.slice g.2.1 (jv c n.sh g.1).length g.2.2),(14,.int .i64 ((3*c.np:Nat):Int)),(15,.int .i64 (g.1:Int))])
  (fun g=>an 105 6 g.2.1 (jv c n.sh g.1).length g.2.2 (mB (jv c n.sh g.1))*(NH pn c R*(aJ R.pl n.sh.pl*G))) (fun g=>3*c.np-g.1) (0,(none,0)) (Nat.zero_le _) ⟨rfl,rfl,rfl,rfl,trivial⟩ (U.sat (U.none (ab))) ?_
 intro ⟨i,z⟩ h1;dsimp only at h1 ⊢
 have mM:=KW c n.sh i
 by_cases hi:i<3*c.np
 ·have NM:=rP (W:=W) (p:=R.pl) (s:=n.sh) (F:=an 105 6 z.1 (jv c n.sh i).length z.2 (mB (jv c n.sh i))*(NH pn c R*G)) hc hp (id:=(i:Int)) (by omega) (by omega)
  have NI:=fun G=>Gb (W:=W) (p:=R.pl) (s:=n.sh) (F:=G) hc hp (id:=(i:Int)) (by omega) (by omega)
  have EB:=AP hc hi
  have tB:=KX c n.sh i
  generalize jv c n.sh i=L at*
  generalize cb n.sh (i:Int)=v at*
  generalize lr (mT n.sh (i:Int))=fl at*
  repeat first|refine aa ?_ |intro
  refine af rfl (Spec.pre NM (ab)) ?_
  intro _
  repeat first|refine aa ?_ |intro
  rename_i y
  refine il rfl (fun Of=> ?_) (fun Of=> ?_)
  ·have dS:v.st=2:=by omega
   rw[if_pos dS]at tB
   repeat first|refine aa ?_ |intro
   refine af rfl (Spec.pre (J6 (W:=W) hc hi (F:=Obj y 139 [.int .i64 (v.st:Int),.int .i64 (v.gen:Int),.int .i64 (v.tr:Int),.int .i64 (v.sn:Int)]*(an 105 6 z.1 L.length z.2 (mB L)*(NH pn c R*(aJ R.pl n.sh.pl*G))))) (ab)) ?_
   intro _
   repeat first|refine aa ?_ |intro
   refine aG 99 (Obj y 139 [.int .i64 (v.st:Int),.int .i64 (v.gen:Int),.int .i64 (v.tr:Int),.int .i64 (v.sn:Int)]*(NH pn c R*1)) rfl rfl rfl ?_
   repeat(first|refine ak ?_ |refine eD ?_)
   refine aC rfl rfl rfl rfl rfl (Spec.aL R.pl (NI _)) (fun _=>ab) ?_
   intro _
   repeat(first|refine ak ?_ |refine eD ?_)
   repeat(first|refine bJ ?_ |(refine bN ?_;intro)|refine bK ?_ |refine bL ?_ |refine bM ?_ |refine eD ?_)
   repeat first|refine aa ?_ |intro
   rename_i z2
   have e1:(jv c n.sh (i+1)).length=L.length+1:=by rw[tB,List.length_append];rfl
   have e2:mB (jv c n.sh (i+1))=mB L++[.int .i64 (fl.proto:Int),.int .u32 (fl.addr:Int),.int .u16 (fl.port:Int),.int .i64 ((c.lo:Int)+((i%c.np:Nat):Int)),.int .i64 (v.tr:Int),.int .i64 (v.sn:Int)]:=by rw[tB,KK];rfl
   refine db (i+1,z2) (Nat.succ_le_of_lt hi) (by dsimp only;omega) ⟨rfl,by dsimp only;rw[e1];rfl,rfl,rfl,trivial⟩ (U.sat ?_)
   dsimp only
   rw[e1,e2]
   exact ab
  ·have dS:¬v.st=2:=by omega
   rw[if_neg dS]at tB
   repeat first|refine aa ?_ |intro
   have e1:jv c n.sh (i+1)=L:=by rw[tB,List.append_nil]
   refine db (i+1,z) (Nat.succ_le_of_lt hi) (by dsimp only;omega) ⟨rfl,by dsimp only;rw[e1];rfl,rfl,rfl,trivial⟩ (U.sat ?_)
   dsimp only
   rw[e1]
   exact ab
 ·have e:i=3*c.np:=by omega
  subst e
  repeat first|refine aa ?_ |intro
  exact ae (ar rfl rfl z rfl (U.sat (U.cons (U.trans (ab) nE))))
end
section
open Go.RowKit
set_option maxRecDepth 10000
attribute [local irreducible] EK EX ER EN EL ES EG av aV aY
variable {W:World} {F G:SL} {pn:Option Addr} {c:NC}
theorem U.Hc {f g:Nat→SL}:∀n,(∀i,i<n→U (f i) (g i))→U (aE f n) (aE g n)
 |0,_=>U.refl _
 |n+1,h=>by
  rw[aE.succ,aE.succ]
  exact U.star (h n (by omega)) (U.Hc n fun i hi=>h i (by omega))
theorem U.Qd {κ ν:Type}{ek:κ→Value}{ev:ν→Value}{m:Nat}{H G:SL}(k:U H (SL.cC m (.map #[] 0)*G)):U H (fh ek ev m ([]:List (κ×ν))*G):=by
 unfold fh
 refine U.ex (#[],0) ?_
 rw[SL.bU]
 exact U.pure gL.nil k
def Tk (x:j8):dt:=⟨x.p,fun i=>if i=0 then x.c0 else if i=1 then x.c1 else x.c2,fun _=>none,x.wh,x.m,none,none,(none,0),(none,0)⟩
def pv (R:lI):dW:=⟨R.ep,R.pl,R.tb,fun i=>if i=0 then R.p0 else if i=1 then R.p1 else R.p2,R.ws,fun i=>Tk (R.wk i)⟩
theorem Tj (R:lI)(w:Nat):U (iq R.p0 R.p1 R.p2 R.wk w) (oR (pv R).po ((pv R).wk w) (jM w)):=by
 rw[←SL.mj (iq R.p0 R.p1 R.p2 R.wk w),←SL.mj (oR _ _ _),iq.eq,oR.eq]
 simp only[jM,gE,bf]
 refine U.star (U.refl _) ?_
 have e3:∀(f:Nat→SL) (H:SL),aE f 3*H=f 0*(f 1*(f 2*H)):=fun f H=>by
  rw[aE.succ,aE.succ,aE.succ]
  show(f 2*(f 1*(f 0*1)))*H=_
  rw[SL.mj]
  ac_rfl
 rw[e3]
 have eC:∀i,i<3→∀H,ec (pv R).po ((pv R).wk w) (jM w) i*H=aX (((pv R).wk w).c i) ((pv R).po i) w [] none*H:=fun i hi H=>by
  unfold ec
  have:(jM w).ca i=qf w:=by unfold aU.ca jM;dsimp only;split<;>(try split)<;>rfl
  rw[this,SL.bU]
  show _*(bt _ none*H)=_
  rw[gE]
  rfl
 have u7:=eC
 unfold jM at u7
 rw[u7 0 (by omega),u7 1 (by omega),u7 2 (by omega)]
 show U (aX (R.wk w).c0 R.p0 w [] none*(aX (R.wk w).c1 R.p1 w [] none*(aX (R.wk w).c2 R.p2 w [] none*(di (R.wk w).wh jg*(SL.cC (R.wk w).m (.map #[] 0)*1))))) (aX (R.wk w).c0 R.p0 w [] none*(aX (R.wk w).c1 R.p1 w [] none*(aX (R.wk w).c2 R.p2 w [] none*(di (R.wk w).wh jg*(fh gD fA (R.wk w).m []*(an 5 1 none 0 0 []*(an 93 2 none 0 0 []*1)))))))
 refine U.cons (U.cons (U.cons (U.cons (U.Qd (U.cons (U.none (U.none (U.refl _))))))))
theorem F4 (R:lI):U (mu pn c R*F) (fG pn c (ez c)*F):=by
 refine U.ex (pv R) ?_
 rw[mu.eq,fQ.eq]
 have es:U (aE (iq R.p0 R.p1 R.p2 R.wk) c.n) (aE (jo (pv R) (ez c).wk) c.n):=U.Hc c.n fun i hi=>by
  unfold jo
  have:(ez c).wk.getD i bF=jM i:=by
   show((List.range c.n).map jM).getD i bF=_
   rw[List.getD_eq_getElem?_getD,List.getElem?_map,List.getElem?_range hi];rfl
  rw[this]
  exact Tj R i
 have e3:∀(f:Nat→SL) (H:SL),aE f 3*H=f 0*(f 1*(f 2*H)):=fun f H=>by
  rw[aE.succ,aE.succ,aE.succ]
  show(f 2*(f 1*(f 0*1)))*H=_
  rw[SL.mj]
  ac_rfl
 unfold eV
 rw[e3]
 refine U.star (U.refl _) (U.star (U.refl _) (U.star es ?_))
 show U (bO R.ep (List.replicate (c.n+1) 0) (List.replicate c.n [])*(bp R.p0 c.np (cJ c.np)*(bp R.p1 c.np (cJ c.np)*(bp R.p2 c.np (cJ c.np)*(aJ R.pl (List.replicate (2*(3*c.np)) 0)*(aF R.tb R.pl c.nb (List.replicate (c.nb+1) 0)*F)))))) (bO R.ep (List.replicate (c.n+1) 0) (List.replicate c.n [])*(aJ R.pl (List.replicate (2*(3*c.np)) 0)*(aF R.tb R.pl c.nb (List.replicate (c.nb+1) 0)*(bp R.p0 c.np (cJ c.np)*(bp R.p1 c.np (cJ c.np)*(bp R.p2 c.np (cJ c.np)*F))))))
 exact U.of_eq (by ac_rfl)
theorem JO (hc:c.Ok):Spec Tryz.prog 20 [c.cfg.val] W F (fun z:Option Addr=> .tuple #[.pointer z,.int .i64 0]) (fun z=>fG z c (ez c)*F):=
 (B9 (W:=W) (F:=F) hc).mono fun z=>⟨z.1,rfl,F4 z.2⟩
end
end Go.Proofs.YtimekbpkejemoaaGreatDoor
