/-
  A part of a proof, joined by a program (wip/bundle3.py).
-/
import Derived.Test.YtfkngchldmfpfaaGreatDoorG6
import Derived.Test.YtfkngchldmfpfaaGreatDoorG7
import Derived.Test.YtfkngchldmfpfaaGreatDoorG14
import Derived.Test.YtfkngchldmfpfaaGreatDoorG15
import Derived.Test.YtfkngchldmfpfaaGreatDoorG18
import Derived.Test.YtfkngchldmfpfaaGreatDoorG19
set_option linter.unusedVariables false
set_option linter.unusedSimpArgs false
namespace Go.Proofs.YtfkngchldmfpfaaGreatDoor
section
open Go.RowKit
section
variable {c:NC} {K B w:Nat} {s:aW} {k:aK} {f:aM} {H:Nat→List Nat}
structure wU (c:NC)(K:Nat)(k:aK):Prop where
 ca:∀i,i<3→jv c.np (k.ca i)
 aD:jx k.aD
 av:k.aD.av≤K
 ids:∀y∈k.aD.all,0≤y.id∧y.id<((3*c.np:Nat):Int)
 keys:(k.aS.map (·.1)).Nodup
 aS:∀p∈k.aS,pU p.2
 ended:k.ended.length≤K
 aC:k.aC=none
 out:∀i,i<3→(k.ca i).out=none
theorem bN.part (h:bN c K B H s k)(hf:k.frame=some f):wU c (K+1) k:=by
 have hm:=h.wk.more
 have gx:k.aC=none:=h.wk.one (by rw[hf];rfl)
 exact⟨hm.ca,hm.aD,hm.av,hm.ids,hm.keys,hm.aS,hm.ended,gx,hm.out gx⟩
theorem bN.kept {k1:aK}{f':aM}(hp:wU c (K+1) k1)(hb:k1.aD.all.length+iA (some f')≤B)(hn:dJ c (K+1) k1.ca f'){s':aW}(hs:hX c (K+1) s')
  {H':Nat→List Nat} (he:dh c.nb H H') (hh:eT c.nb s'.tb H' (K+1)) (ht:∀t,f'.next=2∨f'.next=7→f'.find=some t→ib H' t) (mn:∀t,f'.next=12→f'.enter=some t→ib H' t):Kept c K B H s' (fU k1 f'):=by
 rw[Dc hn.done]
 refine⟨hs,?_,H',he,hh,⟨fun g t e1 e2 e3=> ?_,fun g t e1 e2 e3=> ?_,fun x t e1=> ?_⟩⟩
 ·exact {
   ca:=hp.ca
   aD:=hp.aD
   av:=hp.av
   ids:=hp.ids
   keys:=hp.keys
   aS:=hp.aS
   ended:=hp.ended
   jQ:=by
    show k1.aD.all.length+iA (some f')+tK k1.aC≤B
    rw[hp.aC];exact hb
   one:=fun _=>hp.aC
   frame:=fun g e=>by injection e with e;subst e;exact hn
   aC:=fun x e=>by
    have e:k1.aC=some x:=e
    rw[hp.aC]at e;cases e
   out:=fun _=>hp.out}
 ·injection e1 with e1;subst e1;exact ht t e2 e3
 ·injection e1 with e1;subst e1;exact mn t e2 e3
 ·have e1:k1.aC=some x:=e1
  rw[hp.aC]at e1;cases e1
theorem wU.cK (h:wU c K k){i:Nat}(hi:i<3){a:dH}(ha:jv c.np a)(ho:a.out=none):wU c K (k.cK i a):=by
 obtain⟨r1,r2,r3,r4,r5,r6,r7,r8⟩:=nj k i a
 refine⟨fun j hj=> ?_,by rw[r3];exact h.aD,by rw[r3];exact h.av,by rw[r3];exact h.ids,by rw[r4];exact h.keys,by rw[r4];exact h.aS,by rw[r8];exact h.ended,by rw[r2];exact h.aC,fun j hj=> ?_⟩
 ·rw[nU k i j hi hj]
  split
  ·exact ha
  ·exact h.ca j hj
 ·rw[nU k i j hi hj]
  split
  ·exact ho
  ·exact h.out j hj
theorem hX.uW (h:hX c K s){i:Nat}(hi:i<3){ws:List Nat}(hw:oe c.np ws):hX c (K+1) (s.eV i ws):=by
 obtain⟨r1,r2,r3,r4⟩:=nV s i ws
 refine⟨by rw[r1];exact h.pl,by rw[r2];exact h.tb,fun j hj=> ?_,by rw[r3,r4];exact h.ep.more⟩
 by_cases e:j=i
 ·subst e;rw[Ll s ws hj];exact hw
 ·rw[Lm s ws hj hi e];exact h.po j hj
theorem se (h:bN c K B H s k)(hf:k.frame=some f)(hn:f.next≠18):k.aD.all.length+1≤B:=by
 have hb:=h.wk.jQ
 rw[hf]at hb
 unfold iA at hb
 dsimp only at hb
 rw[if_neg hn]at hb
 omega
theorem sd (f:aM):iA (some f)≤1:=by
 unfold iA
 dsimp only
 split<;>omega
theorem dJ.rX {ca:Nat→dH}(hs:dJ c K k.ca f)(h1:6≤f.next)(h2:f.next≤14){g:aM}(g6:6≤g.next)(g14:g.next≤14)(gd:g.done=f.done)(gb:g.b=f.b)(gt:g.tick=f.tick)(gf:g.ai=f.ai)(gp:g.part=f.part)(gg:g.gJ=f.gJ)(w1:g.word.ok)(w2:g.word.tr≤4)(w3:g.now.ok)(w4:g.now.tr≤4)
  (a7:g.next=7→∃t,g.find=some t∧br c.nb (3*c.np) t∧t.done=false∧t.kind=0) (Qg:10≤g.next→0≤g.id∧g.id<((3*c.np:Nat):Int))
  (a6:g.next=6→∃x,g.fill=some x∧x.done=false∧((x.kind=0∧ra c.np x.dE∧x.dE.done=false∧(ca (aH f.ai.proto)).l=[])∨x.kind=3))
  (P8:g.next=7→∃x,g.fill=some x∧x.kind=0∧x.done=true∧j6 x.dE=true∧x.dE.Ok (mW c.np)∧x.dE.kind=0)
  (a8:g.next=8→∃x,g.again=some x∧x.kind=1∧x.done=false∧x.dE.Ok (mW c.np)∧x.dE.kind=1∧x.dE.done=false)
  (a12:g.next=12→∃t,g.enter=some t∧br c.nb (3*c.np) t∧t.done=false) (P7:g.next=14→∃t,g.enter=some t∧br c.nb (3*c.np) t∧t.done=true)
  (ap:12≤g.next→(ca (aH f.ai.proto)).l.length≤15):dJ c K ca g where
 le:=by omega
 done:=by rw[gd];exact hs.done
 dz:=by rw[gb];exact hs.dz
 fin:=fun _=>(hs.fin (by omega)).same gb gt gf gp
 fc:=by rw[gg,gf];exact hs.fc
 cb:=fun e=>by omega
 start:=fun e=>by omega
 pE:=fun e=>by omega
 find:=fun e=>a7 (by omega)
 id:=fun e=>Qg (by omega)
 word:=w1
 tr:=w2
 now:=w3
 dv:=w4
 fe:=fun _ _=>by rw[gf];exact hs.fe h1 h2
 fill:=fun e=>by rw[gf];exact a6 e
 mB:=P8
 again:=a8
 enter:=a12
 back:=P7
 pop:=fun e _=>by rw[gf];exact ap e
 addr:=fun e=>by omega
theorem H0 (k:aK){i:Nat}(hi:i<3)(a:dH):(k.cK i a).ca i=a:=zW k a hi
theorem X1 (s:aW)(i:Nat)(ws:List Nat):({s.eV i ws with tb:=s.tb}:aW)=s.eV i ws:=by
 unfold aW.eV;repeat' split
 all_goals rfl
theorem Vg (h:bN c K B H s k)(hf:k.frame=some f)(e:f.next=6):Kept c K B H (cM c s k f).1 (fU (cM c s k f).2.1 (cM c s k f).2.2):=by
 have hs:=h.wk.frame f hf
 have hg:=hs.fe (by omega) (by omega)
 have c6:=h.part hf
 have iV:=se h hf (by omega)
 have bE:=k9 f.ai.proto
 obtain⟨x,q1,q2,q3⟩:=hs.fill e
 unfold cM
 rw[if_pos e,q1]
 dsimp only
 have kX:=h.sh.po _ bE
 have rA:=c6.ca _ bE
 have nJ:=c6.out _ bE
 have e2:(({s.eV (aH f.ai.proto) (cX (s.po (aH f.ai.proto)) (k.ca (aH f.ai.proto)) x).1 with tb:=s.tb}:aW))=s.eV (aH f.ai.proto) (cX (s.po (aH f.ai.proto)) (k.ca (aH f.ai.proto)) x).1:=X1 s _ _
 rw[e2]
 generalize vT:aH f.ai.proto=kd at*
 have Sh:∀ {x2:jN} {a:dH},x2.kind=0→x2.done=true→j6 x2.dE=true→x2.dE.Ok (mW c.np)→x2.dE.kind=0→dJ c (K+1) (k.cK kd a).ca {f with fill:=some x2,find:=some (kH c 0 f.ai (-1) 0),next:=7}:=fun {x2 a} b1 b2 b3 b4 b5=>by
  have cE:=hs.fin (by omega)
  refine hs.more.rX (by omega) (by omega) (by show 6≤7;omega) (by show 7≤14;omega) rfl rfl rfl rfl rfl rfl hs.word hs.tr hs.now hs.dv (fun _=>⟨_,rfl,Mc h.ok cE.proto cE.addr cE.port,rfl,rfl⟩) (fun e=>by have e:10≤7:=e;omega) (fun e=>by have e:7=6:=e;omega) (fun _=>⟨x2,rfl,b1,b2,b3,b4,b5⟩) (fun e=>by have e:7=8:=e;omega) (fun e=>by have e:7=12:=e;omega) (fun e=>by have e:7=14:=e;omega) (fun e=>by have e:12≤7:=e;omega)
 have IB:∀ {x2:jN} {a:dH},dJ c (K+1) (k.cK kd a).ca {f with fill:=some x2,next:=9}:=fun {x2 a}=>by
  refine hs.more.rX (by omega) (by omega) (by show 6≤9;omega) (by show 9≤14;omega) rfl rfl rfl rfl rfl rfl hs.word hs.tr hs.now hs.dv (fun e=>by have e:9=7:=e;omega) (fun e=>by have e:10≤9:=e;omega) (fun e=>by have e:9=6:=e;omega) (fun e=>by have e:9=7:=e;omega) (fun e=>by have e:9=8:=e;omega) (fun e=>by have e:9=12:=e;omega) (fun e=>by have e:9=14:=e;omega) (fun e=>by have e:12≤9:=e;omega)
 have kr:∀ {a:dH} (g:aM),(k.cK kd a).aD.all.length+iA (some g)≤B:=fun {a} g=>by
  rw[(nj k kd a).2.2.1];have:=sd g;omega
 have n9:∀ {g:aM} {H':Nat→List Nat},g.next=9→∀t,g.next=2∨g.next=7→g.find=some t→ib H' t:=fun e t e2=>by omega
 have n12:∀ {g:aM} {H':Nat→List Nat},g.next≠12→∀t,g.next=12→g.enter=some t→ib H' t:=fun e t e2=>absurd e2 e
 have mq:∀ {ws:List Nat},eT c.nb (s.eV kd ws).tb H (K+1):=fun {ws}=>by rw[(nV s kd ws).2.1];exact h.eU.more (by omega)
 rcases q3 with ⟨k0,jH,hid,hl⟩|k3
 ·obtain⟨kind,dE,done⟩:=x
  dsimp only at q2 k0 jH hid
  subst q2 k0
  rw[HX]
  obtain⟨p1,p2⟩:=jH.xG kX hid
  generalize bp (s.po kd) dE=D at*
  obtain⟨kg,i2⟩:=D
  dsimp only at*
  cases hd:i2.done with
  |false=>
   rw[if_neg (by decide:¬(false=true)),if_pos rfl]
   refine bN.kept (c6.cK bE rA nJ) (kr _) ?_ (h.sh.uW bE p1) (dh.refl _ _) mq (fun t e2=>by have e2:f.next=2∨f.next=7:=e2;omega) (fun t e2=>by have e2:f.next=12:=e2;omega)
   exact hs.more.rX (by omega) (by omega) (by show 6≤f.next;omega) (by show f.next≤14;omega) rfl rfl rfl rfl rfl rfl hs.word hs.tr hs.now hs.dv (fun e=>by have e:f.next=7:=e;omega) (fun e=>by have e:10≤f.next:=e;omega)
    (fun _=>⟨⟨0,i2,false⟩,rfl,rfl,.inl ⟨rfl,p2,hd,by rw[vT,H0 k bE];exact hl⟩⟩) (fun e=>by have e:f.next=7:=e;omega) (fun e=>by have e:f.next=8:=e;omega) (fun e=>by have e:f.next=12:=e;omega) (fun e=>by have e:f.next=14:=e;omega) (fun e=>by have e:12≤f.next:=e;omega)
  |true=>
   rw[if_pos rfl,if_neg (by decide:¬(true=false))]
   have ha:jv c.np {k.ca kd with h:=if i2.bK=[]then(k.ca kd).h else i2.word,l:=(k.ca kd).l++i2.bK.reverse}:=by
    refine⟨?_,fun y hy=> ?_,rA.out⟩
    ·dsimp only
     rw[hl,List.nil_append,List.length_reverse]
     have:=p2.kp
     omega
    ·dsimp only at hy
     rw[hl,List.nil_append,List.mem_reverse]at hy
     exact p2.lt y hy
   have nI:qb ⟨0,i2,true⟩=j6 i2:=by unfold qb;simp
   rw[nI]
   cases hn:j6 i2 with
   |true=>
    rw[if_pos rfl]
    exact bN.kept (c6.cK bE ha nJ) (kr _) (Sh (x2:=⟨0,i2,true⟩) rfl rfl hn p2.ok p2.kind) (h.sh.uW bE p1) (dh.refl _ _) mq (fun t _ e3=>by injection e3 with e3;subst e3;exact ze (.inl rfl)) (n12 (by show 7≠12;omega))
   |false=>
    rw[if_neg (by decide:¬(false=true))]
    exact bN.kept (c6.cK bE ha nJ) (kr _) (IB (x2:=⟨0,i2,true⟩)) (h.sh.uW bE p1) (dh.refl _ _) mq (n9 rfl) (n12 (by show 9≠12;omega))
 ·rw[HZ q2 k3]
  dsimp only
  rw[if_neg (by decide)]
  have nI:qb {x with done:=true}=false:=by
   unfold qb
   dsimp only
   rw[k3];rfl
  rw[nI,if_neg (by decide)]
  exact bN.kept (c6.cK bE rA nJ) (kr _) IB (h.sh.uW bE kX) (dh.refl _ _) mq (n9 rfl) (n12 (by show 9≠12;omega))
theorem Vh (h:bN c K B H s k)(hf:k.frame=some f)(e:f.next=7):Kept c K B H (cM c s k f).1 (fU (cM c s k f).2.1 (cM c s k f).2.2):=by
 have hs:=h.wk.frame f hf
 have cE:=hs.fin (by omega)
 have c6:=h.part hf
 have iV:=se h hf (by omega)
 obtain⟨t,q1,q2,q3,q4⟩:=hs.find (.inr e)
 obtain⟨x,x1,x2,x3,x4,x5,x6⟩:=hs.mB e
 unfold cM
 rw[if_neg (by omega),if_pos e,q1,x1]
 dsimp only
 rw[←x1]
 obtain⟨⟨H',e1,e2,e3⟩,kc,ko⟩:=B6 h.sh.tb h.sh.pl h.eU h.hK q2 (h.Ca.find f t hf (.inr e) q1)
 have bE:(bO s.pl c.nb s.tb t).2.kind=0:=by rw[Mb];exact q4
 have ei:=h.sh.B7 kc
 have kr:∀(g:aM),k.aD.all.length+iA (some g)≤B:=fun g=>by have:=sd g;omega
 generalize bO s.pl c.nb s.tb t=D at*
 obtain⟨eG,t2⟩:=D
 dsimp only at*
 split
 ·rename_i hd
  refine bN.kept c6 (kr _) ?_ ei e1 e2 (fun u _ eu=>by injection eu with eu;subst eu;exact e3) (fun u eu=>by have eu:f.next=12:=eu;omega)
  exact {hs.more with
   fin:=fun e=>(hs.fin e).same rfl rfl rfl rfl
   find:=fun _=>⟨t2,rfl,ko,hd,bE⟩}
 rename_i hd
 have hd:t2.done=true:=by simpa using hd
 split
 ·rename_i h0
  obtain hx:=AO (f:={f with find:=some t2}) t2.found t2.aP
  exact bN.kept c6 (kr _) (dJ.AN (f:={f with find:=some t2}) hs.done hs.dz (cE.same rfl rfl rfl rfl) hs.fc hs.now hs.dv ko.aP ko.xS (ko.uC hd bE h0) ko.xR) ei e1 e2 (fun u eu=>by omega) (fun u eu=>by omega)
 ·refine bN.kept c6 (kr _) ?_ ei e1 e2 (fun u eu=>by have eu:8=2∨8=7:=eu;omega) (fun u eu=>by have eu:8=12:=eu;omega)
  exact hs.more.rX (by omega) (by omega) (by show 6≤8;omega) (by show 8≤14;omega) rfl rfl rfl rfl rfl rfl hs.word hs.tr hs.now hs.dv (fun e=>by have e:8=7:=e;omega) (fun e=>by have e:10≤8:=e;omega) (fun e=>by have e:8=6:=e;omega) (fun e=>by have e:8=7:=e;omega)
   (fun _=>⟨HV x,rfl,rfl,rfl,XO x5 x6 (by have:=h.ok.np;unfold mW;omega),rfl,rfl⟩) (fun e=>by have e:8=12:=e;omega) (fun e=>by have e:8=14:=e;omega) (fun e=>by have e:12≤8:=e;omega)
theorem XP {ws:List Nat}{p:bM}(hd:p.done=false)(hk:p.kind=1):(bp ws p).1=ws∧(bp ws p).2.kind=1:=by
 unfold bp
 rw[if_neg (by rw[hd];decide),if_neg (by omega),if_pos hk]
 unfold qJ
 split<;>exact⟨rfl,hk⟩
theorem Vi (h:bN c K B H s k)(hf:k.frame=some f)(e:f.next=8):Kept c K B H (cM c s k f).1 (fU (cM c s k f).2.1 (cM c s k f).2.2):=by
 have hs:=h.wk.frame f hf
 have cE:=hs.fin (by omega)
 have hg:=hs.fe (by omega) (by omega)
 have c6:=h.part hf
 have iV:=se h hf (by omega)
 have bE:=k9 f.ai.proto
 obtain⟨x,q1,q2,q3,q4,q5,q6⟩:=hs.again e
 unfold cM
 rw[if_neg (by omega),if_neg (by omega),if_pos e,q1]
 dsimp only
 obtain⟨kind,dE,done⟩:=x
 dsimp only at q2 q3 q4 q5 q6
 subst q2 q3
 rw[HW]
 have kX:=h.sh.po _ bE
 have nJ:=c6.out _ bE
 obtain⟨d1,d2⟩:=xF kX.words q4
 obtain⟨d3,d4⟩:=XP (ws:=s.po (aH f.ai.proto)) q6 q5
 have kr:∀(g:aM),k.aD.all.length+iA (some g)≤B:=fun g=>by have:=sd g;omega
 have mq:∀ {ws:List Nat},eT c.nb (s.eV (aH f.ai.proto) ws).tb H (K+1):=fun {ws}=>by rw[(nV s _ ws).2.1];exact h.eU.more (by omega)
 have ei:hX c (K+1) (s.eV (aH f.ai.proto) (bp (s.po (aH f.ai.proto)) dE).1):=by rw[d3];exact h.sh.uW bE kX
 generalize bp (s.po (aH f.ai.proto)) dE=D at*
 obtain⟨kg,i2⟩:=D
 dsimp only at*
 split
 ·rename_i hd
  refine bN.kept c6 (kr _) ?_ ei (dh.refl _ _) mq (fun u eu=>by have eu:f.next=2∨f.next=7:=eu;omega) (fun u eu=>by have eu:f.next=12:=eu;omega)
  exact {hs.more with
   fin:=fun e=>(hs.fin e).same rfl rfl rfl rfl
   again:=fun _=>⟨⟨1,i2,i2.done⟩,rfl,rfl,hd,d2,d4,hd⟩}
 split
 ·exact bN.kept c6 (kr _) (dJ.rp (f:={f with again:=some ⟨1,i2,i2.done⟩}) hs.done hs.dz (cE.same rfl rfl rfl rfl) hs.fc hs.word hs.tr hs.now hs.dv [] 8) ei (dh.refl _ _) mq (fun u eu=>by have eu:18=2∨18=7:=eu;omega) (fun u eu=>by have eu:18=12:=eu;omega)
 ·exact bN.kept c6 (kr _) (dJ.ID (f:={f with again:=some ⟨1,i2,i2.done⟩}) h.ok nJ hs.done hs.dz (cE.same rfl rfl rfl rfl) hg hs.word hs.tr hs.now hs.dv) ei (dh.refl _ _) mq (fun u eu=>by have eu:6=2∨6=7:=eu;omega) (fun u eu=>by have eu:6=12:=eu;omega)
theorem Mj {a:dH}{np:Nat}(h:jv np a)(cU:1≤np):nY a<np:=by
 unfold nY
 rw[List.getD_eq_getElem?_getD]
 rcases Nat.lt_or_ge (a.l.length-1) a.l.length with hl|hl
 ·rw[List.getElem?_eq_getElem hl]
  exact h.lt _ (List.getElem_mem hl)
 ·rw[List.getElem?_eq_none hl];exact cU
theorem Vj (h:bN c K B H s k)(hf:k.frame=some f)(e:f.next=9):Kept c K B H (cM c s k f).1 (fU (cM c s k f).2.1 (cM c s k f).2.2):=by
 have hs:=h.wk.frame f hf
 have c6:=h.part hf
 have iV:=se h hf (by omega)
 have bE:=k9 f.ai.proto
 have Uv:=Mj (c6.ca _ bE) h.ok.np.1
 unfold cM
 rw[if_neg (by omega),if_neg (by omega),if_neg (by omega),if_pos e]
 obtain⟨l1,l2⟩:=h.sh.pl.bI (id:=((aH f.ai.proto*c.np+nY (k.ca (aH f.ai.proto)):Nat):Int))
 have hid:aH f.ai.proto*c.np+nY (k.ca (aH f.ai.proto))<3*c.np:=by
  generalize nY (k.ca (aH f.ai.proto))=y at*
  generalize aH f.ai.proto=kd at*
  have:kd*c.np≤2*c.np:=Nat.mul_le_mul_right _ (by omega)
  omega
 generalize aH f.ai.proto*c.np+nY (k.ca (aH f.ai.proto))=y at*
 refine bN.kept c6 (Nat.le_trans (Nat.add_le_add_left (sd _) _) iV) ?_ h.sh.more (dh.refl _ _) (h.eU.more (by omega)) (fun u eu=>by have eu:10=2∨10=7:=eu;omega) (fun u eu=>by have eu:10=12:=eu;omega)
 exact hs.more.rX (by omega) (by omega) (by show 6≤10;omega) (by show 10≤14;omega) rfl rfl rfl rfl rfl rfl l1 l2 hs.now hs.dv (fun e=>by have e:10=7:=e;omega) (fun _=>⟨by show(0:Int)≤(y:Int);omega,by show(y:Int)<_;omega⟩) (fun e=>by have e:10=6:=e;omega) (fun e=>by have e:10=7:=e;omega)
  (fun e=>by have e:10=8:=e;omega) (fun e=>by have e:10=12:=e;omega) (fun e=>by have e:10=14:=e;omega) (fun e=>by have e:12≤10:=e;omega)
theorem U7 (h:bN c K B H s k)(hf:k.frame=some f)(e:f.next=10):Kept c K B H (cM c s k f).1 (fU (cM c s k f).2.1 (cM c s k f).2.2):=by
 have hs:=h.wk.frame f hf
 have cE:=hs.fin (by omega)
 have c6:=h.part hf
 have iV:=se h hf (by omega)
 unfold cM
 rw[if_neg (by omega),if_neg (by omega),if_neg (by omega),if_neg (by omega),if_pos e]
 have hid:=hs.id (.inr ⟨by omega,by omega⟩)
 refine bN.kept c6 (Nat.le_trans (Nat.add_le_add_left (sd _) _) iV) ?_ ⟨h.sh.pl.oO cE.proto cE.addr cE.port,h.sh.tb,h.sh.po,h.sh.ep.more⟩ (dh.refl _ _) (h.eU.more (by omega)) (fun u eu=>by have eu:11=2∨11=7:=eu;omega) (fun u eu=>by have eu:11=12:=eu;omega)
 exact hs.more.rX (by omega) (by omega) (by show 6≤11;omega) (by show 11≤14;omega) rfl rfl rfl rfl rfl rfl hs.word hs.tr hs.now hs.dv (fun e=>by have e:11=7:=e;omega) (fun _=>hid) (fun e=>by have e:11=6:=e;omega) (fun e=>by have e:11=7:=e;omega)
  (fun e=>by have e:11=8:=e;omega) (fun e=>by have e:11=12:=e;omega) (fun e=>by have e:11=14:=e;omega) (fun e=>by have e:12≤11:=e;omega)
theorem Wr (hi:fX f):(kD f).ok∧(kD f).tr≤4:=by
 have h1:=Fj (proto:=f.ai.proto) (s:=0) (flags:=f.part.flags) (out:=true) (by decide)
 have h2:=hi.tick
 exact⟨⟨by show 1≤3;omega,by show(f.word.gen+1)%65536≤65535;omega,by show mw _ _ _ _≤7;omega,by show f.tick.toNat≤_;omega⟩,h1⟩
theorem U8 (h:bN c K B H s k)(hf:k.frame=some f)(e:f.next=11):Kept c K B H (cM c s k f).1 (fU (cM c s k f).2.1 (cM c s k f).2.2):=by
 have hs:=h.wk.frame f hf
 have cE:=hs.fin (by omega)
 have c6:=h.part hf
 have iV:=se h hf (by omega)
 have bE:=k9 f.ai.proto
 have nJ:=c6.out _ bE
 unfold cM
 rw[if_neg (by omega),if_neg (by omega),if_neg (by omega),if_neg (by omega),if_neg (by omega)]
 have hid:=hs.id (.inr ⟨by omega,by omega⟩)
 obtain⟨n1,n2⟩:=Wr cE
 have en:(⟨1,(f.word.gen+1)%65536,mw f.ai.proto 0 true f.part.flags,f.tick.toNat⟩:bH)=kD f:=rfl
 dsimp only
 rw[en]
 split
 ·obtain⟨c1,c2⟩:=(c6.ca _ bE).pop
  refine bN.kept (c6.cK bE c1 nJ) (by rw[(nj k _ _).2.2.1];exact Nat.le_trans (Nat.add_le_add_left (sd _) _) iV) ?_ (h.sh.put n1 n2) (dh.refl _ _) (by rw[(gN _ _ _ _).2.2.1];exact h.eU.more (by omega)) (fun u eu=>by have eu:12=2∨12=7:=eu;omega) (fun u _ eu=>by injection eu with eu;subst eu;exact ze (.inl rfl))
  exact hs.more.rX (by omega) (by omega) (by show 6≤12;omega) (by show 12≤14;omega) rfl rfl rfl rfl rfl rfl n1 n2 hs.now hs.dv (fun e=>by have e:12=7:=e;omega) (fun _=>hid) (fun e=>by have e:12=6:=e;omega) (fun e=>by have e:12=7:=e;omega)
   (fun e=>by have e:12=8:=e;omega) (fun _=>⟨_,rfl,Yw h.ok cE.proto cE.addr cE.port hid.1 hid.2,rfl⟩) (fun e=>by have e:12=14:=e;omega) (fun _=>by rw[H0 k bE];exact c2)
 ·refine bN.kept c6 (Nat.le_trans (Nat.add_le_add_left (sd _) _) iV) ?_ h.sh.more (dh.refl _ _) (h.eU.more (by omega)) (fun u eu=>by have eu:9=2∨9=7:=eu;omega) (fun u eu=>by have eu:9=12:=eu;omega)
  exact hs.more.rX (by omega) (by omega) (by show 6≤9;omega) (by show 9≤14;omega) rfl rfl rfl rfl rfl rfl hs.word hs.tr hs.now hs.dv (fun e=>by have e:9=7:=e;omega) (fun e=>by have e:10≤9:=e;omega) (fun e=>by have e:9=6:=e;omega) (fun e=>by have e:9=7:=e;omega)
   (fun e=>by have e:9=8:=e;omega) (fun e=>by have e:9=12:=e;omega) (fun e=>by have e:9=14:=e;omega) (fun e=>by have e:12≤9:=e;omega)
theorem U9 (h:bN c K B H s k)(hf:k.frame=some f)(e:f.next=12):Kept c K B H (fQ c s k f).1 (fU (fQ c s k f).2.1 (fQ c s k f).2.2):=by
 have hs:=h.wk.frame f hf
 have c6:=h.part hf
 have iV:=se h hf (by omega)
 obtain⟨t,q1,q2,q3⟩:=hs.enter e
 unfold fQ
 rw[if_pos e,q1]
 dsimp only
 obtain⟨⟨H',e1,e2,e3⟩,kc,ko⟩:=B6 h.sh.tb h.sh.pl h.eU h.hK q2 (h.Ca.enter f t hf e q1)
 have ei:=h.sh.B7 kc
 have kr:∀(g:aM),k.aD.all.length+iA (some g)≤B:=fun g=>by have:=sd g;omega
 have hid:=hs.id (.inr ⟨by omega,by omega⟩)
 have Et:=hs.pop (by omega) (by omega)
 generalize bO s.pl c.nb s.tb t=D at*
 obtain⟨eG,t2⟩:=D
 dsimp only at*
 split
 ·rename_i hd
  refine bN.kept c6 (kr _) ?_ ei e1 e2 (fun u eu=>by have eu:f.next=2∨f.next=7:=eu;omega) (fun u _ eu=>by injection eu with eu;subst eu;exact e3)
  exact {hs.more with
   fin:=fun e=>(hs.fin e).same rfl rfl rfl rfl
   enter:=fun _=>⟨t2,rfl,ko,hd⟩
   back:=fun e=>by have e:f.next=14:=e;omega}
 ·rename_i hd
  have hd:t2.done=true:=by simpa using hd
  have hx:(if t2.end_=0 then 13 else 14)=13∨(if t2.end_=0 then 13 else 14)=14:=by split<;>omega
  generalize (if t2.end_=0 then 13 else 14)=nx at hx
  refine bN.kept c6 (kr _) ?_ ei e1 e2 (fun u eu=>by have eu:nx=2∨nx=7:=eu;omega) (fun u eu=>by have eu:nx=12:=eu;omega)
  exact hs.more.rX (by omega) (by omega) (by show 6≤nx;omega) (by show nx≤14;omega) rfl rfl rfl rfl rfl rfl hs.word hs.tr hs.now hs.dv (fun e=>by have e:nx=7:=e;omega) (fun _=>hid) (fun e=>by have e:nx=6:=e;omega) (fun e=>by have e:nx=7:=e;omega)
   (fun e=>by have e:nx=8:=e;omega) (fun e=>by have e:nx=12:=e;omega) (fun _=>⟨t2,rfl,ko,hd⟩) (fun _=>Et)
theorem Xm {l:List (Int×dU)}{i:Int}{v:dU}(h:(l.map (·.1)).Nodup):((iL l i v).map (·.1)).Nodup:=by
 unfold iL
 split
 ·have:(l.map fun p=>if p.1=i then(i,v)else p).map (·.1)=l.map (·.1):=by
   rw[List.map_map]
   refine List.map_congr_left fun p _=> ?_
   show(if p.1=i then(i,v)else p).1=p.1
   split
   ·rename_i e;exact e.symm
   ·rfl
  rw[this];exact h
 ·rename_i hh
  rw[List.map_append,List.nodup_append]
  refine⟨h,by simp,fun a ha b hb e=> ?_⟩
  obtain⟨p,p1,p2⟩:=List.mem_map.1 ha
  simp only[List.map_cons,List.map_nil,List.mem_singleton]at hb
  refine hh (List.any_eq_true.2 ⟨p,p1,?_⟩)
  simp[p2,e,hb]
theorem Xl {l:List (Int×dU)}{i:Int}{v:dU}(h:∀p∈l,pU p.2)(hv:pU v):∀p∈iL l i v,pU p.2:=by
 unfold iL
 split
 ·intro p hp
  obtain⟨q,q1,rfl⟩:=List.mem_map.1 hp
  split
  ·exact hv
  ·exact h q q1
 ·intro p hp
  rcases List.mem_append.1 hp with hp|hp
  ·exact h p hp
  ·rw[List.mem_singleton.1 hp];exact hv
theorem HG {k:aK}{p:Nat}{id:Int}{v:bH}{t:Int}(hg:jx k.aD)(hi:∀y∈k.aD.all,0≤y.id∧y.id<((3*c.np:Nat):Int))(h0:0≤id)(h1:id<((3*c.np:Nat):Int)):
  jx (fN k p id v t).aD∧(fN k p id v t).aD.av≤k.aD.av+1∧(∀y∈(fN k p id v t).aD.all,0≤y.id∧y.id<((3*c.np:Nat):Int))∧(fN k p id v t).aD.all.length≤k.aD.all.length+1:=by
 have add:∀a,a<4294967296→jx (nA k.aD id a)∧(nA k.aD id a).av≤k.aD.av+1∧(∀y∈(nA k.aD id a).all,0≤y.id∧y.id<((3*c.np:Nat):Int))∧(nA k.aD id a).all.length≤k.aD.all.length+1:=fun a ha=>by
  obtain⟨a1,a2,a3,a4⟩:=HA (id:=id) hg ha
  refine⟨a1,by omega,fun y hy=> ?_,by rw[a4.length_eq];simp⟩
  rcases List.mem_cons.1 (a4.mem_iff.1 hy)with rfl|hy
  ·exact⟨h0,h1⟩
  ·exact hi y hy
 have no:jx k.aD∧k.aD.av≤k.aD.av+1∧(∀y∈k.aD.all,0≤y.id∧y.id<((3*c.np:Nat):Int))∧k.aD.all.length≤k.aD.all.length+1:=⟨hg,by omega,hi,by omega⟩
 unfold fN
 split
 ·split
  ·exact add _ (by omega)
  ·exact no
 ·split
  ·exact add _ (by omega)
  ·exact no
theorem Va (h:bN c K B H s k)(hf:k.frame=some f)(e:f.next=13):Kept c K B H (fQ c s k f).1 (fU (fQ c s k f).2.1 (fQ c s k f).2.2):=by
 have hs:=h.wk.frame f hf
 have cE:=hs.fin (by omega)
 have c6:=h.part hf
 have iV:=se h hf (by omega)
 have hid:=hs.id (.inr ⟨by omega,by omega⟩)
 unfold fQ
 rw[if_neg (by omega),if_pos e]
 dsimp only
 obtain⟨w1,w2,w3,w4⟩:=HG (c:=c) (k:={k with aS:=iL k.aS f.id f.ai}) (p:=fx (f.id.toNat/c.np)) (v:=f.word) (t:=f.tick) c6.aD c6.ids hid.1 hid.2
 have er:=tV {k with aS:=iL k.aS f.id f.ai} (fx (f.id.toNat/c.np)) f.id f.word f.tick
 generalize fN {k with aS:=iL k.aS f.id f.ai} (fx (f.id.toNat/c.np)) f.id f.word f.tick=k2 at*
 have rA:∀i,k2.ca i=k.ca i:=fun i=>by rw[er];rfl
 have e4:k2.aS=iL k.aS f.id f.ai:=by rw[er]
 have e5:k2.ended=k.ended:=by rw[er]
 have e6:k2.aC=k.aC:=by rw[er]
 have ht:=h.wk.av
 refine bN.kept ⟨fun i hi=>by rw[rA];exact c6.ca i hi,w1,by dsimp only at w2;omega,w3,by rw[e4];exact Xm c6.keys,by rw[e4];exact Xl c6.aS ⟨cE.proto,cE.addr,cE.port⟩,by rw[e5];exact c6.ended,by rw[e6];exact c6.aC,fun i hi=>by rw[rA];exact c6.out i hi⟩
  (by have:iA (some (f.goes c f.id))=0:=rfl;dsimp only at w4;omega) ?_ (h.sh.put ⟨by show 2≤3;omega,hs.word.2⟩ hs.tr) (dh.refl _ _) (by rw[(gN _ _ _ _).2.2.1];exact h.eU.more (by omega)) (fun u eu=>by have eu:18=2∨18=7:=eu;omega) (fun u eu=>by have eu:18=12:=eu;omega)
 exact dJ.rp hs.done hs.dz (cE.same rfl rfl rfl rfl) hs.fc hs.word hs.tr hs.now hs.dv _ _
theorem Vb (h:bN c K B H s k)(hf:k.frame=some f)(e:f.next=14):Kept c K B H (fQ c s k f).1 (fU (fQ c s k f).2.1 (fQ c s k f).2.2):=by
 have hs:=h.wk.frame f hf
 have cE:=hs.fin (by omega)
 have c6:=h.part hf
 have iV:=se h hf (by omega)
 have bE:=k9 f.ai.proto
 have cU:=h.ok.np
 have nJ:=c6.out _ bE
 have Et:=hs.pop (by omega) (by omega)
 obtain⟨t,q1,q2,q3⟩:=hs.back e
 unfold fQ
 rw[if_neg (by omega),if_neg (by omega),q1]
 dsimp only
 rw[←q1]
 have hx:f.id.toNat%c.np<c.np:=Nat.mod_lt _ (by omega)
 obtain⟨c1,_⟩:=(c6.ca _ bE).put cU.2 hx nJ
 have c2:(fO c.np (k.ca (aH f.ai.proto)) (f.id.toNat%c.np)).1.out=none:=by
  rw[(c6.ca _ bE).Xk Et];exact nJ
 have ei:=h.sh.put (id:=f.id) (a:=f.word) (b:={f.word with st:=0}) ⟨by show 0≤3;omega,hs.word.2⟩ hs.tr
 have mq:eT c.nb (bL s f.id f.word {f.word with st:=0}).tb H (K+1):=by rw[(gN _ _ _ _).2.2.1];exact h.eU.more (by omega)
 have kr:∀(g:aM) a,(k.cK (aH f.ai.proto) a).aD.all.length+iA (some g)≤B:=fun g a=>by
  rw[(nj k _ a).2.2.1];have:=sd g;omega
 split
 ·rename_i Ay
  obtain hx:=AO (f:={f with made:=false}) t.found t.aP
  exact bN.kept (c6.cK bE c1 c2) (kr _ _) (dJ.AN (f:={f with made:=false}) hs.done hs.dz (cE.same rfl rfl rfl rfl) hs.fc hs.now hs.dv q2.aP q2.xS (q2.vS q3 Ay) q2.xR) ei (dh.refl _ _) mq (fun u eu=>by omega) (fun u eu=>by omega)
 ·exact bN.kept (c6.cK bE c1 c2) (kr _ _) (dJ.rp (f:={f with made:=false}) hs.done hs.dz (cE.same rfl rfl rfl rfl) hs.fc hs.word hs.tr hs.now hs.dv [] 9) ei (dh.refl _ _) mq (fun u eu=>by have eu:18=2∨18=7:=eu;omega) (fun u eu=>by have eu:18=12:=eu;omega)
theorem L9 (h:bN c K B H s k)(hw:w<c.n)(hf:k.frame=some f):Kept c K B H (c7 c w s k f).1 (fU (c7 c w s k f).2.1 (c7 c w s k f).2.2):=by
 have hs:=h.wk.frame f hf
 have hle:=hs.le
 unfold c7
 split
 ·exact U5 h hw hf (by assumption)
 split
 ·rename_i e
  obtain⟨p,q1,_⟩:=hs.cb e
  rw[q1]
  exact U6 h hf e q1
 split
 ·rename_i e0 e1 e5
  by_cases e:f.next=2
  ·obtain⟨t,q1,_⟩:=hs.find (.inl e)
   unfold gG
   rw[if_pos e,q1]
   exact Ve h hf e q1
  ·exact Vf h hf (by omega) e5
 split
 ·rename_i e0 e1 e5 RH
  have:f.next=6∨f.next=7∨f.next=8∨f.next=9∨f.next=10∨f.next=11:=by omega
  rcases this with e|e|e|e|e|e
  ·exact Vg h hf e
  ·exact Vh h hf e
  ·exact Vi h hf e
  ·exact Vj h hf e
  ·exact U7 h hf e
  ·exact U8 h hf e
 split
 ·rename_i e0 e1 e5 RH e14
  have:f.next=12∨f.next=13∨f.next=14:=by omega
  rcases this with e|e|e
  ·exact U9 h hf e
  ·exact Va h hf e
  ·exact Vb h hf e
 split
 ·exact Vc h hf (by omega) (by assumption)
 ·exact Vd h hw hf
end
end
section
open Go.RowKit
section
variable {c:NC} {K B w:Nat} {s:aW} {k:aK} {x:cI} {H:Nat→List Nat}
structure CG (c:NC)(K:Nat)(k:aK):Prop where
 ca:∀i,i<3→jv c.np (k.ca i)
 aD:jx k.aD
 av:k.aD.av≤K
 ids:∀y∈k.aD.all,0≤y.id∧y.id<((3*c.np:Nat):Int)
 keys:(k.aS.map (·.1)).Nodup
 aS:∀p∈k.aS,pU p.2
 ended:k.ended.length≤K
 frame:k.frame=none
theorem bN.wC (h:bN c K B H s k)(hx:k.aC=some x):CG c (K+1) k:=by
 have hm:=h.wk.more
 refine⟨hm.ca,hm.aD,hm.av,hm.ids,hm.keys,hm.aS,hm.ended,?_⟩
 cases hf:k.frame with
 |none=>rfl
 |some f=>
  have:=h.wk.one (by rw[hf];rfl)
  rw[this]at hx;cases hx
theorem RA (hd:x.done=false):jk k x={k with aC:=some x}:=if_neg (by rw[hd];decide)
theorem bN.nm {k1:aK}{x':cI}(hp:CG c (K+1) k1)(hb:k1.aD.all.length+x'.due.length≤B)(hn:qX c (K+1) k1.ca x'){s':aW}(hs:hX c (K+1) s')
  {H':Nat→List Nat} (he:dh c.nb H H') (hh:eT c.nb s'.tb H' (K+1)) (ht:∀t,x'.next=3→x'.drop=some t→ib H' t):Kept c K B H s' (jk k1 x'):=by
 rw[RA hn.done]
 refine⟨hs,?_,H',he,hh,⟨fun g t e1=> ?_,fun g t e1=> ?_,fun y t e1 e2 e3=> ?_⟩⟩
 ·exact {
   ca:=hp.ca
   aD:=hp.aD
   av:=hp.av
   ids:=hp.ids
   keys:=hp.keys
   aS:=hp.aS
   ended:=hp.ended
   jQ:=by
    show k1.aD.all.length+iA k1.frame+x'.due.length≤B
    rw[hp.frame];exact hb
   one:=fun e=>by
    have e:k1.frame.isSome=true:=e
    rw[hp.frame]at e;cases e
   frame:=fun g e=>by
    have e:k1.frame=some g:=e
    rw[hp.frame]at e;cases e
   aC:=fun y e=>by injection e with e;subst e;exact hn
   out:=fun e=>by cases e}
 ·have e1:k1.frame=some g:=e1
  rw[hp.frame]at e1;cases e1
 ·have e1:k1.frame=some g:=e1
  rw[hp.frame]at e1;cases e1
 ·injection e1 with e1;subst e1;exact ht t e2 e3
theorem bN.Yr {k1:aK}{x':cI}(hp:CG c (K+1) k1)(hd:x'.done=true)(ho:∀i,i<3→(k1.ca i).out=none)(hb:k1.aD.all.length≤B){s':aW}(hs:hX c (K+1) s')(hh:eT c.nb s'.tb H (K+1)):Kept c K B H s' (jk k1 x'):=by
 have e:jk k1 x'={k1 with aC:=none}:=if_pos hd
 rw[e]
 refine⟨hs,?_,H,dh.refl _ _,hh,⟨fun g t e1=> ?_,fun g t e1=> ?_,fun y t e1=>by cases e1⟩⟩
 ·exact {
   ca:=hp.ca
   aD:=hp.aD
   av:=hp.av
   ids:=hp.ids
   keys:=hp.keys
   aS:=hp.aS
   ended:=hp.ended
   jQ:=by
    show k1.aD.all.length+iA k1.frame+0≤B
    rw[hp.frame];exact hb
   one:=fun _=>rfl
   frame:=fun g e=>by
    have e:k1.frame=some g:=e
    rw[hp.frame]at e;cases e
   aC:=fun y e=>by cases e
   out:=fun _=>ho}
 ·have e1:k1.frame=some g:=e1
  rw[hp.frame]at e1;cases e1
 ·have e1:k1.frame=some g:=e1
  rw[hp.frame]at e1;cases e1
theorem qX.to {ca:Nat→dH}(hs:qX c K ca x)(h6:x.next≤6){y:cI}(y6:y.next≤6)(yd:y.done=x.done)(yt:y.tick=x.tick)(ZW:∀z∈y.due,z<3*c.np)(yw:y.word.ok)(ZY:y.word.tr≤4)(yh:2≤y.next→y.next≤4→y.due≠ [])
  (ZV:y.next=3→∃t,y.drop=some t∧br c.nb (3*c.np) t∧t.done=false) (ZX:y.next=5→∃p,y.on=some p∧p.Ok c.n∧p.done=false∧p.seen≤K∧p.kT=true∧p.at_≤c.n+1) (yc:y.aI=x.aI):qX c K ca y where
 le:=by omega
 done:=by rw[yd];exact hs.done
 tick:=by rw[yt];exact hs.tick
 due:=ZW
 word:=yw
 tr:=ZY
 has:=yh
 drop:=ZV
 on:=ZX
 early:=fun _=>by rw[yc];exact hs.early h6
 aI:=by rw[yc];exact hs.aI
 cl:=by rw[yc];exact hs.cl
 c8:=fun e=>by omega
 out:=fun _=>hs.out (by omega)
 back:=fun e=>by omega
theorem Ip (hs:qX c K k.ca x)(hd:x.due≠ []):x.due.getD 0 0<3*c.np:=by
 rcases hh:x.due with _|⟨a,l⟩
 ·exact absurd hh hd
 ·exact hs.due a (by rw[hh];exact List.mem_cons_self)
theorem Fe {l:List Nat}{z:Nat}(h:z∈l.drop 1):z∈l:=List.mem_of_mem_drop h
theorem Kp {l:List Nat}(h:l≠ []):(l.drop 1).length+1=l.length:=by
 rcases l with _|⟨a,l⟩
 ·exact absurd rfl h
 ·simp
theorem wB (h:bN c K B H s k)(hx:k.aC=some x):k.aD.all.length+x.due.length≤B:=by
 have hb:=h.wk.jQ
 rw[hx]at hb
 unfold tK at hb
 dsimp only at hb
 omega
theorem X4 (h:bN c K B H s k)(hx:k.aC=some x)(e:x.next=0):Kept c K B H s (jk {k with aD:=(fP k.aD x.tick).2} {x with due:=x.due++(iZ (fP k.aD x.tick).1).map fun y=>y.id.toNat,next:=1}):=by
 have hs:=h.wk.aC x hx
 have hk:=h.wC hx
 have hb:=wB h hx
 have uc:=Af (n:=x.tick) hk.aD.pos
 have hl:=uc.perm.length_eq
 rw[List.length_append]at hl
 have sl:=B3 (fP k.aD x.tick).1
 refine bN.nm (k1:={k with aD:=(fP k.aD x.tick).2}) (x':={x with due:=x.due++(iZ (fP k.aD x.tick).1).map fun y=>y.id.toNat,next:=1}) ⟨hk.ca,RF hk.aD,by rw[uc.av];exact hk.av,fun y hy=>hk.ids y (uc.perm.mem_iff.1 (List.mem_append_right _ hy)),hk.keys,hk.aS,hk.ended,hk.frame⟩ (by dsimp only;rw[List.length_append,List.length_map];omega) ?_ h.sh.more (dh.refl _ _) (h.eU.more (by omega)) (fun t e=>by have e:1=3:=e;omega)
 refine hs.more.to (by omega) (by show 1≤6;omega) rfl rfl (fun z hz=> ?_) hs.word hs.tr (fun e=>by have e:2≤1:=e;omega) (fun e=>by have e:1=3:=e;omega) (fun e=>by have e:1=5:=e;omega) rfl
 rcases List.mem_append.1 hz with hz|hz
 ·exact hs.due z hz
 ·obtain⟨y,y1,rfl⟩:=List.mem_map.1 hz
  have y2:=(zc (fP k.aD x.tick).1).mem_iff.1 y1
  have:=hk.ids y (uc.perm.mem_iff.1 (List.mem_append_left _ y2))
  omega
theorem I3 {l:List (Int×dU)}(h:∀p∈l,pU p.2)(i:Int):pU (getM l i):=by
 unfold getM
 split
 ·rename_i p hp
  exact h p (List.mem_of_find?_eq_some hp)
 ·exact⟨by decide,by decide,by decide⟩
theorem Rc {l:List (Int×dU)}{i:Int}(h:(l.map (·.1)).Nodup):((qh l i).map (·.1)).Nodup:=h.sublist (List.filter_sublist.map _)
theorem Rb {l:List (Int×dU)}{i:Int}(h:∀p∈l,pU p.2):∀p∈qh l i,pU p.2:=fun p hp=>h p ((List.mem_filter.1 hp).1)
theorem Aw {gs:List (List (Nat×Nat))}{w i:Nat}{l:List (Nat×Nat)}(hw:w<gs.length):(gs.set w l).getD i []=if w=i then l else gs.getD i []:=SQ gs w i l [] hw
theorem X8 (h:bN c K B H s k)(hw:w<c.n)(hx:k.aC=some x)(e1:1≤x.next)(e4:x.next≤4):Kept c K B H (ie c w s k x).1 (jk (ie c w s k x).2.1 (ie c w s k x).2.2):=by
 have hs:=h.wk.aC x hx
 have hk:=h.wC hx
 have hb:=wB h hx
 have uI:=hs.out (by omega)
 have nI:=h.ok.n
 unfold ie
 split
 ·rename_i e
  refine bN.nm (x':={x with on:=some ⟨0,true,0,0,false,false⟩,next:=5}) hk hb ?_ h.sh.more (dh.refl _ _) (h.eU.more (by omega)) (fun t e=>by have e:5=3:=e;omega)
  exact hs.more.to (by omega) (by show 5≤6;omega) rfl rfl hs.due hs.word hs.tr (fun _ e=>by have e:5≤4:=e;omega) (fun e=>by have e:5=3:=e;omega) (fun _=>⟨_,rfl,⟨by show 0<c.n;omega,by show 0≤100;omega,fun e=>(by cases e),(by show 0<4611686018427387904;omega)⟩,rfl,Nat.zero_le _,rfl,Nat.zero_le _⟩) rfl
 rename_i gK
 have ya:x.due≠ []:=by
  by_cases e:x.next=1
  ·exact fun e'=>gK ⟨e,e'⟩
  ·exact hs.has (by omega) e4
 have hid:=Ip hs ya
 have iW:=Kp ya
 obtain⟨l1,l2⟩:=h.sh.pl.bI (id:=((x.due.getD 0 0:Nat):Int))
 dsimp only
 generalize x.due.getD 0 0=id at*
 split
 ·rename_i e
  split
  ·obtain⟨w1,w2,w3,w4⟩:=HG (c:=c) (k:=k) (p:=fx (id/c.np)) (id:=(id:Int)) (v:=bI s (id:Int)) (t:=x.tick) hk.aD hk.ids (by omega) (by omega)
   have er:=tV k (fx (id/c.np)) (id:Int) (bI s (id:Int)) x.tick
   have Jj:=HF k (fx (id/c.np)) (id:Int) (bI s (id:Int)) x.tick
   generalize fN k (fx (id/c.np)) (id:Int) (bI s (id:Int)) x.tick=k2 at*
   have e2:k2.aS=k.aS:=by rw[er]
   have e3:k2.ended=k.ended:=by rw[er]
   have e5:k2.frame=k.frame:=by rw[er]
   have ht:=h.wk.av
   have Tu:k2.ca=k.ca:=funext Jj
   refine bN.nm (k1:=k2) (x':={x with word:=bI s (id:Int),due:=x.due.drop 1}) ⟨fun i hi=>by rw[Jj];exact hk.ca i hi,w1,by omega,w3,by rw[e2];exact hk.keys,by rw[e2];exact hk.aS,by rw[e3];exact hk.ended,by rw[e5];exact hk.frame⟩ (by dsimp only;omega) ?_ h.sh.more (dh.refl _ _) (h.eU.more (by omega)) (fun t e'=>by have e':x.next=3:=e';omega)
   rw[Tu]
   exact hs.more.to (by omega) (by show x.next≤6;omega) rfl rfl (fun z hz=>hs.due z (Fe hz)) l1 l2 (fun e'=>by have e':2≤x.next:=e';omega) (fun e'=>by have e':x.next=3:=e';omega) (fun e'=>by have e':x.next=5:=e';omega) rfl
  ·refine bN.nm (x':={x with word:=bI s (id:Int),next:=2}) hk hb ?_ h.sh.more (dh.refl _ _) (h.eU.more (by omega)) (fun t e'=>by have e':2=3:=e';omega)
   exact hs.more.to (by omega) (by show 2≤6;omega) rfl rfl hs.due l1 l2 (fun _ _=>ya) (fun e'=>by have e':2=3:=e';omega) (fun e'=>by have e':2=5:=e';omega) rfl
 split
 ·rename_i e
  split
  ·have hg:=I3 hk.aS (id:Int)
   have TJ:=h.wk.ended
   refine bN.nm (k1:={k with ended:=k.ended++[((fx (id/c.np):Int),((c.lo+id%c.np:Nat):Int))]}) (x':={x with dying:=(id:Int),next:=3,drop:=some (kH c 2 (getM k.aS (id:Int)) (id:Int) 23)}) ⟨hk.ca,hk.aD,hk.av,hk.ids,hk.keys,hk.aS,by dsimp only;rw[List.length_append,List.length_singleton];omega,hk.frame⟩ hb ?_ (h.sh.put ⟨by show 3≤3;omega,hs.word.2⟩ hs.tr) (dh.refl _ _) (by rw[(gN _ _ _ _).2.2.1];exact h.eU.more (by omega)) (fun t _ e'=>by injection e' with e';subst e';exact ze (.inr rfl))
   exact hs.more.to (by omega) (by show 3≤6;omega) rfl rfl hs.due hs.word hs.tr (fun _ _=>ya) (fun _=>⟨_,rfl,Yv h.ok hg.proto hg.addr hg.port (by omega) (by omega),rfl⟩) (fun e'=>by have e':3=5:=e';omega) rfl
  ·refine bN.nm (x':={x with next:=1}) hk hb ?_ h.sh.more (dh.refl _ _) (h.eU.more (by omega)) (fun t e'=>by have e':1=3:=e';omega)
   exact hs.more.to (by omega) (by show 1≤6;omega) rfl rfl hs.due hs.word hs.tr (fun e'=>by have e':2≤1:=e';omega) (fun e'=>by have e':1=3:=e';omega) (fun e'=>by have e':1=5:=e';omega) rfl
 split
 ·rename_i e
  obtain⟨t,q1,q2,q3⟩:=hs.drop e
  rw[q1]
  dsimp only
  obtain⟨⟨H',e1,e2,e3⟩,kc,ko⟩:=B6 h.sh.tb h.sh.pl h.eU h.hK q2 (h.Ca.drop x t hx e q1)
  have ei:=h.sh.B7 kc
  generalize bO s.pl c.nb s.tb t=D at*
  obtain⟨eG,t2⟩:=D
  dsimp only at*
  have hn:∀m,m=(if t2.done=true then 4 else 3)→(m=4∨(m=3∧t2.done=false)):=fun m hm=>by
   subst hm
   cases t2.done<;>simp
  obtain⟨m,hm⟩:∃m,m=(if t2.done=true then 4 else 3):=⟨_,rfl⟩
  rw[←hm]
  have hm:=hn m hm
  refine bN.nm (x':={x with drop:=some t2,next:=m}) hk hb ?_ ei e1 e2 (fun u _ eu=>by injection eu with eu;subst eu;exact e3)
  exact hs.more.to (by omega) (by show m≤6;omega) rfl rfl hs.due hs.word hs.tr (fun _ _=>ya) (fun e'=>by
   have e':m=3:=e'
   exact⟨t2,rfl,ko,by rcases hm with hm|hm<;>first|omega|exact hm.2⟩) (fun e'=>by have e':m=5:=e';omega) rfl
 ·rename_i n1 n2 n3
  have gw:=h.sh.ep
  have ft:w<s.gs.length:=by rw[gw.mN];exact hw
  have ei:hX c (K+1) {s with gs:=s.gs.set w (s.gs.getD w []++[(id,s.ep.getD 0 0)])}:=by
   refine⟨h.sh.pl,h.sh.tb,h.sh.po,⟨gw.len,by dsimp only;rw[List.length_set];exact gw.mN,gw.more.now,gw.more.pins,fun i t ht=> ?_,fun i=> ?_⟩⟩
   ·dsimp only at ht
    rw[Aw ft]at ht
    split at ht
    ·rcases List.mem_append.1 ht with ht|ht
     ·exact gw.more.ids w t ht
     ·rw[List.mem_singleton.1 ht]
      exact⟨hid,by have:=gw.now;show s.ep.getD 0 0≤_;omega⟩
    ·exact gw.more.ids i t ht
   ·dsimp only
    rw[Aw ft]
    split
    ·rw[List.length_append,List.length_singleton]
     have:=gw.kp w
     omega
    ·exact gw.more.kp i
  refine bN.nm (k1:={k with aS:=qh k.aS (id:Int)}) (x':={x with dying:= -1,due:=x.due.drop 1,next:=1}) ⟨hk.ca,hk.aD,hk.av,hk.ids,Rc hk.keys,Rb hk.aS,hk.ended,hk.frame⟩ (by dsimp only;omega) ?_ ei (dh.refl _ _) (h.eU.more (by omega)) (fun t e'=>by have e':1=3:=e';omega)
  exact hs.more.to (by omega) (by show 1≤6;omega) rfl rfl (fun z hz=>hs.due z (Fe hz)) hs.word hs.tr (fun e'=>by have e':2≤1:=e';omega) (fun e'=>by have e':1=3:=e';omega) (fun e'=>by have e':1=5:=e';omega) rfl
theorem RL {e:jg}(hk:pT c K s.ep s.gs)(ho:e.Ok c.n)(hs:e.seen≤K)(ha:e.kT=true)(hd:e.done=false)(uq:e.at_≤c.n+1)(hc:c.Ok)(hK:K<65000):pT c (K+1) (cv c.n s.ep e).1 s.gs∧(cv c.n s.ep e).2.Ok c.n∧(cv c.n s.ep e).2.seen≤K+1∧(cv c.n s.ep e).2.kT=true∧((cv c.n s.ep e).2.done=false→(cv c.n s.ep e).2.at_≤c.n+1):=by
 have hn:=hk.now
 have nI:=hc.n
 unfold cv
 rw[if_neg (by rw[hd];decide),if_pos ha]
 unfold nE
 split
 ·exact⟨hk.more,⟨ho.worker,by show 1≤100;omega,fun e'=>(by have e':e.kT=false:=e';rw[ha]at e';cases e'),by show s.ep.getD 0 0<_;have:=hk.pins 0;have:=ho.seen;omega⟩,by show s.ep.getD 0 0≤_;omega,ha,fun _=>by show 1≤_;omega⟩
 split
 ·exact⟨hk.more,⟨ho.worker,by show e.at_+1≤100;omega,fun e'=>(by have e':e.kT=false:=e';rw[ha]at e';cases e'),ho.seen⟩,by show e.seen≤_;omega,ha,fun _=>by show e.at_+1≤_;omega⟩
 ·refine⟨?_,⟨ho.worker,by show e.at_+1≤100;omega,fun e'=>(by have e':e.kT=false:=e';rw[ha]at e';cases e'),ho.seen⟩,by show e.seen≤_;omega,ha,fun e=>by cases e⟩
  split
  ·refine⟨by rw[List.length_set];exact hk.len,hk.mN,?_,fun j=> ?_,hk.more.ids,hk.more.kp⟩
   ·rw[qp (by rw[hk.len];omega)];omega
   ·by_cases e0:0=j
    ·subst e0
     rw[qp (by rw[hk.len];omega)];omega
    ·rw[mP e0];have:=hk.pins j;omega
  ·exact hk.more
theorem X5 (h:bN c K B H s k)(hx:k.aC=some x)(e:x.next=5){p:jg}(hp:x.on=some p):Kept c K B H {s with ep:=(cv c.n s.ep p).1} (jk k {x with on:=some (cv c.n s.ep p).2,next:=if(cv c.n s.ep p).2.done=true then 6 else 5}):=by
 have hs:=h.wk.aC x hx
 have hk:=h.wC hx
 have hb:=wB h hx
 obtain⟨p',q1,q2,q3,q4,q5,q6⟩:=hs.on e
 rw[hp]at q1
 injection q1 with q1
 subst q1
 obtain⟨r1,r2,r3,r4,r5⟩:=RL h.sh.ep q2 q4 q5 q3 q6 h.ok h.hK
 have ei:hX c (K+1) {s with ep:=(cv c.n s.ep p).1}:=⟨h.sh.pl,h.sh.tb,h.sh.po,r1⟩
 generalize cv c.n s.ep p=D at*
 obtain⟨kg,p2⟩:=D
 dsimp only at*
 obtain⟨m,hm⟩:∃m,m=(if p2.done=true then 6 else 5):=⟨_,rfl⟩
 rw[←hm]
 have hm:m=6∨(m=5∧p2.done=false):=by
  subst hm
  cases p2.done<;>simp
 refine bN.nm (x':={x with on:=some p2,next:=m}) hk hb ?_ ei (dh.refl _ _) (h.eU.more (by omega)) (fun t e'=>by have e':m=3:=e';omega)
 exact hs.more.to (by omega) (by show m≤6;omega) rfl rfl hs.due hs.word hs.tr (fun e' e2=>by have e2:m≤4:=e2;omega) (fun e'=>by have e':m=3:=e';omega) (fun e'=>by
  have e':m=5:=e'
  have hd:p2.done=false:=by
   rcases hm with hm|hm
   ·omega
   ·exact hm.2
  exact⟨p2,rfl,r2,hd,r3,r4,r5 hd⟩) rfl
theorem X6 (h:bN c K B H s k)(hw:w<c.n)(hx:k.aC=some x)(e:x.next=6):Kept c K B H {s with gs:=s.gs.set w (kK (s.ep.getD 0 0) (s.gs.getD w []))} (jk k {x with aI:=x.aI++(fS (s.ep.getD 0 0) (s.gs.getD w [])).map (·.1),next:=7}):=by
 have hs:=h.wk.aC x hx
 have hk:=h.wC hx
 have hb:=wB h hx
 have gw:=h.sh.ep
 have ft:w<s.gs.length:=by rw[gw.mN];exact hw
 have h0:=hs.early (by omega)
 have TK:=gw.kp w
 refine bN.nm (x':={x with aI:=x.aI++(fS (s.ep.getD 0 0) (s.gs.getD w [])).map (·.1),next:=7}) hk hb ?_ ⟨h.sh.pl,h.sh.tb,h.sh.po,⟨gw.len,by dsimp only;rw[List.length_set];exact gw.mN,gw.more.now,gw.more.pins,fun i t ht=> ?_,fun i=> ?_⟩⟩ (dh.refl _ _) (h.eU.more (by omega)) (fun t e'=>by have e':7=3:=e';omega)
 ·exact {
   le:=by show 7≤9;omega
   done:=hs.done
   tick:=hs.tick
   due:=hs.due
   word:=hs.word
   tr:=hs.tr
   has:=fun _ e=>by have e:7≤4:=e;omega
   drop:=fun e=>by have e:7=3:=e;omega
   on:=fun e=>by have e:7=5:=e;omega
   early:=fun e=>by have e:7≤6:=e;omega
   aI:=fun y hy=>by
    dsimp only at hy
    rw[h0,List.nil_append]at hy
    obtain⟨t,t1,rfl⟩:=List.mem_map.1 hy
    exact(gw.ids w t ((List.mem_filter.1 t1).1)).1
   cl:=by
    dsimp only
    rw[h0,List.nil_append,List.length_map]
    have:=List.length_filter_le (fun t:Nat×Nat=>decide (t.2+2≤s.ep.getD 0 0)) (s.gs.getD w [])
    unfold fS
    omega
   c8:=fun e=>by have e:7=8:=e;omega
   out:=fun _=>hs.out (by omega)
   back:=fun e=>by have e:7=9:=e;omega}
 ·dsimp only at ht
  rw[Aw ft]at ht
  split at ht
  ·exact gw.more.ids w t ((List.mem_filter.1 ht).1)
  ·exact gw.more.ids i t ht
 ·dsimp only
  rw[Aw ft]
  split
  ·have:=List.length_filter_le (fun t:Nat×Nat=> !decide (t.2+2≤s.ep.getD 0 0)) (s.gs.getD w [])
   unfold kK
   omega
  ·exact gw.more.kp i
theorem Km {d:Nat}{o:bM}(hd:d<3)(ho:(k.ca d).out=some o)(hp:o.parts.any (fun p=>decide (p.2≠0))=true)(hn:∀i,i<3→i≠d→(k.ca i).out=none):ew k=d:=by
 have e0:k.ca 0=k.c0:=rfl
 have e1:k.ca 1=k.c1:=rfl
 have e2:k.ca 2=k.c2:=rfl
 have jE:d=0∨d=1∨d=2:=by omega
 unfold ew
 rcases jE with rfl|rfl|rfl
 ·rw[e0]at ho
  rw[←e1,←e2,hn 1 (by omega) (by omega),hn 2 (by omega) (by omega)]
  rfl
 ·rw[e1]at ho
  rw[←e2,hn 2 (by omega) (by omega),ho]
  simp only[hp]
  rfl
 ·rw[e2]at ho
  rw[ho]
  simp only[hp]
  rfl
theorem pP.any {np:Nat}{o:bM}(h:pP np o):o.parts.any (fun p=>decide (p.2≠0))=true:=by
 rcases hh:o.parts with _|⟨p,l⟩
 ·exact absurd hh h.ne
 ·have:=h.nz p (by rw[hh];exact List.mem_cons_self)
  simp[this]
theorem X7 (h:bN c K B H s k)(hx:k.aC=some x)(e7:7≤x.next):Kept c K B H (dO c s k x).1 (jk (dO c s k x).2.1 (dO c s k x).2.2):=by
 have hs:=h.wk.aC x hx
 have hk:=h.wC hx
 have hb:=wB h hx
 have hle:=hs.le
 have cU:=h.ok.np
 unfold dO
 split
 ·rename_i e
  have uI:=hs.out (by omega)
  split
  ·exact bN.Yr hk rfl uI (by omega) h.sh.more (h.eU.more (by omega))
  ·rename_i hc
   obtain⟨l1,l2⟩:=h.sh.pl.bI (id:=((x.aI.getD 0 0:Nat):Int))
   refine bN.nm (x':={x with word:=bI s ((x.aI.getD 0 0:Nat):Int),next:=8}) hk hb ?_ h.sh.more (dh.refl _ _) (h.eU.more (by omega)) (fun t e'=>by have e':8=3:=e';omega)
   exact {
    le:=by show 8≤9;omega
    done:=hs.done
    tick:=hs.tick
    due:=hs.due
    word:=l1
    tr:=l2
    has:=fun _ e=>by have e:8≤4:=e;omega
    drop:=fun e=>by have e:8=3:=e;omega
    on:=fun e=>by have e:8=5:=e;omega
    early:=fun e=>by have e:8≤6:=e;omega
    aI:=hs.aI
    cl:=by have:=hs.cl;show x.aI.length≤_;omega
    c8:=fun _=>hc
    out:=fun _=>uI
    back:=fun e=>by have e:8=9:=e;omega}
 split
 ·rename_i e
  have uI:=hs.out (by omega)
  have hc:=hs.c8 e
  have hid:x.aI.getD 0 0<3*c.np:=by
   rcases hh:x.aI with _|⟨a,l⟩
   ·exact absurd hh hc
   ·exact hs.aI a (by rw[hh];exact List.mem_cons_self)
  have iW:=Kp hc
  dsimp only
  generalize x.aI.getD 0 0=id at*
  have hd:id/c.np<3:=by rw[Nat.div_lt_iff_lt_mul (by omega)];omega
  have hm:id%c.np<c.np:=Nat.mod_lt _ (by omega)
  obtain⟨c1,c2⟩:=(hk.ca _ hd).put cU.2 hm (uI _ hd)
  generalize id/c.np=d at*
  generalize id%c.np=y at*
  obtain⟨r1,r2,r3,r4,r5,r6,r7,r8⟩:=nj k d (fO c.np (k.ca d) y).1
  have jD:=hs.cl
  refine bN.nm (k1:=k.cK d (fO c.np (k.ca d) y).1) (x':={x with aI:=x.aI.drop 1,back:=some (fO c.np (k.ca d) y).2,next:=9}) ⟨fun i hi=> ?_,by rw[r3];exact hk.aD,by rw[r3];exact hk.av,by rw[r3];exact hk.ids,by rw[r4];exact hk.keys,by rw[r4];exact hk.aS,by rw[r8];exact hk.ended,by rw[r1];exact hk.frame⟩ (by rw[r3];exact hb) ?_ (h.sh.put ⟨by show 0≤3;omega,hs.word.2⟩ hs.tr) (dh.refl _ _) (by rw[(gN _ _ _ _).2.2.1];exact h.eU.more (by omega)) (fun t e'=>by have e':9=3:=e';omega)
  ·rw[nU k d i hd hi]
   split
   ·exact c1
   ·exact hk.ca i hi
  ·exact {
    le:=by show 9≤9;omega
    done:=hs.done
    tick:=hs.tick
    due:=hs.due
    word:=hs.word
    tr:=hs.tr
    has:=fun _ e=>by have e:9≤4:=e;omega
    drop:=fun e=>by have e:9=3:=e;omega
    on:=fun e=>by have e:9=5:=e;omega
    early:=fun e=>by have e:9≤6:=e;omega
    aI:=fun z hz=>hs.aI z (Fe hz)
    cl:=by show(x.aI.drop 1).length≤_;omega
    c8:=fun e=>by have e:9=8:=e;omega
    out:=fun e=>absurd rfl e
    back:=fun _=>by
     refine⟨_,rfl,?_⟩
     rcases c2 with ⟨c2,c3⟩|⟨c2,c3⟩
     ·rw[c3]
      refine⟨rfl,.inl ⟨rfl,fun i hi=> ?_⟩⟩
      rw[nU k d i hd hi]
      split
      ·exact c2
      ·exact uI i hi
     ·rw[c3]
      refine⟨rfl,.inr ⟨rfl,d,hd,?_,fun i hi gK=> ?_⟩⟩
      ·rw[nU k d d hd hd,if_pos rfl];exact c2
      ·rw[nU k d i hd hi,if_neg gK];exact uI i hi}
 ·have e:x.next=9:=by omega
  obtain⟨b,b1,b2,b3⟩:=hs.back e
  rw[b1]
  dsimp only
  have bY:=E9 k
  rcases b3 with ⟨b3,b4⟩|⟨b3,d,hd,⟨o,ho⟩,hn⟩
  ·rw[HZ b2 b3]
   dsimp only
   rw[if_pos rfl]
   obtain⟨r1,r2,r3,r4,r5,r6,r7,r8⟩:=nj k (ew k) (k.ca (ew k))
   have rA:∀i,i<3→(k.cK (ew k) (k.ca (ew k))).ca i=k.ca i:=fun i hi=>by
    rw[nU k _ i bY hi]
    split
    ·rename_i e;rw[e]
    ·rfl
   refine bN.nm (k1:=k.cK (ew k) (k.ca (ew k))) (x':={x with back:=some {b with done:=true},next:=7}) ⟨fun i hi=>by rw[rA i hi];exact hk.ca i hi,by rw[r3];exact hk.aD,by rw[r3];exact hk.av,by rw[r3];exact hk.ids,by rw[r4];exact hk.keys,by rw[r4];exact hk.aS,by rw[r8];exact hk.ended,by rw[r1];exact hk.frame⟩ (by rw[r3];exact hb) ?_ (h.sh.uW bY (h.sh.po _ bY)) (dh.refl _ _) (by rw[(nV _ _ _).2.1];exact h.eU.more (by omega)) (fun t e'=>by have e':7=3:=e';omega)
   exact {
    le:=by show 7≤9;omega
    done:=hs.done
    tick:=hs.tick
    due:=hs.due
    word:=hs.word
    tr:=hs.tr
    has:=fun _ e=>by have e:7≤4:=e;omega
    drop:=fun e=>by have e:7=3:=e;omega
    on:=fun e=>by have e:7=5:=e;omega
    early:=fun e=>by have e:7≤6:=e;omega
    aI:=hs.aI
    cl:=by have:=hs.cl;show x.aI.length≤_;omega
    c8:=fun e=>by have e:7=8:=e;omega
    out:=fun _ i hi=>by rw[rA i hi];exact b4 i hi
    back:=fun e=>by have e:7=9:=e;omega}
  ·have vO:=(hk.ca d hd).out o ho
   rw[Km hd ho vO.any hn,QO b2 b3 ho]
   dsimp only
   obtain⟨p1,p2⟩:=(hk.ca d hd).back (h.sh.po d hd) ho
   generalize bp (s.po d) o=D at*
   obtain⟨kg,o2⟩:=D
   dsimp only at*
   obtain⟨r1,r2,r3,r4,r5,r6,r7,r8⟩:=nj k d {k.ca d with out:=if o2.done=true then none else some o2}
   obtain⟨m,hm⟩:∃m,m=(if o2.done=true then 7 else 9):=⟨_,rfl⟩
   rw[←hm]
   have hm:(m=7∧o2.done=true)∨(m=9∧o2.done=false):=by
    subst hm
    cases o2.done<;>simp
   refine bN.nm (k1:=k.cK d {k.ca d with out:=if o2.done=true then none else some o2}) (x':={x with back:=some {b with done:=o2.done},next:=m}) ⟨fun i hi=> ?_,by rw[r3];exact hk.aD,by rw[r3];exact hk.av,by rw[r3];exact hk.ids,by rw[r4];exact hk.keys,by rw[r4];exact hk.aS,by rw[r8];exact hk.ended,by rw[r1];exact hk.frame⟩ (by rw[r3];exact hb) ?_ (h.sh.uW hd p1) (dh.refl _ _) (by rw[(nV _ _ _).2.1];exact h.eU.more (by omega)) (fun t e'=>by have e':m=3:=e';omega)
   ·rw[nU k d i hd hi]
    split
    ·exact p2
    ·exact hk.ca i hi
   exact {
    le:=by show m≤9;omega
    done:=hs.done
    tick:=hs.tick
    due:=hs.due
    word:=hs.word
    tr:=hs.tr
    has:=fun _ e=>by have e:m≤4:=e;omega
    drop:=fun e=>by have e:m=3:=e;omega
    on:=fun e=>by have e:m=5:=e;omega
    early:=fun e=>by have e:m≤6:=e;omega
    aI:=hs.aI
    cl:=by have:=hs.cl;show x.aI.length≤_;omega
    c8:=fun e=>by have e:m=8:=e;omega
    out:=fun e i hi=>by
     have e:m≠9:=e
     have xY:o2.done=true:=by
      rcases hm with hm|hm
      ·exact hm.2
      ·omega
     rw[nU k d i hd hi]
     split
     ·rfl
     ·rename_i gK;exact hn i hi gK
    back:=fun e=>by
     have e:m=9:=e
     have xY:o2.done=false:=by
      rcases hm with hm|hm
      ·omega
      ·exact hm.2
     refine⟨_,rfl,xY,.inr ⟨b3,d,hd,⟨o2,?_⟩,fun i hi gK=> ?_⟩⟩
     ·rw[nU k d d hd hd,if_pos rfl]
      dsimp only
      rw[if_neg (by rw[xY];decide)]
     ·rw[nU k d i hd hi,if_neg gK];exact hn i hi gK}
theorem Yl (h:bN c K B H s k)(hw:w<c.n)(hx:k.aC=some x):Kept c K B H (cg c w s k x).1 (jk (cg c w s k x).2.1 (cg c w s k x).2.2):=by
 have hs:=h.wk.aC x hx
 have hle:=hs.le
 unfold cg
 split
 ·exact X4 h hx (by assumption)
 split
 ·exact X8 h hw hx (by omega) (by assumption)
 split
 ·rename_i e
  obtain⟨p,q1,_⟩:=hs.on e
  rw[q1]
  exact X5 h hx e q1
 split
 ·exact X6 h hw hx (by assumption)
 ·exact X7 h hx (by omega)
end
end
section
open Go.RowKit
section
variable {c:NC} {K B w:Nat} {n:cH} {s:aW} {k:aK} {f:aM} {x:cI} {H:Nat→List Nat}
theorem bN.B4 (h:bN c K B H s k)(hB:B≤300)(hw:w<c.n)(hf:k.frame=some f):vq c w s k f:=by
 have hs:=h.wk.frame f hf
 have c6:=h.part hf
 have cU:=h.ok.np
 have hb:=h.wk.jQ
 have ht:=h.wk.av
 have hK:=h.hK
 exact {
  w:=hw
  gs:=h.sh.ep.mN
  ep:=h.sh.ep.ok h.ok h.hK
  pl:=h.sh.pl
  tb:=h.sh.tb
  wk:=⟨c6.out,fun i hi=>(h.sh.po i hi).words⟩
  dz:=hs.dz
  le:=hs.le
  fin:=fun e=>hs.fin (by omega)
  cb:=fun e=>by
   obtain⟨p,a1,a2,a3,_⟩:=hs.cb e
   exact⟨p,a1,a2,a3⟩
  known:=fun e1 e2=>{
   fin:=hs.fin (by omega)
   fc:=hs.fc
   find:=fun e=>by
    obtain⟨t,a1,a2,a3,_⟩:=hs.find (.inl e)
    exact⟨t,a1,a2,a3⟩
   id:=fun e=>hs.id (.inl ⟨by omega,e2⟩)
   word:=hs.word
   now:=hs.now}
  fresh:=fun e1 e2=>{
   fin:=hs.fin (by omega)
   fe:=hs.fe e1 (by omega)
   fill:=fun e=>by
    obtain⟨x,a1,a2,a3⟩:=hs.fill e
    refine⟨x,a1,a2,?_⟩
    rcases a3 with ⟨a3,a4,_⟩|a3
    ·exact .inl ⟨a3,a4.ok⟩
    ·exact .inr a3
   find:=fun e=>by
    obtain⟨t,a1,a2,a3,_⟩:=hs.find (.inr e)
    exact⟨t,a1,a2,a3⟩
   mB:=fun e=>by
    obtain⟨x,a1,a2,a3,a4,a5,a6⟩:=hs.mB e
    refine⟨x,a1,a2,a3,a4,?_⟩
    have:=(a5.nq a6).1
    rw[this];unfold mW;omega
   again:=fun e=>by
    obtain⟨x,a1,a2,a3,a4,_⟩:=hs.again e
    exact⟨x,a1,a2,a3,a4⟩
   id:=fun e=>hs.id (.inr ⟨by omega,by omega⟩)
   word:=hs.word
   len:=by have:=(c6.ca _ (k9 f.ai.proto)).len;omega
   top:=Mj (c6.ca _ (k9 f.ai.proto)) cU.1}
  enters:=fun e1 e2=>{
   fin:=hs.fin (by omega)
   fe:=hs.fe (by omega) e2
   enter:=hs.enter
   back:=fun e=>by
    obtain⟨t,a1,_⟩:=hs.back e
    exact⟨t,a1⟩
   id:=hs.id (.inr ⟨by omega,by omega⟩)
   word:=hs.word
   tr:=hs.tr
   aD:=c6.aD
   all:=by omega
   av:=by omega
   keys:=c6.keys
   room:=fun e=>by have:=hs.pop (by omega) (by omega);omega}
  Kd:=fun e1 e2=>{
   fin:=hs.fin (by omega)
   id:=hs.id (.inr ⟨by omega,by omega⟩)
   word:=hs.word
   now:=hs.now
   tr:=hs.tr
   addr:=fun e=>(hs.addr e).1
   port:=fun e=>(hs.addr e).2}}
theorem bN.Yt (h:bN c K B H s k)(hB:B≤300)(hw:w<c.n)(hx:k.aC=some x):xh c w (mW c.np) s k x:=by
 have hs:=h.wk.aC x hx
 have hk:=h.wC hx
 have cU:=h.ok.np
 have hb:=wB h hx
 have ht:=h.wk.av
 have hK:=h.hK
 have TJ:=h.wk.ended
 have TK:=h.sh.ep.kp w
 exact {
  le:=hs.le
  gs:=h.sh.ep.mN
  ep:=h.sh.ep.ok h.ok h.hK
  pl:=h.sh.pl
  wh:=fun e=>by
   have uc:=Af (n:=x.tick) hk.aD.pos
   have hl:=uc.perm.length_eq
   rw[List.length_append]at hl
   exact⟨hk.aD,by omega,fun y hy=>(hk.ids y (uc.perm.mem_iff.1 (List.mem_append_left _ hy))).1,by omega,by omega⟩
  ends:=fun e1 e4=>by
   have hg:=I3 hk.aS ((x.due.getD 0 0:Nat):Int)
   have hd:x.due≠ []→x.due.getD 0 0<3*c.np:=Ip hs
   exact {
    zo:=hw
    gs:=h.sh.ep.mN
    ep:=h.sh.ep.ok h.ok h.hK
    room:=by omega
    pl:=h.sh.pl
    tb:=h.sh.tb
    tick:=hs.tick
    has:=fun e=>by
     have:=hs.has (by omega) e4
     rcases hh:x.due with _|⟨a,l⟩
     ·exact absurd hh this
     ·simp
    id:=fun e=>hd (fun e'=>by rw[e']at e;simp at e)
    wh:=⟨hk.aD,by omega,by omega⟩
    word:=fun _=>hs.word
    ended:=by omega
    f1:=by have:=hg.proto;omega
    f2:=hg.addr
    f3:=hg.port
    drop:=hs.drop}
  on:=fun e=>by
   obtain⟨p,a1,a2,a3,_⟩:=hs.on e
   exact⟨p,a1,a2,a3⟩
  take:=fun e=>by
   have hl:(fS (s.ep.getD 0 0) (s.gs.getD w [])).length≤(s.gs.getD w []).length:=List.length_filter_le _ _
   refine⟨by omega,fun t ht=> ?_,by omega,by have:=hs.cl;omega⟩
   obtain⟨y,y1,rfl⟩:=List.mem_map.1 ht
   have:=(h.sh.ep.ids w y ((List.mem_filter.1 y1).1)).1
   omega
  f7:=fun e hl=>by
   rcases hh:x.aI with _|⟨a,l⟩
   ·rw[hh]at hl;simp at hl
   ·exact hs.aI a (by rw[hh];exact List.mem_cons_self)
  f8:=fun e=>by
   have hc:=hs.c8 e
   have hlen:1≤x.aI.length∧x.aI.getD 0 0<3*c.np:=by
    rcases hh:x.aI with _|⟨a,l⟩
    ·exact absurd hh hc
    ·exact⟨by simp,hs.aI a (by rw[hh];exact List.mem_cons_self)⟩
   have hd:x.aI.getD 0 0/c.np<3:=by rw[Nat.div_lt_iff_lt_mul (by omega)];omega
   exact⟨hlen.1,hlen.2,hs.word,hs.out (by omega),(hk.ca _ hd).len⟩
  f9:=fun e=>by
   refine⟨fun i hi o ho=>((hk.ca i hi).out o ho).ok,by unfold mW;omega,fun i hi o ho=>by have:=((hk.ca i hi).out o ho).len;omega,fun i hi=>(h.sh.po i hi).words,?_⟩
   obtain⟨b,b1,b2,b3⟩:=hs.back e
   refine⟨b,b1,b2,?_⟩
   rcases b3 with ⟨b3,_⟩|⟨b3,d,hd,⟨o,ho⟩,hn⟩
   ·exact .inl b3
   ·refine .inr ⟨b3,o,?_⟩
    rw[Km hd ho ((hk.ca d hd).out o ho).any hn];exact ho}
theorem Safe.base (h:Safe c K B n)(hc:c.Ok)(hK:K<65000)(hw:w<c.n):∃H,bN c K B H n.sh (n.wk.getD w al)∧∀v,v<c.n→qZ H (n.wk.getD v al):=by
 obtain⟨H,h1,h2⟩:=h.eU
 exact⟨H,⟨hc,hK,h.sh,h.wk w hw,h1,h2 w hw⟩,h2⟩
theorem Safe.Ry (h:Safe c K B n)(hc:c.Ok)(hK:K<65000)(hB:B≤300)(hw:w<c.n):zA c w n:=by
 obtain⟨H,hb,_⟩:=h.base hc hK hw
 unfold zA
 cases hf:(n.wk.getD w al).frame with
 |some f=>exact⟨hb.wk.one (by rw[hf];rfl),hb.B4 hB hw hf⟩
 |none=>
  dsimp only
  cases hx:(n.wk.getD w al).aC with
  |some x=>exact⟨_,hb.Yt hB hw hx⟩
  |none=>trivial
theorem Safe.kept (h:Safe c K B n)(hw:w<c.n){s':aW}{k':aK}(hk:Kept c K B H s' k')(ht:∀v,v<c.n→qZ H (n.wk.getD v al)):Safe c (K+1) B ⟨s',n.wk.set w k'⟩:=by
 obtain⟨H',e1,e2,e3⟩:=hk.eU
 have hl:=h.wl
 refine⟨by dsimp only;rw[List.length_set];exact hl,hk.sh,fun v hv=> ?_,H',e2,fun v hv=> ?_⟩
 ·dsimp only
  rw[vL _ _ _ _ (by omega)]
  split
  ·exact hk.wk
  ·exact(h.wk v hv).more
 ·dsimp only
  rw[vL _ _ _ _ (by omega)]
  split
  ·exact e3
  ·exact(ht v hv).ext (h.wk v hv) e1
theorem Safe.B4 (h:Safe c K B n)(hc:c.Ok)(hK:K<65000)(hB:B≤300)(hw:w<c.n){f:aM}(hf:(n.wk.getD w al).frame=some f):(n.wk.getD w al).aC=none∧vq c w n.sh (n.wk.getD w al) f:=by
 obtain⟨H,hb,_⟩:=h.base hc hK hw
 exact⟨hb.wk.one (by rw[hf];rfl),hb.B4 hB hw hf⟩
theorem Safe.Rz (h:Safe c K B n)(hc:c.Ok)(hK:K<65000)(hw:w<c.n){f:aM}(hf:(n.wk.getD w al).frame=some f):Safe c (K+1) B (bX c w n).1:=by
 obtain⟨H,hb,ht⟩:=h.base hc hK hw
 rw[Fg h.wl hw hf]
 exact h.kept hw (L9 hb hw hf) ht
theorem Safe.xG (h:Safe c K B n)(hc:c.Ok)(hK:K<65000)(hw:w<c.n):Safe c (K+1) B (bX c w n).1:=by
 obtain⟨H,hb,ht⟩:=h.base hc hK hw
 cases hf:(n.wk.getD w al).frame with
 |some f=>
  rw[Fg h.wl hw hf]
  exact h.kept hw (L9 hb hw hf) ht
 |none=>
  cases hx:(n.wk.getD w al).aC with
  |some x=>
   rw[KK h.wl hw hf hx]
   exact h.kept hw (Yl hb hw hx) ht
  |none=>
   rw[KJ h.wl hw hf hx]
   obtain⟨H,h1,h2⟩:=h.eU
   exact⟨h.wl,h.sh.more,fun v hv=>(h.wk v hv).more,H,h1.more (by omega),h2⟩
theorem oX.room (h:oX c K B k):oX c K (B+1) k:={h with jQ:=by have:=h.jQ;omega}
theorem Safe.room (h:Safe c K B n):Safe c K (B+1) n:=⟨h.wl,h.sh,fun v hv=>(h.wk v hv).room,h.eU⟩
theorem Safe.gJ (h:Safe c K B n)(hw:w<c.n){k':aK}(hk:oX c K B k')(ht:∀H,qZ H k'):Safe c K B ⟨n.sh,n.wk.set w k'⟩:=by
 obtain⟨H,h1,h2⟩:=h.eU
 have hl:=h.wl
 refine⟨by dsimp only;rw[List.length_set];exact hl,h.sh,fun v hv=> ?_,H,h1,fun v hv=> ?_⟩
 ·dsimp only
  rw[vL _ _ _ _ (by omega)]
  split
  ·exact hk
  ·exact h.wk v hv
 ·dsimp only
  rw[vL _ _ _ _ (by omega)]
  split
  ·exact ht H
  ·exact h2 v hv
def Qx (k:aK)(out:Bool)(b:List UInt8)(tick:Int):aK:={k with frame:=some (oy out b tick)}
def Yu (k:aK)(tick:Int):aK:={k with aC:=some (lM tick),ended:=[]}
theorem zV (h:k.busy=false):k.frame=none∧k.aC=none:=by
 unfold aK.busy at h
 rw[Bool.or_eq_false_iff]at h
 obtain⟨h1,h2⟩:=h
 exact⟨by simpa using h1,by simpa using h2⟩
theorem Safe.begin (h:Safe c K B n)(hw:w<c.n)(hi:(n.wk.getD w al).busy=false)(out:Bool){b:List UInt8}(hb:b.length≤140737488355328)(tick:Int):Safe c K (B+1) ⟨n.sh,n.wk.set w (Qx (n.wk.getD w al) out b tick)⟩:=by
 obtain⟨i1,i2⟩:=zV hi
 have hk:=h.wk w hw
 refine h.room.gJ hw ?_ (fun H=>⟨fun g t e1 e2=> ?_,fun g t e1 e2=> ?_,fun y t e1=> ?_⟩)
 ·exact {
   ca:=hk.ca
   aD:=hk.aD
   av:=hk.av
   ids:=hk.ids
   keys:=hk.keys
   aS:=hk.aS
   ended:=hk.ended
   jQ:=by
    show(n.wk.getD w al).aD.all.length+1+tK (n.wk.getD w al).aC≤B+1
    have:=hk.jQ
    rw[i2]at this ⊢
    have e:tK none=0:=rfl
    rw[e]at this ⊢
    omega
   one:=fun _=>i2
   frame:=fun g e=>by
    injection e with e
    subst e
    exact {
     le:=by show 0≤18;omega
     done:=rfl
     dz:=hb
     fin:=fun e=>absurd rfl e
     fc:=fun e=>by cases e
     cb:=fun e=>by have e:0=1:=e;omega
     start:=fun _=>rfl
     pE:=fun e=>by have e:0=1:=e;omega
     find:=fun e=>by have e:0=2∨0=7:=e;omega
     id:=fun e=>by have e:(3≤0∧0≤5)∨(10≤0∧0≤17):=e;omega
     word:=zk
     tr:=by show 0≤4;omega
     now:=zk
     dv:=by show 0≤4;omega
     fe:=fun e=>by have e:6≤0:=e;omega
     fill:=fun e=>by have e:0=6:=e;omega
     mB:=fun e=>by have e:0=7:=e;omega
     again:=fun e=>by have e:0=8:=e;omega
     enter:=fun e=>by have e:0=12:=e;omega
     back:=fun e=>by have e:0=14:=e;omega
     pop:=fun e=>by have e:12≤0:=e;omega
     addr:=fun e=>by have e:0=17:=e;omega}
   aC:=fun y e=>by
    have e:(n.wk.getD w al).aC=some y:=e
    rw[i2]at e;cases e
   out:=fun _=>hk.out i2}
 ·injection e1 with e1;subst e1
  have e2:0=2∨0=7:=e2
  omega
 ·injection e1 with e1;subst e1
  have e2:0=12:=e2
  omega
 ·have e1:(n.wk.getD w al).aC=some y:=e1
  rw[i2]at e1;cases e1
theorem Safe.aC (h:Safe c K B n)(hw:w<c.n)(hi:(n.wk.getD w al).busy=false){tick:Int}(ht:0≤tick∧tick≤4294967295):Safe c K B ⟨n.sh,n.wk.set w (Yu (n.wk.getD w al) tick)⟩:=by
 obtain⟨i1,i2⟩:=zV hi
 have hk:=h.wk w hw
 refine h.gJ hw ?_ (fun H=>⟨fun g t e1 e2=> ?_,fun g t e1 e2=> ?_,fun y t e1 e2=> ?_⟩)
 ·exact {
   ca:=hk.ca
   aD:=hk.aD
   av:=hk.av
   ids:=hk.ids
   keys:=hk.keys
   aS:=hk.aS
   ended:=Nat.zero_le _
   jQ:=by
    show(n.wk.getD w al).aD.all.length+iA (n.wk.getD w al).frame+0≤B
    have:=hk.jQ
    omega
   one:=fun e=>by
    have e:(n.wk.getD w al).frame.isSome=true:=e
    rw[i1]at e;cases e
   frame:=fun g e=>by
    have e:(n.wk.getD w al).frame=some g:=e
    rw[i1]at e;cases e
   aC:=fun y e=>by
    injection e with e
    subst e
    exact {
     le:=by show 0≤9;omega
     done:=rfl
     tick:=ht
     due:=fun y hy=>by cases hy
     word:=zk
     tr:=by show 0≤4;omega
     has:=fun e=>by have e:2≤0:=e;omega
     drop:=fun e=>by have e:0=3:=e;omega
     on:=fun e=>by have e:0=5:=e;omega
     early:=fun _=>rfl
     aI:=fun y hy=>by cases hy
     cl:=Nat.zero_le _
     c8:=fun e=>by have e:0=8:=e;omega
     out:=fun _=>hk.out i2
     back:=fun e=>by have e:0=9:=e;omega}
   out:=fun e=>by cases e}
 ·have e1:(n.wk.getD w al).frame=some g:=e1
  rw[i1]at e1;cases e1
 ·have e1:(n.wk.getD w al).frame=some g:=e1
  rw[i1]at e1;cases e1
 ·injection e1 with e1;subst e1
  have e2:0=3:=e2
  omega
theorem KM {w:Nat}(hw:w<c.n):(fw c).wk.getD w al=ln w:=by
 unfold fw
 simp[List.getD_eq_getElem?_getD,hw]
theorem wu {α:Type}(m i:Nat)(v:α):(List.replicate m v).getD i v=v:=by
 rw[List.getD_eq_getElem?_getD,List.getElem?_replicate]
 split<;>rfl
theorem Safe.new (hc:c.Ok):Safe c 0 0 (fw c):=by
 have cU:=hc.np
 have JL:=hc.nb
 refine⟨by unfold fw;simp,⟨⟨by unfold fw;simp,fun j=> ?_,fun x=> ?_⟩,?_,fun i hi=> ?_,?_⟩,fun w hw=> ?_,fun _=>[0],?_,fun w hw=> ?_⟩
 ·show(List.replicate (2*(3*c.np)) 0).getD j 0<_
  rw[wu];decide
 ·show(bH.of ((List.replicate (2*(3*c.np)) 0).getD (2*x) 0)).tr≤4
  rw[wu];decide
 ·have e:∀j,(fw c).sh.tb.getD j 0=0:=fun j=>wu _ _ _
  refine⟨by unfold fw;simp,JL.1,JL.2,by omega,by omega,fun j=>by rw[e];decide,fun b _=>by rw[e];exact BO,?_,?_,?_⟩
  all_goals (rw[e];show 0<_;omega)
 ·have e:(fw c).sh.po i=eM c.np:=by unfold fw aW.po;(repeat' split)<;>rfl
  rw[e]
  exact oe.new cU.1 cU.2
 ·have e:∀j,(fw c).sh.ep.getD j 0=0:=fun j=>wu _ _ _
  have e2:∀j,(fw c).sh.gs.getD j []=[]:=fun j=>wu _ _ _
  refine⟨by unfold fw;simp,by unfold fw;simp,by rw[e];omega,fun j=>by rw[e];omega,fun i t ht=> ?_,fun i=>by rw[e2];exact Nat.le_refl _⟩
  rw[e2]at ht;cases ht
 ·rw[KM hw]
  have lC:(ln w).aD.all=[]:=KO
  exact {
   ca:=fun i hi=>by
    have e:(ln w).ca i=tZ w:=by unfold ln aK.ca;(repeat' split)<;>rfl
    rw[e];exact jv.new w
   aD:=Wh
   av:=Nat.le_refl _
   ids:=fun y hy=>by rw[lC]at hy;cases hy
   keys:=by show([]:List Int).Nodup;exact List.nodup_nil
   aS:=fun p hp=>by cases hp
   ended:=Nat.zero_le _
   jQ:=by rw[lC];exact Nat.le_refl _
   one:=fun e=>by cases e
   frame:=fun g e=>by cases e
   aC:=fun y e=>by cases e
   out:=fun _ i hi=>by
    have e:(ln w).ca i=tZ w:=by unfold ln aK.ca;(repeat' split)<;>rfl
    rw[e];rfl}
 ·have e:∀j,(fw c).sh.tb.getD j 0=0:=fun j=>wu _ _ _
  refine⟨fun b hb=>⟨by decide,by rw[e];rfl⟩,fun b hb i hi=> ?_,fun b hb=>by decide,fun hp=> ?_⟩
  ·have:i=0:=by have:i<1:=hi;omega
   subst this
   rfl
  ·rw[e]at hp;exact absurd rfl hp
 ·rw[KM hw]
  exact⟨fun g t e=>(by cases e),fun g t e=>(by cases e),fun y t e=>(by cases e)⟩
end
end
section
open Go.RowKit
def HS (c:NC)(s:aW)(x:Nat):sj:=⟨ox (qC s (x:Int)),c.lo+x%c.np,(bI s (x:Int)).tr,(bI s (x:Int)).sn⟩
def Gb (s:aW)(x:Nat):Bool:=decide ((bI s (x:Int)).st=2)
def lZ (c:NC)(s:aW)(i:Nat):List sj:=((List.range i).filter (Gb s)).map (HS c s)
def re (c:NC)(s:aW):List sj:=lZ c s (3*c.np)
theorem QF (c:NC)(s:aW)(i:Nat):lZ c s (i+1)=lZ c s i++if(bI s (i:Int)).st=2 then [⟨ox (qC s (i:Int)),c.lo+i%c.np,(bI s (i:Int)).tr,(bI s (i:Int)).sn⟩]else []:=by
 unfold lZ
 rw[List.range_succ,List.filter_append,List.map_append]
 congr 1
 by_cases h:(bI s (i:Int)).st=2<;>simp[Gb,HS,h]
theorem QE (c:NC)(s:aW)(i:Nat):(lZ c s i).length≤i:=by
 have:=List.length_filter_le (Gb s) (List.range i)
 rw[List.length_range]at this
 unfold lZ
 rw[List.length_map];exact this
section
variable {β:Type} {N y:Nat} {P P':Nat→Bool} {B B':Nat→β}
end
end
section
open Go.RowKit
set_option maxRecDepth 10000
attribute [local irreducible] EK EX ER EN EL ES EG an aR aU
variable {W:World} {F:SL} {X:Cx} {k:List KI} {σ:Env}
section
variable {p:Option Addr} {c:Nat} {l:List UInt8}
theorem Xr (hl:l.length≤140737488355328)[s:Src W F p l.length (ar l)][r:Room W F p l.length c]:Spec Tryz.prog 57 [.slice p l.length c] W F (fun _:Unit=> .tuple #[.agg (bR (ni l)).toArray,.bool (decide (eA l=0))]) (fun _=>F):=by
 refine Spec.of Tryz.func57 rfl Tryz.ntmps57 rfl ?_
 refine aa ?_;intros
 refine af rfl (FC false hl) ?_
 intro _
 by_cases g1:dP false l=0
 ·have g0:=pV.of g1
  have eR:eA l=j9 (bo l) l:=if_pos g1
  rw[mQ g1,g1,if_pos rfl]
  refine aa ?_;intros
  refine af rfl (Xq (bo l) g0) ?_
  intro _
  by_cases g2:j9 (bo l) l=0
  ·have kn:eA l=0:=by rw[eR,g2]
   rw[show pH (bo l) l=fR l from if_pos g2,g2,show ni l=fR l from if_pos kn,kn]
   refine aa ?_;intros
   exact ae (bu (rs:=[.cell 2 93,.tmp 3]) (v:= .agg (bR (fR l)).toArray) (u:= .bool true) (vs:=[]) rfl ⟨⟨_,rfl,aX.agg rfl⟩,rfl,trivial⟩ () rfl (U.sat (ag)))
  ·have kn:¬eA l=0:=by rw[eR];exact g2
   rw[show pH (bo l) l=bG from if_neg g2,show ni l=bG from if_neg kn,decide_eq_false kn]
   refine aa ?_;intros
   exact ae (bu (rs:=[.cell 2 93,.tmp 3]) (v:= .agg (bR bG).toArray) (u:= .bool false) (vs:=[]) rfl ⟨⟨_,rfl,aX.agg rfl⟩,rfl,trivial⟩ () rfl (U.sat (ag)))
 ·have eR:eA l=dP false l:=if_neg g1
  have kn:¬eA l=0:=by rw[eR];exact g1
  rw[mQ (rfl:dP false l=_),if_neg g1,show ni l=bG from if_neg kn,decide_eq_false kn]
  refine aa ?_;intros
  exact ae (bu (rs:=[.cell 2 93,.tmp 3]) (v:= .agg (bR bG).toArray) (u:= .bool false) (vs:=[]) rfl ⟨⟨_,rfl,aX.agg rfl⟩,rfl,trivial⟩ () rfl (U.sat (ag)))
end
end
section
open Go.RowKit
set_option maxRecDepth 10000
attribute [local irreducible] EK EX ER EN EL ES EG an aR aU
variable {W:World} {F G:SL} {X:Cx} {kk:List KI} {σ:Env} {pn:Option Addr} {c:NC} {R:dV} {n:cH} {k:aK} {P:cW} {b:Option Addr} {w:Nat}
theorem PH (hc:c.Ok){i:Nat}(hi:i<3*c.np):Spec Tryz.prog 55 [c.cfg.val,.int .i64 (i:Int)] W F (fun _:Unit=> .tuple #[.int .i64 ((fx (i/c.np):Nat):Int),.int .i64 ((c.lo:Int)+((i%c.np:Nat):Int))]) (fun _=>F):=by
 have h:=zK (W:=W) (F:=F) c.cfg hc.fit (i:Int)
 rw[yT hc hi]at h
 exact h
set_option maxHeartbeats 1000000 in
theorem M6 (hc:c.Ok)(hp:cy (3*c.np) n.sh.pl):Spec Tryz.prog 24 [.pointer pn] W (dn pn c n*F) (fun z:az=> .slice z.1 (re c n.sh).length z.2) (fun z=>ad 74 6 z.1 (re c n.sh).length z.2 (p8 (re c n.sh))*(dn pn c n*F)):=by
 unfold re
 refine Spec.uf fun R=> ?_
 refine Spec.of Tryz.func24 rfl Tryz.ntmps24 rfl ?_
 have cU:=hc.np
 have Ev:=hc.p
 have mh:U (gA pn c n R*F) (dn pn c n*F):=U.ex R (U.refl _)
 rw[gA.eq]at mh ⊢
 obtain⟨G,hG⟩:∃G,G=ad 107 1 R.ws.1 c.n R.ws.2 (cF c.n fun i=>(R.wk i).p)*(ao (gk R n.wk) c.n*(bB R.ep n.sh.ep n.sh.gs*(aB R.tb R.pl c.nb n.sh.tb*(ao (bb c R n.sh) 3*F)))):=⟨_,rfl⟩
 have mh:U (NH pn c R*(aG R.pl n.sh.pl*G)) (dn pn c n*F):=U.trans (by rw[hG];simp only[bJ];exact ab) mh
 refine iQ (G:=NH pn c R*(aG R.pl n.sh.pl*G)) (by rw[hG];simp only[bJ];exact ab) ?_
 have hz:=Hk (W:=W) (p:=R.pl) (ws:=n.sh.pl) (F:=NH pn c R*G) hp.len (by omega)
 refine aa ?_;intros
 refine af rfl (Spec.pre hz (ab)) ?_
 intro _
 refine aa ?_;intros
 refine fy (γ:=Nat×az) (fun g=>g.1≤3*c.np) (fun g=>[(0,.pointer pn),(3,.slice g.2.1 (lZ c n.sh g.1).length g.2.2),(14,.int .i64 ((3*c.np:Nat):Int)),(15,.int .i64 (g.1:Int))])
  (fun g=>ad 74 6 g.2.1 (lZ c n.sh g.1).length g.2.2 (p8 (lZ c n.sh g.1))*(NH pn c R*(aG R.pl n.sh.pl*G))) (fun g=>3*c.np-g.1) (0,(none,0)) (Nat.zero_le _) ⟨rfl,rfl,rfl,rfl,trivial⟩ (U.sat (U.none (ab))) ?_
 intro ⟨i,z⟩ h1;dsimp only at h1 ⊢
 have oB:=QE c n.sh i
 by_cases hi:i<3*c.np
 ·have D8:=tc (W:=W) (p:=R.pl) (s:=n.sh) (F:=ad 74 6 z.1 (lZ c n.sh i).length z.2 (p8 (lZ c n.sh i))*(NH pn c R*G)) hc hp (id:=(i:Int)) (by omega) (by omega)
  have TY:=fun G=>KQ (W:=W) (p:=R.pl) (s:=n.sh) (F:=G) hc hp (id:=(i:Int)) (by omega) (by omega)
  have A3:=yT hc hi
  have yD:=QF c n.sh i
  generalize lZ c n.sh i=L at*
  generalize bI n.sh (i:Int)=v at*
  generalize ox (qC n.sh (i:Int))=fl at*
  refine aa ?_;intros
  refine af rfl (Spec.pre D8 (ab)) ?_
  intro _
  refine aa ?_;intros
  rename_i y
  refine iB rfl (fun EA=> ?_) (fun EA=> ?_)
  ·have eK:v.st=2:=by omega
   rw[if_pos eK]at yD
   refine aa ?_;intros
   refine af rfl (Spec.pre (PH (W:=W) hc hi (F:=Obj y 117 [.int .i64 (v.st:Int),.int .i64 (v.gen:Int),.int .i64 (v.tr:Int),.int .i64 (v.sn:Int)]*(ad 74 6 z.1 L.length z.2 (p8 L)*(NH pn c R*(aG R.pl n.sh.pl*G))))) (ab)) ?_
   intro _
   refine aa ?_;intros
   refine ay 99 (Obj y 117 [.int .i64 (v.st:Int),.int .i64 (v.gen:Int),.int .i64 (v.tr:Int),.int .i64 (v.sn:Int)]*(NH pn c R*1)) rfl rfl rfl ?_
   refine ah ?_
   refine aw rfl rfl rfl rfl rfl (Spec.aL R.pl (TY _)) (fun _=>ab) ?_
   intro _
   refine ah ?_
   refine bD ?_;intros
   refine aa ?_;intros
   rename_i z2
   have e1:(lZ c n.sh (i+1)).length=L.length+1:=by rw[yD,List.length_append];rfl
   have e2:p8 (lZ c n.sh (i+1))=p8 L++[.int .i64 (fl.proto:Int),.int .u32 (fl.addr:Int),.int .u16 (fl.port:Int),.int .i64 ((c.lo:Int)+((i%c.np:Nat):Int)),.int .i64 (v.tr:Int),.int .i64 (v.sn:Int)]:=by rw[yD,Qt];rfl
   refine cJ (i+1,z2) (Nat.succ_le_of_lt hi) (by dsimp only;omega) ⟨rfl,by dsimp only;rw[e1];rfl,rfl,rfl,trivial⟩ (U.sat ?_)
   dsimp only
   rw[e1,e2]
   exact ab
  ·have eK:¬v.st=2:=by omega
   rw[if_neg eK]at yD
   refine aa ?_;intros
   have e1:lZ c n.sh (i+1)=L:=by rw[yD,List.append_nil]
   refine cJ (i+1,z) (Nat.succ_le_of_lt hi) (by dsimp only;omega) ⟨rfl,by dsimp only;rw[e1];rfl,rfl,rfl,trivial⟩ (U.sat ?_)
   dsimp only
   rw[e1]
   exact ab
 ·have e:i=3*c.np:=by omega
  subst e
  refine aa ?_;intros
  exact ae (aj rfl rfl z rfl (U.sat (U.cons (U.trans (ab) mh))))
end
section
open Go.RowKit
set_option maxRecDepth 10000
attribute [local irreducible] EK EX ER EN EL ES EG an aR aU
variable {W:World} {F G:SL} {pn:Option Addr} {c:NC}
theorem U.L6 {f g:Nat→SL}:∀n,(∀i,i<n→U (f i) (g i))→U (ao f n) (ao g n)
 |0,_=>U.refl _
 |n+1,h=>by
  rw[ao.succ,ao.succ]
  exact U.star (h n (by omega)) (U.L6 n fun i hi=>h i (by omega))
theorem U.VV {κ ν:Type}{ek:κ→Value}{ev:ν→Value}{m:Nat}{H G:SL}(k:U H (SL.cO m (.map #[] 0)*G)):U H (cQ ek ev m ([]:List (κ×ν))*G):=by
 unfold cQ
 refine U.ex (#[],0) ?_
 rw[SL.bP]
 exact U.pure iD.nil k
def ZL (x:ny):cW:=⟨x.p,fun i=>if i=0 then x.c0 else if i=1 then x.c1 else x.c2,fun _=>none,x.wh,x.m,none,none,(none,0),(none,0)⟩
def s9 (R:sE):dV:=⟨R.ep,R.pl,R.tb,fun i=>if i=0 then R.p0 else if i=1 then R.p1 else R.p2,R.ws,fun i=>ZL (R.wk i)⟩
theorem ZK (R:sE)(w:Nat):U (lV R.p0 R.p1 R.p2 R.wk w) (sK (s9 R).po ((s9 R).wk w) (ln w)):=by
 rw[←SL.pL (lV R.p0 R.p1 R.p2 R.wk w),←SL.pL (sK _ _ _),lV.eq,sK.eq]
 simp only[ln,dY,aN]
 refine U.star (U.refl _) ?_
 have e3:∀(f:Nat→SL) (H:SL),ao f 3*H=f 0*(f 1*(f 2*H)):=fun f H=>by
  rw[ao.succ,ao.succ,ao.succ]
  show(f 2*(f 1*(f 0*1)))*H=_
  rw[SL.pL]
  ac_rfl
 rw[e3]
 have eC:∀i,i<3→∀H,cj (s9 R).po ((s9 R).wk w) (ln w) i*H=aY (((s9 R).wk w).c i) ((s9 R).po i) w [] none*H:=fun i hi H=>by
  unfold cj
  have:(ln w).ca i=tZ w:=by unfold aK.ca ln;dsimp only;split<;>(try split)<;>rfl
  rw[this,SL.bP]
  show _*(bA _ none*H)=_
  rw[dY]
  rfl
 have Ag:=eC
 unfold ln at Ag
 rw[Ag 0 (by omega),Ag 1 (by omega),Ag 2 (by omega)]
 show U (aY (R.wk w).c0 R.p0 w [] none*(aY (R.wk w).c1 R.p1 w [] none*(aY (R.wk w).c2 R.p2 w [] none*(ct (R.wk w).wh lK*(SL.cO (R.wk w).m (.map #[] 0)*1))))) (aY (R.wk w).c0 R.p0 w [] none*(aY (R.wk w).c1 R.p1 w [] none*(aY (R.wk w).c2 R.p2 w [] none*(ct (R.wk w).wh lK*(cQ dQ de (R.wk w).m []*(ad 5 1 none 0 0 []*(ad 132 2 none 0 0 []*1)))))))
 refine U.cons (U.cons (U.cons (U.cons (U.VV (U.cons (U.none (U.none (U.refl _))))))))
theorem Wa (R:sE):U (tR pn c R*F) (dn pn c (fw c)*F):=by
 refine U.ex (s9 R) ?_
 rw[tR.eq,gA.eq]
 have es:U (ao (lV R.p0 R.p1 R.p2 R.wk) c.n) (ao (gk (s9 R) (fw c).wk) c.n):=U.L6 c.n fun i hi=>by
  unfold gk
  have:(fw c).wk.getD i al=ln i:=by
   show((List.range c.n).map ln).getD i al=_
   rw[List.getD_eq_getElem?_getD,List.getElem?_map,List.getElem?_range hi];rfl
  rw[this]
  exact ZK R i
 have e3:∀(f:Nat→SL) (H:SL),ao f 3*H=f 0*(f 1*(f 2*H)):=fun f H=>by
  rw[ao.succ,ao.succ,ao.succ]
  show(f 2*(f 1*(f 0*1)))*H=_
  rw[SL.pL]
  ac_rfl
 unfold bJ
 rw[e3]
 refine U.star (U.refl _) (U.star (U.refl _) (U.star es ?_))
 show U (bB R.ep (List.replicate (c.n+1) 0) (List.replicate c.n [])*(bC R.p0 c.np (eM c.np)*(bC R.p1 c.np (eM c.np)*(bC R.p2 c.np (eM c.np)*(aG R.pl (List.replicate (2*(3*c.np)) 0)*(aB R.tb R.pl c.nb (List.replicate (c.nb+1) 0)*F)))))) (bB R.ep (List.replicate (c.n+1) 0) (List.replicate c.n [])*(aG R.pl (List.replicate (2*(3*c.np)) 0)*(aB R.tb R.pl c.nb (List.replicate (c.nb+1) 0)*(bC R.p0 c.np (eM c.np)*(bC R.p1 c.np (eM c.np)*(bC R.p2 c.np (eM c.np)*F))))))
 exact U.of_eq (by ac_rfl)
theorem Oo (hc:c.Ok):Spec Tryz.prog 23 [c.cfg.val] W F (fun z:Option Addr=> .tuple #[.pointer z,.int .i64 0]) (fun z=>dn z c (fw c)*F):=
 (Oq (W:=W) (F:=F) hc).mono fun z=>⟨z.1,rfl,Wa z.2⟩
end
end Go.Proofs.YtfkngchldmfpfaaGreatDoor
