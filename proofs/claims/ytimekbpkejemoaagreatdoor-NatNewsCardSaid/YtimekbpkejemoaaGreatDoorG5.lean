/-
  Joined by a program (wip/bundle2.py).
-/
import Derived.Test.YtimekbpkejemoaaGreatDoorG4
set_option linter.unusedVariables false
set_option linter.unusedSimpArgs false
namespace Go.Proofs.YtimekbpkejemoaaGreatDoor
section
def AZ:bG:={kind:=0}
structure jO where
 kind:Nat
 cU:bG
 done:Bool
structure dD where
 h:Nat
 l:List Nat
 out:Option bG
def qf (h:Nat):dD:=⟨h,[],none⟩
def ui:jO:=⟨3,AZ,false⟩
def ln (np:Nat)(c:dD):jO:=if c.l≠ []∨c.out.isSome=true then ui else⟨0,ij c.h 8 ((np+31)/32),false⟩
def CV (f:jO):jO:=⟨1,mi f.cU,false⟩
def mG (s:jO):Bool:=decide (s.kind=0)&&s.done&&hY s.cU
def ke (np:Nat)(c:dD)(x:Nat):dD×jO:=
 if 16<(c.l++[x]).length∧c.out.isSome=false then({c with l:=(c.l++[x]).drop 8,out:=some (oT np (((c.l++[x]).take 8).map fun y:Nat=>(y:Int)))},⟨2,AZ,false⟩)
 else({c with l:=c.l++[x]},ui)
def dI (ws:List Nat)(c:dD)(s:jO):List Nat×dD×jO:=
 if s.done=true then(ws,c,s)
 else if s.kind=3 then(ws,c,{s with done:=true})
 else if s.kind=2 then
  match c.out with
  |some o=>((bz ws o).1,{c with out:=if(bz ws o).2.done=true then none else some (bz ws o).2},{s with done:=(bz ws o).2.done})
  |none=>(ws,c,{s with done:=true})
 else((bz ws s.cU).1,if s.kind=0∧(bz ws s.cU).2.done=true then {c with h:=if(bz ws s.cU).2.bo=[]then c.h else(bz ws s.cU).2.word,l:=c.l++(bz ws s.cU).2.bo.reverse}else c,{s with cU:=(bz ws s.cU).2,done:=(bz ws s.cU).2.done})
structure aP where
 out:Bool
 b:List UInt8
 tick:Int
 next:Nat
 ao:dE
 part:fR
 fq:Bool
 bR:Option iT
 find:Option aR
 fill:Option jO
 again:Option jO
 enter:Option aR
 id:Int
 word:br
 now:br
 dm:dE
 made:Bool
 qH:Nat
 pinned:Bool
 fj:List UInt8
 lP:Nat
 done:Bool
structure fT where
 tick:Int
 next:Nat
 due:List Nat
 word:br
 drop:Option aR
 dying:Int
 on:Option iT
 fk:List Nat
 back:Option jO
 done:Bool
structure aU where
 c0:dD
 c1:dD
 c2:dD
 bb:dr
 b9:List (Int×dE)
 frame:Option aP
 bn:Option fT
 cR:List UInt8
 kC:Nat
 any:Bool
 ended:List (Int×Int)
structure bc where
 pl:List Nat
 tb:List Nat
 ep:List Nat
 gs:List (List (Nat×Nat))
 p0:List Nat
 p1:List Nat
 p2:List Nat
structure dx where
 sh:bc
 wk:List aU
def aU.ca (k:aU)(i:Nat):dD:=if i=0 then k.c0 else if i=1 then k.c1 else k.c2
def aU.c6 (k:aU)(i:Nat)(c:dD):aU:=if i=0 then {k with c0:=c}else if i=1 then {k with c1:=c}else {k with c2:=c}
def bc.po (s:bc)(i:Nat):List Nat:=if i=0 then s.p0 else if i=1 then s.p1 else s.p2
def bc.eO (s:bc)(i:Nat)(w:List Nat):bc:=if i=0 then {s with p0:=w}else if i=1 then {s with p1:=w}else {s with p2:=w}
def jM (w:Nat):aU:=⟨qf w,qf w,qf w,jg,[],none,none,[],0,false,[]⟩
def ez (c:NC):dx:=⟨⟨List.replicate (2*(3*c.np)) 0,List.replicate (c.nb+1) 0,List.replicate (c.n+1) 0,List.replicate c.n [],cJ c.np,cJ c.np,cJ c.np⟩,(List.range c.n).map jM⟩
def aB (proto:Nat):Nat:=if proto=1 then 0 else if proto=6 then 1 else 2
def jG (k:Nat):Nat:=if k=0 then 1 else if k=1 then 6 else 17
def E3 (f:dE):Nat:=fM f.proto f.addr f.port
def lr (k:Nat):dE:=⟨k/281474976710656,k/65536%4294967296,k%65536⟩
def kA (c:NC)(kind:Nat)(f:dE)(id:Int)(next:Nat):aR:=qS kind f.proto f.addr f.port id next c.nb
def cb (s:bc)(id:Int):br:=br.of (s.pl.getD (2*id.toNat) 0)
def mT (s:bc)(id:Int):Nat:=s.pl.getD (2*id.toNat+1) 0
def iX (s:bc)(id:Int)(a b:br):Bool:=kr a b&&decide (s.pl.getD (2*id.toNat) 0=a.num)
def bV (s:bc)(id:Int)(a b:br):bc:=if iX s id a b=true then {s with pl:=s.pl.set (2*id.toNat) b.num}else s
def nY (s:bc)(id:Int)(f:dE):bc:={s with pl:=s.pl.set (2*id.toNat+1) (E3 f)}
def qp (out:Bool)(b:List UInt8)(tick:Int):aP:=⟨out,b,tick,0,nC,bm,false,none,none,none,none,none, -1,w0,w0,nC,false,0,false,[],0,false⟩
def aP.fin (f:aP)(b:List UInt8)(e:Nat):aP:={f with fj:=b,lP:=e,next:=18}
def aP.refuse (f:aP)(e:Nat):aP:={f with fj:=[],lP:=e,done:=true}
def aP.look (c:NC)(f:aP):aP:={f with find:=some (kA c 0 f.ao (-1) 0),next:=2}
def aP.gY (f:aP)(w:br):br:=if f.part.err then w else {w with tr:=j1 f.ao.proto w.tr f.out f.part.flags,sn:=if lD f.ao.proto f.out then max w.sn f.tick.toNat else w.sn}
def ug (l:List UInt8):Nat:=dv l
def aP.goes (c:NC)(f:aP)(id:Int):aP:=f.fin (jH f.b true c.o (c.lo+id.toNat%c.np)) (ug f.b)
def aP.iA (f:aP)(id:Int)(w:br):aP:={f with id:=id,word:=w,next:=if w.st=1 then 3 else 4}
def oa (c:NC)(w:Nat)(f:aP):aP:=
 if f.tick<0∨f.tick>4294967295 then f.refuse 1
 else if jL c.o f.out f.b≠0 then f.refuse (jL c.o f.out f.b)
 else if f.out=false∧fN c.cfg (da f.out f.b).proto (da f.out f.b).port<0 then
  {f with part:=dY f.b,ao:=da f.out f.b,fq:=lR f.out f.b,id:=fN c.cfg (da f.out f.b).proto (da f.out f.b).port}.refuse 7
 else {f with part:=dY f.b,ao:=da f.out f.b,fq:=lR f.out f.b,id:=if f.out=true then f.id else fN c.cfg (da f.out f.b).proto (da f.out f.b).port,bR:=some ⟨w,false,0,0,false,false⟩,next:=1}
def aP.rl (c:NC)(k:aU)(f:aP):aP:={f with fill:=some (ln c.np (k.ca (aB f.ao.proto))),next:=6}
def um (c:NC)(s:bc)(f:aP):aP:=
 if(cb s f.id).gen≠f.word.gen∨((cb s f.id).st≠2∧(cb s f.id).st≠1)then f.look c
 else if(cb s f.id).st=1 then f.iA f.id (cb s f.id)
 else if f.gY (cb s f.id)=cb s f.id then {f with word:=cb s f.id,now:=f.gY (cb s f.id),next:=5}.goes c f.id
 else {f with word:=cb s f.id,now:=f.gY (cb s f.id),next:=5}
def sQ (c:NC)(k:aU)(f:aP)(t:aR):aP:=
 if t.end_=0 then f.iA t.found t.aM else if f.fq=true then f.rl c k else f.fin [] 7
def fB (c:NC)(s:bc)(k:aU)(f:aP):bc×aP:=
 if f.next=2 then
  match f.find with
  |some t=>({s with tb:=(bI s.pl c.nb s.tb t).1},if(bI s.pl c.nb s.tb t).2.done=false then {f with find:=some (bI s.pl c.nb s.tb t).2}else sQ c k {f with find:=some (bI s.pl c.nb s.tb t).2} (bI s.pl c.nb s.tb t).2)
  |none=>(s,f)
 else if f.next=3 then(bV s f.id f.word {f.word with st:=2},{f with next:=4})
 else if f.next=4 then(s,um c s f)
 else(bV s f.id f.word f.now,if iX s f.id f.word f.now=true then {f with next:=4}.goes c f.id else {f with next:=4})
def kY (c:dD):Nat:=c.l.getD (c.l.length-1) 0
def cq (c:NC)(s:bc)(k:aU)(f:aP):bc×aU×aP:=
 if f.next=6 then
  match f.fill with
  |some x=>
   ({s.eO (aB f.ao.proto) (dI (s.po (aB f.ao.proto)) (k.ca (aB f.ao.proto)) x).1 with tb:=s.tb},k.c6 (aB f.ao.proto) (dI (s.po (aB f.ao.proto)) (k.ca (aB f.ao.proto)) x).2.1,
    if(dI (s.po (aB f.ao.proto)) (k.ca (aB f.ao.proto)) x).2.2.done=false then {f with fill:=some (dI (s.po (aB f.ao.proto)) (k.ca (aB f.ao.proto)) x).2.2}
    else if mG (dI (s.po (aB f.ao.proto)) (k.ca (aB f.ao.proto)) x).2.2=true then {f with fill:=some (dI (s.po (aB f.ao.proto)) (k.ca (aB f.ao.proto)) x).2.2,find:=some (kA c 0 f.ao (-1) 0),next:=7}
    else {f with fill:=some (dI (s.po (aB f.ao.proto)) (k.ca (aB f.ao.proto)) x).2.2,next:=9})
  |none=>(s,k,f)
 else if f.next=7 then
  match f.find,f.fill with
  |some t,some x=>({s with tb:=(bI s.pl c.nb s.tb t).1},k,if(bI s.pl c.nb s.tb t).2.done=false then {f with find:=some (bI s.pl c.nb s.tb t).2}
    else if(bI s.pl c.nb s.tb t).2.end_=0 then {f with find:=some (bI s.pl c.nb s.tb t).2}.iA (bI s.pl c.nb s.tb t).2.found (bI s.pl c.nb s.tb t).2.aM
    else {f with find:=some (bI s.pl c.nb s.tb t).2,again:=some (CV x),next:=8})
  |_,_=>(s,k,f)
 else if f.next=8 then
  match f.again with
  |some x=>
   (s.eO (aB f.ao.proto) (dI (s.po (aB f.ao.proto)) (k.ca (aB f.ao.proto)) x).1,k,
    if(dI (s.po (aB f.ao.proto)) (k.ca (aB f.ao.proto)) x).2.2.done=false then {f with again:=some (dI (s.po (aB f.ao.proto)) (k.ca (aB f.ao.proto)) x).2.2}
    else if(dI (s.po (aB f.ao.proto)) (k.ca (aB f.ao.proto)) x).2.2.cU.alike=true then {f with again:=some (dI (s.po (aB f.ao.proto)) (k.ca (aB f.ao.proto)) x).2.2}.fin [] 8
    else {f with again:=some (dI (s.po (aB f.ao.proto)) (k.ca (aB f.ao.proto)) x).2.2}.rl c k)
  |none=>(s,k,f)
 else if f.next=9 then
  (s,k,{f with id:=((aB f.ao.proto*c.np+kY (k.ca (aB f.ao.proto)):Nat):Int),word:=cb s ((aB f.ao.proto*c.np+kY (k.ca (aB f.ao.proto)):Nat):Int),next:=10})
 else if f.next=10 then(nY s f.id f.ao,k,{f with next:=11})
 else
  let now:br:=⟨1,(f.word.gen+1)%65536,j1 f.ao.proto 0 true f.part.flags,f.tick.toNat⟩
  if iX s f.id f.word now=true then
   (bV s f.id f.word now,k.c6 (aB f.ao.proto) {k.ca (aB f.ao.proto)with l:=(k.ca (aB f.ao.proto)).l.take ((k.ca (aB f.ao.proto)).l.length-1)},
    {f with word:=now,made:=true,qH:=f.id.toNat,enter:=some (kA c 1 f.ao f.id 0),next:=12})
  else(s,k,{f with next:=9})
def iW (k:aU)(proto:Nat)(id:Int)(w:br)(tick:Int):aU:=
 if proto≠6 then(if w.sn+ly proto w.tr≤4294967295 then {k with bb:=kJ k.bb id (w.sn+ly proto w.tr)}else k)
 else if tick≤4294967295 then {k with bb:=kJ k.bb id tick.toNat}else k
def gX (l:List (Int×dE))(i:Int)(f:dE):List (Int×dE):=if l.any (fun p=>p.1=i)then l.map (fun p=>if p.1=i then(i,f)else p)else l++[(i,f)]
def e9 (c:NC)(s:bc)(k:aU)(f:aP):bc×aU×aP:=
 if f.next=12 then
  match f.enter with
  |some t=>({s with tb:=(bI s.pl c.nb s.tb t).1},k,if(bI s.pl c.nb s.tb t).2.done=false then {f with enter:=some (bI s.pl c.nb s.tb t).2}else {f with enter:=some (bI s.pl c.nb s.tb t).2,next:=if(bI s.pl c.nb s.tb t).2.end_=0 then 13 else 14})
  |none=>(s,k,f)
 else if f.next=13 then
  (bV s f.id f.word {f.word with st:=2},iW {k with b9:=gX k.b9 f.id f.ao} (jG (f.id.toNat/c.np)) f.id f.word f.tick,f.goes c f.id)
 else
  match f.enter with
  |some t=>(bV s f.id f.word {f.word with st:=0},k.c6 (aB f.ao.proto) (ke c.np (k.ca (aB f.ao.proto)) (f.id.toNat%c.np)).1,
    if t.end_=10 then {f with made:=false}.iA t.found t.aM else {f with made:=false}.fin [] 9)
  |none=>(s,k,f)
def fX (c:NC)(s:bc)(f:aP):bc×aP:=
 if f.next=15 then(s,if(cb s f.id).st≠2 then {f with word:=cb s f.id,next:=16}.fin [] 7 else {f with word:=cb s f.id,next:=16})
 else if f.next=16 then(s,{f with dm:=lr (mT s f.id),now:=f.gY f.word,next:=17})
 else if f.now=f.word then(s,if cb s f.id=f.word then {f with next:=15}.fin (jH f.b false f.dm.addr f.dm.port) (ug f.b)else {f with next:=15})
 else(bV s f.id f.word f.now,if iX s f.id f.word f.now=true then {f with next:=15}.fin (jH f.b false f.dm.addr f.dm.port) (ug f.b)else {f with next:=15})
def c7 (c:NC)(w:Nat)(s:bc)(k:aU)(f:aP):bc×aU×aP:=
 if f.next=0 then(s,k,oa c w f)
 else if f.next=1 then
  match f.bR with
  |some e=>({s with ep:=(du c.n s.ep e).1},k,if(du c.n s.ep e).2.done=false then {f with bR:=some (du c.n s.ep e).2}
    else if f.out=true then {f with bR:=some (du c.n s.ep e).2,pinned:=true}.look c else {f with bR:=some (du c.n s.ep e).2,pinned:=true,next:=15})
  |none=>(s,k,f)
 else if f.next≤5 then((fB c s k f).1,k,(fB c s k f).2)
 else if f.next≤11 then cq c s k f
 else if f.next≤14 then e9 c s k f
 else if f.next≤17 then((fX c s f).1,k,(fX c s f).2)
 else({s with ep:=s.ep.set (1+w) 0},k,{f with pinned:=false,done:=true})
def LC (l:List (Int×dE))(i:Int):List (Int×dE):=l.filter fun p=>p.1≠i
def getM (l:List (Int×dE))(i:Int):dE:=match l.find? fun p=>p.1=i with|some p=>p.2|none=>nC
def Mc (c:NC)(w:Nat)(s:bc)(k:aU)(x:fT):bc×aU×fT:=
 if x.next=1∧x.due=[]then(s,k,{x with on:=some ⟨0,true,0,0,false,false⟩,next:=5})
 else
  let id:=x.due.getD 0 0
  if x.next=1 then
   if(((cb s (id:Int)).sn+ly (jG (id/c.np)) (cb s (id:Int)).tr:Nat):Int)>x.tick then
    (s,iW k (jG (id/c.np)) (id:Int) (cb s (id:Int)) x.tick,{x with word:=cb s (id:Int),due:=x.due.drop 1})
   else(s,k,{x with word:=cb s (id:Int),next:=2})
  else if x.next=2 then
   if iX s (id:Int) x.word {x.word with st:=3}=true then
    (bV s (id:Int) x.word {x.word with st:=3},{k with ended:=k.ended++[((jG (id/c.np):Int),((c.lo+id%c.np:Nat):Int))]},{x with dying:=(id:Int),next:=3,drop:=some (kA c 2 (getM k.b9 (id:Int)) (id:Int) 23)})
   else(s,k,{x with next:=1})
  else if x.next=3 then
   match x.drop with
   |some t=>({s with tb:=(bI s.pl c.nb s.tb t).1},k,{x with drop:=some (bI s.pl c.nb s.tb t).2,next:=if(bI s.pl c.nb s.tb t).2.done=true then 4 else 3})
   |none=>(s,k,x)
  else({s with gs:=s.gs.set w (s.gs.getD w []++[(id,s.ep.getD 0 0)])},{k with b9:=LC k.b9 (id:Int)},{x with dying:= -1,due:=x.due.drop 1,next:=1})
def mU (k:aU):Nat:=if(match k.c2.out with|some o=>decide (o.parts.any fun p=>p.2≠0)|none=>false)=true then 2 else if(match k.c1.out with|some o=>decide (o.parts.any fun p=>p.2≠0)|none=>false)=true then 1 else 0
def MJ (c:NC)(s:bc)(k:aU)(x:fT):bc×aU×fT:=
 if x.next=7 then
  if x.fk=[]then(s,k,{x with done:=true})else(s,k,{x with word:=cb s ((x.fk.getD 0 0:Nat):Int),next:=8})
 else if x.next=8 then
  let id:=x.fk.getD 0 0
  (bV s (id:Int) x.word {x.word with st:=0},k.c6 (id/c.np) (ke c.np (k.ca (id/c.np)) (id%c.np)).1,{x with fk:=x.fk.drop 1,back:=some (ke c.np (k.ca (id/c.np)) (id%c.np)).2,next:=9})
 else
  match x.back with
  |some b=>(s.eO (mU k) (dI (s.po (mU k)) (k.ca (mU k)) b).1,k.c6 (mU k) (dI (s.po (mU k)) (k.ca (mU k)) b).2.1,{x with back:=some (dI (s.po (mU k)) (k.ca (mU k)) b).2.2,next:=if(dI (s.po (mU k)) (k.ca (mU k)) b).2.2.done=true then 7 else 9})
  |none=>(s,k,x)
def Sa (c:NC)(w:Nat)(s:bc)(k:aU)(x:fT):bc×aU×fT:=
 if x.next=0 then(s,{k with bb:=(Df k.bb x.tick).2},{x with due:=x.due++(R8 (Df k.bb x.tick).1).map fun y=>y.id.toNat,next:=1})
 else if x.next≤4 then Mc c w s k x
 else if x.next=5 then
  match x.on with
  |some e=>({s with ep:=(du c.n s.ep e).1},k,{x with on:=some (du c.n s.ep e).2,next:=if(du c.n s.ep e).2.done=true then 6 else 5})
  |none=>(s,k,x)
 else if x.next=6 then({s with gs:=s.gs.set w (SA (s.ep.getD 0 0) (s.gs.getD w []))},k,{x with fk:=x.fk++(RC (s.ep.getD 0 0) (s.gs.getD w [])).map (·.1),next:=7})
 else MJ c s k x
def aU.busy (k:aU):Bool:=k.frame.isSome||k.bn.isSome
def bF:aU:=jM 0
def iI (c:NC)(w:Nat)(n:dx):dx×Bool:=
 if n.wk.length≤w then(n,true)
 else
  match(n.wk.getD w bF).frame with
  |some f=>
   let r:=c7 c w n.sh (n.wk.getD w bF) f
   let k:aU:=if r.2.2.done=true then {r.2.1 with cR:=r.2.2.fj,kC:=r.2.2.lP,any:=true,frame:=none}else {r.2.1 with frame:=some r.2.2}
   (⟨r.1,n.wk.set w k⟩, !k.busy)
  |none=>
   match(n.wk.getD w bF).bn with
   |some x=>
    let r:=Sa c w n.sh (n.wk.getD w bF) x
    let k:aU:=if r.2.2.done=true then {r.2.1 with bn:=none}else {r.2.1 with bn:=some r.2.2}
    (⟨r.1,n.wk.set w k⟩, !k.busy)
   |none=>(n,true)
end
section
def jK (u:Nat):Nat:=u/281474976710656
theorem Sp (i:Nat):2^(12*(i+1))=2^(12*i)*4096:=by rw[show 12*(i+1)=12*i+12 by omega,Nat.pow_add]
theorem y7 (u i:Nat):u=2^(12*i)*(4096*(u/2^(12*(i+1)))+u/2^(12*i)%4096)+u%2^(12*i):=by
 have h1:=Nat.div_add_mod u (2^(12*i))
 have h2:=Nat.div_add_mod (u/2^(12*i)) 4096
 rw[Sp,←Nat.div_div_eq_div_mul]
 rw[h2]
 omega
theorem Qe {i:Nat}(hi:i<4):18446744073709551615-4095*2^(12*i)=2^(12*i)*(4096*(2^(52-12*i)-1)+0)+(2^(12*i)-1):=by
 match i,hi with
 |0,_=>decide
 |1,_=>decide
 |2,_=>decide
 |3,_=>decide
theorem pH (x y z i j:Nat)(hy:y<4096)(hz:z<2^(12*i)):(2^(12*i)*(4096*x+y)+z).testBit j=if j<12*i then z.testBit j else if j-12*i<12 then y.testBit (j-12*i)else x.testBit (j-12*i-12):=by
 rw[Nat.testBit_two_pow_mul_add _ hz]
 split
 ·rfl
 ·have h:=Nat.testBit_two_pow_mul_add x (i:=12) (b:=y) hy (j-12*i)
  rw[show 2^12*x+y=4096*x+y from rfl]at h
  rw[h]
theorem RW {u i v:Nat}(hu:u<18446744073709551616)(hi:i<4)(hv:v<4096):((u&&& (18446744073709551615-4095*2^(12*i)))|||v*2^(12*i))=2^(12*i)*(4096*(u/2^(12*(i+1)))+v)+u%2^(12*i):=by
 have hp:0<2^(12*i):=Nat.two_pow_pos _
 apply Nat.eq_of_testBit_eq
 intro j
 have e1:v*2^(12*i)=2^(12*i)*(4096*0+v)+0:=by rw[Nat.mul_zero,Nat.zero_add,Nat.add_zero,Nat.mul_comm]
 have hx:u/2^(12*(i+1))<2^(52-12*i):=by
  rw[Nat.div_lt_iff_lt_mul (Nat.two_pow_pos _),←Nat.pow_add,show 52-12*i+12*(i+1)=64 by omega]
  exact hu
 rw[Nat.testBit_or,Nat.testBit_and,e1,Qe hi,pH _ _ _ i j hv hp,pH _ _ _ i j (by decide) (by omega),pH _ _ _ i j hv (Nat.mod_lt _ hp)]
 conv=>lhs;lhs;lhs;rw[y7 u i]
 rw[pH _ _ _ i j (Nat.mod_lt _ (by decide)) (Nat.mod_lt _ hp)]
 split
 ·rename_i h
  rw[Nat.testBit_two_pow_sub_one,decide_eq_true h]
  simp
 ·split
  ·simp
  ·rename_i h1 h2
   rw[Nat.testBit_two_pow_sub_one]
   by_cases h3:j-12*i-12<52-12*i
   ·rw[decide_eq_true h3];simp
   ·rw[decide_eq_false h3]
    have:(u/2^(12*(i+1))).testBit (j-12*i-12)=false:=Nat.testBit_lt_two_pow (Nat.lt_of_lt_of_le hx (Nat.pow_le_pow_right (by decide) (by omega)))
    rw[this];simp
theorem Gp (w j t:Nat):(w/2^(12*j)%4096).testBit t=(decide (t<12)&&w.testBit (12*j+t)):=by
 rw[show(4096:Nat)=2^12 from rfl,Nat.testBit_mod_two_pow,Nat.testBit_div_two_pow,Nat.add_comm]
def rM (u i v:Nat):Nat:=2^(12*i)*(4096*(u/2^(12*(i+1)))+v)+u%2^(12*i)
theorem Qk {u i v j:Nat}(hv:v<4096):rM u i v/2^(12*j)%4096=if j=i then v else u/2^(12*j)%4096:=by
 have hp:0<2^(12*i):=Nat.two_pow_pos _
 apply Nat.eq_of_testBit_eq
 intro t
 have hb:=pH (u/2^(12*(i+1))) v (u%2^(12*i)) i (12*j+t) hv (Nat.mod_lt _ hp)
 have hu:=pH (u/2^(12*(i+1))) (u/2^(12*i)%4096) (u%2^(12*i)) i (12*j+t) (Nat.mod_lt _ (by decide)) (Nat.mod_lt _ hp)
 rw[←y7]at hu
 rw[Gp]
 unfold rM
 rw[hb]
 by_cases ht:t<12
 ·rw[decide_eq_true ht,Bool.true_and]
  by_cases e:j=i
  ·subst e
   rw[if_pos rfl,if_neg (by omega),if_pos (by omega),show 12*j+t-12*j=t by omega]
  ·rw[if_neg e,Gp,decide_eq_true ht,Bool.true_and,hu]
   split
   ·rfl
   ·rw[if_neg (by omega),if_neg (by omega)]
 ·rw[decide_eq_false ht,Bool.false_and]
  symm
  split
  ·exact Nat.testBit_lt_two_pow (Nat.lt_of_lt_of_le hv (show 2^12≤2^t from Nat.pow_le_pow_right (by decide) (by omega)))
  ·exact Nat.testBit_lt_two_pow (Nat.lt_of_lt_of_le (Nat.mod_lt _ (by decide)) (show 2^12≤2^t from Nat.pow_le_pow_right (by decide) (by omega)))
theorem FY {u i v:Nat}(hi:i<4)(hv:v<4096):jK (rM u i v)=jK u:=by
 unfold jK
 have hp:0<2^(12*i):=Nat.two_pow_pos _
 rw[show(281474976710656:Nat)=2^48 from rfl]
 apply Nat.eq_of_testBit_eq
 intro t
 have hb:=pH (u/2^(12*(i+1))) v (u%2^(12*i)) i (48+t) hv (Nat.mod_lt _ hp)
 have hu:=pH (u/2^(12*(i+1))) (u/2^(12*i)%4096) (u%2^(12*i)) i (48+t) (Nat.mod_lt _ (by decide)) (Nat.mod_lt _ hp)
 rw[←y7]at hu
 rw[Nat.testBit_div_two_pow,Nat.testBit_div_two_pow,Nat.add_comm t 48,hu]
 unfold rM
 rw[hb,if_neg (by omega),if_neg (by omega),if_neg (by omega),if_neg (by omega)]
theorem FX {u i v:Nat}(hu:u<18446744073709551616)(hi:i<4)(hv:v<4096):rM u i v<18446744073709551616:=by
 have h1:=FY (u:=u) hi hv
 unfold jK at h1
 omega
theorem C5 {u i v:Nat}(hu:u<18446744073709551616)(hi:i<4)(hv:v<4096):kN u i v=(rM u i v+281474976710656)%18446744073709551616:=by
 unfold kN
 rw[RW hu hi hv]
 rfl
theorem SB {w j:Nat}(_:w<18446744073709551616)(hj:j<4):(w+281474976710656)%18446744073709551616/2^(12*j)%4096=w/2^(12*j)%4096:=by
 match j,hj with
 |0,_=>simp only[Nat.mul_zero,Nat.pow_zero,Nat.div_one];omega
 |1,_=>rw[show 2^(12*1)=4096 from rfl];omega
 |2,_=>rw[show 2^(12*2)=16777216 from rfl];omega
 |3,_=>rw[show 2^(12*3)=68719476736 from rfl];omega
theorem C6 {u i v j:Nat}(hu:u<18446744073709551616)(hi:i<4)(hv:v<4096)(hj:j<4):bE (kN u i v) j=if j=i then(v:Int)-1 else bE u j:=by
 unfold bE
 rw[C5 hu hi hv,SB (FX hu hi hv) hj,Qk hv]
 split<;>rfl
theorem C7 {u i v:Nat}(hu:u<18446744073709551616)(hi:i<4)(hv:v<4096):jK (kN u i v)=(jK u+1)%65536:=by
 have h1:=FY (u:=u) hi hv
 have h2:=FX hu hi hv
 rw[C5 hu hi hv]
 unfold jK at h1 ⊢
 omega
theorem C4 (u i v:Nat):kN u i v<18446744073709551616:=Nat.mod_lt _ (by decide)
end
section
theorem Bs (u:Nat)(id:Int):(dC u id= -1∧∀i,i<4→bE u i≠id)∨∃i:Nat,i<4∧dC u id=(i:Int)∧bE u i=id:=by
 unfold dC
 by_cases h0:bE u 0=id
 ·exact .inr ⟨0,by decide,by rw[if_pos h0];rfl,h0⟩
 by_cases h1:bE u 1=id
 ·exact .inr ⟨1,by decide,by rw[if_neg h0,if_pos h1];rfl,h1⟩
 by_cases h2:bE u 2=id
 ·exact .inr ⟨2,by decide,by rw[if_neg h0,if_neg h1,if_pos h2];rfl,h2⟩
 by_cases h3:bE u 3=id
 ·exact .inr ⟨3,by decide,by rw[if_neg h0,if_neg h1,if_neg h2,if_pos h3];rfl,h3⟩
 refine .inl ⟨by rw[if_neg h0,if_neg h1,if_neg h2,if_neg h3],fun i hi=> ?_⟩
 match i,hi with
 |0,_=>exact h0
 |1,_=>exact h1
 |2,_=>exact h2
 |3,_=>exact h3
theorem hR {u:Nat}:cD u=true↔∀i,i<4→0≤bE u i:=by
 unfold cD
 rw[decide_eq_true_eq]
 rcases Bs u (-1)with ⟨h,h'⟩|⟨i,hi,h,h'⟩
 ·refine⟨fun _ i hi=> ?_,fun _=>by omega⟩
  have:=h' i hi
  have: -1≤bE u i:=by unfold bE;omega
  omega
 ·exact⟨fun e=>by omega,fun e=>by have:=e i hi;omega⟩
theorem Bu {u:Nat}{id:Int}(hu:u<18446744073709551616)(hf:cD u=false)(h0:0≤id)(h1:id<4095):∃i,i<4∧bE u i= -1∧(∀j,j<4→bE (jm u id) j=if j=i then id else bE u j)∧jK (jm u id)=(jK u+1)%65536:=by
 rcases Bs u (-1)with ⟨h,h'⟩|⟨i,hi,h,h'⟩
 ·unfold cD at hf
  rw[h]at hf
  simp at hf
 ·refine⟨i,hi,h',fun j hj=> ?_,?_⟩
  ·unfold jm
   rw[h,Int.toNat_natCast,C6 hu hi (by omega) hj]
   split
   ·omega
   ·rfl
  ·unfold jm
   rw[h,Int.toNat_natCast,C7 hu hi (by omega)]
theorem w9 {u:Nat}{id:Int}(hu:u<18446744073709551616)(hw:0≤dC u id):∃i,i<4∧bE u i=id∧(∀j,j<4→bE (ou u id) j=if j=i then-1 else bE u j)∧jK (ou u id)=(jK u+1)%65536:=by
 rcases Bs u id with ⟨h,h'⟩|⟨i,hi,h,h'⟩
 ·omega
 ·refine⟨i,hi,h',fun j hj=> ?_,?_⟩
  ·unfold ou
   rw[h,Int.toNat_natCast,C6 hu hi (by decide) hj]
   split<;>rfl
  ·unfold ou
   rw[h,Int.toNat_natCast,C7 hu hi (by decide)]
theorem HG (u:Nat)(id:Int):jm u id<18446744073709551616:=C4 _ _ _
theorem Bx (u:Nat)(id:Int):ou u id<18446744073709551616:=C4 _ _ _
structure oI (m:dG):Prop where
 phase:m.phase≤3
 id:m.id<4096
 fr:m.fr<1024
 to:m.to<1024
 version:m.version<65536
theorem wa {m:dG}(h:oI m)(ht:m.aK<16384):eM (jF m)=m:=by
 obtain⟨a,b,c,d,e,f⟩:=m
 obtain⟨h1,h2,h3,h4,h5⟩:=h
 unfold eM jF
 dsimp only at*
 congr 1<;>omega
theorem Qn {m:dG}(h:oI m):jF m<18446744073709551616:=by
 obtain⟨h1,h2,h3,h4,h5⟩:=h
 unfold jF
 omega
theorem F1 {u:Nat}(h:u<18446744073709551616):oI (eM u)∧(eM u).aK<16384:=by
 unfold eM
 refine⟨⟨?_,?_,?_,?_,?_⟩,?_⟩<;>dsimp only<;>omega
theorem four {i:Nat}(h:i<4):i=0∨i=1∨i=2∨i=3:=by omega
theorem MU {s:aR}{v x i:Nat}(hv:v<4)(hi:i<4):(s.ga v x).dn i=if i=v then x else s.dn i:=by
 rcases four hv with rfl|rfl|rfl|rfl<;>rcases four hi with rfl|rfl|rfl|rfl<;>rfl
theorem MT {s:aR}{v x i:Nat}(hv:v<4):(s.gZ v x).dn i=s.dn i:=by
 rcases four hv with rfl|rfl|rfl|rfl<;>rfl
structure BR (s s':aR):Prop where
 kind:s'.kind=s.kind
 f1:s'.f1=s.f1
 f2:s'.f2=s.f2
 f3:s'.f3=s.f3
 id:s'.id=s.id
 a:s'.a=s.a
 b:s'.b=s.b
 first:s'.first=s.first
 still:s'.still=s.still
 second:s'.second=s.second
theorem Ml (s:aR){v:Nat}(hv:v<4)(x:Nat):BR s (s.gZ v x)∧(s.gZ v x).done=s.done∧(s.gZ v x).v=s.v∧(s.gZ v x).u=s.u:=by
 rcases four hv with rfl|rfl|rfl|rfl<;>exact⟨⟨rfl,rfl,rfl,rfl,rfl,rfl,rfl,rfl,rfl,rfl⟩,rfl,rfl,rfl⟩
theorem Mk (s:aR){v:Nat}(hv:v<4)(x:Nat):BR s (s.ga v x)∧(s.ga v x).done=s.done∧(s.ga v x).v=s.v∧(s.ga v x).u=s.u:=by
 rcases four hv with rfl|rfl|rfl|rfl<;>exact⟨⟨rfl,rfl,rfl,rfl,rfl,rfl,rfl,rfl,rfl,rfl⟩,rfl,rfl,rfl⟩
theorem o8 {cs:List Nat}{i x:Nat}(h:i<cs.length):(cs.set i x).getD i 0=x:=by
 simp[List.getD_eq_getElem?_getD,h]
theorem kO {cs:List Nat}{i j x:Nat}(h:i≠j):(cs.set i x).getD j 0=cs.getD j 0:=by
 simp[List.getD_eq_getElem?_getD,List.getElem?_set_ne h]
section move
variable {pl:List Nat} {n:Nat} {cs:List Nat} {s:aR}
end move
end
section
section
variable {pl:List Nat} {np n:Nat} {cs:List Nat}
theorem vZ {l:List Nat}{i v B:Nat}(h:∀j,l.getD j 0<B)(hv:v<B)(j:Nat):(l.set i v).getD j 0<B:=by
 by_cases e:i=j
 ·subst e
  by_cases hi:i<l.length
  ·rw[o8 hi];exact hv
  ·rw[List.set_eq_of_length_le (by omega)];exact h i
 ·rw[kO e];exact h j
end
end
section
def j3 (np u:Nat):Prop:=∀i,i<4→bE u i<(np:Int)
structure cV (n np:Nat)(cs:List Nat):Prop where
 len:cs.length=n+1
 n1:2≤n
 n2:n≤1024
 QG:1≤np
 hZ:np≤3072
 w:∀j,cs.getD j 0<18446744073709551616
 refs:∀b,b<n→j3 np (cs.getD b 0)
 id:(eM (cs.getD n 0)).id<np
 fr:(eM (cs.getD n 0)).fr<n
 to:(eM (cs.getD n 0)).to<n
structure cp (np:Nat)(pl:List Nat):Prop where
 len:pl.length=2*np
 w:∀j,pl.getD j 0<18446744073709551616
 tr:∀x,(br.of (pl.getD (2*x) 0)).tr≤4
structure nk (n np:Nat)(m:dG):Prop where
 phase:m.phase≤3
 id:m.id<np
 fr:m.fr<n
 to:m.to<n
 version:m.version<65536
 aK:m.aK<16384
structure ba (n np:Nat)(s:aR):Prop where
 a:s.a<n
 b:s.b<n
 next:s.next≤24
 lQ:s.at_≤4
 refs:j3 np s.word
 word:s.word<18446744073709551616
 pC:j3 np s.first
 first:s.first<18446744073709551616
 Az: -1≤s.id
 rJ:s.id<(np:Int)
 vT:s.kind≠0→0≤s.id
 f1:s.f1≤255
 f2:s.f2<4294967296
 f3:s.f3<65536
 kind:s.kind≤2
 link:s.next=5→s.kind≠0∧cD s.first=false
 dk:23≤s.next→s.kind≠0
 fD:6≤s.next→s.next≤12→cD s.first=true
 vu:s.done=false→s.v<4∧s.u<4
 cF:∀i,i<4→s.cF i<n
 dn:∀i,i<4→s.dn i<18446744073709551616∧j3 np (s.dn i)
 jy:s.next=8∨s.next=9→∀i,i<s.v→i<4→cD (s.dn i)=true
 jT:s.next=10∨s.next=11→∀i,i<4→cD (s.dn i)=true
 b0:s.b0<n
 still:s.still<18446744073709551616
 m:nk n np s.m
 ph:14≤s.next→s.next≤18→s.m.phase<3
 free:s.next=15→cD s.word=false
 there:s.next=18∨s.next=21→0≤dC s.word (s.m.id:Int)
 out:s.next=24→0≤dC s.word s.id
 seen:s.seen.ok
 wG:s.seen.tr≤4
 DK: -1≤s.found
 sW:s.found<(np:Int)
 aM:s.aM.ok
 sX:s.aM.tr≤4
 qz:s.done=true→s.kind=0→s.end_=0→0≤s.found
 rD:s.done=true→s.end_=10→0≤s.found
def nr (H:Nat→List Nat)(m:dG):Prop:=m.version<(H m.to).length∧cD ((H m.to).getD m.version 0)=false
structure dF (n:Nat)(cs:List Nat)(H:Nat→List Nat)(K:Nat):Prop where
 last:∀b,b<n→0<(H b).length∧(H b).getD ((H b).length-1) 0=cs.getD b 0
 qU:∀b,b<n→∀i,i<(H b).length→jK ((H b).getD i 0)=i
 short:∀b,b<n→(H b).length≤K+1
 mv:(eM (cs.getD n 0)).phase≠0→nr H (eM (cs.getD n 0))
def fI (H:Nat→List Nat)(s:aR):Prop:=12≤s.next→s.next≤22→nr H s.m
structure dV (n:Nat)(H H':Nat→List Nat):Prop where
 len:∀b,b<n→(H b).length≤(H' b).length
 get:∀b,b<n→∀i,i<(H b).length→(H' b).getD i 0=(H b).getD i 0
theorem dV.refl (n:Nat)(H:Nat→List Nat):dV n H H:=⟨fun _ _=>Nat.le_refl _,fun _ _ _ _=>rfl⟩
theorem nr.ext {n:Nat}{H H':Nat→List Nat}{m:dG}(h:nr H m)(e:dV n H H')(ht:m.to<n):nr H' m:=by
 obtain⟨h1,h2⟩:=h
 exact⟨Nat.lt_of_lt_of_le h1 (e.len _ ht),by rw[e.get _ ht _ h1];exact h2⟩
theorem fI.ext {n np:Nat}{H H':Nat→List Nat}{s:aR}(h:fI H s)(e:dV n H H')(hm:nk n np s.m):fI H' s:=fun h1 h2=>(h h1 h2).ext e hm.to
theorem dF.more {n K K':Nat}{cs:List Nat}{H:Nat→List Nat}(h:dF n cs H K)(hk:K≤K'):dF n cs H K':=⟨h.last,h.qU,fun b hb=>Nat.le_trans (h.short b hb) (by omega),h.mv⟩
def pN (H:Nat→List Nat)(b u:Nat):Nat→List Nat:=fun i=>if i=b then H b++[u]else H i
theorem pO (n:Nat)(H:Nat→List Nat)(b u:Nat):dV n H (pN H b u):=by
 constructor
 ·intro i _
  unfold pN
  split
  ·rename_i e;subst e;simp
  ·exact Nat.le_refl _
 ·intro i _ j hj
  unfold pN
  split
  ·rename_i e;subst e
   rw[List.getD_eq_getElem?_getD,List.getD_eq_getElem?_getD,List.getElem?_append_left hj]
  ·rfl
theorem dF.set {n K:Nat}{cs:List Nat}{H:Nat→List Nat}(h:dF n cs H K)(hl:cs.length=n+1){b u:Nat}(hb:b<n)(hu:jK u=(jK (cs.getD b 0)+1)%65536)(hK:K<65000):
  dF n (cs.set b u) (pN H b u) (K+1):=by
 obtain⟨l1,l2⟩:=h.last b hb
 have hs:=h.short b hb
 have hv:jK (cs.getD b 0)=(H b).length-1:=by rw[←l2];exact h.qU b hb _ (by omega)
 have Oq:jK u=(H b).length:=by rw[hu,hv];omega
 refine⟨fun i hi=> ?_,fun i hi j hj=> ?_,fun i hi=> ?_,?_⟩
 ·unfold pN
  by_cases e:i=b
  ·subst e
   rw[if_pos rfl,o8 (by omega)]
   simp[List.getD_eq_getElem?_getD]
  ·rw[if_neg e,kO (fun z=>e z.symm)]
   exact h.last i hi
 ·unfold pN at hj ⊢
  by_cases e:i=b
  ·subst e
   rw[if_pos rfl]at hj ⊢
   rw[List.length_append,List.length_singleton]at hj
   by_cases ej:j<(H i).length
   ·rw[List.getD_eq_getElem?_getD,List.getElem?_append_left ej,←List.getD_eq_getElem?_getD]
    exact h.qU i hi j ej
   ·have:j=(H i).length:=by omega
    subst this
    rw[List.getD_eq_getElem?_getD,List.getElem?_append_right (Nat.le_refl _)]
    simpa using Oq
  ·rw[if_neg e]at hj ⊢
   exact h.qU i hi j hj
 ·unfold pN
  by_cases e:i=b
  ·subst e
   rw[if_pos rfl,List.length_append,List.length_singleton]
   omega
  ·rw[if_neg e]
   have:=h.short i hi
   omega
 ·rw[kO (by omega)]
  intro hp
  obtain⟨q1,q2⟩:=h.mv hp
  unfold nr pN
  split
  ·rename_i e
   rw[e]at q1 q2
   refine⟨by rw[List.length_append];omega,?_⟩
   rw[List.getD_eq_getElem?_getD,List.getElem?_append_left q1,←List.getD_eq_getElem?_getD]
   exact q2
  ·exact⟨q1,q2⟩
theorem dF.cell {n K:Nat}{cs:List Nat}{H:Nat→List Nat}(h:dF n cs H K)(hl:cs.length=n+1){u:Nat}(hu:(eM u).phase≠0→nr H (eM u)):dF n (cs.set n u) H K:=by
 refine⟨fun b hb=> ?_,h.qU,h.short,?_⟩
 ·rw[kO (by omega)];exact h.last b hb
 ·rw[o8 (by omega)];exact hu
theorem dF.room {n K:Nat}{cs:List Nat}{H:Nat→List Nat}(h:dF n cs H K){m:dG}(hr:nr H m)(ht:m.to<n)(hv:cs.getD m.to 0/281474976710656=m.version):cD (cs.getD m.to 0)=false:=by
 obtain⟨l1,l2⟩:=h.last m.to ht
 obtain⟨r1,r2⟩:=hr
 have h1:=h.qU m.to ht ((H m.to).length-1) (by omega)
 rw[l2]at h1
 have e:m.version=(H m.to).length-1:=by rw[←hv];exact h1
 rw[e,l2]at r2
 exact r2
theorem dF.now {n K:Nat}{cs:List Nat}{H:Nat→List Nat}(h:dF n cs H K){b:Nat}(hb:b<n)(hf:cD (cs.getD b 0)=false):cs.getD b 0/281474976710656<(H b).length∧cD ((H b).getD (cs.getD b 0/281474976710656) 0)=false:=by
 obtain⟨l1,l2⟩:=h.last b hb
 have h1:=h.qU b hb ((H b).length-1) (by omega)
 rw[l2]at h1
 have e:cs.getD b 0/281474976710656=(H b).length-1:=h1
 rw[e,l2]
 exact⟨by omega,hf⟩
section
variable {n np:Nat} {cs pl:List Nat} {s:aR}
theorem cV.set (h:cV n np cs){b u:Nat}(hb:b<n)(hu:u<18446744073709551616)(hr:j3 np u):cV n np (cs.set b u):=by
 refine {h with len:=by rw[List.length_set];exact h.len,w:=vZ h.w hu,refs:=fun i hi=> ?_,id:= ?_,fr:= ?_,to:= ?_}
 ·by_cases e:b=i
  ·subst e;rw[o8 (by have:=h.len;omega)];exact hr
  ·rw[kO e];exact h.refs i hi
 all_goals rw[kO (by omega)]
 ·exact h.id
 ·exact h.fr
 ·exact h.to
theorem cV.cell (h:cV n np cs){m:dG}(hm:nk n np m):cV n np (cs.set n (jF m)):=by
 have mR:oI m:=⟨hm.phase,by have:=hm.id;have:=h.hZ;omega,by have:=hm.fr;have:=h.n2;omega,by have:=hm.to;have:=h.n2;omega,hm.version⟩
 have e:=wa mR hm.aK
 refine {h with len:=by rw[List.length_set];exact h.len,w:=vZ h.w (Qn mR),refs:=fun i hi=> ?_,id:= ?_,fr:= ?_,to:= ?_}
 ·rw[kO (by omega)];exact h.refs i hi
 all_goals rw[o8 (by have:=h.len;omega),e]
 ·exact hm.id
 ·exact hm.fr
 ·exact hm.to
theorem Qo (m:dG):jF m=jF {m with aK:=m.aK%16384}:=by unfold jF;dsimp only;omega
theorem cV.AK (h:cV n np cs):nk n np (eM (cs.getD n 0)):=by
 obtain⟨h1,h2⟩:=F1 (h.w n)
 exact⟨h1.phase,h.id,h.fr,h.to,h1.version,h2⟩
theorem GM {u:Nat}{id:Int}(hu:u<18446744073709551616)(hr:j3 np u)(hf:cD u=false)(h0:0≤id)(h1:id<np)(h2:np≤3072):j3 np (jm u id):=by
 obtain⟨i,_,_,h,_⟩:=Bu hu hf h0 (by omega)
 intro j hj
 rw[h j hj]
 split
 ·exact h1
 ·exact hr j hj
theorem A6 {u:Nat}{id:Int}(hu:u<18446744073709551616)(hr:j3 np u)(hw:0≤dC u id):j3 np (ou u id):=by
 obtain⟨i,_,_,h,_⟩:=w9 hu hw
 intro j hj
 rw[h j hj]
 split
 ·omega
 ·exact hr j hj
theorem wB:j3 np 0:=fun i hi=>by unfold bE;simp;omega
theorem wY:w0.ok:=by decide
theorem Hh {kind f1 f2 f3 next:Nat}{id:Int}(hn:2≤n)(cg:1≤np)(h1:f1≤255)(h2:f2<4294967296)(h3:f3<65536)(zP: -1≤id)(zQ:id<(np:Int))(hk:kind≤2)(NF:kind≠0→0≤id)(hx:next=0∨(next=23∧kind≠0)):
  ba n np (qS kind f1 f2 f3 id next n) where
 a:=(wO hn).1
 b:=(wO hn).2.1
 next:=by show next≤24;omega
 lQ:=by show 0≤4;omega
 refs:=wB
 word:=by show 0<_;decide
 pC:=wB
 first:=by show 0<_;decide
 Az:=zP
 rJ:=zQ
 vT:=NF
 f1:=h1
 f2:=h2
 f3:=h3
 kind:=hk
 link:=fun e=>by have e:next=5:=e;omega
 dk:=fun e=>by
  have e:23≤next:=e
  rcases hx with e'|e'
  ·omega
  ·exact e'.2
 fD:=fun e e'=>by have e:6≤next:=e;have e':next≤12:=e';omega
 vu:=fun _=>⟨by show 0<4;decide,by show 0<4;decide⟩
 cF:=fun i hi=>by rcases four hi with rfl|rfl|rfl|rfl<;>show 0<n<;>omega
 dn:=fun i hi=>by rcases four hi with rfl|rfl|rfl|rfl<;>exact⟨by show 0<_;decide,wB⟩
 jy:=fun e=>by have e:next=8∨next=9:=e;omega
 jT:=fun e=>by have e:next=10∨next=11:=e;omega
 b0:=by show 0<n;omega
 still:=by show 0<_;decide
 m:=⟨by show 0≤3;decide,by show 0<np;omega,by show 0<n;omega,by show 0<n;omega,by show 0<65536;decide,by show 0<16384;decide⟩
 ph:=fun e e'=>by show 0<3;decide
 free:=fun e=>by have e:next=15:=e;omega
 there:=fun e=>by have e:next=18∨next=21:=e;omega
 out:=fun e=>by have e:next=24:=e;omega
 seen:=wY
 wG:=by show 0≤4;decide
 DK:=by show(-1:Int)≤ -1;omega
 sW:=by show(-1:Int)<np;omega
 aM:=wY
 sX:=by show 0≤4;decide
 qz:=fun e=>by cases e
 rD:=fun e=>by cases e
theorem Sh {H:Nat→List Nat}{kind f1 f2 f3 next:Nat}{id:Int}(hx:next=0∨next=23):fI H (qS kind f1 f2 f3 id next n):=fun e e'=>by
 have e:12≤next:=e
 have e':next≤22:=e'
 omega
structure cA (n np K:Nat)(H:Nat→List Nat)(r:List Nat×aR):Prop where
 step:∃H',dV n H H'∧dF n r.1 H' (K+1)∧fI H' r.2
 cs:cV n np r.1
 ok:ba n np r.2
theorem cA.same {H:Nat→List Nat}{K:Nat}{t:aR}(hc:cV n np cs)(hh:dF n cs H K)(ht:ba n np t)(hr:12≤t.next→t.next≤22→nr H t.m):cA n np K H (cs,t):=⟨⟨H,dV.refl n H,hh.more (by omega),hr⟩,hc,ht⟩
theorem ba.finish (h:ba n np s)(e:Nat)(h0:s.kind=0→e≠0)(h1:e≠10):ba n np (hO s e):={h with
 vu:=fun e=>by cases e
 qz:=fun _ e0 e1=>absurd e1 (h0 e0)
 rD:=fun _ e1=>absurd e1 h1}
theorem ba.DA (h:ba n np s)(h0:s.kind≠0):ba n np (hO s 0):={h with
 vu:=fun e=>by cases e
 qz:=fun _ e0 e1=>absurd e0 h0
 rD:=fun _ e1=>by cases e1}
theorem ba.through (h:ba n np s){u nx:Nat}(hu:u<18446744073709551616)(hr:j3 np u)(hx:nx=1∨nx=3):ba n np (pK s u nx):={h with
 next:=by show nx≤24;omega
 lQ:=by show 0≤4;omega
 refs:=hr
 word:=hu
 link:=fun e=>by have e:nx=5:=e;omega
 dk:=fun e=>by have e:23≤nx:=e;omega
 fD:=fun e e'=>by have e:6≤nx:=e;omega
 jy:=fun e=>by have e:nx=8∨nx=9:=e;omega
 jT:=fun e=>by have e:nx=10∨nx=11:=e;omega
 ph:=fun e e'=>by have e:14≤nx:=e;omega
 free:=fun e=>by have e:nx=15:=e;omega
 there:=fun e=>by have e:nx=18∨nx=21:=e;omega
 out:=fun e=>by have e:nx=24:=e;omega}
theorem ba.DB (h:ba n np s)(hx:s.next=0∨s.next=4){u:Nat}(hu:u<18446744073709551616)(hr:j3 np u):ba n np {s with first:=u}:={h with
 pC:=hr
 first:=hu
 link:=fun e=>by have e:s.next=5:=e;omega
 fD:=fun e e'=>by have e:6≤s.next:=e;omega}
theorem ba.to (h:ba n np s){nx:Nat}(hx:nx=0∨nx=2∨nx=4∨nx=13∨nx=19∨nx=20∨nx=22):ba n np {s with next:=nx}:={h with
 next:=by show nx≤24;omega
 link:=fun e=>by have e:nx=5:=e;omega
 dk:=fun e=>by have e:23≤nx:=e;omega
 fD:=fun e e'=>by have e:6≤nx:=e;have e':nx≤12:=e';omega
 jy:=fun e=>by have e:nx=8∨nx=9:=e;omega
 jT:=fun e=>by have e:nx=10∨nx=11:=e;omega
 ph:=fun e e'=>by have e:14≤nx:=e;have e':nx≤18:=e';omega
 free:=fun e=>by have e:nx=15:=e;omega
 there:=fun e=>by have e:nx=18∨nx=21:=e;omega
 out:=fun e=>by have e:nx=24:=e;omega}
theorem Pq (h:ba n np s)(hp:cp np pl)(hx:s.next=1∨s.next=3)(EH:s.at_<4→0≤bE s.word s.at_):ba n np (je pl s).1∧(je pl s).1.next=s.next∧(je pl s).1.first=s.first∧(je pl s).1.kind=s.kind∧(je pl s).1.id=s.id:=by
 unfold je
 split
 ·exact⟨h,rfl,rfl,rfl,rfl⟩
 rename_i h4
 have DZ:=h.lQ
 have hw:=br.Ge (hp.w (2*(bE s.word s.at_).toNat))
 have tI:=hp.tr (bE s.word s.at_).toNat
 dsimp only
 split
 ·split
  ·exact⟨{h with seen:=hw,wG:=tI},rfl,rfl,rfl,rfl⟩
  ·exact⟨{h with seen:=hw,wG:=tI,lQ:=by show s.at_+1≤4;omega},rfl,rfl,rfl,rfl⟩
 ·split
  ·refine⟨{h with vu:=fun e=>(by cases e),DK:= ?_,sW:=h.refs _ (by omega),aM:=h.seen,sX:=h.wG,qz:=fun _ _ _=>EH (by omega),rD:=fun _ _=>EH (by omega)},rfl,rfl,rfl,rfl⟩
   show-1≤bE s.word s.at_
   unfold bE;omega
  ·exact⟨{h with lQ:=by show s.at_+1≤4;omega},rfl,rfl,rfl,rfl⟩
theorem E8 (h:ba n np s)(hp:cp np pl)(hx:s.next=1∨s.next=3):ba n np (dL pl s).1∧(dL pl s).1.next=s.next∧(dL pl s).1.first=s.first∧(dL pl s).1.kind=s.kind∧(dL pl s).1.id=s.id:=by
 have dS:=Bf (word:=s.word) (id:=s.id) 4 s.at_ (by omega)
 have hle:=Be s.word s.id 4 s.at_ h.lQ
 exact Pq (s:={s with at_:=gq s.word s.id 4 s.at_}) (pl:=pl) {h with lQ:=hle} hp hx (fun e=>by
  show 0≤bE s.word (gq s.word s.id 4 s.at_)
  have e:gq s.word s.id 4 s.at_<4:=e
  omega)
theorem RR {H:Nat→List Nat}{K:Nat}(hc:cV n np cs)(hp:cp np pl)(hh:dF n cs H K)(hK:K<65000)(h:ba n np s)(h5:s.next≤5):cA n np K H (gG cs pl s):=by
 unfold gG
 have tG:=hc.w s.a
 have Ou:=hc.w s.b
 have vI:=hc.refs s.a h.a
 have N7:=hc.refs s.b h.b
 split
 ·rename_i e
  exact cA.same hc hh ((h.DB (.inl e) tG vI).through tG vI (.inl rfl)) (fun e=>by have e:12≤1:=e;omega)
 split
 ·rename_i e
  obtain⟨g1,g2,g3,g4,g5⟩:=E8 (pl:=pl) h hp (.inl e)
  refine cA.same hc hh ?_ ?_
  ·split
   ·exact g1.to (.inr (.inl rfl))
   ·exact g1
  ·split
   ·intro e;have e:12≤2:=e;omega
   ·rw[g2];omega
 split
 ·exact cA.same hc hh (h.through Ou N7 (.inr rfl)) (fun e=>by have e:12≤3:=e;omega)
 split
 ·rename_i e
  obtain⟨g1,g2,g3,g4,g5⟩:=E8 (pl:=pl) h hp (.inr e)
  refine cA.same hc hh ?_ ?_
  ·split
   ·unfold mC
    split
    ·exact g1.to (.inr (.inr (.inl rfl)))
    rename_i hk
    have hid:=g1.vT hk
    split
    ·rename_i hf
     exact {g1 with
      next:=by show 6≤24;omega
      link:=fun e=>by have e:6=5:=e;omega
      dk:=fun e=>by have e:23≤6:=e;omega
      fD:=fun _ _=>hf
      jy:=fun e=>by have e:6=8∨6=9:=e;omega
      jT:=fun e=>by have e:6=10∨6=11:=e;omega
      ph:=fun e e'=>by have e:14≤6:=e;omega
      free:=fun e=>by have e:6=15:=e;omega
      there:=fun e=>by have e:6=18∨6=21:=e;omega
      out:=fun e=>by have e:6=24:=e;omega}
    ·rename_i hf
     exact {g1 with
      next:=by show 5≤24;omega
      link:=fun _=>⟨hk,by simpa using hf⟩
      dk:=fun e=>by have e:23≤5:=e;omega
      fD:=fun e _=>by have e:6≤5:=e;omega
      jy:=fun e=>by have e:5=8∨5=9:=e;omega
      jT:=fun e=>by have e:5=10∨5=11:=e;omega
      ph:=fun e e'=>by have e:14≤5:=e;omega
      free:=fun e=>by have e:5=15:=e;omega
      there:=fun e=>by have e:5=18∨5=21:=e;omega
      out:=fun e=>by have e:5=24:=e;omega}
   ·exact g1
  ·split
   ·have hb:mC (dL pl s).1≤6:=by
     unfold mC
     split
     ·omega
     ·split<;>omega
    intro e
    have e:12≤mC (dL pl s).1:=e
    omega
   ·rw[g2];omega
 split
 ·rename_i e
  refine cA.same hc hh ?_ ?_
  ·split
   ·exact h.finish 7 (fun _=>by decide) (by decide)
   ·exact(h.DB (.inr e) tG vI).through tG vI (.inl rfl)
  ·split
   ·intro e';have e':12≤s.next:=e';omega
   ·intro e';have e':12≤1:=e';omega
 ·have e5:s.next=5:=by omega
  obtain⟨lk,l2⟩:=h.link e5
  have l1:=h.vT lk
  split
  ·rename_i e
   obtain⟨i,_,_,_,hv⟩:=Bu (id:=s.id) h.first l2 l1 (by have:=h.rJ;have:=hc.hZ;omega)
   exact⟨⟨_,pO n H s.a (jm s.first s.id),hh.set hc.len h.a (by rw[e];exact hv) hK,fun e=>by have e:12≤0:=e;omega⟩,hc.set h.a (HG _ _) (GM h.first h.pC l2 l1 h.rJ hc.hZ),(h.to (nx:=0) (.inl rfl)).DA lk⟩
  ·exact cA.same hc hh (h.to (.inl rfl)) (fun e=>by have e:12≤0:=e;omega)
theorem Gi (pl:List Nat)(id:Int)(bk:Nat)(h2:2≤n):ib pl n id bk<n:=by
 unfold ib
 split
 ·exact(wO h2).2.1
 ·exact(wO h2).1
theorem ba.gZ (h:ba n np s){v x:Nat}(hv:v<4)(hx:x<n):ba n np (s.gZ v x):=by
 rcases four hv with rfl|rfl|rfl|rfl
 all_goals refine {h with cF:=fun i hi=> ?_}
 all_goals rcases four hi with rfl|rfl|rfl|rfl
 all_goals first
  |exact hx
  |exact h.cF 0 (by decide)
  |exact h.cF 1 (by decide)
  |exact h.cF 2 (by decide)
  |exact h.cF 3 (by decide)
theorem ba.ga (h:ba n np s){v x:Nat}(hv:v<4)(h9:s.next=9)(Am:s.v=v)(hx:x<18446744073709551616)(hr:j3 np x):ba n np (s.ga v x):=by
 have h1:=h.jy (.inr h9)
 rw[Am]at h1
 rcases four hv with rfl|rfl|rfl|rfl
 all_goals refine {h with dn:=fun i hi=> ?_,jy:=fun _ i hi h4=> ?_,jT:=fun e=>(by have e:s.next=10∨s.next=11:=e;omega)}
 all_goals try have hi:i<s.v:=hi
 all_goals rcases four (by assumption:i<4)with rfl|rfl|rfl|rfl
 all_goals first
  |omega
  |exact⟨hx,hr⟩
  |exact h.dn 0 (by decide)
  |exact h.dn 1 (by decide)
  |exact h.dn 2 (by decide)
  |exact h.dn 3 (by decide)
  |exact h1 0 (by omega) (by decide)
  |exact h1 1 (by omega) (by decide)
  |exact h1 2 (by omega) (by decide)
theorem ba.mJ (h:ba n np s){v u nx:Nat}(h7:7≤nx)(M7:nx≤11)(hv:v<4)(hu:u<4)(hf:cD s.first=true)(f1:nx=8∨nx=9→∀i,i<v→i<4→cD (s.dn i)=true)(f2:nx=10∨nx=11→∀i,i<4→cD (s.dn i)=true):
  ba n np {s with v:=v,u:=u,next:=nx}:={h with
 next:=by show nx≤24;omega
 link:=fun e=>by have e:nx=5:=e;omega
 dk:=fun e=>by have e:23≤nx:=e;omega
 fD:=fun _ _=>hf
 vu:=fun _=>⟨hv,hu⟩
 jy:=f1
 jT:=f2
 ph:=fun e e'=>by have e:14≤nx:=e;omega
 free:=fun e=>by have e:nx=15:=e;omega
 there:=fun e=>by have e:nx=18∨nx=21:=e;omega
 out:=fun e=>by have e:nx=24:=e;omega}
theorem ba.kj (h:ba n np s){id:Int}{fr to u:Nat}(hf:cD s.first=true)(h0:0≤id)(h1:id<(np:Int))(df:fr<n)(iE:to<n)(hu:u<18446744073709551616):ba n np (kj s id fr to u):={h with
 next:=by show 12≤24;omega
 link:=fun e=>by have e:12=5:=e;omega
 dk:=fun e=>by have e:23≤12:=e;omega
 fD:=fun _ _=>hf
 m:=⟨by show 1≤3;decide,by show id.toNat<np;omega,df,iE,by show u/281474976710656<65536;omega,(F1 h.still).2⟩
 jy:=fun e=>by have e:12=8∨12=9:=e;omega
 jT:=fun e=>by have e:12=10∨12=11:=e;omega
 ph:=fun e e'=>by have e:14≤12:=e;omega
 free:=fun e=>by have e:12=15:=e;omega
 there:=fun e=>by have e:12=18∨12=21:=e;omega
 out:=fun e=>by have e:12=24:=e;omega}
theorem LI {H:Nat→List Nat}{K:Nat}(hc:cV n np cs)(hh:dF n cs H K)(h:ba n np s)(hd:s.done=false)(ht:fI H s)(e:s.next=6):cA n np K H (cs,{s with still:=cs.getD n 0,m:=eM (cs.getD n 0),next:=if(eM (cs.getD n 0)).phase≠0 then 13 else 7}):=by
 have hf:=h.fD (by omega) (by omega)
 have b7:=hR.1 hf
 obtain⟨hv,hu⟩:=h.vu hd
 have fz:=hc.w n
 refine cA.same hc hh ?_ ?_
 ·split
  ·exact(show ba n np {s with still:=cs.getD n 0,m:=eM (cs.getD n 0)}from {h with still:=fz,m:=hc.AK,ph:=fun e e'=>(by have e:14≤s.next:=e;omega),there:=fun e=>(by have e:s.next=18∨s.next=21:=e;omega)}).to (.inr (.inr (.inr (.inl rfl))))
  ·exact(show ba n np {s with still:=cs.getD n 0,m:=eM (cs.getD n 0)}from {h with still:=fz,m:=hc.AK,ph:=fun e e'=>(by have e:14≤s.next:=e;omega),there:=fun e=>(by have e:s.next=18∨s.next=21:=e;omega)}).mJ (v:=s.v) (u:=s.u) (by decide) (by decide) hv hu hf (fun e=>by omega) (fun e=>by omega)
 ·split
  ·rename_i hp
   exact fun _ _=>hh.mv hp
  ·intro e;have e:12≤7:=e;omega
theorem LJ {H:Nat→List Nat}{K:Nat}(hc:cV n np cs)(hh:dF n cs H K)(h:ba n np s)(hd:s.done=false)(ht:fI H s)(e:s.next=7):cA n np K H (cs,{s with v:=0,u:=0,next:=if cs.getD s.a 0≠s.first then 0 else 8}):=by
 have hf:=h.fD (by omega) (by omega)
 have b7:=hR.1 hf
 obtain⟨hv,hu⟩:=h.vu hd
 have fz:=hc.w n
 refine cA.same hc hh ?_ ?_
 ·split
  ·exact(show ba n np {s with v:=0,u:=0}from {h with vu:=fun _=>⟨(by show 0<4;decide),(by show 0<4;decide)⟩,jy:=fun _ i hi=>(by have hi:i<0:=hi;omega)}).to (.inl rfl)
  ·exact h.mJ (v:=0) (u:=0) (by decide) (by decide) (by decide) (by decide) hf (fun _ i hi=>by omega) (fun e=>by omega)
 ·split
  ·intro e;have e:12≤0:=e;omega
  ·intro e;have e:12≤8:=e;omega
theorem LK {H:Nat→List Nat}{K:Nat}(hc:cV n np cs)(hh:dF n cs H K)(h:ba n np s)(hd:s.done=false)(ht:fI H s)(e:s.next=8):cA n np K H (cs,{s.gZ s.v (ib pl n (bE s.first s.v) s.a)with next:=9}):=by
 have hf:=h.fD (by omega) (by omega)
 have b7:=hR.1 hf
 obtain⟨hv,hu⟩:=h.vu hd
 have fz:=hc.w n
 have g:=h.gZ (x:=ib pl n (bE s.first s.v) s.a) hv (Gi pl _ _ hc.n1)
 obtain⟨q1,q2,q3,q4⟩:=Ml s hv (ib pl n (bE s.first s.v) s.a)
 have nH:cD (s.gZ s.v (ib pl n (bE s.first s.v) s.a)).first=true:=by rw[q1.first];exact hf
 have g2:=g.mJ (v:=(s.gZ s.v (ib pl n (bE s.first s.v) s.a)).v) (u:=(s.gZ s.v (ib pl n (bE s.first s.v) s.a)).u) (nx:=9) (by decide) (by decide) (by rw[q3];exact hv) (by rw[q4];exact hu) nH (fun _ i hi h4=>by
  rw[MT hv];exact h.jy (.inl e) i (by rw[←q3];exact hi) h4) (fun e=>by omega)
 exact cA.same hc hh g2 (fun e=>by have e:12≤9:=e;omega)
theorem LL {H : Nat → List Nat} {K : Nat} (hc : cV n np cs) (hh : dF n cs H K) (h : ba n np s) (hd : s.done = false) (ht : fI H s) (e : s.next = 9) : cA n np K H (cs, if cD (cs.getD (s.cF s.v) 0) = false then kj (s.ga s.v (cs.getD (s.cF s.v) 0)) (bE s.first s.v) s.a (s.cF s.v) (cs.getD (s.cF s.v) 0)
      else { s.ga s.v (cs.getD (s.cF s.v) 0) with v := if s.v + 1 = 4 then 0 else s.v + 1, next := if s.v + 1 = 4 then 10 else 8 }) := by
  have hf := h.fD (by omega) (by omega)
  have b7 := hR.1 hf
  obtain ⟨hv, hu⟩ := h.vu hd
  have fz := hc.w n
  have iC := h.cF s.v hv
  have iy := hc.w (s.cF s.v)
  have Nl := hc.refs _ iC
  have g := h.ga (x := cs.getD (s.cF s.v) 0) hv e rfl iy Nl
  obtain ⟨q1, q2, q3, q4⟩ := Mk s hv (cs.getD (s.cF s.v) 0)
  have nH : cD (s.ga s.v (cs.getD (s.cF s.v) 0)).first = true := by rw [q1.first]; exact hf
  split
  · rename_i hr
    refine cA.same hc hh (g.kj nH (b7 _ hv) (h.pC _ hv) h.a iC iy) (fun _ _ => hh.now iC hr)
  · rename_i hr
    have hr : cD (cs.getD (s.cF s.v) 0) = true := by simpa using hr
    have nI : ∀ i, i < s.v + 1 → i < 4 → cD ((s.ga s.v (cs.getD (s.cF s.v) 0)).dn i) = true := fun i hi h4 => by
      rw [MU hv h4]
      split
      · exact hr
      · exact h.jy (.inr e) i (by omega) h4
    by_cases e4 : s.v + 1 = 4
    · simp only [e4, if_true]
      exact cA.same hc hh (g.mJ (v := 0) (u := (s.ga s.v (cs.getD (s.cF s.v) 0)).u) (nx := 10) (by decide) (by decide) (by decide) (by rw [q4]; exact hu) nH (fun e => by omega) (fun _ i hi => nI i (by omega) hi)) (fun e => by have e : 12 ≤ 10 := e; omega)
    · simp only [if_neg e4]
      exact cA.same hc hh (g.mJ (v := s.v + 1) (u := (s.ga s.v (cs.getD (s.cF s.v) 0)).u) (nx := 8) (by decide) (by decide) (by omega) (by rw [q4]; exact hu) nH (fun _ i hi h4 => nI i hi h4) (fun e => by omega)) (fun e => by have e : 12 ≤ 8 := e; omega)
theorem ba.Ms (h:ba n np s){x:Nat}(hx:x<n)(hv:s.v<4)(hu:s.u<4)(hf:cD s.first=true)(f2:∀i,i<4→cD (s.dn i)=true):ba n np {s with b0:=x,next:=11}:=
 (show ba n np {s with b0:=x}from {h with b0:=hx}).mJ (v:=s.v) (u:=s.u) (nx:=11) (by decide) (by decide) hv hu hf (fun e=>by omega) (fun _=>f2)
theorem LF {H:Nat→List Nat}{K:Nat}(hc:cV n np cs)(hh:dF n cs H K)(h:ba n np s)(hd:s.done=false)(e:s.next=10){x:Nat}(hx:x<n):cA n np K H (cs,{s with b0:=x,next:=11}):=by
 obtain⟨hv,hu⟩:=h.vu hd
 exact cA.same hc hh (h.Ms hx hv hu (h.fD (by omega) (by omega)) (h.jT (.inl e))) (fun e=>by have e:12≤11:=e;omega)
theorem LG {H : Nat → List Nat} {K : Nat} (hc : cV n np cs) (hh : dF n cs H K) (h : ba n np s) (hd : s.done = false) (ht : fI H s) (e : s.next = 11) : cA n np K H (cs, if cD (cs.getD s.b0 0) = false then kj s (bE (s.dn s.v) s.u) (s.cF s.v) s.b0 (cs.getD s.b0 0)
      else if s.u + 1 = 4 then (if s.v + 1 = 4 then hO { s with v := 4, u := 0, next := 10 } 9 else { s with v := s.v + 1, u := 0, next := 10 })
      else { s with u := s.u + 1, next := 10 }) := by
  have hf := h.fD (by omega) (by omega)
  have b7 := hR.1 hf
  obtain ⟨hv, hu⟩ := h.vu hd
  have fz := hc.w n
  have f2 := h.jT (.inr e)
  have iC := h.cF s.v hv
  split
  · rename_i hr
    exact cA.same hc hh (h.kj hf (hR.1 (f2 _ hv) _ hu) ((h.dn _ hv).2 _ hu) iC h.b0 (hc.w _)) (fun _ _ => hh.now h.b0 hr)
  · split
    · split
      · refine cA.same hc hh ?_ (fun e => by have e : 12 ≤ 10 := e; omega)
        have g : ba n np { s with next := 10 } := h.mJ (v := s.v) (u := s.u) (nx := 10) (by decide) (by decide) hv hu hf (fun e => by omega) (fun _ => f2)
        exact { g with
          vu := fun e => (by cases e)
          qz := fun _ _ e1 => (by have e1 : 9 = 0 := e1; omega)
          rD := fun _ e1 => (by have e1 : 9 = 10 := e1; omega)
          jy := fun e => (by have e : 10 = 8 ∨ 10 = 9 := e; omega) }
      · exact cA.same hc hh (h.mJ (v := s.v + 1) (u := 0) (nx := 10) (by decide) (by decide) (by omega) (by decide) hf (fun e => by omega) (fun _ => f2)) (fun e => by have e : 12 ≤ 10 := e; omega)
    · exact cA.same hc hh (h.mJ (v := s.v) (u := s.u + 1) (nx := 10) (by decide) (by decide) hv (by omega) hf (fun e => by omega) (fun _ => f2)) (fun e => by have e : 12 ≤ 10 := e; omega)
theorem LH {H:Nat→List Nat}{K:Nat}(hc:cV n np cs)(hh:dF n cs H K)(h:ba n np s)(hd:s.done=false)(ht:fI H s)(e:s.next=12):cA n np K H (if cs.getD n 0=s.still then(cs.set n (jF s.m),{s with next:=13})else(cs,{s with next:=6})):=by
 have hf:=h.fD (by omega) (by omega)
 have b7:=hR.1 hf
 obtain⟨hv,hu⟩:=h.vu hd
 have fz:=hc.w n
 have hr:=ht (by omega) (by omega)
 split
 ·have mR:oI s.m:=⟨h.m.phase,by have:=h.m.id;have:=hc.hZ;omega,by have:=h.m.fr;have:=hc.n2;omega,by have:=h.m.to;have:=hc.n2;omega,h.m.version⟩
  refine⟨⟨H,dV.refl n H,(hh.cell hc.len (fun _=>by rw[wa mR h.m.aK];exact hr)).more (by omega),fun _ _=>hr⟩,hc.cell h.m,h.to (.inr (.inr (.inr (.inl rfl))))⟩
 ·have g:ba n np {s with next:=7}:=h.mJ (v:=s.v) (u:=s.u) (nx:=7) (by decide) (by decide) hv hu hf (fun e=>by omega) (fun e=>by omega)
  exact cA.same hc hh {g with
   next:=by show 6≤24;omega
   link:=fun e=>by have e:6=5:=e;omega
   dk:=fun e=>by have e:23≤6:=e;omega
   fD:=fun _ _=>hf
   jy:=fun e=>by have e:6=8∨6=9:=e;omega
   jT:=fun e=>by have e:6=10∨6=11:=e;omega
   ph:=fun e e'=>by have e:14≤6:=e;omega
   free:=fun e=>by have e:6=15:=e;omega
   there:=fun e=>by have e:6=18∨6=21:=e;omega
   out:=fun e=>by have e:6=24:=e;omega} (fun e=>by have e:12≤6:=e;omega)
theorem LM {H:Nat→List Nat}{K:Nat}(hc:cV n np cs)(hh:dF n cs H K)(h:ba n np s)(hd:s.done=false)(ht:fI H s)(h6:6≤s.next)(vp:s.next≤12):cA n np K H (bY pl n cs s):=by
 unfold bY
 split
 ·exact LI hc hh h hd ht (by assumption)
 split
 ·exact LJ hc hh h hd ht (by assumption)
 split
 ·exact LK hc hh h hd ht (by assumption)
 split
 ·exact LL hc hh h hd ht (by assumption)
 split
 ·exact LF hc hh h hd (by assumption) (Gi pl _ _ hc.n1)
 split
 ·exact LG hc hh h hd ht (by assumption)
 ·exact LH hc hh h hd ht (by omega)
theorem ba.mO (h:ba n np s){w nx:Nat}(hw:w<18446744073709551616)(hr:j3 np w)(pb:13≤nx)(zw:nx≤22)(hp:14≤nx→nx≤18→s.m.phase<3)(hf:nx=15→cD w=false)(ht:nx=18∨nx=21→0≤dC w (s.m.id:Int)):
  ba n np {s with word:=w,next:=nx}:={h with
 next:=by show nx≤24;omega
 refs:=hr
 word:=hw
 link:=fun e=>by have e:nx=5:=e;omega
 dk:=fun e=>by have e:23≤nx:=e;omega
 fD:=fun e e'=>by have e':nx≤12:=e';omega
 jy:=fun e=>by have e:nx=8∨nx=9:=e;omega
 jT:=fun e=>by have e:nx=10∨nx=11:=e;omega
 ph:=hp
 free:=hf
 there:=ht
 out:=fun e=>by have e:nx=24:=e;omega}
theorem Nt {H:Nat→List Nat}{K:Nat}(hc:cV n np cs)(hh:dF n cs H K)(hK:K<65000)(h:ba n np s)(ht:fI H s)(pb:13≤s.next)(zw:s.next≤22):cA n np K H (fx pl n cs s):=by
 have hr:=ht (by omega) zw
 have hm:=h.m
 have iE:=hc.w s.m.to
 have tw:=hc.refs _ hm.to
 have df:=hc.w s.m.fr
 have EE:=hc.refs _ hm.fr
 have mR:oI s.m:=⟨hm.phase,by have:=hm.id;have:=hc.hZ;omega,by have:=hm.fr;have:=hc.n2;omega,by have:=hm.to;have:=hc.n2;omega,hm.version⟩
 unfold fx
 split
 ·rename_i e
  unfold Ds
  split
  ·exact cA.same hc hh (h.to (.inl rfl)) (fun e=>by have e:12≤0:=e;omega)
  ·rename_i lv
   have tn:(eM (cs.getD n 0)).phase≤3:=hc.AK.phase
   have zU:nk n np {s.m with phase:=(eM (cs.getD n 0)).phase}:=⟨tn,hm.id,hm.fr,hm.to,hm.version,hm.aK⟩
   have g:ba n np {s with m:={s.m with phase:=(eM (cs.getD n 0)).phase}}:={h with m:=zU,ph:=fun e e'=>(by have e:14≤s.next:=e;omega),there:=fun e=>(by have e:s.next=18∨s.next=21:=e;omega)}
   refine cA.same hc hh ?_ (fun _ _=>hr)
   split
   ·rename_i e1
    exact g.mO (w:=s.word) (nx:=14) h.word h.refs (by decide) (by decide) (fun _ _=>by show(eM (cs.getD n 0)).phase<3;omega) (fun e=>by omega) (fun e=>by omega)
   split
   ·rename_i e1
    exact g.mO (w:=s.word) (nx:=17) h.word h.refs (by decide) (by decide) (fun _ _=>by show(eM (cs.getD n 0)).phase<3;omega) (fun e=>by omega) (fun e=>by omega)
   ·exact g.mO (w:=s.word) (nx:=19) h.word h.refs (by decide) (by decide) (fun _ _=>by omega) (fun e=>by omega) (fun e=>by omega)
 split
 ·rename_i e
  have hp:=h.ph (by omega) (by omega)
  refine cA.same hc hh ?_ (fun _ _=>hr)
  split
  ·exact h.mO (nx:=16) iE tw (by decide) (by decide) (fun _ _=>hp) (fun e=>by omega) (fun e=>by omega)
  split
  ·rename_i hv
   exact h.mO (nx:=15) iE tw (by decide) (by decide) (fun _ _=>hp) (fun _=>hh.room hr hm.to hv) (fun e=>by omega)
  ·exact h.mO (nx:=22) iE tw (by decide) (by decide) (fun _ _=>hp) (fun e=>by omega) (fun e=>by omega)
 split
 ·rename_i e
  have hp:=h.ph (by omega) (by omega)
  refine cA.same hc hh ?_ (fun _ _=>hr)
  unfold wQ
  split
  ·rename_i hw
   exact h.mO (nx:=18) df EE (by decide) (by decide) (fun _ _=>hp) (fun e=>by omega) (fun _=>hw)
  ·exact h.mO (nx:=16) df EE (by decide) (by decide) (fun _ _=>hp) (fun e=>by omega) (fun e=>by omega)
 split
 ·refine cA.same hc hh ?_ (fun _ _=>hr)
  split
  ·exact h.to (.inr (.inr (.inr (.inr (.inr (.inr rfl))))))
  ·exact h.to (.inr (.inr (.inr (.inr (.inr (.inl rfl))))))
 split
 ·refine cA.same hc hh ?_ (fun _ _=>hr)
  unfold wQ
  split
  ·rename_i hw
   exact h.mO (nx:=21) iE tw (by decide) (by decide) (fun _ _=>by omega) (fun e=>by omega) (fun _=>hw)
  ·exact h.mO (nx:=22) iE tw (by decide) (by decide) (fun _ _=>by omega) (fun e=>by omega) (fun e=>by omega)
 ·have g13:=h.to (nx:=13) (.inr (.inr (.inr (.inl rfl))))
  unfold u0
  split
  ·rename_i e
   have hf:=h.free e
   split
   ·rename_i eu
    obtain⟨i,_,_,_,hv⟩:=Bu (id:=(s.m.id:Int)) h.word hf (by omega) (by have:=hm.id;have:=hc.hZ;omega)
    exact⟨⟨_,pO n H s.m.to _,hh.set hc.len hm.to (by rw[eu];exact hv) hK,fun _ _=>hr.ext (pO n H s.m.to _) hm.to⟩,hc.set hm.to (HG _ _) (GM h.word h.refs hf (by omega) (by have:=hm.id;omega) hc.hZ),g13⟩
   ·exact cA.same hc hh g13 (fun _ _=>hr)
  split
  ·rename_i e
   have hw:=h.there (.inl e)
   split
   ·rename_i eu
    obtain⟨i,_,_,_,hv⟩:=w9 h.word hw
    exact⟨⟨_,pO n H s.m.fr _,hh.set hc.len hm.fr (by rw[eu];exact hv) hK,fun _ _=>hr.ext (pO n H s.m.fr _) hm.to⟩,hc.set hm.fr (Bx _ _) (A6 h.word h.refs hw),g13⟩
   ·exact cA.same hc hh g13 (fun _ _=>hr)
  split
  ·rename_i e
   have hw:=h.there (.inr e)
   split
   ·rename_i eu
    obtain⟨i,_,_,_,hv⟩:=w9 h.word hw
    exact⟨⟨_,pO n H s.m.to _,hh.set hc.len hm.to (by rw[eu];exact hv) hK,fun _ _=>hr.ext (pO n H s.m.to _) hm.to⟩,hc.set hm.to (Bx _ _) (A6 h.word h.refs hw),g13⟩
   ·exact cA.same hc hh g13 (fun _ _=>hr)
  split
  ·rename_i e
   have hp:=h.ph (by omega) (by omega)
   split
   ·have qB:nk n np {s.m with phase:=s.m.phase+1}:=⟨by show s.m.phase+1≤3;omega,hm.id,hm.fr,hm.to,hm.version,hm.aK⟩
    have zY:oI {s.m with phase:=s.m.phase+1}:=⟨by show s.m.phase+1≤3;omega,mR.id,mR.fr,mR.to,mR.version⟩
    exact⟨⟨H,dV.refl n H,(hh.cell hc.len (fun _=>by rw[wa zY hm.aK];exact hr)).more (by omega),fun _ _=>hr⟩,hc.cell qB,g13⟩
   ·exact cA.same hc hh g13 (fun _ _=>hr)
  ·split
   ·have cg:=hc.QG
    have z7:=hc.n1
    have qB:nk n np ⟨0,0,0,0,0,(s.m.aK+1)%16384⟩:=⟨by show 0≤3;decide,by show 0<np;omega,by show 0<n;omega,by show 0<n;omega,by show 0<65536;decide,Nat.mod_lt _ (by decide)⟩
    have em:jF ⟨0,0,0,0,0,s.m.aK+1⟩=jF ⟨0,0,0,0,0,(s.m.aK+1)%16384⟩:=Qo _
    rw[em]
    have zY:oI ⟨0,0,0,0,0,(s.m.aK+1)%16384⟩:=⟨by show 0≤3;decide,by show 0<4096;decide,by show 0<1024;decide,by show 0<1024;decide,by show 0<65536;decide⟩
    exact⟨⟨H,dV.refl n H,(hh.cell hc.len (fun e=>by rw[wa zY qB.aK]at e;exact absurd rfl e)).more (by omega),fun e=>by have e:12≤0:=e;omega⟩,hc.cell qB,h.to (.inl rfl)⟩
   ·exact cA.same hc hh g13 (fun _ _=>hr)
theorem ba.zd (h:ba n np s){w nx:Nat}(hw:w<18446744073709551616)(hr:j3 np w)(hk:s.kind≠0)(hx:nx=23∨nx=24)(ho:nx=24→0≤dC w s.id):ba n np {s with word:=w,next:=nx}:={h with
 next:=by show nx≤24;omega
 refs:=hr
 word:=hw
 link:=fun e=>by have e:nx=5:=e;omega
 dk:=fun _=>hk
 fD:=fun e e'=>by have e':nx≤12:=e';omega
 jy:=fun e=>by have e:nx=8∨nx=9:=e;omega
 jT:=fun e=>by have e:nx=10∨nx=11:=e;omega
 ph:=fun e e'=>by have e':nx≤18:=e';omega
 free:=fun e=>by have e:nx=15:=e;omega
 there:=fun e=>by have e:nx=18∨nx=21:=e;omega
 out:=ho}
theorem ba.over (h:ba n np s)(hk:s.kind≠0):ba n np (pB s):=by
 unfold pB
 split
 ·have g:=h.DA hk
  exact {g with}
 ·exact {h with}
theorem Gl (s:aR):(pB s).next=s.next:=by unfold pB;split<;>rfl
theorem K7 (h:ba n np s):mE s<n:=by
 unfold mE
 split
 ·exact h.b
 ·exact h.a
theorem L0 {H:Nat→List Nat}{K:Nat}(hc:cV n np cs)(hh:dF n cs H K)(hK:K<65000)(h:ba n np s)(qs:23≤s.next):cA n np K H (oV cs s):=by
 have hk:=h.dk qs
 have hb:=K7 h
 have vt:=hc.w (mE s)
 have D2:=hc.refs _ hb
 unfold oV
 split
 ·rename_i e
  have hw:=h.out e
  have g:=h.zd (nx:=23) h.word h.refs hk (.inl rfl) (fun e=>by omega)
  split
  ·rename_i eu
   obtain⟨i,_,_,_,hv⟩:=w9 h.word hw
   refine⟨⟨_,pO n H (mE s) _,hh.set hc.len hb (by rw[eu];exact hv) hK,fun e e'=> ?_⟩,hc.set hb (Bx _ _) (A6 h.word h.refs hw),ba.over g hk⟩
   rw[Gl]at e'
   have e':23≤22:=e'
   omega
  ·exact cA.same hc hh g (fun _ e'=>by have e':23≤22:=e';omega)
 split
 ·rename_i hw
  exact cA.same hc hh (h.zd (nx:=24) vt D2 hk (.inr rfl) (fun _=>hw.1)) (fun _ e'=>by have e':24≤22:=e';omega)
 ·have hx:s.next=23:=by have:=h.next;omega
  have g:=h.zd (w:=cs.getD (mE s) 0) (nx:=s.next) vt D2 hk (.inl hx) (fun e=>by omega)
  refine cA.same hc hh (ba.over g hk) (fun e e'=> ?_)
  rw[Gl]at e'
  have e':s.next≤22:=e'
  omega
theorem Bh {H:Nat→List Nat}{K:Nat}(hc:cV n np cs)(hp:cp np pl)(hh:dF n cs H K)(hK:K<65000)(h:ba n np s)(ht:fI H s):cA n np K H (bI pl n cs s):=by
 unfold bI
 split
 ·exact cA.same hc hh h ht
 rename_i hd
 have hd:s.done=false:=by simpa using hd
 split
 ·exact L0 hc hh hK h (by assumption)
 split
 ·exact Nt hc hh hK h ht (by assumption) (by omega)
 split
 ·exact LM hc hh h hd ht (by assumption) (by omega)
 ·exact RR hc hp hh hK h (by omega)
end
end
end Go.Proofs.YtimekbpkejemoaaGreatDoor
