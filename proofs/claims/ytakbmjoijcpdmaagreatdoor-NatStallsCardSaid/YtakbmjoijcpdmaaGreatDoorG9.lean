/-
  A part of a proof, joined by a program (wip/bundle3.py).
-/
import Derived.Test.YtakbmjoijcpdmaaGreatDoorG4
import Derived.Test.YtakbmjoijcpdmaaGreatDoorG5
import Derived.Test.YtakbmjoijcpdmaaGreatDoorG7
import Derived.Test.YtakbmjoijcpdmaaGreatDoorG8
set_option linter.unusedVariables false
set_option linter.unusedSimpArgs false
namespace Go.Proofs.YtakbmjoijcpdmaaGreatDoor
section
theorem FG (u:Nat)(id:Int):(dY u id= -1∧∀i,i<4→bM u i≠id)∨∃i:Nat,i<4∧dY u id=(i:Int)∧bM u i=id:=by
 unfold dY
 by_cases h0:bM u 0=id
 ·exact .inr ⟨0,by decide,by rw[if_pos h0];rfl,h0⟩
 by_cases h1:bM u 1=id
 ·exact .inr ⟨1,by decide,by rw[if_neg h0,if_pos h1];rfl,h1⟩
 by_cases h2:bM u 2=id
 ·exact .inr ⟨2,by decide,by rw[if_neg h0,if_neg h1,if_pos h2];rfl,h2⟩
 by_cases h3:bM u 3=id
 ·exact .inr ⟨3,by decide,by rw[if_neg h0,if_neg h1,if_neg h2,if_pos h3];rfl,h3⟩
 refine .inl ⟨by rw[if_neg h0,if_neg h1,if_neg h2,if_neg h3],fun i hi=> ?_⟩
 match i,hi with
 |0,_=>exact h0
 |1,_=>exact h1
 |2,_=>exact h2
 |3,_=>exact h3
theorem js {u:Nat}:cZ u=true↔∀i,i<4→0≤bM u i:=by
 unfold cZ
 rw[decide_eq_true_eq]
 rcases FG u (-1)with ⟨h,h'⟩|⟨i,hi,h,h'⟩
 ·refine⟨fun _ i hi=> ?_,fun _=>by omega⟩
  have:=h' i hi
  have: -1≤bM u i:=by unfold bM;omega
  omega
 ·exact⟨fun e=>by omega,fun e=>by have:=e i hi;omega⟩
theorem FI {u:Nat}{id:Int}(hu:u<18446744073709551616)(hf:cZ u=false)(h0:0≤id)(h1:id<4095):∃i,i<4∧bM u i= -1∧(∀j,j<4→bM (iO u id) j=if j=i then id else bM u j)∧kL (iO u id)=(kL u+1)%65536:=by
 rcases FG u (-1)with ⟨h,h'⟩|⟨i,hi,h,h'⟩
 ·unfold cZ at hf
  rw[h]at hf
  simp at hf
 ·refine⟨i,hi,h',fun j hj=> ?_,?_⟩
  ·unfold iO
   rw[h,Int.toNat_natCast,CA hu hi (by omega) hj]
   split
   ·omega
   ·rfl
  ·unfold iO
   rw[h,Int.toNat_natCast,HC hu hi (by omega)]
theorem AV {u:Nat}{id:Int}(hu:u<18446744073709551616)(hw:0≤dY u id):∃i,i<4∧bM u i=id∧(∀j,j<4→bM (qF u id) j=if j=i then-1 else bM u j)∧kL (qF u id)=(kL u+1)%65536:=by
 rcases FG u id with ⟨h,h'⟩|⟨i,hi,h,h'⟩
 ·omega
 ·refine⟨i,hi,h',fun j hj=> ?_,?_⟩
  ·unfold qF
   rw[h,Int.toNat_natCast,CA hu hi (by decide) hj]
   split<;>rfl
  ·unfold qF
   rw[h,Int.toNat_natCast,HC hu hi (by decide)]
theorem Mw (u:Nat)(id:Int):iO u id<18446744073709551616:=HA _ _ _
theorem FL (u:Nat)(id:Int):qF u id<18446744073709551616:=HA _ _ _
structure qV (m:eM):Prop where
 phase:m.phase≤3
 id:m.id<4096
 fr:m.fr<1024
 to:m.to<1024
 version:m.version<65536
theorem Ac {m:eM}(h:qV m)(ht:m.aS<16384):fJ (kF m)=m:=by
 obtain⟨a,b,c,d,e,f⟩:=m
 obtain⟨h1,h2,h3,h4,h5⟩:=h
 unfold fJ kF
 dsimp only at*
 congr 1<;>omega
theorem VX {m:eM}(h:qV m):kF m<18446744073709551616:=by
 obtain⟨h1,h2,h3,h4,h5⟩:=h
 unfold kF
 omega
theorem Ky {u:Nat}(h:u<18446744073709551616):qV (fJ u)∧(fJ u).aS<16384:=by
 unfold fJ
 refine⟨⟨?_,?_,?_,?_,?_⟩,?_⟩<;>dsimp only<;>omega
theorem four {i:Nat}(h:i<4):i=0∨i=1∨i=2∨i=3:=by omega
theorem R9 {s:aU}{v x i:Nat}(hv:v<4)(hi:i<4):(s.ic v x).dV i=if i=v then x else s.dV i:=by
 rcases four hv with rfl|rfl|rfl|rfl<;>rcases four hi with rfl|rfl|rfl|rfl<;>rfl
theorem R8 {s:aU}{v x i:Nat}(hv:v<4):(s.jg v x).dV i=s.dV i:=by
 rcases four hv with rfl|rfl|rfl|rfl<;>rfl
structure F8 (s s':aU):Prop where
 kind:s'.kind=s.kind
 f1:s'.f1=s.f1
 f2:s'.f2=s.f2
 f3:s'.f3=s.f3
 id:s'.id=s.id
 a:s'.a=s.a
 b:s'.b=s.b
 first:s'.first=s.first
 still:s'.still=s.still
 second:s'.second=s.second
theorem Ry (s:aU){v:Nat}(hv:v<4)(x:Nat):F8 s (s.jg v x)∧(s.jg v x).done=s.done∧(s.jg v x).v=s.v∧(s.jg v x).u=s.u:=by
 rcases four hv with rfl|rfl|rfl|rfl<;>exact⟨⟨rfl,rfl,rfl,rfl,rfl,rfl,rfl,rfl,rfl,rfl⟩,rfl,rfl,rfl⟩
theorem Rx (s:aU){v:Nat}(hv:v<4)(x:Nat):F8 s (s.ic v x)∧(s.ic v x).done=s.done∧(s.ic v x).v=s.v∧(s.ic v x).u=s.u:=by
 rcases four hv with rfl|rfl|rfl|rfl<;>exact⟨⟨rfl,rfl,rfl,rfl,rfl,rfl,rfl,rfl,rfl,rfl⟩,rfl,rfl,rfl⟩
theorem rC {cs:List Nat}{i x:Nat}(h:i<cs.length):(cs.set i x).getD i 0=x:=by
 simp[List.getD_eq_getElem?_getD,h]
theorem mQ {cs:List Nat}{i j x:Nat}(h:i≠j):(cs.set i x).getD j 0=cs.getD j 0:=by
 simp[List.getD_eq_getElem?_getD,List.getElem?_set_ne h]
section move
variable {pl:List Nat} {n:Nat} {cs:List Nat} {s:aU}
end move
end
section
section
variable {pl:List Nat} {np n:Nat} {cs:List Nat}
theorem Aa {l:List Nat}{i v B:Nat}(h:∀j,l.getD j 0<B)(hv:v<B)(j:Nat):(l.set i v).getD j 0<B:=by
 by_cases e:i=j
 ·subst e
  by_cases hi:i<l.length
  ·rw[rC hi];exact hv
  ·rw[List.set_eq_of_length_le (by omega)];exact h i
 ·rw[mQ e];exact h j
end
end
section
def lp (np u:Nat):Prop:=∀i,i<4→bM u i<(np:Int)
structure dD (n np:Nat)(cs:List Nat):Prop where
 len:cs.length=n+1
 n1:2≤n
 n2:n≤1024
 Wf:1≤np
 jw:np≤3072
 w:∀j,cs.getD j 0<18446744073709551616
 refs:∀b,b<n→lp np (cs.getD b 0)
 id:(fJ (cs.getD n 0)).id<np
 fr:(fJ (cs.getD n 0)).fr<n
 to:(fJ (cs.getD n 0)).to<n
structure cK (np:Nat)(pl:List Nat):Prop where
 len:pl.length=2*np
 w:∀j,pl.getD j 0<18446744073709551616
 tr:∀x,(aJ.of (pl.getD (2*x) 0)).tr≤4
structure pM (n np:Nat)(m:eM):Prop where
 phase:m.phase≤3
 id:m.id<np
 fr:m.fr<n
 to:m.to<n
 version:m.version<65536
 aS:m.aS<16384
structure bt (n np:Nat)(s:aU):Prop where
 a:s.a<n
 b:s.b<n
 next:s.next≤24
 nY:s.at_≤4
 refs:lp np s.word
 word:s.word<18446744073709551616
 rT:lp np s.first
 first:s.first<18446744073709551616
 Eb: -1≤s.id
 uL:s.id<(np:Int)
 zT:s.kind≠0→0≤s.id
 f1:s.f1≤255
 f2:s.f2<4294967296
 f3:s.f3<65536
 kind:s.kind≤2
 link:s.next=5→s.kind≠0∧cZ s.first=false
 dk:23≤s.next→s.kind≠0
 gL:6≤s.next→s.next≤12→cZ s.first=true
 vu:s.done=false→s.v<4∧s.u<4
 c7:∀i,i<4→s.c7 i<n
 dV:∀i,i<4→s.dV i<18446744073709551616∧lp np (s.dV i)
 kv:s.next=8∨s.next=9→∀i,i<s.v→i<4→cZ (s.dV i)=true
 kX:s.next=10∨s.next=11→∀i,i<4→cZ (s.dV i)=true
 cA:s.cA<n
 still:s.still<18446744073709551616
 m:pM n np s.m
 ph:14≤s.next→s.next≤18→s.m.phase<3
 free:s.next=15→cZ s.word=false
 there:s.next=18∨s.next=21→0≤dY s.word (s.m.id:Int)
 out:s.next=24→0≤dY s.word s.id
 seen:s.seen.ok
 Aw:s.seen.tr≤4
 Iq: -1≤s.found
 vX:s.found<(np:Int)
 aQ:s.aQ.ok
 vY:s.aQ.tr≤4
 tc:s.done=true→s.kind=0→s.end_=0→0≤s.found
 uH:s.done=true→s.end_=10→0≤s.found
def pR (H:Nat→List Nat)(m:eM):Prop:=m.version<(H m.to).length∧cZ ((H m.to).getD m.version 0)=false
structure eH (n:Nat)(cs:List Nat)(H:Nat→List Nat)(K:Nat):Prop where
 last:∀b,b<n→0<(H b).length∧(H b).getD ((H b).length-1) 0=cs.getD b 0
 tV:∀b,b<n→∀i,i<(H b).length→kL ((H b).getD i 0)=i
 short:∀b,b<n→(H b).length≤K+1
 mv:(fJ (cs.getD n 0)).phase≠0→pR H (fJ (cs.getD n 0))
def gS (H:Nat→List Nat)(s:aU):Prop:=12≤s.next→s.next≤22→pR H s.m
structure fg (n:Nat)(H H':Nat→List Nat):Prop where
 len:∀b,b<n→(H b).length≤(H' b).length
 get:∀b,b<n→∀i,i<(H b).length→(H' b).getD i 0=(H b).getD i 0
theorem fg.refl (n:Nat)(H:Nat→List Nat):fg n H H:=⟨fun _ _=>Nat.le_refl _,fun _ _ _ _=>rfl⟩
theorem pR.ext {n:Nat}{H H':Nat→List Nat}{m:eM}(h:pR H m)(e:fg n H H')(ht:m.to<n):pR H' m:=by
 obtain⟨h1,h2⟩:=h
 exact⟨Nat.lt_of_lt_of_le h1 (e.len _ ht),by rw[e.get _ ht _ h1];exact h2⟩
theorem gS.ext {n np:Nat}{H H':Nat→List Nat}{s:aU}(h:gS H s)(e:fg n H H')(hm:pM n np s.m):gS H' s:=fun h1 h2=>(h h1 h2).ext e hm.to
theorem eH.more {n K K':Nat}{cs:List Nat}{H:Nat→List Nat}(h:eH n cs H K)(hk:K≤K'):eH n cs H K':=⟨h.last,h.tV,fun b hb=>Nat.le_trans (h.short b hb) (by omega),h.mv⟩
def sg (H:Nat→List Nat)(b u:Nat):Nat→List Nat:=fun i=>if i=b then H b++[u]else H i
theorem si (n:Nat)(H:Nat→List Nat)(b u:Nat):fg n H (sg H b u):=by
 constructor
 ·intro i _
  unfold sg
  split
  ·rename_i e;subst e;simp
  ·exact Nat.le_refl _
 ·intro i _ j hj
  unfold sg
  split
  ·rename_i e;subst e
   rw[List.getD_eq_getElem?_getD,List.getD_eq_getElem?_getD,List.getElem?_append_left hj]
  ·rfl
theorem eH.set {n K:Nat}{cs:List Nat}{H:Nat→List Nat}(h:eH n cs H K)(hl:cs.length=n+1){b u:Nat}(hb:b<n)(hu:kL u=(kL (cs.getD b 0)+1)%65536)(hK:K<65000):
  eH n (cs.set b u) (sg H b u) (K+1):=by
 obtain⟨l1,l2⟩:=h.last b hb
 have hs:=h.short b hb
 have hv:kL (cs.getD b 0)=(H b).length-1:=by rw[←l2];exact h.tV b hb _ (by omega)
 have TY:kL u=(H b).length:=by rw[hu,hv];omega
 refine⟨fun i hi=> ?_,fun i hi j hj=> ?_,fun i hi=> ?_,?_⟩
 ·unfold sg
  by_cases e:i=b
  ·subst e
   rw[if_pos rfl,rC (by omega)]
   simp[List.getD_eq_getElem?_getD]
  ·rw[if_neg e,mQ (fun z=>e z.symm)]
   exact h.last i hi
 ·unfold sg at hj ⊢
  by_cases e:i=b
  ·subst e
   rw[if_pos rfl]at hj ⊢
   rw[List.length_append,List.length_singleton]at hj
   by_cases ej:j<(H i).length
   ·rw[List.getD_eq_getElem?_getD,List.getElem?_append_left ej,←List.getD_eq_getElem?_getD]
    exact h.tV i hi j ej
   ·have:j=(H i).length:=by omega
    subst this
    rw[List.getD_eq_getElem?_getD,List.getElem?_append_right (Nat.le_refl _)]
    simpa using TY
  ·rw[if_neg e]at hj ⊢
   exact h.tV i hi j hj
 ·unfold sg
  by_cases e:i=b
  ·subst e
   rw[if_pos rfl,List.length_append,List.length_singleton]
   omega
  ·rw[if_neg e]
   have:=h.short i hi
   omega
 ·rw[mQ (by omega)]
  intro hp
  obtain⟨q1,q2⟩:=h.mv hp
  unfold pR sg
  split
  ·rename_i e
   rw[e]at q1 q2
   refine⟨by rw[List.length_append];omega,?_⟩
   rw[List.getD_eq_getElem?_getD,List.getElem?_append_left q1,←List.getD_eq_getElem?_getD]
   exact q2
  ·exact⟨q1,q2⟩
theorem eH.cell {n K:Nat}{cs:List Nat}{H:Nat→List Nat}(h:eH n cs H K)(hl:cs.length=n+1){u:Nat}(hu:(fJ u).phase≠0→pR H (fJ u)):eH n (cs.set n u) H K:=by
 refine⟨fun b hb=> ?_,h.tV,h.short,?_⟩
 ·rw[mQ (by omega)];exact h.last b hb
 ·rw[rC (by omega)];exact hu
theorem eH.room {n K:Nat}{cs:List Nat}{H:Nat→List Nat}(h:eH n cs H K){m:eM}(hr:pR H m)(ht:m.to<n)(hv:cs.getD m.to 0/281474976710656=m.version):cZ (cs.getD m.to 0)=false:=by
 obtain⟨l1,l2⟩:=h.last m.to ht
 obtain⟨r1,r2⟩:=hr
 have h1:=h.tV m.to ht ((H m.to).length-1) (by omega)
 rw[l2]at h1
 have e:m.version=(H m.to).length-1:=by rw[←hv];exact h1
 rw[e,l2]at r2
 exact r2
theorem eH.now {n K:Nat}{cs:List Nat}{H:Nat→List Nat}(h:eH n cs H K){b:Nat}(hb:b<n)(hf:cZ (cs.getD b 0)=false):cs.getD b 0/281474976710656<(H b).length∧cZ ((H b).getD (cs.getD b 0/281474976710656) 0)=false:=by
 obtain⟨l1,l2⟩:=h.last b hb
 have h1:=h.tV b hb ((H b).length-1) (by omega)
 rw[l2]at h1
 have e:cs.getD b 0/281474976710656=(H b).length-1:=h1
 rw[e,l2]
 exact⟨by omega,hf⟩
section
variable {n np:Nat} {cs pl:List Nat} {s:aU}
theorem dD.set (h:dD n np cs){b u:Nat}(hb:b<n)(hu:u<18446744073709551616)(hr:lp np u):dD n np (cs.set b u):=by
 refine {h with len:=by rw[List.length_set];exact h.len,w:=Aa h.w hu,refs:=fun i hi=> ?_,id:= ?_,fr:= ?_,to:= ?_}
 ·by_cases e:b=i
  ·subst e;rw[rC (by have:=h.len;omega)];exact hr
  ·rw[mQ e];exact h.refs i hi
 all_goals rw[mQ (by omega)]
 ·exact h.id
 ·exact h.fr
 ·exact h.to
theorem dD.cell (h:dD n np cs){m:eM}(hm:pM n np m):dD n np (cs.set n (kF m)):=by
 have o7:qV m:=⟨hm.phase,by have:=hm.id;have:=h.jw;omega,by have:=hm.fr;have:=h.n2;omega,by have:=hm.to;have:=h.n2;omega,hm.version⟩
 have e:=Ac o7 hm.aS
 refine {h with len:=by rw[List.length_set];exact h.len,w:=Aa h.w (VX o7),refs:=fun i hi=> ?_,id:= ?_,fr:= ?_,to:= ?_}
 ·rw[mQ (by omega)];exact h.refs i hi
 all_goals rw[rC (by have:=h.len;omega),e]
 ·exact hm.id
 ·exact hm.fr
 ·exact hm.to
theorem VY (m:eM):kF m=kF {m with aS:=m.aS%16384}:=by unfold kF;dsimp only;omega
theorem dD.Er (h:dD n np cs):pM n np (fJ (cs.getD n 0)):=by
 obtain⟨h1,h2⟩:=Ky (h.w n)
 exact⟨h1.phase,h.id,h.fr,h.to,h1.version,h2⟩
theorem Lr {u:Nat}{id:Int}(hu:u<18446744073709551616)(hr:lp np u)(hf:cZ u=false)(h0:0≤id)(h1:id<np)(h2:np≤3072):lp np (iO u id):=by
 obtain⟨i,_,_,h,_⟩:=FI hu hf h0 (by omega)
 intro j hj
 rw[h j hj]
 split
 ·exact h1
 ·exact hr j hj
theorem E6 {u:Nat}{id:Int}(hu:u<18446744073709551616)(hr:lp np u)(hw:0≤dY u id):lp np (qF u id):=by
 obtain⟨i,_,_,h,_⟩:=AV hu hw
 intro j hj
 rw[h j hj]
 split
 ·omega
 ·exact hr j hj
theorem Ap:lp np 0:=fun i hi=>by unfold bM;simp;omega
theorem AQ:w0.ok:=by decide
theorem L5 {kind f1 f2 f3 next:Nat}{id:Int}(hn:2≤n)(c3:1≤np)(h1:f1≤255)(h2:f2<4294967296)(h3:f3<65536)(Dv: -1≤id)(Dw:id<(np:Int))(hk:kind≤2)(S4:kind≠0→0≤id)(hx:next=0∨(next=23∧kind≠0)):
  bt n np (pk kind f1 f2 f3 id next n) where
 a:=(xO hn).1
 b:=(xO hn).2.1
 next:=by show next≤24;omega
 nY:=by show 0≤4;omega
 refs:=Ap
 word:=by show 0<_;decide
 rT:=Ap
 first:=by show 0<_;decide
 Eb:=Dv
 uL:=Dw
 zT:=S4
 f1:=h1
 f2:=h2
 f3:=h3
 kind:=hk
 link:=fun e=>by have e:next=5:=e;omega
 dk:=fun e=>by
  have e:23≤next:=e
  rcases hx with e'|e'
  ·omega
  ·exact e'.2
 gL:=fun e e'=>by have e:6≤next:=e;have e':next≤12:=e';omega
 vu:=fun _=>⟨by show 0<4;decide,by show 0<4;decide⟩
 c7:=fun i hi=>by rcases four hi with rfl|rfl|rfl|rfl<;>show 0<n<;>omega
 dV:=fun i hi=>by rcases four hi with rfl|rfl|rfl|rfl<;>exact⟨by show 0<_;decide,Ap⟩
 kv:=fun e=>by have e:next=8∨next=9:=e;omega
 kX:=fun e=>by have e:next=10∨next=11:=e;omega
 cA:=by show 0<n;omega
 still:=by show 0<_;decide
 m:=⟨by show 0≤3;decide,by show 0<np;omega,by show 0<n;omega,by show 0<n;omega,by show 0<65536;decide,by show 0<16384;decide⟩
 ph:=fun e e'=>by show 0<3;decide
 free:=fun e=>by have e:next=15:=e;omega
 there:=fun e=>by have e:next=18∨next=21:=e;omega
 out:=fun e=>by have e:next=24:=e;omega
 seen:=AQ
 Aw:=by show 0≤4;decide
 Iq:=by show(-1:Int)≤ -1;omega
 vX:=by show(-1:Int)<np;omega
 aQ:=AQ
 vY:=by show 0≤4;decide
 tc:=fun e=>by cases e
 uH:=fun e=>by cases e
theorem Yp {H:Nat→List Nat}{kind f1 f2 f3 next:Nat}{id:Int}(hx:next=0∨next=23):gS H (pk kind f1 f2 f3 id next n):=fun e e'=>by
 have e:12≤next:=e
 have e':next≤22:=e'
 omega
structure cY (n np K:Nat)(H:Nat→List Nat)(r:List Nat×aU):Prop where
 step:∃H',fg n H H'∧eH n r.1 H' (K+1)∧gS H' r.2
 cs:dD n np r.1
 ok:bt n np r.2
theorem cY.same {H:Nat→List Nat}{K:Nat}{t:aU}(hc:dD n np cs)(hh:eH n cs H K)(ht:bt n np t)(hr:12≤t.next→t.next≤22→pR H t.m):cY n np K H (cs,t):=⟨⟨H,fg.refl n H,hh.more (by omega),hr⟩,hc,ht⟩
theorem bt.finish (h:bt n np s)(e:Nat)(h0:s.kind=0→e≠0)(h1:e≠10):bt n np (jr s e):={h with
 vu:=fun e=>by cases e
 tc:=fun _ e0 e1=>absurd e1 (h0 e0)
 uH:=fun _ e1=>absurd e1 h1}
theorem bt.Ic (h:bt n np s)(h0:s.kind≠0):bt n np (jr s 0):={h with
 vu:=fun e=>by cases e
 tc:=fun _ e0 e1=>absurd e0 h0
 uH:=fun _ e1=>by cases e1}
theorem bt.through (h:bt n np s){u nx:Nat}(hu:u<18446744073709551616)(hr:lp np u)(hx:nx=1∨nx=3):bt n np (nQ s u nx):={h with
 next:=by show nx≤24;omega
 nY:=by show 0≤4;omega
 refs:=hr
 word:=hu
 link:=fun e=>by have e:nx=5:=e;omega
 dk:=fun e=>by have e:23≤nx:=e;omega
 gL:=fun e e'=>by have e:6≤nx:=e;omega
 kv:=fun e=>by have e:nx=8∨nx=9:=e;omega
 kX:=fun e=>by have e:nx=10∨nx=11:=e;omega
 ph:=fun e e'=>by have e:14≤nx:=e;omega
 free:=fun e=>by have e:nx=15:=e;omega
 there:=fun e=>by have e:nx=18∨nx=21:=e;omega
 out:=fun e=>by have e:nx=24:=e;omega}
theorem bt.Ie (h:bt n np s)(hx:s.next=0∨s.next=4){u:Nat}(hu:u<18446744073709551616)(hr:lp np u):bt n np {s with first:=u}:={h with
 rT:=hr
 first:=hu
 link:=fun e=>by have e:s.next=5:=e;omega
 gL:=fun e e'=>by have e:6≤s.next:=e;omega}
theorem bt.to (h:bt n np s){nx:Nat}(hx:nx=0∨nx=2∨nx=4∨nx=13∨nx=19∨nx=20∨nx=22):bt n np {s with next:=nx}:={h with
 next:=by show nx≤24;omega
 link:=fun e=>by have e:nx=5:=e;omega
 dk:=fun e=>by have e:23≤nx:=e;omega
 gL:=fun e e'=>by have e:6≤nx:=e;have e':nx≤12:=e';omega
 kv:=fun e=>by have e:nx=8∨nx=9:=e;omega
 kX:=fun e=>by have e:nx=10∨nx=11:=e;omega
 ph:=fun e e'=>by have e:14≤nx:=e;have e':nx≤18:=e';omega
 free:=fun e=>by have e:nx=15:=e;omega
 there:=fun e=>by have e:nx=18∨nx=21:=e;omega
 out:=fun e=>by have e:nx=24:=e;omega}
theorem U0 (h:bt n np s)(hp:cK np pl)(hx:s.next=1∨s.next=3)(Jq:s.at_<4→0≤bM s.word s.at_):bt n np (jv pl s).1∧(jv pl s).1.next=s.next∧(jv pl s).1.first=s.first∧(jv pl s).1.kind=s.kind∧(jv pl s).1.id=s.id:=by
 unfold jv
 split
 ·exact⟨h,rfl,rfl,rfl,rfl⟩
 rename_i h4
 have zh:=h.nY
 have hw:=aJ.xA (hp.w (2*(bM s.word s.at_).toNat))
 have tw:=hp.tr (bM s.word s.at_).toNat
 dsimp only
 split
 ·split
  ·exact⟨{h with seen:=hw,Aw:=tw},rfl,rfl,rfl,rfl⟩
  ·exact⟨{h with seen:=hw,Aw:=tw,nY:=by show s.at_+1≤4;omega},rfl,rfl,rfl,rfl⟩
 ·split
  ·refine⟨{h with vu:=fun e=>(by cases e),Iq:= ?_,vX:=h.refs _ (by omega),aQ:=h.seen,vY:=h.Aw,tc:=fun _ _ _=>Jq (by omega),uH:=fun _ _=>Jq (by omega)},rfl,rfl,rfl,rfl⟩
   show-1≤bM s.word s.at_
   unfold bM;omega
  ·exact⟨{h with nY:=by show s.at_+1≤4;omega},rfl,rfl,rfl,rfl⟩
theorem JL (h:bt n np s)(hp:cK np pl)(hx:s.next=1∨s.next=3):bt n np (dx pl s).1∧(dx pl s).1.next=s.next∧(dx pl s).1.first=s.first∧(dx pl s).1.kind=s.kind∧(dx pl s).1.id=s.id:=by
 have cJ:=Fl (word:=s.word) (id:=s.id) 4 s.at_ (by omega)
 have hle:=Fk s.word s.id 4 s.at_ h.nY
 exact U0 (s:={s with at_:=gn s.word s.id 4 s.at_}) (pl:=pl) {h with nY:=hle} hp hx (fun e=>by
  show 0≤bM s.word (gn s.word s.id 4 s.at_)
  have e:gn s.word s.id 4 s.at_<4:=e
  omega)
theorem XJ {H:Nat→List Nat}{K:Nat}(hc:dD n np cs)(hp:cK np pl)(hh:eH n cs H K)(hK:K<65000)(h:bt n np s)(h5:s.next≤5):cY n np K H (ib cs pl s):=by
 unfold ib
 have wY:=hc.w s.a
 have T0:=hc.w s.b
 have zJ:=hc.refs s.a h.a
 have TG:=hc.refs s.b h.b
 split
 ·rename_i e
  exact cY.same hc hh ((h.Ie (.inl e) wY zJ).through wY zJ (.inl rfl)) (fun e=>by have e:12≤1:=e;omega)
 split
 ·rename_i e
  obtain⟨g1,g2,g3,g4,g5⟩:=JL (pl:=pl) h hp (.inl e)
  refine cY.same hc hh ?_ ?_
  ·split
   ·exact g1.to (.inr (.inl rfl))
   ·exact g1
  ·split
   ·intro e;have e:12≤2:=e;omega
   ·rw[g2];omega
 split
 ·exact cY.same hc hh (h.through T0 TG (.inr rfl)) (fun e=>by have e:12≤3:=e;omega)
 split
 ·rename_i e
  obtain⟨g1,g2,g3,g4,g5⟩:=JL (pl:=pl) h hp (.inr e)
  refine cY.same hc hh ?_ ?_
  ·split
   ·unfold nv
    split
    ·exact g1.to (.inr (.inr (.inl rfl)))
    rename_i hk
    have hid:=g1.zT hk
    split
    ·rename_i hf
     exact {g1 with
      next:=by show 6≤24;omega
      link:=fun e=>by have e:6=5:=e;omega
      dk:=fun e=>by have e:23≤6:=e;omega
      gL:=fun _ _=>hf
      kv:=fun e=>by have e:6=8∨6=9:=e;omega
      kX:=fun e=>by have e:6=10∨6=11:=e;omega
      ph:=fun e e'=>by have e:14≤6:=e;omega
      free:=fun e=>by have e:6=15:=e;omega
      there:=fun e=>by have e:6=18∨6=21:=e;omega
      out:=fun e=>by have e:6=24:=e;omega}
    ·rename_i hf
     exact {g1 with
      next:=by show 5≤24;omega
      link:=fun _=>⟨hk,by simpa using hf⟩
      dk:=fun e=>by have e:23≤5:=e;omega
      gL:=fun e _=>by have e:6≤5:=e;omega
      kv:=fun e=>by have e:5=8∨5=9:=e;omega
      kX:=fun e=>by have e:5=10∨5=11:=e;omega
      ph:=fun e e'=>by have e:14≤5:=e;omega
      free:=fun e=>by have e:5=15:=e;omega
      there:=fun e=>by have e:5=18∨5=21:=e;omega
      out:=fun e=>by have e:5=24:=e;omega}
   ·exact g1
  ·split
   ·have hb:nv (dx pl s).1≤6:=by
     unfold nv
     split
     ·omega
     ·split<;>omega
    intro e
    have e:12≤nv (dx pl s).1:=e
    omega
   ·rw[g2];omega
 split
 ·rename_i e
  refine cY.same hc hh ?_ ?_
  ·split
   ·exact h.finish 7 (fun _=>by decide) (by decide)
   ·exact(h.Ie (.inr e) wY zJ).through wY zJ (.inl rfl)
  ·split
   ·intro e';have e':12≤s.next:=e';omega
   ·intro e';have e':12≤1:=e';omega
 ·have e5:s.next=5:=by omega
  obtain⟨lk,l2⟩:=h.link e5
  have l1:=h.zT lk
  split
  ·rename_i e
   obtain⟨i,_,_,_,hv⟩:=FI (id:=s.id) h.first l2 l1 (by have:=h.uL;have:=hc.jw;omega)
   exact⟨⟨_,si n H s.a (iO s.first s.id),hh.set hc.len h.a (by rw[e];exact hv) hK,fun e=>by have e:12≤0:=e;omega⟩,hc.set h.a (Mw _ _) (Lr h.first h.rT l2 l1 h.uL hc.jw),(h.to (nx:=0) (.inl rfl)).Ic lk⟩
  ·exact cY.same hc hh (h.to (.inl rfl)) (fun e=>by have e:12≤0:=e;omega)
theorem KV (pl:List Nat)(id:Int)(bk:Nat)(h2:2≤n):jy pl n id bk<n:=by
 unfold jy
 split
 ·exact(xO h2).2.1
 ·exact(xO h2).1
theorem bt.jg (h:bt n np s){v x:Nat}(hv:v<4)(hx:x<n):bt n np (s.jg v x):=by
 rcases four hv with rfl|rfl|rfl|rfl
 all_goals refine {h with c7:=fun i hi=> ?_}
 all_goals rcases four hi with rfl|rfl|rfl|rfl
 all_goals first
  |exact hx
  |exact h.c7 0 (by decide)
  |exact h.c7 1 (by decide)
  |exact h.c7 2 (by decide)
  |exact h.c7 3 (by decide)
theorem bt.ic (h:bt n np s){v x:Nat}(hv:v<4)(h9:s.next=9)(D1:s.v=v)(hx:x<18446744073709551616)(hr:lp np x):bt n np (s.ic v x):=by
 have h1:=h.kv (.inr h9)
 rw[D1]at h1
 rcases four hv with rfl|rfl|rfl|rfl
 all_goals refine {h with dV:=fun i hi=> ?_,kv:=fun _ i hi h4=> ?_,kX:=fun e=>(by have e:s.next=10∨s.next=11:=e;omega)}
 all_goals try have hi:i<s.v:=hi
 all_goals rcases four (by assumption:i<4)with rfl|rfl|rfl|rfl
 all_goals first
  |omega
  |exact⟨hx,hr⟩
  |exact h.dV 0 (by decide)
  |exact h.dV 1 (by decide)
  |exact h.dV 2 (by decide)
  |exact h.dV 3 (by decide)
  |exact h1 0 (by omega) (by decide)
  |exact h1 1 (by omega) (by decide)
  |exact h1 2 (by omega) (by decide)
theorem bt.oS (h:bt n np s){v u nx:Nat}(h7:7≤nx)(Sm:nx≤11)(hv:v<4)(hu:u<4)(hf:cZ s.first=true)(f1:nx=8∨nx=9→∀i,i<v→i<4→cZ (s.dV i)=true)(f2:nx=10∨nx=11→∀i,i<4→cZ (s.dV i)=true):
  bt n np {s with v:=v,u:=u,next:=nx}:={h with
 next:=by show nx≤24;omega
 link:=fun e=>by have e:nx=5:=e;omega
 dk:=fun e=>by have e:23≤nx:=e;omega
 gL:=fun _ _=>hf
 vu:=fun _=>⟨hv,hu⟩
 kv:=f1
 kX:=f2
 ph:=fun e e'=>by have e:14≤nx:=e;omega
 free:=fun e=>by have e:nx=15:=e;omega
 there:=fun e=>by have e:nx=18∨nx=21:=e;omega
 out:=fun e=>by have e:nx=24:=e;omega}
theorem bt.lT (h:bt n np s){id:Int}{fr to u:Nat}(hf:cZ s.first=true)(h0:0≤id)(h1:id<(np:Int))(c5:fr<n)(jR:to<n)(hu:u<18446744073709551616):bt n np (lT s id fr to u):={h with
 next:=by show 12≤24;omega
 link:=fun e=>by have e:12=5:=e;omega
 dk:=fun e=>by have e:23≤12:=e;omega
 gL:=fun _ _=>hf
 m:=⟨by show 1≤3;decide,by show id.toNat<np;omega,c5,jR,by show u/281474976710656<65536;omega,(Ky h.still).2⟩
 kv:=fun e=>by have e:12=8∨12=9:=e;omega
 kX:=fun e=>by have e:12=10∨12=11:=e;omega
 ph:=fun e e'=>by have e:14≤12:=e;omega
 free:=fun e=>by have e:12=15:=e;omega
 there:=fun e=>by have e:12=18∨12=21:=e;omega
 out:=fun e=>by have e:12=24:=e;omega}
theorem QN {H:Nat→List Nat}{K:Nat}(hc:dD n np cs)(hh:eH n cs H K)(h:bt n np s)(hd:s.done=false)(ht:gS H s)(e:s.next=6):cY n np K H (cs,{s with still:=cs.getD n 0,m:=fJ (cs.getD n 0),next:=if(fJ (cs.getD n 0)).phase≠0 then 13 else 7}):=by
 have hf:=h.gL (by omega) (by omega)
 have cB:=js.1 hf
 obtain⟨hv,hu⟩:=h.vu hd
 have gx:=hc.w n
 refine cY.same hc hh ?_ ?_
 ·split
  ·exact(show bt n np {s with still:=cs.getD n 0,m:=fJ (cs.getD n 0)}from {h with still:=gx,m:=hc.Er,ph:=fun e e'=>(by have e:14≤s.next:=e;omega),there:=fun e=>(by have e:s.next=18∨s.next=21:=e;omega)}).to (.inr (.inr (.inr (.inl rfl))))
  ·exact(show bt n np {s with still:=cs.getD n 0,m:=fJ (cs.getD n 0)}from {h with still:=gx,m:=hc.Er,ph:=fun e e'=>(by have e:14≤s.next:=e;omega),there:=fun e=>(by have e:s.next=18∨s.next=21:=e;omega)}).oS (v:=s.v) (u:=s.u) (by decide) (by decide) hv hu hf (fun e=>by omega) (fun e=>by omega)
 ·split
  ·rename_i hp
   exact fun _ _=>hh.mv hp
  ·intro e;have e:12≤7:=e;omega
theorem QO {H:Nat→List Nat}{K:Nat}(hc:dD n np cs)(hh:eH n cs H K)(h:bt n np s)(hd:s.done=false)(ht:gS H s)(e:s.next=7):cY n np K H (cs,{s with v:=0,u:=0,next:=if cs.getD s.a 0≠s.first then 0 else 8}):=by
 have hf:=h.gL (by omega) (by omega)
 have cB:=js.1 hf
 obtain⟨hv,hu⟩:=h.vu hd
 have gx:=hc.w n
 refine cY.same hc hh ?_ ?_
 ·split
  ·exact(show bt n np {s with v:=0,u:=0}from {h with vu:=fun _=>⟨(by show 0<4;decide),(by show 0<4;decide)⟩,kv:=fun _ i hi=>(by have hi:i<0:=hi;omega)}).to (.inl rfl)
  ·exact h.oS (v:=0) (u:=0) (by decide) (by decide) (by decide) (by decide) hf (fun _ i hi=>by omega) (fun e=>by omega)
 ·split
  ·intro e;have e:12≤0:=e;omega
  ·intro e;have e:12≤8:=e;omega
theorem QP {H:Nat→List Nat}{K:Nat}(hc:dD n np cs)(hh:eH n cs H K)(h:bt n np s)(hd:s.done=false)(ht:gS H s)(e:s.next=8):cY n np K H (cs,{s.jg s.v (jy pl n (bM s.first s.v) s.a)with next:=9}):=by
 have hf:=h.gL (by omega) (by omega)
 have cB:=js.1 hf
 obtain⟨hv,hu⟩:=h.vu hd
 have gx:=hc.w n
 have g:=h.jg (x:=jy pl n (bM s.first s.v) s.a) hv (KV pl _ _ hc.n1)
 obtain⟨q1,q2,q3,q4⟩:=Ry s hv (jy pl n (bM s.first s.v) s.a)
 have kz:cZ (s.jg s.v (jy pl n (bM s.first s.v) s.a)).first=true:=by rw[q1.first];exact hf
 have g2:=g.oS (v:=(s.jg s.v (jy pl n (bM s.first s.v) s.a)).v) (u:=(s.jg s.v (jy pl n (bM s.first s.v) s.a)).u) (nx:=9) (by decide) (by decide) (by rw[q3];exact hv) (by rw[q4];exact hu) kz (fun _ i hi h4=>by
  rw[R8 hv];exact h.kv (.inl e) i (by rw[←q3];exact hi) h4) (fun e=>by omega)
 exact cY.same hc hh g2 (fun e=>by have e:12≤9:=e;omega)
theorem QQ {H : Nat → List Nat} {K : Nat} (hc : dD n np cs) (hh : eH n cs H K) (h : bt n np s) (hd : s.done = false) (ht : gS H s) (e : s.next = 9) : cY n np K H (cs, if cZ (cs.getD (s.c7 s.v) 0) = false then lT (s.ic s.v (cs.getD (s.c7 s.v) 0)) (bM s.first s.v) s.a (s.c7 s.v) (cs.getD (s.c7 s.v) 0)
      else { s.ic s.v (cs.getD (s.c7 s.v) 0) with v := if s.v + 1 = 4 then 0 else s.v + 1, next := if s.v + 1 = 4 then 10 else 8 }) := by
  have hf := h.gL (by omega) (by omega)
  have cB := js.1 hf
  obtain ⟨hv, hu⟩ := h.vu hd
  have gx := hc.w n
  have jP := h.c7 s.v hv
  have jM := hc.w (s.c7 s.v)
  have SG := hc.refs _ jP
  have g := h.ic (x := cs.getD (s.c7 s.v) 0) hv e rfl jM SG
  obtain ⟨q1, q2, q3, q4⟩ := Rx s hv (cs.getD (s.c7 s.v) 0)
  have kz : cZ (s.ic s.v (cs.getD (s.c7 s.v) 0)).first = true := by rw [q1.first]; exact hf
  split
  · rename_i hr
    refine cY.same hc hh (g.lT kz (cB _ hv) (h.rT _ hv) h.a jP jM) (fun _ _ => hh.now jP hr)
  · rename_i hr
    have hr : cZ (cs.getD (s.c7 s.v) 0) = true := by simpa using hr
    have rI : ∀ i, i < s.v + 1 → i < 4 → cZ ((s.ic s.v (cs.getD (s.c7 s.v) 0)).dV i) = true := fun i hi h4 => by
      rw [R9 hv h4]
      split
      · exact hr
      · exact h.kv (.inr e) i (by omega) h4
    by_cases e4 : s.v + 1 = 4
    · simp only [e4, if_true]
      exact cY.same hc hh (g.oS (v := 0) (u := (s.ic s.v (cs.getD (s.c7 s.v) 0)).u) (nx := 10) (by decide) (by decide) (by decide) (by rw [q4]; exact hu) kz (fun e => by omega) (fun _ i hi => rI i (by omega) hi)) (fun e => by have e : 12 ≤ 10 := e; omega)
    · simp only [if_neg e4]
      exact cY.same hc hh (g.oS (v := s.v + 1) (u := (s.ic s.v (cs.getD (s.c7 s.v) 0)).u) (nx := 8) (by decide) (by decide) (by omega) (by rw [q4]; exact hu) kz (fun _ i hi h4 => rI i hi h4) (fun e => by omega)) (fun e => by have e : 12 ≤ 8 := e; omega)
theorem bt.RF (h:bt n np s){x:Nat}(hx:x<n)(hv:s.v<4)(hu:s.u<4)(hf:cZ s.first=true)(f2:∀i,i<4→cZ (s.dV i)=true):bt n np {s with cA:=x,next:=11}:=
 (show bt n np {s with cA:=x}from {h with cA:=hx}).oS (v:=s.v) (u:=s.u) (nx:=11) (by decide) (by decide) hv hu hf (fun e=>by omega) (fun _=>f2)
theorem QK {H:Nat→List Nat}{K:Nat}(hc:dD n np cs)(hh:eH n cs H K)(h:bt n np s)(hd:s.done=false)(e:s.next=10){x:Nat}(hx:x<n):cY n np K H (cs,{s with cA:=x,next:=11}):=by
 obtain⟨hv,hu⟩:=h.vu hd
 exact cY.same hc hh (h.RF hx hv hu (h.gL (by omega) (by omega)) (h.kX (.inl e))) (fun e=>by have e:12≤11:=e;omega)
theorem QL {H : Nat → List Nat} {K : Nat} (hc : dD n np cs) (hh : eH n cs H K) (h : bt n np s) (hd : s.done = false) (ht : gS H s) (e : s.next = 11) : cY n np K H (cs, if cZ (cs.getD s.cA 0) = false then lT s (bM (s.dV s.v) s.u) (s.c7 s.v) s.cA (cs.getD s.cA 0)
      else if s.u + 1 = 4 then (if s.v + 1 = 4 then jr { s with v := 4, u := 0, next := 10 } 9 else { s with v := s.v + 1, u := 0, next := 10 })
      else { s with u := s.u + 1, next := 10 }) := by
  have hf := h.gL (by omega) (by omega)
  have cB := js.1 hf
  obtain ⟨hv, hu⟩ := h.vu hd
  have gx := hc.w n
  have f2 := h.kX (.inr e)
  have jP := h.c7 s.v hv
  split
  · rename_i hr
    exact cY.same hc hh (h.lT hf (js.1 (f2 _ hv) _ hu) ((h.dV _ hv).2 _ hu) jP h.cA (hc.w _)) (fun _ _ => hh.now h.cA hr)
  · split
    · split
      · refine cY.same hc hh ?_ (fun e => by have e : 12 ≤ 10 := e; omega)
        have g : bt n np { s with next := 10 } := h.oS (v := s.v) (u := s.u) (nx := 10) (by decide) (by decide) hv hu hf (fun e => by omega) (fun _ => f2)
        exact { g with
          vu := fun e => (by cases e)
          tc := fun _ _ e1 => (by have e1 : 9 = 0 := e1; omega)
          uH := fun _ e1 => (by have e1 : 9 = 10 := e1; omega)
          kv := fun e => (by have e : 10 = 8 ∨ 10 = 9 := e; omega) }
      · exact cY.same hc hh (h.oS (v := s.v + 1) (u := 0) (nx := 10) (by decide) (by decide) (by omega) (by decide) hf (fun e => by omega) (fun _ => f2)) (fun e => by have e : 12 ≤ 10 := e; omega)
    · exact cY.same hc hh (h.oS (v := s.v) (u := s.u + 1) (nx := 10) (by decide) (by decide) hv (by omega) hf (fun e => by omega) (fun _ => f2)) (fun e => by have e : 12 ≤ 10 := e; omega)
theorem QM {H:Nat→List Nat}{K:Nat}(hc:dD n np cs)(hh:eH n cs H K)(h:bt n np s)(hd:s.done=false)(ht:gS H s)(e:s.next=12):cY n np K H (if cs.getD n 0=s.still then(cs.set n (kF s.m),{s with next:=13})else(cs,{s with next:=6})):=by
 have hf:=h.gL (by omega) (by omega)
 have cB:=js.1 hf
 obtain⟨hv,hu⟩:=h.vu hd
 have gx:=hc.w n
 have hr:=ht (by omega) (by omega)
 split
 ·have o7:qV s.m:=⟨h.m.phase,by have:=h.m.id;have:=hc.jw;omega,by have:=h.m.fr;have:=hc.n2;omega,by have:=h.m.to;have:=hc.n2;omega,h.m.version⟩
  refine⟨⟨H,fg.refl n H,(hh.cell hc.len (fun _=>by rw[Ac o7 h.m.aS];exact hr)).more (by omega),fun _ _=>hr⟩,hc.cell h.m,h.to (.inr (.inr (.inr (.inl rfl))))⟩
 ·have g:bt n np {s with next:=7}:=h.oS (v:=s.v) (u:=s.u) (nx:=7) (by decide) (by decide) hv hu hf (fun e=>by omega) (fun e=>by omega)
  exact cY.same hc hh {g with
   next:=by show 6≤24;omega
   link:=fun e=>by have e:6=5:=e;omega
   dk:=fun e=>by have e:23≤6:=e;omega
   gL:=fun _ _=>hf
   kv:=fun e=>by have e:6=8∨6=9:=e;omega
   kX:=fun e=>by have e:6=10∨6=11:=e;omega
   ph:=fun e e'=>by have e:14≤6:=e;omega
   free:=fun e=>by have e:6=15:=e;omega
   there:=fun e=>by have e:6=18∨6=21:=e;omega
   out:=fun e=>by have e:6=24:=e;omega} (fun e=>by have e:12≤6:=e;omega)
theorem QR {H:Nat→List Nat}{K:Nat}(hc:dD n np cs)(hh:eH n cs H K)(h:bt n np s)(hd:s.done=false)(ht:gS H s)(h6:6≤s.next)(qe:s.next≤12):cY n np K H (cx pl n cs s):=by
 unfold cx
 split
 ·exact QN hc hh h hd ht (by assumption)
 split
 ·exact QO hc hh h hd ht (by assumption)
 split
 ·exact QP hc hh h hd ht (by assumption)
 split
 ·exact QQ hc hh h hd ht (by assumption)
 split
 ·exact QK hc hh h hd (by assumption) (KV pl _ _ hc.n1)
 split
 ·exact QL hc hh h hd ht (by assumption)
 ·exact QM hc hh h hd ht (by omega)
theorem bt.oZ (h:bt n np s){w nx:Nat}(hw:w<18446744073709551616)(hr:lp np w)(oX:13≤nx)(C8:nx≤22)(hp:14≤nx→nx≤18→s.m.phase<3)(hf:nx=15→cZ w=false)(ht:nx=18∨nx=21→0≤dY w (s.m.id:Int)):
  bt n np {s with word:=w,next:=nx}:={h with
 next:=by show nx≤24;omega
 refs:=hr
 word:=hw
 link:=fun e=>by have e:nx=5:=e;omega
 dk:=fun e=>by have e:23≤nx:=e;omega
 gL:=fun e e'=>by have e':nx≤12:=e';omega
 kv:=fun e=>by have e:nx=8∨nx=9:=e;omega
 kX:=fun e=>by have e:nx=10∨nx=11:=e;omega
 ph:=hp
 free:=hf
 there:=ht
 out:=fun e=>by have e:nx=24:=e;omega}
theorem SO {H:Nat→List Nat}{K:Nat}(hc:dD n np cs)(hh:eH n cs H K)(hK:K<65000)(h:bt n np s)(ht:gS H s)(oX:13≤s.next)(C8:s.next≤22):cY n np K H (gF pl n cs s):=by
 have hr:=ht (by omega) C8
 have hm:=h.m
 have jR:=hc.w s.m.to
 have wO:=hc.refs _ hm.to
 have c5:=hc.w s.m.fr
 have Jo:=hc.refs _ hm.fr
 have o7:qV s.m:=⟨hm.phase,by have:=hm.id;have:=hc.jw;omega,by have:=hm.fr;have:=hc.n2;omega,by have:=hm.to;have:=hc.n2;omega,hm.version⟩
 unfold gF
 split
 ·rename_i e
  unfold H3
  split
  ·exact cY.same hc hh (h.to (.inl rfl)) (fun e=>by have e:12≤0:=e;omega)
  ·rename_i dc
   have DR:(fJ (cs.getD n 0)).phase≤3:=hc.Er.phase
   have DF:pM n np {s.m with phase:=(fJ (cs.getD n 0)).phase}:=⟨DR,hm.id,hm.fr,hm.to,hm.version,hm.aS⟩
   have g:bt n np {s with m:={s.m with phase:=(fJ (cs.getD n 0)).phase}}:={h with m:=DF,ph:=fun e e'=>(by have e:14≤s.next:=e;omega),there:=fun e=>(by have e:s.next=18∨s.next=21:=e;omega)}
   refine cY.same hc hh ?_ (fun _ _=>hr)
   split
   ·rename_i e1
    exact g.oZ (w:=s.word) (nx:=14) h.word h.refs (by decide) (by decide) (fun _ _=>by show(fJ (cs.getD n 0)).phase<3;omega) (fun e=>by omega) (fun e=>by omega)
   split
   ·rename_i e1
    exact g.oZ (w:=s.word) (nx:=17) h.word h.refs (by decide) (by decide) (fun _ _=>by show(fJ (cs.getD n 0)).phase<3;omega) (fun e=>by omega) (fun e=>by omega)
   ·exact g.oZ (w:=s.word) (nx:=19) h.word h.refs (by decide) (by decide) (fun _ _=>by omega) (fun e=>by omega) (fun e=>by omega)
 split
 ·rename_i e
  have hp:=h.ph (by omega) (by omega)
  refine cY.same hc hh ?_ (fun _ _=>hr)
  split
  ·exact h.oZ (nx:=16) jR wO (by decide) (by decide) (fun _ _=>hp) (fun e=>by omega) (fun e=>by omega)
  split
  ·rename_i hv
   exact h.oZ (nx:=15) jR wO (by decide) (by decide) (fun _ _=>hp) (fun _=>hh.room hr hm.to hv) (fun e=>by omega)
  ·exact h.oZ (nx:=22) jR wO (by decide) (by decide) (fun _ _=>hp) (fun e=>by omega) (fun e=>by omega)
 split
 ·rename_i e
  have hp:=h.ph (by omega) (by omega)
  refine cY.same hc hh ?_ (fun _ _=>hr)
  unfold AG
  split
  ·rename_i hw
   exact h.oZ (nx:=18) c5 Jo (by decide) (by decide) (fun _ _=>hp) (fun e=>by omega) (fun _=>hw)
  ·exact h.oZ (nx:=16) c5 Jo (by decide) (by decide) (fun _ _=>hp) (fun e=>by omega) (fun e=>by omega)
 split
 ·refine cY.same hc hh ?_ (fun _ _=>hr)
  split
  ·exact h.to (.inr (.inr (.inr (.inr (.inr (.inr rfl))))))
  ·exact h.to (.inr (.inr (.inr (.inr (.inr (.inl rfl))))))
 split
 ·refine cY.same hc hh ?_ (fun _ _=>hr)
  unfold AG
  split
  ·rename_i hw
   exact h.oZ (nx:=21) jR wO (by decide) (by decide) (fun _ _=>by omega) (fun e=>by omega) (fun _=>hw)
  ·exact h.oZ (nx:=22) jR wO (by decide) (by decide) (fun _ _=>by omega) (fun e=>by omega) (fun e=>by omega)
 ·have g13:=h.to (nx:=13) (.inr (.inr (.inr (.inl rfl))))
  unfold yK
  split
  ·rename_i e
   have hf:=h.free e
   split
   ·rename_i eu
    obtain⟨i,_,_,_,hv⟩:=FI (id:=(s.m.id:Int)) h.word hf (by omega) (by have:=hm.id;have:=hc.jw;omega)
    exact⟨⟨_,si n H s.m.to _,hh.set hc.len hm.to (by rw[eu];exact hv) hK,fun _ _=>hr.ext (si n H s.m.to _) hm.to⟩,hc.set hm.to (Mw _ _) (Lr h.word h.refs hf (by omega) (by have:=hm.id;omega) hc.jw),g13⟩
   ·exact cY.same hc hh g13 (fun _ _=>hr)
  split
  ·rename_i e
   have hw:=h.there (.inl e)
   split
   ·rename_i eu
    obtain⟨i,_,_,_,hv⟩:=AV h.word hw
    exact⟨⟨_,si n H s.m.fr _,hh.set hc.len hm.fr (by rw[eu];exact hv) hK,fun _ _=>hr.ext (si n H s.m.fr _) hm.to⟩,hc.set hm.fr (FL _ _) (E6 h.word h.refs hw),g13⟩
   ·exact cY.same hc hh g13 (fun _ _=>hr)
  split
  ·rename_i e
   have hw:=h.there (.inr e)
   split
   ·rename_i eu
    obtain⟨i,_,_,_,hv⟩:=AV h.word hw
    exact⟨⟨_,si n H s.m.to _,hh.set hc.len hm.to (by rw[eu];exact hv) hK,fun _ _=>hr.ext (si n H s.m.to _) hm.to⟩,hc.set hm.to (FL _ _) (E6 h.word h.refs hw),g13⟩
   ·exact cY.same hc hh g13 (fun _ _=>hr)
  split
  ·rename_i e
   have hp:=h.ph (by omega) (by omega)
   split
   ·have tg:pM n np {s.m with phase:=s.m.phase+1}:=⟨by show s.m.phase+1≤3;omega,hm.id,hm.fr,hm.to,hm.version,hm.aS⟩
    have DK:qV {s.m with phase:=s.m.phase+1}:=⟨by show s.m.phase+1≤3;omega,o7.id,o7.fr,o7.to,o7.version⟩
    exact⟨⟨H,fg.refl n H,(hh.cell hc.len (fun _=>by rw[Ac DK hm.aS];exact hr)).more (by omega),fun _ _=>hr⟩,hc.cell tg,g13⟩
   ·exact cY.same hc hh g13 (fun _ _=>hr)
  ·split
   ·have c3:=hc.Wf
    have DN:=hc.n1
    have tg:pM n np ⟨0,0,0,0,0,(s.m.aS+1)%16384⟩:=⟨by show 0≤3;decide,by show 0<np;omega,by show 0<n;omega,by show 0<n;omega,by show 0<65536;decide,Nat.mod_lt _ (by decide)⟩
    have em:kF ⟨0,0,0,0,0,s.m.aS+1⟩=kF ⟨0,0,0,0,0,(s.m.aS+1)%16384⟩:=VY _
    rw[em]
    have DK:qV ⟨0,0,0,0,0,(s.m.aS+1)%16384⟩:=⟨by show 0≤3;decide,by show 0<4096;decide,by show 0<1024;decide,by show 0<1024;decide,by show 0<65536;decide⟩
    exact⟨⟨H,fg.refl n H,(hh.cell hc.len (fun e=>by rw[Ac DK tg.aS]at e;exact absurd rfl e)).more (by omega),fun e=>by have e:12≤0:=e;omega⟩,hc.cell tg,h.to (.inl rfl)⟩
   ·exact cY.same hc hh g13 (fun _ _=>hr)
theorem bt.CJ (h:bt n np s){w nx:Nat}(hw:w<18446744073709551616)(hr:lp np w)(hk:s.kind≠0)(hx:nx=23∨nx=24)(ho:nx=24→0≤dY w s.id):bt n np {s with word:=w,next:=nx}:={h with
 next:=by show nx≤24;omega
 refs:=hr
 word:=hw
 link:=fun e=>by have e:nx=5:=e;omega
 dk:=fun _=>hk
 gL:=fun e e'=>by have e':nx≤12:=e';omega
 kv:=fun e=>by have e:nx=8∨nx=9:=e;omega
 kX:=fun e=>by have e:nx=10∨nx=11:=e;omega
 ph:=fun e e'=>by have e':nx≤18:=e';omega
 free:=fun e=>by have e:nx=15:=e;omega
 there:=fun e=>by have e:nx=18∨nx=21:=e;omega
 out:=ho}
theorem bt.over (h:bt n np s)(hk:s.kind≠0):bt n np (rR s):=by
 unfold rR
 split
 ·have g:=h.Ic hk
  exact {g with}
 ·exact {h with}
theorem KY (s:aU):(rR s).next=s.next:=by unfold rR;split<;>rfl
theorem Qg (h:bt n np s):oP s<n:=by
 unfold oP
 split
 ·exact h.b
 ·exact h.a
theorem Q5 {H:Nat→List Nat}{K:Nat}(hc:dD n np cs)(hh:eH n cs H K)(hK:K<65000)(h:bt n np s)(sX:23≤s.next):cY n np K H (ri cs s):=by
 have hk:=h.dk sX
 have hb:=Qg h
 have zl:=hc.w (oP s)
 have IT:=hc.refs _ hb
 unfold ri
 split
 ·rename_i e
  have hw:=h.out e
  have g:=h.CJ (nx:=23) h.word h.refs hk (.inl rfl) (fun e=>by omega)
  split
  ·rename_i eu
   obtain⟨i,_,_,_,hv⟩:=AV h.word hw
   refine⟨⟨_,si n H (oP s) _,hh.set hc.len hb (by rw[eu];exact hv) hK,fun e e'=> ?_⟩,hc.set hb (FL _ _) (E6 h.word h.refs hw),bt.over g hk⟩
   rw[KY]at e'
   have e':23≤22:=e'
   omega
  ·exact cY.same hc hh g (fun _ e'=>by have e':23≤22:=e';omega)
 split
 ·rename_i hw
  exact cY.same hc hh (h.CJ (nx:=24) zl IT hk (.inr rfl) (fun _=>hw.1)) (fun _ e'=>by have e':24≤22:=e';omega)
 ·have hx:s.next=23:=by have:=h.next;omega
  have g:=h.CJ (w:=cs.getD (oP s) 0) (nx:=s.next) zl IT hk (.inl hx) (fun e=>by omega)
  refine cY.same hc hh (bt.over g hk) (fun e e'=> ?_)
  rw[KY]at e'
  have e':s.next≤22:=e'
  omega
theorem Fp {H:Nat→List Nat}{K:Nat}(hc:dD n np cs)(hp:cK np pl)(hh:eH n cs H K)(hK:K<65000)(h:bt n np s)(ht:gS H s):cY n np K H (bA pl n cs s):=by
 unfold bA
 split
 ·exact cY.same hc hh h ht
 rename_i hd
 have hd:s.done=false:=by simpa using hd
 split
 ·exact Q5 hc hh hK h (by assumption)
 split
 ·exact SO hc hh hK h ht (by assumption) (by omega)
 split
 ·exact QR hc hh h hd ht (by assumption) (by omega)
 ·exact XJ hc hp hh hK h (by omega)
end
end
section
open Go.RowKit
set_option maxRecDepth 10000
attribute [local irreducible] EK EX ER EN EL ES EG az ba bf
def cz (p:Option Addr)(ws:List Nat):SL:=SL.ex fun g:Option Addr=>Obj p 238 [.slice g ws.length ws.length,.int .u32 0,.int .i32 0,.int .u32 0]*ao 290 1 g ws.length ws.length (bB .u64 ws)
abbrev qL (p g:Option Addr)(ws:List Nat)(F:SL):SL:=Obj p 238 [.slice g ws.length ws.length,.int .u32 0,.int .i32 0,.int .u32 0]*(ao 290 1 g ws.length ws.length (bB .u64 ws)*F)
variable {W:World} {F:SL} {X:Cx} {k:List KI} {σ:Env}
theorem cz.open {p:Option Addr}{ws:List Nat}(h:∀g,EK X k σ (qL p g ws F)):EK X k σ (cz p ws*F):=nT fun g=>by
 have:=h g
 unfold qL at this
 rw[SL.cb]
 exact this
theorem cz.shut {p g:Option Addr}{ws:List Nat}:U (qL p g ws F) (cz p ws*F):=U.ex g (U.assoc (U.refl _))
instance (priority:=2000)(p:Option Addr)(ws:List Nat)(F:SL):bO (cz p ws*F) p (cz p ws) F:=⟨rfl⟩
instance (p:Option Addr)(ws:List Nat):kR (cz p ws) p:=⟨fun W w F h=>by
 obtain⟨g,h⟩:=h.iX
 exact(Obj.root p _ _).nn W w _ (h.ac (SL.cb _ _ _))⟩
theorem Cq (p g:Option Addr)(ws:List Nat)(i:Nat)(hi:i<ws.length)(hm:ws.length≤65536):
  Spec Tryz.prog 118 [.pointer p,.int .i64 (i:Int)] W (qL p g ws F) (fun _:Unit=> .pointer (el g i 1)) (fun _=>qL p g ws F):=by
 refine Spec.of Tryz.func118 rfl Tryz.ntmps118 rfl ?_
 repeat first|refine aa ?_ |intro
 exact ae (aw rfl rfl () rfl fun _ h=>h)
theorem PE (g:Option Addr)(ws:List Nat)(i:Nat)(hi:i<ws.length){e:Nat}:
  Spec Tryz.prog 119 [.pointer (el g i 1)] W (ao e 1 g ws.length ws.length (bB .u64 ws)*F) (fun _:Unit=> .int .u64 ((ws.getD i 0:Nat):Int)) (fun _=>ao e 1 g ws.length ws.length (bB .u64 ws)*F):=by
 haveI:Pos ws.length:=⟨by omega⟩
 refine Spec.of Tryz.func119 rfl Tryz.ntmps119 rfl ?_
 repeat first|refine aa ?_ |intro
 exact ae (aw rfl rfl () rfl fun _ h=>h)
theorem PF (g:Option Addr)(ws:List Nat)(i u:Nat)(hi:i<ws.length){e:Nat}:
  Spec Tryz.prog 126 [.pointer (el g i 1),.int .u64 (u:Int)] W (ao e 1 g ws.length ws.length (bB .u64 ws)*F) (fun _:Unit=> .tuple #[]) (fun _=>ao e 1 g ws.length ws.length (bB .u64 (ws.set i u))*F):=by
 haveI:Pos ws.length:=⟨by omega⟩
 refine Spec.of Tryz.func126 rfl Tryz.ntmps126 rfl ?_
 repeat first|refine aa ?_ |intro
 exact aN (aO rfl () rfl fun _ h=>h)
theorem PD (g:Option Addr)(ws:List Nat)(i u v:Nat)(hi:i<ws.length){e:Nat}:
  Spec Tryz.prog 187 [.pointer (el g i 1),.int .u64 (u:Int),.int .u64 (v:Int)] W (ao e 1 g ws.length ws.length (bB .u64 ws)*F) (fun _:Unit=> .bool (decide (ws.getD i 0=u)))
   (fun _=>ao e 1 g ws.length ws.length (bB .u64 (if ws.getD i 0=u then ws.set i v else ws))*F):=by
 haveI:Pos ws.length:=⟨by omega⟩
 by_cases he:ws.getD i 0=u
 all_goals
  refine Spec.of Tryz.func187 rfl Tryz.ntmps187 rfl ?_
  repeat first|refine aa ?_ |intro
 ·exact ae (aw rfl rfl () (by rw[decide_eq_true he]) (by rw[if_pos he];exact fun _ h=>h))
 ·exact ae (aw rfl rfl () (by rw[decide_eq_false he]) (by rw[if_neg he];exact fun _ h=>h))
theorem fC (p:Option Addr)(ws:List Nat)(i:Nat)(hi:i<ws.length)(hm:ws.length≤65536):
  Spec Tryz.prog 61 [.pointer p,.int .i64 (i:Int)] W (cz p ws*F) (fun _:Unit=> .int .u64 ((ws.getD i 0:Nat):Int)) (fun _=>cz p ws*F):=by
 refine Spec.of Tryz.func61 rfl Tryz.ntmps61 rfl ?_
 refine cz.open fun g=> ?_
 haveI:Pos ws.length:=⟨by omega⟩
 repeat first|refine aa ?_ |intro
 refine ag rfl (Cq p g ws i hi hm) ?_
 intro
 repeat first|refine aa ?_ |intro
 refine ag rfl (Spec.aV g (PE g ws i hi)) ?_
 intro
 repeat first|refine aa ?_ |intro
 refine ae (aw rfl rfl () rfl (U.sat (U.trans ?_ (cz.shut (g:=g)))))
 repeat(first|exact U.last|refine U.cons ?_ |refine U.assoc ?_)
theorem yC (p:Option Addr)(ws:List Nat)(i u:Nat)(hi:i<ws.length)(hm:ws.length≤65536):
  Spec Tryz.prog 72 [.pointer p,.int .i64 (i:Int),.int .u64 (u:Int)] W (cz p ws*F) (fun _:Unit=> .tuple #[]) (fun _=>cz p (ws.set i u)*F):=by
 refine Spec.of Tryz.func72 rfl Tryz.ntmps72 rfl ?_
 refine cz.open fun g=> ?_
 haveI:Pos ws.length:=⟨by omega⟩
 repeat first|refine aa ?_ |intro
 refine ag rfl (Cq p g ws i hi hm) ?_
 intro
 repeat first|refine aa ?_ |intro
 refine ag rfl (Spec.aV g (PF g ws i u hi)) ?_
 intro
 repeat first|refine aa ?_ |intro
 refine aN (aO rfl () rfl (U.sat (U.trans ?_ (cz.shut (g:=g)))))
 simp only[qL,List.length_set]
 repeat(first|exact U.last|refine U.cons ?_ |refine U.assoc ?_)
theorem mw (p:Option Addr)(ws:List Nat)(i u v:Nat)(hi:i<ws.length)(hm:ws.length≤65536):
  Spec Tryz.prog 145 [.pointer p,.int .i64 (i:Int),.int .u64 (u:Int),.int .u64 (v:Int)] W (cz p ws*F) (fun _:Unit=> .bool (decide (ws.getD i 0=u))) (fun _=>cz p (if ws.getD i 0=u then ws.set i v else ws)*F):=by
 refine Spec.of Tryz.func145 rfl Tryz.ntmps145 rfl ?_
 refine cz.open fun g=> ?_
 haveI:Pos ws.length:=⟨by omega⟩
 repeat first|refine aa ?_ |intro
 refine ag rfl (Cq p g ws i hi hm) ?_
 intro
 repeat first|refine aa ?_ |intro
 refine ag rfl (Spec.aV g (PD g ws i u v hi)) ?_
 intro
 repeat first|refine aa ?_ |intro
 refine ae (aw rfl rfl () rfl (U.sat (U.trans ?_ (cz.shut (g:=g)))))
 have hl:(if ws.getD i 0=u then ws.set i v else ws).length=ws.length:=by split<;>simp
 simp only[qL,hl]
 repeat(first|exact U.last|refine U.cons ?_ |refine U.assoc ?_)
theorem yB (p:Option Addr)(ws:List Nat):
  Spec Tryz.prog 58 [.pointer p] W (cz p ws*F) (fun _:Unit=> .int .i64 (ws.length:Int)) (fun _=>cz p ws*F):=by
 refine Spec.of Tryz.func58 rfl Tryz.ntmps58 rfl ?_
 refine cz.open fun g=> ?_
 repeat first|refine aa ?_ |intro
 refine ae (aw rfl rfl () rfl (U.sat (U.trans ?_ (cz.shut (g:=g)))))
 repeat(first|exact U.last|refine U.cons ?_ |refine U.assoc ?_)
theorem yj (n:Nat)(h1:1≤n)(h2:n≤65536):
  Spec Tryz.prog 70 [.int .i64 (n:Int)] W F (fun p:Option Addr=> .tuple #[.pointer p,.int .i64 0]) (fun p=>cz p (List.replicate n 0)*F):=by
 refine Spec.of Tryz.func70 rfl Tryz.ntmps70 rfl ?_
 repeat first|refine aa ?_ |intro
 rename_i g p
 refine ae (eU rfl rfl rfl p rfl (U.sat (U.trans ?_ (cz.shut (g:=g)))))
 simp only[qL,List.length_replicate]
 refine U.cons (U.row g rfl ?_ (U.refl _))
 rw[Lt];simp[bB]
theorem NS (p:Option Addr)(ws:List Nat)(hm:ws.length≤65536):
  Spec Tryz.prog 121 [.pointer p] W (cz p ws*F) (fun q:Option Addr×Nat=> .slice q.1 ws.length q.2) (fun q=>ao 43 1 q.1 ws.length q.2 (bB .u64 ws)*(cz p ws*F)):=by
 refine Spec.of Tryz.func121 rfl Tryz.ntmps121 rfl ?_
 repeat first|refine aa ?_ |intro
 refine ag rfl (yB p ws) ?_
 intro
 repeat first|refine aa ?_ |intro
 refine ff (γ:=Option Addr×Nat×Nat) (fun g=>g.2.2≤ws.length) (fun g=>[(0,.pointer p),(3,.slice g.1 g.2.2 g.2.1),(6,.int .i64 (ws.length:Int)),(7,.int .i64 (g.2.2:Int))])
  (fun g=>ao 43 1 g.1 g.2.2 g.2.1 (bB .u64 (ws.take g.2.2))*(cz p ws*F)) (fun g=>ws.length-g.2.2) (none,0,0) (Nat.zero_le _) ⟨rfl,rfl,rfl,rfl,trivial⟩ (U.sat (U.none (U.refl _))) ?_
 intro ⟨q,c,i⟩ hi
 dsimp only at hi ⊢
 repeat first|refine aa ?_ |intro
 refine mA rfl (fun ck=> ?_) (fun nF=> ?_)
 ·repeat first|refine aa ?_ |intro
  refine ag rfl (Spec.aV p (fC p ws i (by omega) hm)) ?_
  intro
  repeat first|refine aa ?_ |intro
  rename_i r
  refine cT (r.1,r.2,i+1) (by dsimp only;omega) (by dsimp only;omega) ⟨rfl,rfl,rfl,rfl,trivial⟩ (U.sat (U.row r.1 rfl ?_ ?_))
  ·rw[Ev,tQ (by omega)]
  ·repeat(first|exact U.last|refine U.cons ?_ |refine U.assoc ?_)
 ·repeat first|refine aa ?_ |intro
  have e:i=ws.length:=by omega
  subst e
  exact ae (aw rfl rfl (q,c) rfl (U.sat (U.row q rfl (by rw[List.take_length]) (U.refl _))))
end
section
open Go.RowKit
set_option maxRecDepth 10000
attribute [local irreducible] EK EX ER EN EL ES EG az ba bf
variable {W:World} {F:SL} {X:Cx} {k:List KI} {σ:Env}
attribute [local simp] L9 Iz pe
def tR (gs:List (List (Nat×Nat)))(ps:Nat→aP)(i:Nat):SL:=ao 224 2 (ps i).1 (gs.getD i []).length (ps i).2 (sb (gs.getD i []))
structure vq where
 c:Option Addr
 g:aP
 ps:Nat→aP
def sC (p:Option Addr)(ws:List Nat)(gs:List (List (Nat×Nat)))(e:vq):SL:=Obj p 159 [.pointer e.c,.slice e.g.1 gs.length e.g.2]*(cz e.c ws*(ao 222 1 e.g.1 gs.length e.g.2 (qd gs e.ps)*aE (tR gs e.ps) gs.length))
def bP (p:Option Addr)(ws:List Nat)(gs:List (List (Nat×Nat))):SL:=SL.ex (sC p ws gs)
abbrev mB (p:Option Addr)(ws:List Nat)(gs:List (List (Nat×Nat)))(e:vq)(F:SL):SL:=Obj p 159 [.pointer e.c,.slice e.g.1 gs.length e.g.2]*(cz e.c ws*(ao 222 1 e.g.1 gs.length e.g.2 (qd gs e.ps)*(aE (tR gs e.ps) gs.length*F)))
theorem sC.eq (p:Option Addr)(ws:List Nat)(gs:List (List (Nat×Nat)))(e:vq)(F:SL):sC p ws gs e*F=mB p ws gs e F:=by
 unfold sC mB
 simp only[SL.cb]
theorem bP.open {p:Option Addr}{ws:List Nat}{gs:List (List (Nat×Nat))}(h:∀e,EK X k σ (mB p ws gs e F)):EK X k σ (bP p ws gs*F):=nT fun e=>by
 rw[sC.eq];exact h e
theorem bP.shut {p:Option Addr}{ws:List Nat}{gs:List (List (Nat×Nat))}(e:vq){F:SL}:U (mB p ws gs e F) (bP p ws gs*F):=
 U.ex e (by rw[sC.eq];exact U.refl _)
instance (priority:=2000)(p:Option Addr)(ws:List Nat)(gs:List (List (Nat×Nat)))(F:SL):bO (bP p ws gs*F) p (bP p ws gs) F:=⟨rfl⟩
instance (p:Option Addr)(ws:List Nat)(gs:List (List (Nat×Nat))):kR (bP p ws gs) p:=⟨fun W w F H=>by
 obtain⟨g,H⟩:=H.iX
 rw[sC.eq]at H
 exact(Obj.root p _ _).nn W w _ H⟩
theorem L0 {e sz:Nat}(F:SL):∀n,U F (aE (fun _=>ao e sz none 0 0 []) n*F)
 |0=>by
  show U F (1*F)
  rw[SL.tO 1,SL.oD]
  exact U.refl _
 |n+1=>by
  rw[aE.succ,SL.cb]
  exact U.none (L0 F n)
theorem Uc (p:Option Addr)(c:Nat)(l:List Nat)(x:Nat)(hl:l.length≤1000000)[Src W F p l.length (bB .u64 l)]:Spec Tryz.prog 176 [.slice p l.length c,.int .u64 (x:Int)] W F (fun z:{z:Int//0≤z↔x∈l}=> .int .i64 z.1) (fun _=>F):=by
 refine Spec.of Tryz.func176 rfl Tryz.ntmps176 rfl ?_
 repeat first|refine aa ?_ |intro
 refine ff (γ:=Nat) (fun i=>i≤l.length∧x∉l.take i) (fun i=>[(0,.slice p l.length c),(1,.int .u64 (x:Int)),(7,.int .i64 (l.length:Int)),(8,.int .i64 (i:Int))]) (fun _=>F) (fun i=>l.length-i) 0 ⟨Nat.zero_le _,by simp⟩ ⟨rfl,rfl,rfl,rfl,trivial⟩ (U.sat (U.refl _)) ?_
 intro i ⟨h1,h2⟩
 by_cases hi:i<l.length
 ·by_cases hx:x=l.getD i 0
  ·have hm:x∈l:=by rw[hx,←C5 l 0 hi];exact List.getElem_mem hi
   repeat first|refine aa ?_ |intro
   exact ae (aw rfl rfl ⟨(i:Int),⟨fun _=>hm,fun _=>by omega⟩⟩ rfl (U.sat (ad)))
  ·repeat first|refine aa ?_ |intro
   refine cT (i+1) ⟨by omega,?_⟩ (by omega) ⟨rfl,rfl,rfl,rfl,trivial⟩ (U.sat (ad))
   rw[←tQ (d:=0) hi,List.mem_append,List.mem_singleton]
   exact fun e=>e.elim h2 hx
 ·have e:i=l.length:=by omega
  subst e
  rw[List.take_length]at h2
  repeat first|refine aa ?_ |intro
  exact ae (aw rfl rfl ⟨-1,⟨fun e=>by omega,fun e=>absurd e h2⟩⟩ rfl (U.sat (ad)))
theorem HI (p:Option Addr)(c:Nat)(l:List Nat)(x:Nat)(hl:l.length≤1000000)[Src W F p l.length (bB .u64 l)]:Spec Tryz.prog 124 [.slice p l.length c,.int .u64 (x:Int)] W F (fun _:Unit=> .bool (decide (x∈l))) (fun _=>F):=by
 refine Spec.of Tryz.func124 rfl Tryz.ntmps124 rfl ?_
 repeat first|refine aa ?_ |intro
 refine ag rfl (Uc p c l x hl) ?_
 intro ⟨z,hz⟩
 dsimp only
 by_cases h0:0≤z
 ·repeat first|refine aa ?_ |intro
  exact ae (aw rfl rfl () (by rw[decide_eq_true (hz.1 h0)]) (U.sat (ad)))
 ·repeat first|refine aa ?_ |intro
  exact ae (aw rfl rfl () (by rw[decide_eq_false (fun e=>h0 (hz.2 e))]) (U.sat (ad)))
theorem Ud (p:Option Addr)(c:Nat)(l:List Nat)(x:Nat)(hl:l.length≤1000000)[Src W F p l.length (bB .i64 l)]:Spec Tryz.prog 120 [.slice p l.length c,.int .i64 (x:Int)] W F (fun z:{z:Int//0≤z↔x∈l}=> .int .i64 z.1) (fun _=>F):=by
 refine Spec.of Tryz.func120 rfl Tryz.ntmps120 rfl ?_
 repeat first|refine aa ?_ |intro
 refine ff (γ:=Nat) (fun i=>i≤l.length∧x∉l.take i) (fun i=>[(0,.slice p l.length c),(1,.int .i64 (x:Int)),(7,.int .i64 (l.length:Int)),(8,.int .i64 (i:Int))]) (fun _=>F) (fun i=>l.length-i) 0 ⟨Nat.zero_le _,by simp⟩ ⟨rfl,rfl,rfl,rfl,trivial⟩ (U.sat (U.refl _)) ?_
 intro i ⟨h1,h2⟩
 by_cases hi:i<l.length
 ·by_cases hx:x=l.getD i 0
  ·have hm:x∈l:=by rw[hx,←C5 l 0 hi];exact List.getElem_mem hi
   repeat first|refine aa ?_ |intro
   exact ae (aw rfl rfl ⟨(i:Int),⟨fun _=>hm,fun _=>by omega⟩⟩ rfl (U.sat (ad)))
  ·repeat first|refine aa ?_ |intro
   refine cT (i+1) ⟨by omega,?_⟩ (by omega) ⟨rfl,rfl,rfl,rfl,trivial⟩ (U.sat (ad))
   rw[←tQ (d:=0) hi,List.mem_append,List.mem_singleton]
   exact fun e=>e.elim h2 hx
 ·have e:i=l.length:=by omega
  subst e
  rw[List.take_length]at h2
  repeat first|refine aa ?_ |intro
  exact ae (aw rfl rfl ⟨-1,⟨fun e=>by omega,fun e=>absurd e h2⟩⟩ rfl (U.sat (ad)))
theorem vS (p:Option Addr)(c:Nat)(l:List Nat)(x:Nat)(hl:l.length≤1000000)[Src W F p l.length (bB .i64 l)]:Spec Tryz.prog 65 [.slice p l.length c,.int .i64 (x:Int)] W F (fun _:Unit=> .bool (decide (x∈l))) (fun _=>F):=by
 refine Spec.of Tryz.func65 rfl Tryz.ntmps65 rfl ?_
 repeat first|refine aa ?_ |intro
 refine ag rfl (Ud p c l x hl) ?_
 intro ⟨z,hz⟩
 dsimp only
 by_cases h0:0≤z
 ·repeat first|refine aa ?_ |intro
  exact ae (aw rfl rfl () (by rw[decide_eq_true (hz.1 h0)]) (U.sat (ad)))
 ·repeat first|refine aa ?_ |intro
  exact ae (aw rfl rfl () (by rw[decide_eq_false (fun e=>h0 (hz.2 e))]) (U.sat (ad)))
theorem Eg (p:Option Addr){ws:List Nat}{gs:List (List (Nat×Nat))}{e:vq}{w:Nat}(hw:w<gs.length)(hg:gs.length≤64):Spec Tryz.prog 110 [.pointer p,.int .i64 (w:Int)] W (mB p ws gs e F) (fun _:Unit=> .bool true) (fun _=>mB p ws gs e F):=by
 refine Spec.of Tryz.func110 rfl Tryz.ntmps110 rfl ?_
 simp only[mB]
 repeat first|refine aa ?_ |intro
 exact ae (aw rfl rfl () rfl (U.sat (ad)))
theorem Ou {n:Nat}(h1:1≤n)(h2:n≤64):Spec Tryz.prog 34 [.int .i64 (n:Int)] W F (fun p:Option Addr=> .tuple #[.pointer p,.int .i64 0]) (fun p=>bP p (List.replicate (n+1) 0) (List.replicate n [])*F):=by
 refine Spec.of Tryz.func34 rfl Tryz.ntmps34 rfl ?_
 repeat first|refine aa ?_ |intro
 refine ag rfl (yj (n+1) (by omega) (by omega)) ?_
 intro c
 repeat first|refine aa ?_ |intro
 rename_i g p
 refine ae (eU rfl rfl rfl p rfl (U.sat (U.trans ?_ (bP.shut (e:=⟨c,(g,n),fun _=>(none,0)⟩)))))
 have cJ:aE (tR (List.replicate n []) fun _=>(none,0)) n=aE (fun _=>ao 224 2 none 0 0 []) n:=aE.congr n fun i hi=>by
  unfold tR
  simp[List.getD_eq_getElem?_getD,hi,sb]
 simp only[mB,List.length_replicate,Sl,cJ]
 refine U.cons (U.cons (U.cons ?_))
 exact L0 F n
theorem L8 {gs:List (List (Nat×Nat))}{ps:Nat→aP}{w:Nat}(hw:w<gs.length)(F:SL):aE (tR gs ps) gs.length*F=ao 224 2 (ps w).1 (gs.getD w []).length (ps w).2 (sb (gs.getD w []))*(aE (df (tR gs ps) w) gs.length*F):=by
 rw[aE.at gs.length hw,SL.cb];rfl
theorem OI (p:Option Addr){ws:List Nat}{gs:List (List (Nat×Nat))}{w:Nat}(hw:w<gs.length)(hg:gs.length≤64)(hl:(gs.getD w []).length≤1000000):Spec Tryz.prog 125 [.pointer p,.int .i64 (w:Int)] W (bP p ws gs*F) (fun q:aP=> .slice q.1 (gs.getD w []).length q.2) (fun q=>ao 43 1 q.1 (gs.getD w []).length q.2 (bB .u64 ((gs.getD w []).map (·.1)))*(bP p ws gs*F)):=by
 refine Spec.of Tryz.func125 rfl Tryz.ntmps125 rfl ?_
 refine bP.open fun e=> ?_
 repeat first|refine aa ?_ |intro
 refine ag rfl (Eg p hw hg) ?_
 intro _
 simp only[mB]
 rw[L8 hw]
 repeat first|refine aa ?_ |intro
 refine ff (γ:=Nat×aP) (fun a=>a.1≤(gs.getD w []).length) (fun a=>[(5,.slice a.2.1 a.1 a.2.2),(18,.slice (e.ps w).1 (gs.getD w []).length (e.ps w).2),(19,.int .i64 ((gs.getD w []).length:Int)),(20,.int .i64 (a.1:Int))])
  (fun a=>ao 43 1 a.2.1 a.1 a.2.2 (bB .u64 (((gs.getD w []).take a.1).map (·.1)))*(Obj p 159 [.pointer e.c,.slice e.g.1 gs.length e.g.2]*(cz e.c ws*(ao 222 1 e.g.1 gs.length e.g.2 (qd gs e.ps)*(ao 224 2 (e.ps w).1 (gs.getD w []).length (e.ps w).2 (sb (gs.getD w []))*(aE (df (tR gs e.ps) w) gs.length*F)))))) (fun a=>(gs.getD w []).length-a.1) (0,(none,0)) (Nat.zero_le _) ⟨rfl,rfl,rfl,rfl,trivial⟩ (U.sat (U.none (U.refl _))) ?_
 intro ⟨i,q⟩ h1;dsimp only at h1 ⊢
 by_cases hi:i<(gs.getD w []).length
 ·have DI:(((gs.getD w []).take i).map (·.1)).length=i:=by rw[List.length_map,List.length_take];omega
  repeat first|refine aa ?_ |intro
  rename_i q2
  refine cT (i+1,q2) (by dsimp only;omega) (by dsimp only;omega) ⟨rfl,rfl,rfl,rfl,trivial⟩ (U.sat ?_)
  dsimp only
  rw[←tQ (d:=(0,0)) hi,List.map_append,List.map_singleton,←Ev]
  exact ad
 ·have e1:i=(gs.getD w []).length:=by omega
  subst e1
  rw[List.take_length]
  repeat first|refine aa ?_ |intro
  refine ae (aw rfl rfl q rfl (U.sat (U.cons (U.trans ?_ (bP.shut (e:=e))))))
  simp only[mB]
  rw[L8 hw]
  exact ad
end
section
open Go.RowKit
set_option maxRecDepth 10000
attribute [local irreducible] EK EX ER EN EL ES EG az ba bf
variable {W:World} {F:SL} {X:Cx} {k:List KI} {σ:Env} {p q:Option Addr} {ws:List Nat} {gs:List (List (Nat×Nat))} {s:jl} {w:Nat}
attribute [local simp] L9 Iz pe
def cD (q:Option Addr)(s:jl):SL:=Obj q 191 (hO s)
theorem cD.open (H:EK X k σ (Obj q 191 (hO s)*F)):EK X k σ (cD q s*F):=H
theorem cD.jx {ops o:List Oper}(H:EL X k ops o σ (Obj q 191 (hO s)*F)):EL X k ops o σ (cD q s*F):=H
theorem cD.shut {l:List Value}(h:l=hO s):U (Obj q 191 l*F) (cD q s*F):=by subst h;exact U.refl _
theorem cD.bX {l:List Value}{G:SL}(h:l=hO s)(k:U F G):U (Obj q 191 l*F) (cD q s*G):=U.trans (cD.shut h) (U.star (U.refl _) k)
theorem cD.du {H F' G:SL}{l:List Value}[r:bO H q (Obj q 191 l) F'](e:l=hO s)(k:U F' G):U H (cD q s*G):=by
 rw[r.eq]
 exact cD.bX e k
instance (priority:=2000)(q:Option Addr)(s:jl)(F:SL):bO (cD q s*F) q (cD q s) F:=⟨rfl⟩
instance (q:Option Addr)(s:jl):kR (cD q s) q:=⟨fun W w F H=>(Obj.root q _ _).nn W w _ H⟩
theorem F2 (hw:w<gs.length)(hg:gs.length≤64):Spec Tryz.prog 84 [.pointer p,.int .i64 (w:Int)] W (bP p ws gs*F) (fun g:Option Addr=> .pointer g) (fun g=>cD g ⟨w,false,0,0,false,false⟩*(bP p ws gs*F)):=by
 refine Spec.of Tryz.func84 rfl Tryz.ntmps84 rfl ?_
 refine bP.open fun e=> ?_
 repeat first|refine aa ?_ |intro
 refine ag rfl (Eg p hw hg) ?_
 intro _
 repeat first|refine aa ?_ |intro
 rename_i x
 exact ae (aw rfl rfl x rfl (U.sat (cD.bX (by rfl) (bP.shut (e:=e)))))
theorem Ov (hw:w<gs.length)(hg:gs.length≤64)(hl:ws.length=gs.length+1):Spec Tryz.prog 53 [.pointer p,.int .i64 (w:Int)] W (bP p ws gs*F) (fun _:Unit=> .tuple #[]) (fun _=>bP p (ws.set (1+w) 0) gs*F):=by
 refine Spec.of Tryz.func53 rfl Tryz.ntmps53 rfl ?_
 refine bP.open fun e=> ?_
 repeat first|refine aa ?_ |intro
 refine ag rfl (Eg p hw hg) ?_
 intro _
 simp only[mB]
 repeat first|refine aa ?_ |intro
 rw[show(1:Int)+(w:Int)=((1+w:Nat):Int)by omega]
 refine ag rfl (Spec.aV e.c (yC e.c ws (1+w) 0 (by omega) (by omega))) ?_
 intro _
 repeat first|refine aa ?_ |intro
 exact aN (aO rfl () rfl (U.sat (U.trans (ad) (bP.shut (e:=e)))))
theorem Rv (h:vp gs.length ws gs)(hs:s.Ok gs.length)(ha:s.mH=false):Spec Tryz.prog 86 [.pointer p,.pointer q] W (cD q s*(bP p ws gs*F)) (fun _:Unit=> .tuple #[]) (fun _=>cD q (jq ws s).2*(bP p (jq ws s).1 gs*F)):=by
 refine Spec.of Tryz.func86 rfl Tryz.ntmps86 rfl ?_
 have hl:=h.len
 have hn:=h.n1
 have nH:=hs.worker
 have TL:=hs.seen
 have kC:=h.w 0
 have zh:=hs.bE ha
 refine cW p (bP.open fun e=> ?_)
 simp only[mB]
 refine cW q (cD.open ?_)
 have jt:s.at_=0∨s.at_=1∨s.at_=2:=by omega
 rcases jt with e0|e0|e0
 ·have es:jq ws s=(ws,{s with seen:=ws.getD 0 0,at_:=1}):=by unfold jq;rw[if_pos e0]
  rw[es]
  simp only[hO,e0]
  repeat first|refine aa ?_ |intro
  refine ag rfl (Spec.aV e.c (fC e.c ws 0 (by omega) (by omega))) ?_
  intro _
  repeat first|refine aa ?_ |intro
  exact aN (aO rfl () rfl (U.sat (cD.du (by rfl) (U.trans (ad) (bP.shut (e:=e))))))
 ·have es:jq ws s=(ws.set (1+s.worker) (s.seen+1),{s with at_:=2}):=by unfold jq;rw[if_neg (by omega),if_pos e0]
  rw[es]
  simp only[hO,e0]
  repeat first|refine aa ?_ |intro
  refine aL 99 (Obj p 159 [.pointer e.c,.slice e.g.1 gs.length e.g.2]*(Obj q 191 [.int .i64 (s.worker:Int),.bool s.mH,.int .i64 ((1:Nat):Int),.int .u64 (s.seen:Int),.bool s.done,.bool s.ya]*1)) rfl rfl rfl ?_
  repeat(first|refine aq ?_ |refine eD ?_)
  rw[show(1:Int)+(s.worker:Int)=((1+s.worker:Nat):Int)by omega,show(s.seen:Int)+1=((s.seen+1:Nat):Int)by omega]
  refine aI rfl rfl rfl rfl rfl (Spec.aV e.c (yC e.c ws (1+s.worker) (s.seen+1) (by omega) (by omega))) (fun _=>ad) ?_
  intro _
  repeat(first|refine aq ?_ |refine eD ?_)
  repeat first|refine aa ?_ |intro
  exact aN (aO rfl () rfl (U.sat (cD.du (by rfl) (U.trans (ad) (bP.shut (e:=e))))))
 ·have es:jq ws s=(ws,{s with done:=decide (ws.getD 0 0=s.seen),at_:=0}):=by unfold jq;rw[if_neg (by omega),if_neg (by omega)]
  rw[es]
  simp only[hO,e0]
  repeat first|refine aa ?_ |intro
  refine aL 13 (Obj p 159 [.pointer e.c,.slice e.g.1 gs.length e.g.2]*(Obj q 191 [.int .i64 (s.worker:Int),.bool s.mH,.int .i64 ((2:Nat):Int),.int .u64 (s.seen:Int),.bool s.done,.bool s.ya]*1)) rfl rfl rfl ?_
  repeat(first|refine aq ?_ |refine eD ?_)
  refine aI rfl rfl rfl rfl rfl (Spec.aV e.c (fC e.c ws 0 (by omega) (by omega))) (fun _=>ad) ?_
  intro _
  repeat(first|refine aq ?_ |refine eD ?_)
  repeat(first|refine bQ ?_ |(refine bU ?_;intro)|refine bR ?_ |refine bS ?_ |refine bT ?_ |refine eD ?_)
  repeat first|refine aa ?_ |intro
  refine aN (aO rfl () rfl (U.sat (cD.du ?_ (U.trans (ad) (bP.shut (e:=e))))))
  simp only[hO]
  simp[Int.natCast_inj]
theorem Rk (h:vp gs.length ws gs)(hs:s.Ok gs.length)(DN:1≤gs.length):Spec Tryz.prog 85 [.pointer p,.pointer q] W (cD q s*(bP p ws gs*F)) (fun _:Unit=> .tuple #[]) (fun _=>cD q (nZ gs.length ws s).2*(bP p (nZ gs.length ws s).1 gs*F)):=by
 refine Spec.of Tryz.func85 rfl Tryz.ntmps85 rfl ?_
 have hl:=h.len
 have hn:=h.n1
 have TL:=hs.seen
 have kC:=h.w 0
 have wY:=h.w s.at_
 have zh:=hs.at_
 refine cW p (bP.open fun e=> ?_)
 simp only[mB]
 refine cW q (cD.open ?_)
 by_cases e0:s.at_=0
 ·have es:nZ gs.length ws s=(ws,{s with seen:=ws.getD 0 0,at_:=1}):=by unfold nZ;rw[if_pos e0]
  rw[es]
  simp only[hO,e0]
  repeat first|refine aa ?_ |intro
  refine ag rfl (Spec.aV e.c (fC e.c ws 0 (by omega) (by omega))) ?_
  intro _
  repeat first|refine aa ?_ |intro
  exact aN (aO rfl () rfl (U.sat (cD.du (by rfl) (U.trans (ad) (bP.shut (e:=e))))))
 by_cases e1:s.at_≤gs.length
 ·have es:nZ gs.length ws s=(ws,{s with done:=decide (ws.getD s.at_ 0≠0)&&decide (ws.getD s.at_ 0≠s.seen+1),at_:=s.at_+1}):=by unfold nZ;rw[if_neg e0,if_pos e1]
  rw[es]
  repeat first|refine aa ?_ |intro
  refine aL 99 (Obj p 159 [.pointer e.c,.slice e.g.1 gs.length e.g.2]*(Obj q 191 (hO s)*1)) rfl rfl rfl ?_
  repeat(first|refine aq ?_ |refine eD ?_)
  repeat first|refine aa ?_ |intro
  refine aL 99 (Obj p 159 [.pointer e.c,.slice e.g.1 gs.length e.g.2]*(Obj q 191 (hO s)*1)) rfl rfl rfl ?_
  repeat(first|refine aq ?_ |refine eD ?_)
  refine aI rfl rfl rfl rfl rfl (Spec.aV e.c (fC e.c ws s.at_ (by omega) (by omega))) (fun _=>ad) ?_
  intro _
  repeat(first|refine aq ?_ |refine eD ?_)
  by_cases h0:ws.getD s.at_ 0=0
  ·rw[decide_eq_false (p:=ws.getD s.at_ 0≠0) (fun z=>z h0),Bool.false_and]
   repeat first|refine aa ?_ |intro
   exact aN (aO rfl () rfl (U.sat (cD.du (by simp only[hO];rw[show(s.at_:Int)+1=((s.at_+1:Nat):Int)by omega]) (U.trans (ad) (bP.shut (e:=e))))))
  ·by_cases h2:ws.getD s.at_ 0=s.seen+1
   ·rw[decide_eq_true (p:=ws.getD s.at_ 0≠0) h0,decide_eq_false (p:=ws.getD s.at_ 0≠s.seen+1) (fun z=>z h2),Bool.true_and]
    repeat first|refine aa ?_ |intro
    exact aN (aO rfl () rfl (U.sat (cD.du (by simp only[hO];rw[show(s.at_:Int)+1=((s.at_+1:Nat):Int)by omega]) (U.trans (ad) (bP.shut (e:=e))))))
   ·rw[decide_eq_true (p:=ws.getD s.at_ 0≠0) h0,decide_eq_true (p:=ws.getD s.at_ 0≠s.seen+1) h2,Bool.true_and]
    repeat first|refine aa ?_ |intro
    exact aN (aO rfl () rfl (U.sat (cD.du (by simp only[hO];rw[show(s.at_:Int)+1=((s.at_+1:Nat):Int)by omega]) (U.trans (ad) (bP.shut (e:=e))))))
 ·have es:nZ gs.length ws s=(if ws.getD 0 0=s.seen then ws.set 0 (s.seen+1)else ws,{s with ya:=decide (ws.getD 0 0=s.seen),done:=true,at_:=s.at_+1}):=by unfold nZ;rw[if_neg e0,if_neg e1]
  rw[es]
  repeat first|refine aa ?_ |intro
  refine aL 99 (Obj p 159 [.pointer e.c,.slice e.g.1 gs.length e.g.2]*(Obj q 191 (hO s)*1)) rfl rfl rfl ?_
  repeat(first|refine aq ?_ |refine eD ?_)
  repeat first|refine aa ?_ |intro
  refine aL 17 (Obj p 159 [.pointer e.c,.slice e.g.1 gs.length e.g.2]*(Obj q 191 (hO s)*1)) rfl rfl rfl ?_
  repeat(first|refine aq ?_ |refine eD ?_)
  rw[show(s.seen:Int)+1=((s.seen+1:Nat):Int)by omega]
  refine aI rfl rfl rfl rfl rfl (Spec.aV e.c (mw e.c ws 0 s.seen (s.seen+1) (by omega) (by omega))) (fun _=>ad) ?_
  intro _
  repeat(first|refine aq ?_ |refine eD ?_)
  repeat(first|refine bQ ?_ |(refine bU ?_;intro)|refine bR ?_ |refine bS ?_ |refine bT ?_ |refine eD ?_)
  repeat first|refine aa ?_ |intro
  exact aN (aO rfl () rfl (U.sat (cD.du (by simp only[hO];rw[show(s.at_:Int)+1=((s.at_+1:Nat):Int)by omega]) (U.trans (ad) (bP.shut (e:=e))))))
theorem N7 (h:vp gs.length ws gs)(hs:s.Ok gs.length)(DN:1≤gs.length)(hd:s.done=false):Spec Tryz.prog 47 [.pointer p,.pointer q] W (cD q s*(bP p ws gs*F)) (fun _:Unit=> .bool (dt gs.length ws s).2.done) (fun _=>cD q (dt gs.length ws s).2*(bP p (dt gs.length ws s).1 gs*F)):=by
 refine Spec.of Tryz.func47 rfl Tryz.ntmps47 rfl ?_
 refine cW q (cD.open ?_)
 cases ha:s.mH with
 |true=>
  have es:dt gs.length ws s=nZ gs.length ws s:=by unfold dt;rw[if_neg (by rw[hd];decide),if_pos ha]
  rw[es]
  simp only[hO,hd,ha]
  repeat first|refine aa ?_ |intro
  refine ag rfl (Spec.pre (Rk (p:=p) (q:=q) (s:=s) h hs DN) (cD.bX (by simp only[hO,hd,ha]) (U.refl _))) ?_
  intro _
  generalize nZ gs.length ws s=D at*
  refine cD.jx ?_
  repeat first|refine aa ?_ |intro
  exact ae (aw rfl rfl () rfl (U.sat (cD.bX (by rfl) (U.refl _))))
 |false=>
  have es:dt gs.length ws s=jq ws s:=by unfold dt;rw[if_neg (by rw[hd];decide),if_neg (by rw[ha];decide)]
  rw[es]
  simp only[hO,hd,ha]
  repeat first|refine aa ?_ |intro
  refine ag rfl (Spec.pre (Rv (p:=p) (q:=q) (s:=s) h hs ha) (cD.bX (by simp only[hO,hd,ha]) (U.refl _))) ?_
  intro _
  generalize jq ws s=D at*
  refine cD.jx ?_
  repeat first|refine aa ?_ |intro
  exact ae (aw rfl rfl () rfl (U.sat (cD.bX (by rfl) (U.refl _))))
end
end Go.Proofs.YtakbmjoijcpdmaaGreatDoor
