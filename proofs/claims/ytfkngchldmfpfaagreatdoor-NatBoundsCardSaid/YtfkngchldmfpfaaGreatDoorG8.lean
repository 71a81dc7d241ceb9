/-
  A part of a proof, joined by a program (wip/bundle3.py).
-/
import Derived.Test.YtfkngchldmfpfaaGreatDoorG2
import Derived.Test.YtfkngchldmfpfaaGreatDoorG3
import Derived.Test.YtfkngchldmfpfaaGreatDoorG4
import Derived.Test.YtfkngchldmfpfaaGreatDoorG6
import Derived.Test.YtfkngchldmfpfaaGreatDoorG7
set_option linter.unusedVariables false
set_option linter.unusedSimpArgs false
namespace Go.Proofs.YtfkngchldmfpfaaGreatDoor
section
def lN (u:Nat):Nat:=u/281474976710656
theorem YT (i:Nat):2^(12*(i+1))=2^(12*i)*4096:=by rw[show 12*(i+1)=12*i+12 by omega,Nat.pow_add]
theorem Db (u i:Nat):u=2^(12*i)*(4096*(u/2^(12*(i+1)))+u/2^(12*i)%4096)+u%2^(12*i):=by
 have h1:=Nat.div_add_mod u (2^(12*i))
 have h2:=Nat.div_add_mod (u/2^(12*i)) 4096
 rw[YT,←Nat.div_div_eq_div_mul]
 rw[h2]
 omega
theorem VW {i:Nat}(hi:i<4):18446744073709551615-4095*2^(12*i)=2^(12*i)*(4096*(2^(52-12*i)-1)+0)+(2^(12*i)-1):=by
 match i,hi with
 |0,_=>decide
 |1,_=>decide
 |2,_=>decide
 |3,_=>decide
theorem tw (x y z i j:Nat)(hy:y<4096)(hz:z<2^(12*i)):(2^(12*i)*(4096*x+y)+z).testBit j=if j<12*i then z.testBit j else if j-12*i<12 then y.testBit (j-12*i)else x.testBit (j-12*i-12):=by
 rw[Nat.testBit_two_pow_mul_add _ hz]
 split
 ·rfl
 ·have h:=Nat.testBit_two_pow_mul_add x (i:=12) (b:=y) hy (j-12*i)
  rw[show 2^12*x+y=4096*x+y from rfl]at h
  rw[h]
theorem XY {u i v:Nat}(hu:u<18446744073709551616)(hi:i<4)(hv:v<4096):((u&&& (18446744073709551615-4095*2^(12*i)))|||v*2^(12*i))=2^(12*i)*(4096*(u/2^(12*(i+1)))+v)+u%2^(12*i):=by
 have hp:0<2^(12*i):=Nat.two_pow_pos _
 apply Nat.eq_of_testBit_eq
 intro j
 have e1:v*2^(12*i)=2^(12*i)*(4096*0+v)+0:=by rw[Nat.mul_zero,Nat.zero_add,Nat.add_zero,Nat.mul_comm]
 have hx:u/2^(12*(i+1))<2^(52-12*i):=by
  rw[Nat.div_lt_iff_lt_mul (Nat.two_pow_pos _),←Nat.pow_add,show 52-12*i+12*(i+1)=64 by omega]
  exact hu
 rw[Nat.testBit_or,Nat.testBit_and,e1,VW hi,tw _ _ _ i j hv hp,tw _ _ _ i j (by decide) (by omega),tw _ _ _ i j hv (Nat.mod_lt _ hp)]
 conv=>lhs;lhs;lhs;rw[Db u i]
 rw[tw _ _ _ i j (Nat.mod_lt _ (by decide)) (Nat.mod_lt _ hp)]
 split
 ·rename_i h
  rw[Nat.testBit_two_pow_sub_one,decide_eq_true h]
  simp
 ·split
  ·simp
  ·rename_i h1 h2
   rw[Nat.testBit_two_pow_sub_one]
   by_cases h3:j-12*i-12<52-12*i
   ·rw[decide_eq_true h3];simp
   ·rw[decide_eq_false h3]
    have:(u/2^(12*(i+1))).testBit (j-12*i-12)=false:=Nat.testBit_lt_two_pow (Nat.lt_of_lt_of_le hx (Nat.pow_le_pow_right (by decide) (by omega)))
    rw[this];simp
theorem Lg (w j t:Nat):(w/2^(12*j)%4096).testBit t=(decide (t<12)&&w.testBit (12*j+t)):=by
 rw[show(4096:Nat)=2^12 from rfl,Nat.testBit_mod_two_pow,Nat.testBit_div_two_pow,Nat.add_comm]
def wc (u i v:Nat):Nat:=2^(12*i)*(4096*(u/2^(12*(i+1)))+v)+u%2^(12*i)
theorem V2 {u i v j:Nat}(hv:v<4096):wc u i v/2^(12*j)%4096=if j=i then v else u/2^(12*j)%4096:=by
 have hp:0<2^(12*i):=Nat.two_pow_pos _
 apply Nat.eq_of_testBit_eq
 intro t
 have hb:=tw (u/2^(12*(i+1))) v (u%2^(12*i)) i (12*j+t) hv (Nat.mod_lt _ hp)
 have hu:=tw (u/2^(12*(i+1))) (u/2^(12*i)%4096) (u%2^(12*i)) i (12*j+t) (Nat.mod_lt _ (by decide)) (Nat.mod_lt _ hp)
 rw[←Db]at hu
 rw[Lg]
 unfold wc
 rw[hb]
 by_cases ht:t<12
 ·rw[decide_eq_true ht,Bool.true_and]
  by_cases e:j=i
  ·subst e
   rw[if_pos rfl,if_neg (by omega),if_pos (by omega),show 12*j+t-12*j=t by omega]
  ·rw[if_neg e,Lg,decide_eq_true ht,Bool.true_and,hu]
   split
   ·rfl
   ·rw[if_neg (by omega),if_neg (by omega)]
 ·rw[decide_eq_false ht,Bool.false_and]
  symm
  split
  ·exact Nat.testBit_lt_two_pow (Nat.lt_of_lt_of_le hv (show 2^12≤2^t from Nat.pow_le_pow_right (by decide) (by omega)))
  ·exact Nat.testBit_lt_two_pow (Nat.lt_of_lt_of_le (Nat.mod_lt _ (by decide)) (show 2^12≤2^t from Nat.pow_le_pow_right (by decide) (by omega)))
theorem KD {u i v:Nat}(hi:i<4)(hv:v<4096):lN (wc u i v)=lN u:=by
 unfold lN
 have hp:0<2^(12*i):=Nat.two_pow_pos _
 rw[show(281474976710656:Nat)=2^48 from rfl]
 apply Nat.eq_of_testBit_eq
 intro t
 have hb:=tw (u/2^(12*(i+1))) v (u%2^(12*i)) i (48+t) hv (Nat.mod_lt _ hp)
 have hu:=tw (u/2^(12*(i+1))) (u/2^(12*i)%4096) (u%2^(12*i)) i (48+t) (Nat.mod_lt _ (by decide)) (Nat.mod_lt _ hp)
 rw[←Db]at hu
 rw[Nat.testBit_div_two_pow,Nat.testBit_div_two_pow,Nat.add_comm t 48,hu]
 unfold wc
 rw[hb,if_neg (by omega),if_neg (by omega),if_neg (by omega),if_neg (by omega)]
theorem KC {u i v:Nat}(hu:u<18446744073709551616)(hi:i<4)(hv:v<4096):wc u i v<18446744073709551616:=by
 have h1:=KD (u:=u) hi hv
 unfold lN at h1
 omega
theorem Ib {u i v:Nat}(hu:u<18446744073709551616)(hi:i<4)(hv:v<4096):nD u i v=(wc u i v+281474976710656)%18446744073709551616:=by
 unfold nD
 rw[XY hu hi hv]
 rfl
theorem Y5 {w j:Nat}(_:w<18446744073709551616)(hj:j<4):(w+281474976710656)%18446744073709551616/2^(12*j)%4096=w/2^(12*j)%4096:=by
 match j,hj with
 |0,_=>simp only[Nat.mul_zero,Nat.pow_zero,Nat.div_one];omega
 |1,_=>rw[show 2^(12*1)=4096 from rfl];omega
 |2,_=>rw[show 2^(12*2)=16777216 from rfl];omega
 |3,_=>rw[show 2^(12*3)=68719476736 from rfl];omega
theorem Ic {u i v j:Nat}(hu:u<18446744073709551616)(hi:i<4)(hv:v<4096)(hj:j<4):bV (nD u i v) j=if j=i then(v:Int)-1 else bV u j:=by
 unfold bV
 rw[Ib hu hi hv,Y5 (KC hu hi hv) hj,V2 hv]
 split<;>rfl
theorem Ie {u i v:Nat}(hu:u<18446744073709551616)(hi:i<4)(hv:v<4096):lN (nD u i v)=(lN u+1)%65536:=by
 have h1:=KD (u:=u) hi hv
 have h2:=KC hu hi hv
 rw[Ib hu hi hv]
 unfold lN at h1 ⊢
 omega
theorem Ia (u i v:Nat):nD u i v<18446744073709551616:=Nat.mod_lt _ (by decide)
end
section
theorem Ge (u:Nat)(id:Int):(fj u id= -1∧∀i,i<4→bV u i≠id)∨∃i:Nat,i<4∧fj u id=(i:Int)∧bV u i=id:=by
 unfold fj
 by_cases h0:bV u 0=id
 ·exact .inr ⟨0,by decide,by rw[if_pos h0];rfl,h0⟩
 by_cases h1:bV u 1=id
 ·exact .inr ⟨1,by decide,by rw[if_neg h0,if_pos h1];rfl,h1⟩
 by_cases h2:bV u 2=id
 ·exact .inr ⟨2,by decide,by rw[if_neg h0,if_neg h1,if_pos h2];rfl,h2⟩
 by_cases h3:bV u 3=id
 ·exact .inr ⟨3,by decide,by rw[if_neg h0,if_neg h1,if_neg h2,if_pos h3];rfl,h3⟩
 refine .inl ⟨by rw[if_neg h0,if_neg h1,if_neg h2,if_neg h3],fun i hi=> ?_⟩
 match i,hi with
 |0,_=>exact h0
 |1,_=>exact h1
 |2,_=>exact h2
 |3,_=>exact h3
theorem jT {u:Nat}:dt u=true↔∀i,i<4→0≤bV u i:=by
 unfold dt
 rw[decide_eq_true_eq]
 rcases Ge u (-1)with ⟨h,h'⟩|⟨i,hi,h,h'⟩
 ·refine⟨fun _ i hi=> ?_,fun _=>by omega⟩
  have:=h' i hi
  have: -1≤bV u i:=by unfold bV;omega
  omega
 ·exact⟨fun e=>by omega,fun e=>by have:=e i hi;omega⟩
theorem Gg {u:Nat}{id:Int}(hu:u<18446744073709551616)(hf:dt u=false)(h0:0≤id)(h1:id<4095):∃i,i<4∧bV u i= -1∧(∀j,j<4→bV (ll u id) j=if j=i then id else bV u j)∧lN (ll u id)=(lN u+1)%65536:=by
 rcases Ge u (-1)with ⟨h,h'⟩|⟨i,hi,h,h'⟩
 ·unfold dt at hf
  rw[h]at hf
  simp at hf
 ·refine⟨i,hi,h',fun j hj=> ?_,?_⟩
  ·unfold ll
   rw[h,Int.toNat_natCast,Ic hu hi (by omega) hj]
   split
   ·omega
   ·rfl
  ·unfold ll
   rw[h,Int.toNat_natCast,Ie hu hi (by omega)]
theorem Ci {u:Nat}{id:Int}(hu:u<18446744073709551616)(hw:0≤fj u id):∃i,i<4∧bV u i=id∧(∀j,j<4→bV (si u id) j=if j=i then-1 else bV u j)∧lN (si u id)=(lN u+1)%65536:=by
 rcases Ge u id with ⟨h,h'⟩|⟨i,hi,h,h'⟩
 ·omega
 ·refine⟨i,hi,h',fun j hj=> ?_,?_⟩
  ·unfold si
   rw[h,Int.toNat_natCast,Ic hu hi (by decide) hj]
   split<;>rfl
  ·unfold si
   rw[h,Int.toNat_natCast,Ie hu hi (by decide)]
theorem MD (u:Nat)(id:Int):ll u id<18446744073709551616:=Ia _ _ _
theorem Gi (u:Nat)(id:Int):si u id<18446744073709551616:=Ia _ _ _
structure sD (m:fo):Prop where
 phase:m.phase≤3
 id:m.id<4096
 fr:m.fr<1024
 to:m.to<1024
 version:m.version<65536
theorem By {m:fo}(h:sD m)(ht:m.av<16384):gh (lJ m)=m:=by
 obtain⟨a,b,c,d,e,f⟩:=m
 obtain⟨h1,h2,h3,h4,h5⟩:=h
 unfold gh lJ
 dsimp only at*
 congr 1<;>omega
theorem V6 {m:fo}(h:sD m):lJ m<18446744073709551616:=by
 obtain⟨h1,h2,h3,h4,h5⟩:=h
 unfold lJ
 omega
theorem KF {u:Nat}(h:u<18446744073709551616):sD (gh u)∧(gh u).av<16384:=by
 unfold gh
 refine⟨⟨?_,?_,?_,?_,?_⟩,?_⟩<;>dsimp only<;>omega
theorem four {i:Nat}(h:i<4):i=0∨i=1∨i=2∨i=3:=by omega
theorem SH {s:aT}{v x i:Nat}(hv:v<4)(hi:i<4):(s.iM v x).eJ i=if i=v then x else s.eJ i:=by
 rcases four hv with rfl|rfl|rfl|rfl<;>rcases four hi with rfl|rfl|rfl|rfl<;>rfl
theorem SG {s:aT}{v x i:Nat}(hv:v<4):(s.jM v x).eJ i=s.eJ i:=by
 rcases four hv with rfl|rfl|rfl|rfl<;>rfl
structure GJ (s s':aT):Prop where
 kind:s'.kind=s.kind
 f1:s'.f1=s.f1
 f2:s'.f2=s.f2
 f3:s'.f3=s.f3
 id:s'.id=s.id
 a:s'.a=s.a
 b:s'.b=s.b
 first:s'.first=s.first
 still:s'.still=s.still
 second:s'.second=s.second
theorem R3 (s:aT){v:Nat}(hv:v<4)(x:Nat):GJ s (s.jM v x)∧(s.jM v x).done=s.done∧(s.jM v x).v=s.v∧(s.jM v x).u=s.u:=by
 rcases four hv with rfl|rfl|rfl|rfl<;>exact⟨⟨rfl,rfl,rfl,rfl,rfl,rfl,rfl,rfl,rfl,rfl⟩,rfl,rfl,rfl⟩
theorem R2 (s:aT){v:Nat}(hv:v<4)(x:Nat):GJ s (s.iM v x)∧(s.iM v x).done=s.done∧(s.iM v x).v=s.v∧(s.iM v x).u=s.u:=by
 rcases four hv with rfl|rfl|rfl|rfl<;>exact⟨⟨rfl,rfl,rfl,rfl,rfl,rfl,rfl,rfl,rfl,rfl⟩,rfl,rfl,rfl⟩
theorem qp {cs:List Nat}{i x:Nat}(h:i<cs.length):(cs.set i x).getD i 0=x:=by
 simp[List.getD_eq_getElem?_getD,h]
theorem mP {cs:List Nat}{i j x:Nat}(h:i≠j):(cs.set i x).getD j 0=cs.getD j 0:=by
 simp[List.getD_eq_getElem?_getD,List.getElem?_set_ne h]
section move
variable {pl:List Nat} {n:Nat} {cs:List Nat} {s:aT}
end move
end
section
section
variable {pl:List Nat} {np n:Nat} {cs:List Nat}
theorem Bu {l:List Nat}{i v B:Nat}(h:∀j,l.getD j 0<B)(hv:v<B)(j:Nat):(l.set i v).getD j 0<B:=by
 by_cases e:i=j
 ·subst e
  by_cases hi:i<l.length
  ·rw[qp hi];exact hv
  ·rw[List.set_eq_of_length_le (by omega)];exact h i
 ·rw[mP e];exact h j
end
end
section
def mA (np u:Nat):Prop:=∀i,i<4→bV u i<(np:Int)
structure dT (n np:Nat)(cs:List Nat):Prop where
 len:cs.length=n+1
 n1:2≤n
 n2:n≤1024
 Ws:1≤np
 j7:np≤3072
 w:∀j,cs.getD j 0<18446744073709551616
 refs:∀b,b<n→mA np (cs.getD b 0)
 id:(gh (cs.getD n 0)).id<np
 fr:(gh (cs.getD n 0)).fr<n
 to:(gh (cs.getD n 0)).to<n
structure cy (np:Nat)(pl:List Nat):Prop where
 len:pl.length=2*np
 w:∀j,pl.getD j 0<18446744073709551616
 tr:∀x,(bH.of (pl.getD (2*x) 0)).tr≤4
structure qU (n np:Nat)(m:fo):Prop where
 phase:m.phase≤3
 id:m.id<np
 fr:m.fr<n
 to:m.to<n
 version:m.version<65536
 av:m.av<16384
structure br (n np:Nat)(s:aT):Prop where
 a:s.a<n
 b:s.b<n
 next:s.next≤24
 oZ:s.at_≤4
 refs:mA np s.word
 word:s.word<18446744073709551616
 tk:mA np s.first
 first:s.first<18446744073709551616
 EZ: -1≤s.id
 v8:s.id<(np:Int)
 Bh:s.kind≠0→0≤s.id
 f1:s.f1≤255
 f2:s.f2<4294967296
 f3:s.f3<65536
 kind:s.kind≤2
 link:s.next=5→s.kind≠0∧dt s.first=false
 dk:23≤s.next→s.kind≠0
 il:6≤s.next→s.next≤12→dt s.first=true
 vu:s.done=false→s.v<4∧s.u<4
 dw:∀i,i<4→s.dw i<n
 eJ:∀i,i<4→s.eJ i<18446744073709551616∧mA np (s.eJ i)
 lB:s.next=8∨s.next=9→∀i,i<s.v→i<4→dt (s.eJ i)=true
 mc:s.next=10∨s.next=11→∀i,i<4→dt (s.eJ i)=true
 cC:s.cC<n
 still:s.still<18446744073709551616
 m:qU n np s.m
 ph:14≤s.next→s.next≤18→s.m.phase<3
 free:s.next=15→dt s.word=false
 there:s.next=18∨s.next=21→0≤fj s.word (s.m.id:Int)
 out:s.next=24→0≤fj s.word s.id
 seen:s.seen.ok
 BU:s.seen.tr≤4
 IV: -1≤s.found
 xR:s.found<(np:Int)
 aP:s.aP.ok
 xS:s.aP.tr≤4
 uC:s.done=true→s.kind=0→s.end_=0→0≤s.found
 vS:s.done=true→s.end_=10→0≤s.found
def qW (H:Nat→List Nat)(m:fo):Prop:=m.version<(H m.to).length∧dt ((H m.to).getD m.version 0)=false
structure eT (n:Nat)(cs:List Nat)(H:Nat→List Nat)(K:Nat):Prop where
 last:∀b,b<n→0<(H b).length∧(H b).getD ((H b).length-1) 0=cs.getD b 0
 vb:∀b,b<n→∀i,i<(H b).length→lN ((H b).getD i 0)=i
 short:∀b,b<n→(H b).length≤K+1
 mv:(gh (cs.getD n 0)).phase≠0→qW H (gh (cs.getD n 0))
def ib (H:Nat→List Nat)(s:aT):Prop:=12≤s.next→s.next≤22→qW H s.m
structure dh (n:Nat)(H H':Nat→List Nat):Prop where
 len:∀b,b<n→(H b).length≤(H' b).length
 get:∀b,b<n→∀i,i<(H b).length→(H' b).getD i 0=(H b).getD i 0
theorem dh.refl (n:Nat)(H:Nat→List Nat):dh n H H:=⟨fun _ _=>Nat.le_refl _,fun _ _ _ _=>rfl⟩
theorem qW.ext {n:Nat}{H H':Nat→List Nat}{m:fo}(h:qW H m)(e:dh n H H')(ht:m.to<n):qW H' m:=by
 obtain⟨h1,h2⟩:=h
 exact⟨Nat.lt_of_lt_of_le h1 (e.len _ ht),by rw[e.get _ ht _ h1];exact h2⟩
theorem ib.ext {n np:Nat}{H H':Nat→List Nat}{s:aT}(h:ib H s)(e:dh n H H')(hm:qU n np s.m):ib H' s:=fun h1 h2=>(h h1 h2).ext e hm.to
theorem eT.more {n K K':Nat}{cs:List Nat}{H:Nat→List Nat}(h:eT n cs H K)(hk:K≤K'):eT n cs H K':=⟨h.last,h.vb,fun b hb=>Nat.le_trans (h.short b hb) (by omega),h.mv⟩
def tG (H:Nat→List Nat)(b u:Nat):Nat→List Nat:=fun i=>if i=b then H b++[u]else H i
theorem tH (n:Nat)(H:Nat→List Nat)(b u:Nat):dh n H (tG H b u):=by
 constructor
 ·intro i _
  unfold tG
  split
  ·rename_i e;subst e;simp
  ·exact Nat.le_refl _
 ·intro i _ j hj
  unfold tG
  split
  ·rename_i e;subst e
   rw[List.getD_eq_getElem?_getD,List.getD_eq_getElem?_getD,List.getElem?_append_left hj]
  ·rfl
theorem eT.set {n K:Nat}{cs:List Nat}{H:Nat→List Nat}(h:eT n cs H K)(hl:cs.length=n+1){b u:Nat}(hb:b<n)(hu:lN u=(lN (cs.getD b 0)+1)%65536)(hK:K<65000):
  eT n (cs.set b u) (tG H b u) (K+1):=by
 obtain⟨l1,l2⟩:=h.last b hb
 have hs:=h.short b hb
 have hv:lN (cs.getD b 0)=(H b).length-1:=by rw[←l2];exact h.vb b hb _ (by omega)
 have UA:lN u=(H b).length:=by rw[hu,hv];omega
 refine⟨fun i hi=> ?_,fun i hi j hj=> ?_,fun i hi=> ?_,?_⟩
 ·unfold tG
  by_cases e:i=b
  ·subst e
   rw[if_pos rfl,qp (by omega)]
   simp[List.getD_eq_getElem?_getD]
  ·rw[if_neg e,mP (fun z=>e z.symm)]
   exact h.last i hi
 ·unfold tG at hj ⊢
  by_cases e:i=b
  ·subst e
   rw[if_pos rfl]at hj ⊢
   rw[List.length_append,List.length_singleton]at hj
   by_cases ej:j<(H i).length
   ·rw[List.getD_eq_getElem?_getD,List.getElem?_append_left ej,←List.getD_eq_getElem?_getD]
    exact h.vb i hi j ej
   ·have:j=(H i).length:=by omega
    subst this
    rw[List.getD_eq_getElem?_getD,List.getElem?_append_right (Nat.le_refl _)]
    simpa using UA
  ·rw[if_neg e]at hj ⊢
   exact h.vb i hi j hj
 ·unfold tG
  by_cases e:i=b
  ·subst e
   rw[if_pos rfl,List.length_append,List.length_singleton]
   omega
  ·rw[if_neg e]
   have:=h.short i hi
   omega
 ·rw[mP (by omega)]
  intro hp
  obtain⟨q1,q2⟩:=h.mv hp
  unfold qW tG
  split
  ·rename_i e
   rw[e]at q1 q2
   refine⟨by rw[List.length_append];omega,?_⟩
   rw[List.getD_eq_getElem?_getD,List.getElem?_append_left q1,←List.getD_eq_getElem?_getD]
   exact q2
  ·exact⟨q1,q2⟩
theorem eT.cell {n K:Nat}{cs:List Nat}{H:Nat→List Nat}(h:eT n cs H K)(hl:cs.length=n+1){u:Nat}(hu:(gh u).phase≠0→qW H (gh u)):eT n (cs.set n u) H K:=by
 refine⟨fun b hb=> ?_,h.vb,h.short,?_⟩
 ·rw[mP (by omega)];exact h.last b hb
 ·rw[qp (by omega)];exact hu
theorem eT.room {n K:Nat}{cs:List Nat}{H:Nat→List Nat}(h:eT n cs H K){m:fo}(hr:qW H m)(ht:m.to<n)(hv:cs.getD m.to 0/281474976710656=m.version):dt (cs.getD m.to 0)=false:=by
 obtain⟨l1,l2⟩:=h.last m.to ht
 obtain⟨r1,r2⟩:=hr
 have h1:=h.vb m.to ht ((H m.to).length-1) (by omega)
 rw[l2]at h1
 have e:m.version=(H m.to).length-1:=by rw[←hv];exact h1
 rw[e,l2]at r2
 exact r2
theorem eT.now {n K:Nat}{cs:List Nat}{H:Nat→List Nat}(h:eT n cs H K){b:Nat}(hb:b<n)(hf:dt (cs.getD b 0)=false):cs.getD b 0/281474976710656<(H b).length∧dt ((H b).getD (cs.getD b 0/281474976710656) 0)=false:=by
 obtain⟨l1,l2⟩:=h.last b hb
 have h1:=h.vb b hb ((H b).length-1) (by omega)
 rw[l2]at h1
 have e:cs.getD b 0/281474976710656=(H b).length-1:=h1
 rw[e,l2]
 exact⟨by omega,hf⟩
section
variable {n np:Nat} {cs pl:List Nat} {s:aT}
theorem dT.set (h:dT n np cs){b u:Nat}(hb:b<n)(hu:u<18446744073709551616)(hr:mA np u):dT n np (cs.set b u):=by
 refine {h with len:=by rw[List.length_set];exact h.len,w:=Bu h.w hu,refs:=fun i hi=> ?_,id:= ?_,fr:= ?_,to:= ?_}
 ·by_cases e:b=i
  ·subst e;rw[qp (by have:=h.len;omega)];exact hr
  ·rw[mP e];exact h.refs i hi
 all_goals rw[mP (by omega)]
 ·exact h.id
 ·exact h.fr
 ·exact h.to
theorem dT.cell (h:dT n np cs){m:fo}(hm:qU n np m):dT n np (cs.set n (lJ m)):=by
 have qx:sD m:=⟨hm.phase,by have:=hm.id;have:=h.j7;omega,by have:=hm.fr;have:=h.n2;omega,by have:=hm.to;have:=h.n2;omega,hm.version⟩
 have e:=By qx hm.av
 refine {h with len:=by rw[List.length_set];exact h.len,w:=Bu h.w (V6 qx),refs:=fun i hi=> ?_,id:= ?_,fr:= ?_,to:= ?_}
 ·rw[mP (by omega)];exact h.refs i hi
 all_goals rw[qp (by have:=h.len;omega),e]
 ·exact hm.id
 ·exact hm.fr
 ·exact hm.to
theorem V7 (m:fo):lJ m=lJ {m with av:=m.av%16384}:=by unfold lJ;dsimp only;omega
theorem dT.Ff (h:dT n np cs):qU n np (gh (cs.getD n 0)):=by
 obtain⟨h1,h2⟩:=KF (h.w n)
 exact⟨h1.phase,h.id,h.fr,h.to,h1.version,h2⟩
theorem LB {u:Nat}{id:Int}(hu:u<18446744073709551616)(hr:mA np u)(hf:dt u=false)(h0:0≤id)(h1:id<np)(h2:np≤3072):mA np (ll u id):=by
 obtain⟨i,_,_,h,_⟩:=Gg hu hf h0 (by omega)
 intro j hj
 rw[h j hj]
 split
 ·exact h1
 ·exact hr j hj
theorem FI {u:Nat}{id:Int}(hu:u<18446744073709551616)(hr:mA np u)(hw:0≤fj u id):mA np (si u id):=by
 obtain⟨i,_,_,h,_⟩:=Ci hu hw
 intro j hj
 rw[h j hj]
 split
 ·omega
 ·exact hr j hj
theorem BO:mA np 0:=fun i hi=>by unfold bV;simp;omega
theorem zk:w0.ok:=by decide
theorem FZ {kind f1 f2 f3 next:Nat}{id:Int}(hn:2≤n)(cU:1≤np)(h1:f1≤255)(h2:f2<4294967296)(h3:f3<65536)(DY: -1≤id)(yk:id<(np:Int))(hk:kind≤2)(TV:kind≠0→0≤id)(hx:next=0∨(next=23∧kind≠0)):
  br n np (tx kind f1 f2 f3 id next n) where
 a:=(B2 hn).1
 b:=(B2 hn).2.1
 next:=by show next≤24;omega
 oZ:=by show 0≤4;omega
 refs:=BO
 word:=by show 0<_;decide
 tk:=BO
 first:=by show 0<_;decide
 EZ:=DY
 v8:=yk
 Bh:=TV
 f1:=h1
 f2:=h2
 f3:=h3
 kind:=hk
 link:=fun e=>by have e:next=5:=e;omega
 dk:=fun e=>by
  have e:23≤next:=e
  rcases hx with e'|e'
  ·omega
  ·exact e'.2
 il:=fun e e'=>by have e:6≤next:=e;have e':next≤12:=e';omega
 vu:=fun _=>⟨by show 0<4;decide,by show 0<4;decide⟩
 dw:=fun i hi=>by rcases four hi with rfl|rfl|rfl|rfl<;>show 0<n<;>omega
 eJ:=fun i hi=>by rcases four hi with rfl|rfl|rfl|rfl<;>exact⟨by show 0<_;decide,BO⟩
 lB:=fun e=>by have e:next=8∨next=9:=e;omega
 mc:=fun e=>by have e:next=10∨next=11:=e;omega
 cC:=by show 0<n;omega
 still:=by show 0<_;decide
 m:=⟨by show 0≤3;decide,by show 0<np;omega,by show 0<n;omega,by show 0<n;omega,by show 0<65536;decide,by show 0<16384;decide⟩
 ph:=fun e e'=>by show 0<3;decide
 free:=fun e=>by have e:next=15:=e;omega
 there:=fun e=>by have e:next=18∨next=21:=e;omega
 out:=fun e=>by have e:next=24:=e;omega
 seen:=zk
 BU:=by show 0≤4;decide
 IV:=by show(-1:Int)≤ -1;omega
 xR:=by show(-1:Int)<np;omega
 aP:=zk
 xS:=by show 0≤4;decide
 uC:=fun e=>by cases e
 vS:=fun e=>by cases e
theorem YC {H:Nat→List Nat}{kind f1 f2 f3 next:Nat}{id:Int}(hx:next=0∨next=23):ib H (tx kind f1 f2 f3 id next n):=fun e e'=>by
 have e:12≤next:=e
 have e':next≤22:=e'
 omega
structure di (n np K:Nat)(H:Nat→List Nat)(r:List Nat×aT):Prop where
 step:∃H',dh n H H'∧eT n r.1 H' (K+1)∧ib H' r.2
 cs:dT n np r.1
 ok:br n np r.2
theorem di.same {H:Nat→List Nat}{K:Nat}{t:aT}(hc:dT n np cs)(hh:eT n cs H K)(ht:br n np t)(hr:12≤t.next→t.next≤22→qW H t.m):di n np K H (cs,t):=⟨⟨H,dh.refl n H,hh.more (by omega),hr⟩,hc,ht⟩
theorem br.finish (h:br n np s)(e:Nat)(h0:s.kind=0→e≠0)(h1:e≠10):br n np (jS s e):={h with
 vu:=fun e=>by cases e
 uC:=fun _ e0 e1=>absurd e1 (h0 e0)
 vS:=fun _ e1=>absurd e1 h1}
theorem br.IH (h:br n np s)(h0:s.kind≠0):br n np (jS s 0):={h with
 vu:=fun e=>by cases e
 uC:=fun _ e0 e1=>absurd e0 h0
 vS:=fun _ e1=>by cases e1}
theorem br.through (h:br n np s){u nx:Nat}(hu:u<18446744073709551616)(hr:mA np u)(hx:nx=1∨nx=3):br n np (tC s u nx):={h with
 next:=by show nx≤24;omega
 oZ:=by show 0≤4;omega
 refs:=hr
 word:=hu
 link:=fun e=>by have e:nx=5:=e;omega
 dk:=fun e=>by have e:23≤nx:=e;omega
 il:=fun e e'=>by have e:6≤nx:=e;omega
 lB:=fun e=>by have e:nx=8∨nx=9:=e;omega
 mc:=fun e=>by have e:nx=10∨nx=11:=e;omega
 ph:=fun e e'=>by have e:14≤nx:=e;omega
 free:=fun e=>by have e:nx=15:=e;omega
 there:=fun e=>by have e:nx=18∨nx=21:=e;omega
 out:=fun e=>by have e:nx=24:=e;omega}
theorem br.II (h:br n np s)(hx:s.next=0∨s.next=4){u:Nat}(hu:u<18446744073709551616)(hr:mA np u):br n np {s with first:=u}:={h with
 tk:=hr
 first:=hu
 link:=fun e=>by have e:s.next=5:=e;omega
 il:=fun e e'=>by have e:6≤s.next:=e;omega}
theorem br.to (h:br n np s){nx:Nat}(hx:nx=0∨nx=2∨nx=4∨nx=13∨nx=19∨nx=20∨nx=22):br n np {s with next:=nx}:={h with
 next:=by show nx≤24;omega
 link:=fun e=>by have e:nx=5:=e;omega
 dk:=fun e=>by have e:23≤nx:=e;omega
 il:=fun e e'=>by have e:6≤nx:=e;have e':nx≤12:=e';omega
 lB:=fun e=>by have e:nx=8∨nx=9:=e;omega
 mc:=fun e=>by have e:nx=10∨nx=11:=e;omega
 ph:=fun e e'=>by have e:14≤nx:=e;have e':nx≤18:=e';omega
 free:=fun e=>by have e:nx=15:=e;omega
 there:=fun e=>by have e:nx=18∨nx=21:=e;omega
 out:=fun e=>by have e:nx=24:=e;omega}
theorem VK (h:br n np s)(hp:cy np pl)(hx:s.next=1∨s.next=3)(J0:s.at_<4→0≤bV s.word s.at_):br n np (lb pl s).1∧(lb pl s).1.next=s.next∧(lb pl s).1.first=s.first∧(lb pl s).1.kind=s.kind∧(lb pl s).1.id=s.id:=by
 unfold lb
 split
 ·exact⟨h,rfl,rfl,rfl,rfl⟩
 rename_i h4
 have uq:=h.oZ
 have hw:=bH.KV (hp.w (2*(bV s.word s.at_).toNat))
 have yH:=hp.tr (bV s.word s.at_).toNat
 dsimp only
 split
 ·split
  ·exact⟨{h with seen:=hw,BU:=yH},rfl,rfl,rfl,rfl⟩
  ·exact⟨{h with seen:=hw,BU:=yH,oZ:=by show s.at_+1≤4;omega},rfl,rfl,rfl,rfl⟩
 ·split
  ·refine⟨{h with vu:=fun e=>(by cases e),IV:= ?_,xR:=h.refs _ (by omega),aP:=h.seen,xS:=h.BU,uC:=fun _ _ _=>J0 (by omega),vS:=fun _ _=>J0 (by omega)},rfl,rfl,rfl,rfl⟩
   show-1≤bV s.word s.at_
   unfold bV;omega
  ·exact⟨{h with oZ:=by show s.at_+1≤4;omega},rfl,rfl,rfl,rfl⟩
theorem Kt (h:br n np s)(hp:cy np pl)(hx:s.next=1∨s.next=3):br n np (fv pl s).1∧(fv pl s).1.next=s.next∧(fv pl s).1.first=s.first∧(fv pl s).1.kind=s.kind∧(fv pl s).1.id=s.id:=by
 have eK:=FU (word:=s.word) (id:=s.id) 4 s.at_ (by omega)
 have hle:=FT s.word s.id 4 s.at_ h.oZ
 exact VK (s:={s with at_:=iY s.word s.id 4 s.at_}) (pl:=pl) {h with oZ:=hle} hp hx (fun e=>by
  show 0≤bV s.word (iY s.word s.id 4 s.at_)
  have e:iY s.word s.id 4 s.at_<4:=e
  omega)
theorem XT {H:Nat→List Nat}{K:Nat}(hc:dT n np cs)(hp:cy np pl)(hh:eT n cs H K)(hK:K<65000)(h:br n np s)(h5:s.next≤5):di n np K H (iX cs pl s):=by
 unfold iX
 have yF:=hc.w s.a
 have UC:=hc.w s.b
 have A5:=hc.refs s.a h.a
 have Ui:=hc.refs s.b h.b
 split
 ·rename_i e
  exact di.same hc hh ((h.II (.inl e) yF A5).through yF A5 (.inl rfl)) (fun e=>by have e:12≤1:=e;omega)
 split
 ·rename_i e
  obtain⟨g1,g2,g3,g4,g5⟩:=Kt (pl:=pl) h hp (.inl e)
  refine di.same hc hh ?_ ?_
  ·split
   ·exact g1.to (.inr (.inl rfl))
   ·exact g1
  ·split
   ·intro e;have e:12≤2:=e;omega
   ·rw[g2];omega
 split
 ·exact di.same hc hh (h.through UC Ui (.inr rfl)) (fun e=>by have e:12≤3:=e;omega)
 split
 ·rename_i e
  obtain⟨g1,g2,g3,g4,g5⟩:=Kt (pl:=pl) h hp (.inr e)
  refine di.same hc hh ?_ ?_
  ·split
   ·unfold p9
    split
    ·exact g1.to (.inr (.inr (.inl rfl)))
    rename_i hk
    have hid:=g1.Bh hk
    split
    ·rename_i hf
     exact {g1 with
      next:=by show 6≤24;omega
      link:=fun e=>by have e:6=5:=e;omega
      dk:=fun e=>by have e:23≤6:=e;omega
      il:=fun _ _=>hf
      lB:=fun e=>by have e:6=8∨6=9:=e;omega
      mc:=fun e=>by have e:6=10∨6=11:=e;omega
      ph:=fun e e'=>by have e:14≤6:=e;omega
      free:=fun e=>by have e:6=15:=e;omega
      there:=fun e=>by have e:6=18∨6=21:=e;omega
      out:=fun e=>by have e:6=24:=e;omega}
    ·rename_i hf
     exact {g1 with
      next:=by show 5≤24;omega
      link:=fun _=>⟨hk,by simpa using hf⟩
      dk:=fun e=>by have e:23≤5:=e;omega
      il:=fun e _=>by have e:6≤5:=e;omega
      lB:=fun e=>by have e:5=8∨5=9:=e;omega
      mc:=fun e=>by have e:5=10∨5=11:=e;omega
      ph:=fun e e'=>by have e:14≤5:=e;omega
      free:=fun e=>by have e:5=15:=e;omega
      there:=fun e=>by have e:5=18∨5=21:=e;omega
      out:=fun e=>by have e:5=24:=e;omega}
   ·exact g1
  ·split
   ·have hb:p9 (fv pl s).1≤6:=by
     unfold p9
     split
     ·omega
     ·split<;>omega
    intro e
    have e:12≤p9 (fv pl s).1:=e
    omega
   ·rw[g2];omega
 split
 ·rename_i e
  refine di.same hc hh ?_ ?_
  ·split
   ·exact h.finish 7 (fun _=>by decide) (by decide)
   ·exact(h.II (.inr e) yF A5).through yF A5 (.inl rfl)
  ·split
   ·intro e';have e':12≤s.next:=e';omega
   ·intro e';have e':12≤1:=e';omega
 ·have e5:s.next=5:=by omega
  obtain⟨lk,l2⟩:=h.link e5
  have l1:=h.Bh lk
  split
  ·rename_i e
   obtain⟨i,_,_,_,hv⟩:=Gg (id:=s.id) h.first l2 l1 (by have:=h.v8;have:=hc.j7;omega)
   exact⟨⟨_,tH n H s.a (ll s.first s.id),hh.set hc.len h.a (by rw[e];exact hv) hK,fun e=>by have e:12≤0:=e;omega⟩,hc.set h.a (MD _ _) (LB h.first h.tk l2 l1 h.v8 hc.j7),(h.to (nx:=0) (.inl rfl)).IH lk⟩
  ·exact di.same hc hh (h.to (.inl rfl)) (fun e=>by have e:12≤0:=e;omega)
theorem K9 (pl:List Nat)(id:Int)(bk:Nat)(h2:2≤n):j8 pl n id bk<n:=by
 unfold j8
 split
 ·exact(B2 h2).2.1
 ·exact(B2 h2).1
theorem br.jM (h:br n np s){v x:Nat}(hv:v<4)(hx:x<n):br n np (s.jM v x):=by
 rcases four hv with rfl|rfl|rfl|rfl
 all_goals refine {h with dw:=fun i hi=> ?_}
 all_goals rcases four hi with rfl|rfl|rfl|rfl
 all_goals first
  |exact hx
  |exact h.dw 0 (by decide)
  |exact h.dw 1 (by decide)
  |exact h.dw 2 (by decide)
  |exact h.dw 3 (by decide)
theorem br.iM (h:br n np s){v x:Nat}(hv:v<4)(h9:s.next=9)(EC:s.v=v)(hx:x<18446744073709551616)(hr:mA np x):br n np (s.iM v x):=by
 have h1:=h.lB (.inr h9)
 rw[EC]at h1
 rcases four hv with rfl|rfl|rfl|rfl
 all_goals refine {h with eJ:=fun i hi=> ?_,lB:=fun _ i hi h4=> ?_,mc:=fun e=>(by have e:s.next=10∨s.next=11:=e;omega)}
 all_goals try have hi:i<s.v:=hi
 all_goals rcases four (by assumption:i<4)with rfl|rfl|rfl|rfl
 all_goals first
  |omega
  |exact⟨hx,hr⟩
  |exact h.eJ 0 (by decide)
  |exact h.eJ 1 (by decide)
  |exact h.eJ 2 (by decide)
  |exact h.eJ 3 (by decide)
  |exact h1 0 (by omega) (by decide)
  |exact h1 1 (by omega) (by decide)
  |exact h1 2 (by omega) (by decide)
theorem br.qi (h:br n np s){v u nx:Nat}(h7:7≤nx)(Tb:nx≤11)(hv:v<4)(hu:u<4)(hf:dt s.first=true)(f1:nx=8∨nx=9→∀i,i<v→i<4→dt (s.eJ i)=true)(f2:nx=10∨nx=11→∀i,i<4→dt (s.eJ i)=true):
  br n np {s with v:=v,u:=u,next:=nx}:={h with
 next:=by show nx≤24;omega
 link:=fun e=>by have e:nx=5:=e;omega
 dk:=fun e=>by have e:23≤nx:=e;omega
 il:=fun _ _=>hf
 vu:=fun _=>⟨hv,hu⟩
 lB:=f1
 mc:=f2
 ph:=fun e e'=>by have e:14≤nx:=e;omega
 free:=fun e=>by have e:nx=15:=e;omega
 there:=fun e=>by have e:nx=18∨nx=21:=e;omega
 out:=fun e=>by have e:nx=24:=e;omega}
theorem br.mO (h:br n np s){id:Int}{fr to u:Nat}(hf:dt s.first=true)(h0:0≤id)(h1:id<(np:Int))(eh:fr<n)(jI:to<n)(hu:u<18446744073709551616):br n np (mO s id fr to u):={h with
 next:=by show 12≤24;omega
 link:=fun e=>by have e:12=5:=e;omega
 dk:=fun e=>by have e:23≤12:=e;omega
 il:=fun _ _=>hf
 m:=⟨by show 1≤3;decide,by show id.toNat<np;omega,eh,jI,by show u/281474976710656<65536;omega,(KF h.still).2⟩
 lB:=fun e=>by have e:12=8∨12=9:=e;omega
 mc:=fun e=>by have e:12=10∨12=11:=e;omega
 ph:=fun e e'=>by have e:14≤12:=e;omega
 free:=fun e=>by have e:12=15:=e;omega
 there:=fun e=>by have e:12=18∨12=21:=e;omega
 out:=fun e=>by have e:12=24:=e;omega}
theorem Rj {H:Nat→List Nat}{K:Nat}(hc:dT n np cs)(hh:eT n cs H K)(h:br n np s)(hd:s.done=false)(ht:ib H s)(e:s.next=6):di n np K H (cs,{s with still:=cs.getD n 0,m:=gh (cs.getD n 0),next:=if(gh (cs.getD n 0)).phase≠0 then 13 else 7}):=by
 have hf:=h.il (by omega) (by omega)
 have cE:=jT.1 hf
 obtain⟨hv,hu⟩:=h.vu hd
 have gV:=hc.w n
 refine di.same hc hh ?_ ?_
 ·split
  ·exact(show br n np {s with still:=cs.getD n 0,m:=gh (cs.getD n 0)}from {h with still:=gV,m:=hc.Ff,ph:=fun e e'=>(by have e:14≤s.next:=e;omega),there:=fun e=>(by have e:s.next=18∨s.next=21:=e;omega)}).to (.inr (.inr (.inr (.inl rfl))))
  ·exact(show br n np {s with still:=cs.getD n 0,m:=gh (cs.getD n 0)}from {h with still:=gV,m:=hc.Ff,ph:=fun e e'=>(by have e:14≤s.next:=e;omega),there:=fun e=>(by have e:s.next=18∨s.next=21:=e;omega)}).qi (v:=s.v) (u:=s.u) (by decide) (by decide) hv hu hf (fun e=>by omega) (fun e=>by omega)
 ·split
  ·rename_i hp
   exact fun _ _=>hh.mv hp
  ·intro e;have e:12≤7:=e;omega
theorem Rk {H:Nat→List Nat}{K:Nat}(hc:dT n np cs)(hh:eT n cs H K)(h:br n np s)(hd:s.done=false)(ht:ib H s)(e:s.next=7):di n np K H (cs,{s with v:=0,u:=0,next:=if cs.getD s.a 0≠s.first then 0 else 8}):=by
 have hf:=h.il (by omega) (by omega)
 have cE:=jT.1 hf
 obtain⟨hv,hu⟩:=h.vu hd
 have gV:=hc.w n
 refine di.same hc hh ?_ ?_
 ·split
  ·exact(show br n np {s with v:=0,u:=0}from {h with vu:=fun _=>⟨(by show 0<4;decide),(by show 0<4;decide)⟩,lB:=fun _ i hi=>(by have hi:i<0:=hi;omega)}).to (.inl rfl)
  ·exact h.qi (v:=0) (u:=0) (by decide) (by decide) (by decide) (by decide) hf (fun _ i hi=>by omega) (fun e=>by omega)
 ·split
  ·intro e;have e:12≤0:=e;omega
  ·intro e;have e:12≤8:=e;omega
theorem Rl {H:Nat→List Nat}{K:Nat}(hc:dT n np cs)(hh:eT n cs H K)(h:br n np s)(hd:s.done=false)(ht:ib H s)(e:s.next=8):di n np K H (cs,{s.jM s.v (j8 pl n (bV s.first s.v) s.a)with next:=9}):=by
 have hf:=h.il (by omega) (by omega)
 have cE:=jT.1 hf
 obtain⟨hv,hu⟩:=h.vu hd
 have gV:=hc.w n
 have g:=h.jM (x:=j8 pl n (bV s.first s.v) s.a) hv (K9 pl _ _ hc.n1)
 obtain⟨q1,q2,q3,q4⟩:=R3 s hv (j8 pl n (bV s.first s.v) s.a)
 have nL:dt (s.jM s.v (j8 pl n (bV s.first s.v) s.a)).first=true:=by rw[q1.first];exact hf
 have g2:=g.qi (v:=(s.jM s.v (j8 pl n (bV s.first s.v) s.a)).v) (u:=(s.jM s.v (j8 pl n (bV s.first s.v) s.a)).u) (nx:=9) (by decide) (by decide) (by rw[q3];exact hv) (by rw[q4];exact hu) nL (fun _ i hi h4=>by
  rw[SG hv];exact h.lB (.inl e) i (by rw[←q3];exact hi) h4) (fun e=>by omega)
 exact di.same hc hh g2 (fun e=>by have e:12≤9:=e;omega)
theorem Rm {H : Nat → List Nat} {K : Nat} (hc : dT n np cs) (hh : eT n cs H K) (h : br n np s) (hd : s.done = false) (ht : ib H s) (e : s.next = 9) : di n np K H (cs, if dt (cs.getD (s.dw s.v) 0) = false then mO (s.iM s.v (cs.getD (s.dw s.v) 0)) (bV s.first s.v) s.a (s.dw s.v) (cs.getD (s.dw s.v) 0)
      else { s.iM s.v (cs.getD (s.dw s.v) 0) with v := if s.v + 1 = 4 then 0 else s.v + 1, next := if s.v + 1 = 4 then 10 else 8 }) := by
  have hf := h.il (by omega) (by omega)
  have cE := jT.1 hf
  obtain ⟨hv, hu⟩ := h.vu hd
  have gV := hc.w n
  have ky := h.dw s.v hv
  have jq := hc.w (s.dw s.v)
  have Tw := hc.refs _ ky
  have g := h.iM (x := cs.getD (s.dw s.v) 0) hv e rfl jq Tw
  obtain ⟨q1, q2, q3, q4⟩ := R2 s hv (cs.getD (s.dw s.v) 0)
  have nL : dt (s.iM s.v (cs.getD (s.dw s.v) 0)).first = true := by rw [q1.first]; exact hf
  split
  · rename_i hr
    refine di.same hc hh (g.mO nL (cE _ hv) (h.tk _ hv) h.a ky jq) (fun _ _ => hh.now ky hr)
  · rename_i hr
    have hr : dt (cs.getD (s.dw s.v) 0) = true := by simpa using hr
    have pk : ∀ i, i < s.v + 1 → i < 4 → dt ((s.iM s.v (cs.getD (s.dw s.v) 0)).eJ i) = true := fun i hi h4 => by
      rw [SH hv h4]
      split
      · exact hr
      · exact h.lB (.inr e) i (by omega) h4
    by_cases e4 : s.v + 1 = 4
    · simp only [e4, if_true]
      exact di.same hc hh (g.qi (v := 0) (u := (s.iM s.v (cs.getD (s.dw s.v) 0)).u) (nx := 10) (by decide) (by decide) (by decide) (by rw [q4]; exact hu) nL (fun e => by omega) (fun _ i hi => pk i (by omega) hi)) (fun e => by have e : 12 ≤ 10 := e; omega)
    · simp only [if_neg e4]
      exact di.same hc hh (g.qi (v := s.v + 1) (u := (s.iM s.v (cs.getD (s.dw s.v) 0)).u) (nx := 8) (by decide) (by decide) (by omega) (by rw [q4]; exact hu) nL (fun _ i hi h4 => pk i hi h4) (fun e => by omega)) (fun e => by have e : 12 ≤ 8 := e; omega)
theorem br.Sa (h:br n np s){x:Nat}(hx:x<n)(hv:s.v<4)(hu:s.u<4)(hf:dt s.first=true)(f2:∀i,i<4→dt (s.eJ i)=true):br n np {s with cC:=x,next:=11}:=
 (show br n np {s with cC:=x}from {h with cC:=hx}).qi (v:=s.v) (u:=s.u) (nx:=11) (by decide) (by decide) hv hu hf (fun e=>by omega) (fun _=>f2)
theorem Rg {H:Nat→List Nat}{K:Nat}(hc:dT n np cs)(hh:eT n cs H K)(h:br n np s)(hd:s.done=false)(e:s.next=10){x:Nat}(hx:x<n):di n np K H (cs,{s with cC:=x,next:=11}):=by
 obtain⟨hv,hu⟩:=h.vu hd
 exact di.same hc hh (h.Sa hx hv hu (h.il (by omega) (by omega)) (h.mc (.inl e))) (fun e=>by have e:12≤11:=e;omega)
theorem Rh {H : Nat → List Nat} {K : Nat} (hc : dT n np cs) (hh : eT n cs H K) (h : br n np s) (hd : s.done = false) (ht : ib H s) (e : s.next = 11) : di n np K H (cs, if dt (cs.getD s.cC 0) = false then mO s (bV (s.eJ s.v) s.u) (s.dw s.v) s.cC (cs.getD s.cC 0)
      else if s.u + 1 = 4 then (if s.v + 1 = 4 then jS { s with v := 4, u := 0, next := 10 } 9 else { s with v := s.v + 1, u := 0, next := 10 })
      else { s with u := s.u + 1, next := 10 }) := by
  have hf := h.il (by omega) (by omega)
  have cE := jT.1 hf
  obtain ⟨hv, hu⟩ := h.vu hd
  have gV := hc.w n
  have f2 := h.mc (.inr e)
  have ky := h.dw s.v hv
  split
  · rename_i hr
    exact di.same hc hh (h.mO hf (jT.1 (f2 _ hv) _ hu) ((h.eJ _ hv).2 _ hu) ky h.cC (hc.w _)) (fun _ _ => hh.now h.cC hr)
  · split
    · split
      · refine di.same hc hh ?_ (fun e => by have e : 12 ≤ 10 := e; omega)
        have g : br n np { s with next := 10 } := h.qi (v := s.v) (u := s.u) (nx := 10) (by decide) (by decide) hv hu hf (fun e => by omega) (fun _ => f2)
        exact { g with
          vu := fun e => (by cases e)
          uC := fun _ _ e1 => (by have e1 : 9 = 0 := e1; omega)
          vS := fun _ e1 => (by have e1 : 9 = 10 := e1; omega)
          lB := fun e => (by have e : 10 = 8 ∨ 10 = 9 := e; omega) }
      · exact di.same hc hh (h.qi (v := s.v + 1) (u := 0) (nx := 10) (by decide) (by decide) (by omega) (by decide) hf (fun e => by omega) (fun _ => f2)) (fun e => by have e : 12 ≤ 10 := e; omega)
    · exact di.same hc hh (h.qi (v := s.v) (u := s.u + 1) (nx := 10) (by decide) (by decide) hv (by omega) hf (fun e => by omega) (fun _ => f2)) (fun e => by have e : 12 ≤ 10 := e; omega)
theorem Ri {H:Nat→List Nat}{K:Nat}(hc:dT n np cs)(hh:eT n cs H K)(h:br n np s)(hd:s.done=false)(ht:ib H s)(e:s.next=12):di n np K H (if cs.getD n 0=s.still then(cs.set n (lJ s.m),{s with next:=13})else(cs,{s with next:=6})):=by
 have hf:=h.il (by omega) (by omega)
 have cE:=jT.1 hf
 obtain⟨hv,hu⟩:=h.vu hd
 have gV:=hc.w n
 have hr:=ht (by omega) (by omega)
 split
 ·have qx:sD s.m:=⟨h.m.phase,by have:=h.m.id;have:=hc.j7;omega,by have:=h.m.fr;have:=hc.n2;omega,by have:=h.m.to;have:=hc.n2;omega,h.m.version⟩
  refine⟨⟨H,dh.refl n H,(hh.cell hc.len (fun _=>by rw[By qx h.m.av];exact hr)).more (by omega),fun _ _=>hr⟩,hc.cell h.m,h.to (.inr (.inr (.inr (.inl rfl))))⟩
 ·have g:br n np {s with next:=7}:=h.qi (v:=s.v) (u:=s.u) (nx:=7) (by decide) (by decide) hv hu hf (fun e=>by omega) (fun e=>by omega)
  exact di.same hc hh {g with
   next:=by show 6≤24;omega
   link:=fun e=>by have e:6=5:=e;omega
   dk:=fun e=>by have e:23≤6:=e;omega
   il:=fun _ _=>hf
   lB:=fun e=>by have e:6=8∨6=9:=e;omega
   mc:=fun e=>by have e:6=10∨6=11:=e;omega
   ph:=fun e e'=>by have e:14≤6:=e;omega
   free:=fun e=>by have e:6=15:=e;omega
   there:=fun e=>by have e:6=18∨6=21:=e;omega
   out:=fun e=>by have e:6=24:=e;omega} (fun e=>by have e:12≤6:=e;omega)
theorem Rn {H:Nat→List Nat}{K:Nat}(hc:dT n np cs)(hh:eT n cs H K)(h:br n np s)(hd:s.done=false)(ht:ib H s)(h6:6≤s.next)(Az:s.next≤12):di n np K H (cu pl n cs s):=by
 unfold cu
 split
 ·exact Rj hc hh h hd ht (by assumption)
 split
 ·exact Rk hc hh h hd ht (by assumption)
 split
 ·exact Rl hc hh h hd ht (by assumption)
 split
 ·exact Rm hc hh h hd ht (by assumption)
 split
 ·exact Rg hc hh h hd (by assumption) (K9 pl _ _ hc.n1)
 split
 ·exact Rh hc hh h hd ht (by assumption)
 ·exact Ri hc hh h hd ht (by omega)
theorem br.qt (h:br n np s){w nx:Nat}(hw:w<18446744073709551616)(hr:mA np w)(sU:13≤nx)(AA:nx≤22)(hp:14≤nx→nx≤18→s.m.phase<3)(hf:nx=15→dt w=false)(ht:nx=18∨nx=21→0≤fj w (s.m.id:Int)):
  br n np {s with word:=w,next:=nx}:={h with
 next:=by show nx≤24;omega
 refs:=hr
 word:=hw
 link:=fun e=>by have e:nx=5:=e;omega
 dk:=fun e=>by have e:23≤nx:=e;omega
 il:=fun e e'=>by have e':nx≤12:=e';omega
 lB:=fun e=>by have e:nx=8∨nx=9:=e;omega
 mc:=fun e=>by have e:nx=10∨nx=11:=e;omega
 ph:=hp
 free:=hf
 there:=ht
 out:=fun e=>by have e:nx=24:=e;omega}
theorem TG {H:Nat→List Nat}{K:Nat}(hc:dT n np cs)(hh:eT n cs H K)(hK:K<65000)(h:br n np s)(ht:ib H s)(sU:13≤s.next)(AA:s.next≤22):di n np K H (gS pl n cs s):=by
 have hr:=ht (by omega) AA
 have hm:=h.m
 have jI:=hc.w s.m.to
 have yA:=hc.refs _ hm.to
 have eh:=hc.w s.m.fr
 have JY:=hc.refs _ hm.fr
 have qx:sD s.m:=⟨hm.phase,by have:=hm.id;have:=hc.j7;omega,by have:=hm.fr;have:=hc.n2;omega,by have:=hm.to;have:=hc.n2;omega,hm.version⟩
 unfold gS
 split
 ·rename_i e
  unfold IA
  split
  ·exact di.same hc hh (h.to (.inl rfl)) (fun e=>by have e:12≤0:=e;omega)
  ·rename_i gK
   have AZ:(gh (cs.getD n 0)).phase≤3:=hc.Ff.phase
   have Eb:qU n np {s.m with phase:=(gh (cs.getD n 0)).phase}:=⟨AZ,hm.id,hm.fr,hm.to,hm.version,hm.av⟩
   have g:br n np {s with m:={s.m with phase:=(gh (cs.getD n 0)).phase}}:={h with m:=Eb,ph:=fun e e'=>(by have e:14≤s.next:=e;omega),there:=fun e=>(by have e:s.next=18∨s.next=21:=e;omega)}
   refine di.same hc hh ?_ (fun _ _=>hr)
   split
   ·rename_i e1
    exact g.qt (w:=s.word) (nx:=14) h.word h.refs (by decide) (by decide) (fun _ _=>by show(gh (cs.getD n 0)).phase<3;omega) (fun e=>by omega) (fun e=>by omega)
   split
   ·rename_i e1
    exact g.qt (w:=s.word) (nx:=17) h.word h.refs (by decide) (by decide) (fun _ _=>by show(gh (cs.getD n 0)).phase<3;omega) (fun e=>by omega) (fun e=>by omega)
   ·exact g.qt (w:=s.word) (nx:=19) h.word h.refs (by decide) (by decide) (fun _ _=>by omega) (fun e=>by omega) (fun e=>by omega)
 split
 ·rename_i e
  have hp:=h.ph (by omega) (by omega)
  refine di.same hc hh ?_ (fun _ _=>hr)
  split
  ·exact h.qt (nx:=16) jI yA (by decide) (by decide) (fun _ _=>hp) (fun e=>by omega) (fun e=>by omega)
  split
  ·rename_i hv
   exact h.qt (nx:=15) jI yA (by decide) (by decide) (fun _ _=>hp) (fun _=>hh.room hr hm.to hv) (fun e=>by omega)
  ·exact h.qt (nx:=22) jI yA (by decide) (by decide) (fun _ _=>hp) (fun e=>by omega) (fun e=>by omega)
 split
 ·rename_i e
  have hp:=h.ph (by omega) (by omega)
  refine di.same hc hh ?_ (fun _ _=>hr)
  unfold B5
  split
  ·rename_i hw
   exact h.qt (nx:=18) eh JY (by decide) (by decide) (fun _ _=>hp) (fun e=>by omega) (fun _=>hw)
  ·exact h.qt (nx:=16) eh JY (by decide) (by decide) (fun _ _=>hp) (fun e=>by omega) (fun e=>by omega)
 split
 ·refine di.same hc hh ?_ (fun _ _=>hr)
  split
  ·exact h.to (.inr (.inr (.inr (.inr (.inr (.inr rfl))))))
  ·exact h.to (.inr (.inr (.inr (.inr (.inr (.inl rfl))))))
 split
 ·refine di.same hc hh ?_ (fun _ _=>hr)
  unfold B5
  split
  ·rename_i hw
   exact h.qt (nx:=21) jI yA (by decide) (by decide) (fun _ _=>by omega) (fun e=>by omega) (fun _=>hw)
  ·exact h.qt (nx:=22) jI yA (by decide) (by decide) (fun _ _=>by omega) (fun e=>by omega) (fun e=>by omega)
 ·have g13:=h.to (nx:=13) (.inr (.inr (.inr (.inl rfl))))
  unfold xB
  split
  ·rename_i e
   have hf:=h.free e
   split
   ·rename_i eu
    obtain⟨i,_,_,_,hv⟩:=Gg (id:=(s.m.id:Int)) h.word hf (by omega) (by have:=hm.id;have:=hc.j7;omega)
    exact⟨⟨_,tH n H s.m.to _,hh.set hc.len hm.to (by rw[eu];exact hv) hK,fun _ _=>hr.ext (tH n H s.m.to _) hm.to⟩,hc.set hm.to (MD _ _) (LB h.word h.refs hf (by omega) (by have:=hm.id;omega) hc.j7),g13⟩
   ·exact di.same hc hh g13 (fun _ _=>hr)
  split
  ·rename_i e
   have hw:=h.there (.inl e)
   split
   ·rename_i eu
    obtain⟨i,_,_,_,hv⟩:=Ci h.word hw
    exact⟨⟨_,tH n H s.m.fr _,hh.set hc.len hm.fr (by rw[eu];exact hv) hK,fun _ _=>hr.ext (tH n H s.m.fr _) hm.to⟩,hc.set hm.fr (Gi _ _) (FI h.word h.refs hw),g13⟩
   ·exact di.same hc hh g13 (fun _ _=>hr)
  split
  ·rename_i e
   have hw:=h.there (.inr e)
   split
   ·rename_i eu
    obtain⟨i,_,_,_,hv⟩:=Ci h.word hw
    exact⟨⟨_,tH n H s.m.to _,hh.set hc.len hm.to (by rw[eu];exact hv) hK,fun _ _=>hr.ext (tH n H s.m.to _) hm.to⟩,hc.set hm.to (Gi _ _) (FI h.word h.refs hw),g13⟩
   ·exact di.same hc hh g13 (fun _ _=>hr)
  split
  ·rename_i e
   have hp:=h.ph (by omega) (by omega)
   split
   ·have uF:qU n np {s.m with phase:=s.m.phase+1}:=⟨by show s.m.phase+1≤3;omega,hm.id,hm.fr,hm.to,hm.version,hm.av⟩
    have Eh:sD {s.m with phase:=s.m.phase+1}:=⟨by show s.m.phase+1≤3;omega,qx.id,qx.fr,qx.to,qx.version⟩
    exact⟨⟨H,dh.refl n H,(hh.cell hc.len (fun _=>by rw[By Eh hm.av];exact hr)).more (by omega),fun _ _=>hr⟩,hc.cell uF,g13⟩
   ·exact di.same hc hh g13 (fun _ _=>hr)
  ·split
   ·have cU:=hc.Ws
    have mX:=hc.n1
    have uF:qU n np ⟨0,0,0,0,0,(s.m.av+1)%16384⟩:=⟨by show 0≤3;decide,by show 0<np;omega,by show 0<n;omega,by show 0<n;omega,by show 0<65536;decide,Nat.mod_lt _ (by decide)⟩
    have em:lJ ⟨0,0,0,0,0,s.m.av+1⟩=lJ ⟨0,0,0,0,0,(s.m.av+1)%16384⟩:=V7 _
    rw[em]
    have Eh:sD ⟨0,0,0,0,0,(s.m.av+1)%16384⟩:=⟨by show 0≤3;decide,by show 0<4096;decide,by show 0<1024;decide,by show 0<1024;decide,by show 0<65536;decide⟩
    exact⟨⟨H,dh.refl n H,(hh.cell hc.len (fun e=>by rw[By Eh uF.av]at e;exact absurd rfl e)).more (by omega),fun e=>by have e:12≤0:=e;omega⟩,hc.cell uF,h.to (.inl rfl)⟩
   ·exact di.same hc hh g13 (fun _ _=>hr)
theorem br.Df (h:br n np s){w nx:Nat}(hw:w<18446744073709551616)(hr:mA np w)(hk:s.kind≠0)(hx:nx=23∨nx=24)(ho:nx=24→0≤fj w s.id):br n np {s with word:=w,next:=nx}:={h with
 next:=by show nx≤24;omega
 refs:=hr
 word:=hw
 link:=fun e=>by have e:nx=5:=e;omega
 dk:=fun _=>hk
 il:=fun e e'=>by have e':nx≤12:=e';omega
 lB:=fun e=>by have e:nx=8∨nx=9:=e;omega
 mc:=fun e=>by have e:nx=10∨nx=11:=e;omega
 ph:=fun e e'=>by have e':nx≤18:=e';omega
 free:=fun e=>by have e:nx=15:=e;omega
 there:=fun e=>by have e:nx=18∨nx=21:=e;omega
 out:=ho}
theorem br.over (h:br n np s)(hk:s.kind≠0):br n np (tg s):=by
 unfold tg
 split
 ·have g:=h.IH hk
  exact {g with}
 ·exact {h with}
theorem Lc (s:aT):(tg s).next=s.next:=by unfold tg;split<;>rfl
theorem QK (h:br n np s):qa s<n:=by
 unfold qa
 split
 ·exact h.b
 ·exact h.a
theorem RC {H:Nat→List Nat}{K:Nat}(hc:dT n np cs)(hh:eT n cs H K)(hK:K<65000)(h:br n np s)(uo:23≤s.next):di n np K H (rk cs s):=by
 have hk:=h.dk uo
 have hb:=QK h
 have AG:=hc.w (qa s)
 have Jh:=hc.refs _ hb
 unfold rk
 split
 ·rename_i e
  have hw:=h.out e
  have g:=h.Df (nx:=23) h.word h.refs hk (.inl rfl) (fun e=>by omega)
  split
  ·rename_i eu
   obtain⟨i,_,_,_,hv⟩:=Ci h.word hw
   refine⟨⟨_,tH n H (qa s) _,hh.set hc.len hb (by rw[eu];exact hv) hK,fun e e'=> ?_⟩,hc.set hb (Gi _ _) (FI h.word h.refs hw),br.over g hk⟩
   rw[Lc]at e'
   have e':23≤22:=e'
   omega
  ·exact di.same hc hh g (fun _ e'=>by have e':23≤22:=e';omega)
 split
 ·rename_i hw
  exact di.same hc hh (h.Df (nx:=24) AG Jh hk (.inr rfl) (fun _=>hw.1)) (fun _ e'=>by have e':24≤22:=e';omega)
 ·have hx:s.next=23:=by have:=h.next;omega
  have g:=h.Df (w:=cs.getD (qa s) 0) (nx:=s.next) AG Jh hk (.inl hx) (fun e=>by omega)
  refine di.same hc hh (br.over g hk) (fun e e'=> ?_)
  rw[Lc]at e'
  have e':s.next≤22:=e'
  omega
theorem B6 {H:Nat→List Nat}{K:Nat}(hc:dT n np cs)(hp:cy np pl)(hh:eT n cs H K)(hK:K<65000)(h:br n np s)(ht:ib H s):di n np K H (bO pl n cs s):=by
 unfold bO
 split
 ·exact di.same hc hh h ht
 rename_i hd
 have hd:s.done=false:=by simpa using hd
 split
 ·exact RC hc hh hK h (by assumption)
 split
 ·exact TG hc hh hK h ht (by assumption) (by omega)
 split
 ·exact Rn hc hh h hd ht (by assumption) (by omega)
 ·exact XT hc hp hh hK h (by omega)
end
end
section
open Go.RowKit
set_option maxRecDepth 10000
attribute [local irreducible] EK EX ER EN EL ES EG an aR aU
def cB (p:Option Addr)(ws:List Nat):SL:=SL.ex fun g:Option Addr=>Obj p 217 [.slice g ws.length ws.length,.int .u32 0,.int .i32 0,.int .u32 0]*ad 270 1 g ws.length ws.length (ba .u64 ws)
abbrev so (p g:Option Addr)(ws:List Nat)(F:SL):SL:=Obj p 217 [.slice g ws.length ws.length,.int .u32 0,.int .i32 0,.int .u32 0]*(ad 270 1 g ws.length ws.length (ba .u64 ws)*F)
variable {W:World} {F:SL} {X:Cx} {k:List KI} {σ:Env}
theorem cB.open {p:Option Addr}{ws:List Nat}(h:∀g,EK X k σ (so p g ws F)):EK X k σ (cB p ws*F):=pR fun g=>by
 have:=h g
 unfold so at this
 rw[SL.bP]
 exact this
theorem cB.shut {p g:Option Addr}{ws:List Nat}:U (so p g ws F) (cB p ws*F):=U.ex g (U.assoc (U.refl _))
instance (priority:=2000)(p:Option Addr)(ws:List Nat)(F:SL):bZ (cB p ws*F) p (cB p ws) F:=⟨rfl⟩
instance (p:Option Addr)(ws:List Nat):lT (cB p ws) p:=⟨fun W w F h=>by
 obtain⟨g,h⟩:=h.jA
 exact(Obj.root p _ _).nn W w _ (h.ac (SL.bP _ _ _))⟩
theorem C5 (p g:Option Addr)(ws:List Nat)(i:Nat)(hi:i<ws.length)(hm:ws.length≤65536):
  Spec Tryz.prog 98 [.pointer p,.int .i64 (i:Int)] W (so p g ws F) (fun _:Unit=> .pointer (el g i 1)) (fun _=>so p g ws F):=by
 refine Spec.of Tryz.func98 rfl Tryz.ntmps98 rfl ?_
 refine aa ?_;intros
 exact ae (aj rfl rfl () rfl fun _ h=>h)
theorem Qa (g:Option Addr)(ws:List Nat)(i:Nat)(hi:i<ws.length){e:Nat}:
  Spec Tryz.prog 100 [.pointer (el g i 1)] W (ad e 1 g ws.length ws.length (ba .u64 ws)*F) (fun _:Unit=> .int .u64 ((ws.getD i 0:Nat):Int)) (fun _=>ad e 1 g ws.length ws.length (ba .u64 ws)*F):=by
 haveI:Pos ws.length:=⟨by omega⟩
 refine Spec.of Tryz.func100 rfl Tryz.ntmps100 rfl ?_
 refine aa ?_;intros
 exact ae (aj rfl rfl () rfl fun _ h=>h)
theorem Qb (g:Option Addr)(ws:List Nat)(i u:Nat)(hi:i<ws.length){e:Nat}:
  Spec Tryz.prog 99 [.pointer (el g i 1),.int .u64 (u:Int)] W (ad e 1 g ws.length ws.length (ba .u64 ws)*F) (fun _:Unit=> .tuple #[]) (fun _=>ad e 1 g ws.length ws.length (ba .u64 (ws.set i u))*F):=by
 haveI:Pos ws.length:=⟨by omega⟩
 refine Spec.of Tryz.func99 rfl Tryz.ntmps99 rfl ?_
 refine aa ?_;intros
 exact aE (aF rfl () rfl fun _ h=>h)
theorem P9 (g:Option Addr)(ws:List Nat)(i u v:Nat)(hi:i<ws.length){e:Nat}:
  Spec Tryz.prog 193 [.pointer (el g i 1),.int .u64 (u:Int),.int .u64 (v:Int)] W (ad e 1 g ws.length ws.length (ba .u64 ws)*F) (fun _:Unit=> .bool (decide (ws.getD i 0=u)))
   (fun _=>ad e 1 g ws.length ws.length (ba .u64 (if ws.getD i 0=u then ws.set i v else ws))*F):=by
 haveI:Pos ws.length:=⟨by omega⟩
 by_cases he:ws.getD i 0=u
 all_goals
  refine Spec.of Tryz.func193 rfl Tryz.ntmps193 rfl ?_
  refine aa ?_;intros
 ·exact ae (aj rfl rfl () (by rw[decide_eq_true he]) (by rw[if_pos he];exact fun _ h=>h))
 ·exact ae (aj rfl rfl () (by rw[decide_eq_false he]) (by rw[if_neg he];exact fun _ h=>h))
theorem fM (p:Option Addr)(ws:List Nat)(i:Nat)(hi:i<ws.length)(hm:ws.length≤65536):
  Spec Tryz.prog 77 [.pointer p,.int .i64 (i:Int)] W (cB p ws*F) (fun _:Unit=> .int .u64 ((ws.getD i 0:Nat):Int)) (fun _=>cB p ws*F):=by
 refine Spec.of Tryz.func77 rfl Tryz.ntmps77 rfl ?_
 refine cB.open fun g=> ?_
 haveI:Pos ws.length:=⟨by omega⟩
 refine aa ?_;intros
 refine af rfl (C5 p g ws i hi hm) ?_
 intro
 refine aa ?_;intros
 refine af rfl (Spec.aL g (Qa g ws i hi)) ?_
 intro
 refine aa ?_;intros
 refine ae (aj rfl rfl () rfl (U.sat (U.trans ?_ (cB.shut (g:=g)))))
 repeat(first|exact U.last|refine U.cons ?_ |refine U.assoc ?_)
theorem zP (p:Option Addr)(ws:List Nat)(i u:Nat)(hi:i<ws.length)(hm:ws.length≤65536):
  Spec Tryz.prog 73 [.pointer p,.int .i64 (i:Int),.int .u64 (u:Int)] W (cB p ws*F) (fun _:Unit=> .tuple #[]) (fun _=>cB p (ws.set i u)*F):=by
 refine Spec.of Tryz.func73 rfl Tryz.ntmps73 rfl ?_
 refine cB.open fun g=> ?_
 haveI:Pos ws.length:=⟨by omega⟩
 refine aa ?_;intros
 refine af rfl (C5 p g ws i hi hm) ?_
 intro
 refine aa ?_;intros
 refine af rfl (Spec.aL g (Qb g ws i u hi)) ?_
 intro
 refine aa ?_;intros
 refine aE (aF rfl () rfl (U.sat (U.trans ?_ (cB.shut (g:=g)))))
 simp only[so,List.length_set]
 repeat(first|exact U.last|refine U.cons ?_ |refine U.assoc ?_)
theorem ns (p:Option Addr)(ws:List Nat)(i u v:Nat)(hi:i<ws.length)(hm:ws.length≤65536):
  Spec Tryz.prog 156 [.pointer p,.int .i64 (i:Int),.int .u64 (u:Int),.int .u64 (v:Int)] W (cB p ws*F) (fun _:Unit=> .bool (decide (ws.getD i 0=u))) (fun _=>cB p (if ws.getD i 0=u then ws.set i v else ws)*F):=by
 refine Spec.of Tryz.func156 rfl Tryz.ntmps156 rfl ?_
 refine cB.open fun g=> ?_
 haveI:Pos ws.length:=⟨by omega⟩
 refine aa ?_;intros
 refine af rfl (C5 p g ws i hi hm) ?_
 intro
 refine aa ?_;intros
 refine af rfl (Spec.aL g (P9 g ws i u v hi)) ?_
 intro
 refine aa ?_;intros
 refine ae (aj rfl rfl () rfl (U.sat (U.trans ?_ (cB.shut (g:=g)))))
 have hl:(if ws.getD i 0=u then ws.set i v else ws).length=ws.length:=by split<;>simp
 simp only[so,hl]
 repeat(first|exact U.last|refine U.cons ?_ |refine U.assoc ?_)
theorem zO (p:Option Addr)(ws:List Nat):
  Spec Tryz.prog 74 [.pointer p] W (cB p ws*F) (fun _:Unit=> .int .i64 (ws.length:Int)) (fun _=>cB p ws*F):=by
 refine Spec.of Tryz.func74 rfl Tryz.ntmps74 rfl ?_
 refine cB.open fun g=> ?_
 refine aa ?_;intros
 refine ae (aj rfl rfl () rfl (U.sat (U.trans ?_ (cB.shut (g:=g)))))
 repeat(first|exact U.last|refine U.cons ?_ |refine U.assoc ?_)
theorem zy (n:Nat)(h1:1≤n)(h2:n≤65536):
  Spec Tryz.prog 71 [.int .i64 (n:Int)] W F (fun p:Option Addr=> .tuple #[.pointer p,.int .i64 0]) (fun p=>cB p (List.replicate n 0)*F):=by
 refine Spec.of Tryz.func71 rfl Tryz.ntmps71 rfl ?_
 refine aa ?_;intros
 rename_i g p
 refine ae (fz rfl rfl rfl p rfl (U.sat (U.trans ?_ (cB.shut (g:=g)))))
 simp only[so,List.length_replicate]
 refine U.cons (U.row g rfl ?_ (U.refl _))
 rw[FJ];simp[ba]
theorem zx (p:Option Addr)(ws:List Nat)(hm:ws.length≤65536):
  Spec Tryz.prog 67 [.pointer p] W (cB p ws*F) (fun q:Option Addr×Nat=> .slice q.1 ws.length q.2) (fun q=>ad 61 1 q.1 ws.length q.2 (ba .u64 ws)*(cB p ws*F)):=by
 refine Spec.of Tryz.func67 rfl Tryz.ntmps67 rfl ?_
 refine aa ?_;intros
 refine af rfl (zO p ws) ?_
 intro
 refine aa ?_;intros
 refine fy (γ:=Option Addr×Nat×Nat) (fun g=>g.2.2≤ws.length) (fun g=>[(0,.pointer p),(3,.slice g.1 g.2.2 g.2.1),(6,.int .i64 (ws.length:Int)),(7,.int .i64 (g.2.2:Int))])
  (fun g=>ad 61 1 g.1 g.2.2 g.2.1 (ba .u64 (ws.take g.2.2))*(cB p ws*F)) (fun g=>ws.length-g.2.2) (none,0,0) (Nat.zero_le _) ⟨rfl,rfl,rfl,rfl,trivial⟩ (U.sat (U.none (U.refl _))) ?_
 intro ⟨q,c,i⟩ hi
 dsimp only at hi ⊢
 refine aa ?_;intros
 refine iB rfl (fun bY=> ?_) (fun mU=> ?_)
 ·refine aa ?_;intros
  refine af rfl (Spec.aL p (fM p ws i (by omega) hm)) ?_
  intro
  refine aa ?_;intros
  rename_i r
  refine cJ (r.1,r.2,i+1) (by dsimp only;omega) (by dsimp only;omega) ⟨rfl,rfl,rfl,rfl,trivial⟩ (U.sat (U.row r.1 rfl ?_ ?_))
  ·rw[BA,tv (by omega)]
  ·repeat(first|exact U.last|refine U.cons ?_ |refine U.assoc ?_)
 ·refine aa ?_;intros
  have e:i=ws.length:=by omega
  subst e
  exact ae (aj rfl rfl (q,c) rfl (U.sat (U.row q rfl (by rw[List.take_length]) (U.refl _))))
end
section
open Go.RowKit
set_option maxRecDepth 10000
attribute [local irreducible] EK EX ER EN EL ES EG an aR aU
variable {W:World} {F:SL} {X:Cx} {k:List KI} {σ:Env}
attribute [local simp] Mh Ax qF
def qM (gs:List (List (Nat×Nat)))(ps:Nat→az)(i:Nat):SL:=ad 266 2 (ps i).1 (gs.getD i []).length (ps i).2 (nX (gs.getD i []))
structure wT where
 c:Option Addr
 g:az
 ps:Nat→az
def tP (p:Option Addr)(ws:List Nat)(gs:List (List (Nat×Nat)))(e:wT):SL:=Obj p 170 [.pointer e.c,.slice e.g.1 gs.length e.g.2]*(cB e.c ws*(ad 264 1 e.g.1 gs.length e.g.2 (mf gs e.ps)*ao (qM gs e.ps) gs.length))
def bB (p:Option Addr)(ws:List Nat)(gs:List (List (Nat×Nat))):SL:=SL.ex (tP p ws gs)
abbrev kN (p:Option Addr)(ws:List Nat)(gs:List (List (Nat×Nat)))(e:wT)(F:SL):SL:=Obj p 170 [.pointer e.c,.slice e.g.1 gs.length e.g.2]*(cB e.c ws*(ad 264 1 e.g.1 gs.length e.g.2 (mf gs e.ps)*(ao (qM gs e.ps) gs.length*F)))
theorem tP.eq (p:Option Addr)(ws:List Nat)(gs:List (List (Nat×Nat)))(e:wT)(F:SL):tP p ws gs e*F=kN p ws gs e F:=by
 unfold tP kN
 simp only[SL.bP]
theorem bB.open {p:Option Addr}{ws:List Nat}{gs:List (List (Nat×Nat))}(h:∀e,EK X k σ (kN p ws gs e F)):EK X k σ (bB p ws gs*F):=pR fun e=>by
 rw[tP.eq];exact h e
theorem bB.shut {p:Option Addr}{ws:List Nat}{gs:List (List (Nat×Nat))}(e:wT){F:SL}:U (kN p ws gs e F) (bB p ws gs*F):=
 U.ex e (by rw[tP.eq];exact U.refl _)
instance (priority:=2000)(p:Option Addr)(ws:List Nat)(gs:List (List (Nat×Nat)))(F:SL):bZ (bB p ws gs*F) p (bB p ws gs) F:=⟨rfl⟩
instance (p:Option Addr)(ws:List Nat)(gs:List (List (Nat×Nat))):lT (bB p ws gs) p:=⟨fun W w F H=>by
 obtain⟨g,H⟩:=H.jA
 rw[tP.eq]at H
 exact(Obj.root p _ _).nn W w _ H⟩
theorem L7 {e sz:Nat}(F:SL):∀n,U F (ao (fun _=>ad e sz none 0 0 []) n*F)
 |0=>by
  show U F (1*F)
  rw[SL.u4 1,SL.pL]
  exact U.refl _
 |n+1=>by
  rw[ao.succ,SL.bP]
  exact U.none (L7 F n)
theorem Bo (p:Option Addr){ws:List Nat}{gs:List (List (Nat×Nat))}{e:wT}{w:Nat}(hw:w<gs.length)(hg:gs.length≤64):Spec Tryz.prog 133 [.pointer p,.int .i64 (w:Int)] W (kN p ws gs e F) (fun _:Unit=> .bool true) (fun _=>kN p ws gs e F):=by
 refine Spec.of Tryz.func133 rfl Tryz.ntmps133 rfl ?_
 simp only[kN]
 refine aa ?_;intros
 exact ae (aj rfl rfl () rfl (U.sat (ab)))
theorem NQ {n:Nat}(h1:1≤n)(h2:n≤64):Spec Tryz.prog 46 [.int .i64 (n:Int)] W F (fun p:Option Addr=> .tuple #[.pointer p,.int .i64 0]) (fun p=>bB p (List.replicate (n+1) 0) (List.replicate n [])*F):=by
 refine Spec.of Tryz.func46 rfl Tryz.ntmps46 rfl ?_
 refine aa ?_;intros
 refine af rfl (zy (n+1) (by omega) (by omega)) ?_
 intro c
 refine aa ?_;intros
 rename_i g p
 refine ae (fz rfl rfl rfl p rfl (U.sat (U.trans ?_ (bB.shut (e:=⟨c,(g,n),fun _=>(none,0)⟩)))))
 have eK:ao (qM (List.replicate n []) fun _=>(none,0)) n=ao (fun _=>ad 266 2 none 0 0 []) n:=ao.congr n fun i hi=>by
  unfold qM
  simp[List.getD_eq_getElem?_getD,hi,nX]
 simp only[kN,List.length_replicate,Ta,eK]
 refine U.cons (U.cons (U.cons ?_))
 exact L7 F n
theorem F3 {gs:List (List (Nat×Nat))}{ps:Nat→az}{w:Nat}(hw:w<gs.length)(F:SL):ao (qM gs ps) gs.length*F=ad 266 2 (ps w).1 (gs.getD w []).length (ps w).2 (nX (gs.getD w []))*(ao (cA (qM gs ps) w) gs.length*F):=by
 rw[ao.at gs.length hw,SL.bP];rfl
end
section
open Go.RowKit
variable {X:Cx} {k:List KI} {σ:Env} {H S:SL} {ops:List Oper} {fuel L:Nat} {listed:Array Bool}
def wQ (X:Cx)(k:List KI)(ops:List Oper)(S:SL)(L fuel:Nat)(listed:Array Bool)(σ:Env)(H:SL):List Nat→Prop
 |[]=>True
 |i::l=>EI X k ops S L fuel listed i σ H∧wQ X k ops S L fuel listed σ H l
theorem wQ.all:∀ {l:List Nat},wQ X k ops S L fuel listed σ H l→∀i∈l,EI X k ops S L fuel listed i σ H
 |[],_,i,hi=>by cases hi
 |j::l,h,i,hi=>by
  rcases List.mem_cons.1 hi with rfl|hi
  ·exact h.1
  ·exact wQ.all h.2 i hi
theorem fm {i:Nat}{l:List Nat}(h:wQ X k ops S L fuel listed σ H (i::l))(hr:Region.ready .any ops.toArray listed=i::l:=by decide+kernel):EG X k ops S L (fuel+1) listed σ H:=fun a w ha hw=>
 ⟨fun h0=>(by rw[hr]at h0;cases h0),fun j hj=>by
  rw[hr]at hj
  exact h.all j hj a w ha hw⟩
theorem b9 {σ':Env}{H':SL}(h:EG X k ops S L fuel listed σ' H')(hw:Env.within σ σ')(he:U H H'):EG X k ops S L fuel listed σ H:=fun a w ha hs=>h a w (ha.within hw) (he.sat _ hs)
theorem Cp {φ:Prop}(h:∀w,Sat X.W w H→φ)(q:φ→EK X k σ H):EK X k σ H:=fun a w ha hs=>q (h w hs) a w ha hs
theorem fW {γ:Type}{fuel':Nat}{ls':Array Bool}(φ:γ→Prop)(σ':γ→Env)(H':γ→SL)(h1:∀g,φ g→EG X k ops S L fuel' ls' (σ' g) (H' g))(h2:(∀g,φ g→EG X k ops S L fuel' ls' (σ' g) (H' g))→EG X k ops S L fuel listed σ H):EG X k ops S L fuel listed σ H:=h2 h1
theorem bU {α:Type}{r:α→Value}{H':α→SL}{d:Nat}{op:Op}{ty:TypeId}{pos:String}{aft:Array Edge}{g:Option (Nat×Bool)}{i:Nat}(hi:ops.toArray[i]? =some ⟨some d,op,ty,pos,aft,g⟩)(hd:Nat.blt d X.N=true)
  (hg:sS ops σ g=some true) (hv:aR X σ H ⟨some d,op,ty,pos,aft,none⟩ r H') {ls:Array Bool} (hl:listed.setIfInBounds i true=ls)
  (hS:∀x,U (H' x) S) (h:∀x,EG X k ops S L fuel ls ((d,r x)::σ) (H' x)):EI X k ops S L fuel listed i σ H:=by
 subst hl
 intro a w ha hw
 obtain⟨x,w',h1,h2⟩:=hv a w ha hw
 have uj:(execOp a.eval ⟨some d,op,ty,pos,aft,g⟩).run X.P w= .ok (.value (r x)) w':=h1
 unfold wpOp
 rw[hi]
 simp only[xU ha hg,Oper.wp,uj,Oper.upon,if_true]
 exact .inl ⟨fun _=>(hS x).sat _ h2,h x _ _ (ha.put hd _) h2⟩
end
section
open Go.RowKit
set_option maxRecDepth 10000
attribute [local irreducible] EK EX ER EN EL ES EG an aR aU
variable {W:World} {F:SL} {X:Cx} {k:List KI} {σ:Env} {p q:Option Addr} {ws:List Nat} {gs:List (List (Nat×Nat))} {s:jg} {w:Nat}
attribute [local simp] Mh Ax qF
def cx (q:Option Addr)(s:jg):SL:=Obj q 233 (iG s)
theorem cx.open (H:EK X k σ (Obj q 233 (iG s)*F)):EK X k σ (cx q s*F):=H
theorem cx.iK {ops o:List Oper}(H:EL X k ops o σ (Obj q 233 (iG s)*F)):EL X k ops o σ (cx q s*F):=H
theorem cx.shut {l:List Value}(h:l=iG s):U (Obj q 233 l*F) (cx q s*F):=by subst h;exact U.refl _
theorem cx.bS {l:List Value}{G:SL}(h:l=iG s)(k:U F G):U (Obj q 233 l*F) (cx q s*G):=U.trans (cx.shut h) (U.star (U.refl _) k)
theorem cx.dN {H F' G:SL}{l:List Value}[r:bZ H q (Obj q 233 l) F'](e:l=iG s)(k:U F' G):U H (cx q s*G):=by
 rw[r.eq]
 exact cx.bS e k
instance (priority:=2000)(q:Option Addr)(s:jg)(F:SL):bZ (cx q s*F) q (cx q s) F:=⟨rfl⟩
instance (q:Option Addr)(s:jg):lT (cx q s) q:=⟨fun W w F H=>(Obj.root q _ _).nn W w _ H⟩
theorem GB (hw:w<gs.length)(hg:gs.length≤64):Spec Tryz.prog 107 [.pointer p,.int .i64 (w:Int)] W (bB p ws gs*F) (fun g:Option Addr=> .pointer g) (fun g=>cx g ⟨w,false,0,0,false,false⟩*(bB p ws gs*F)):=by
 refine Spec.of Tryz.func107 rfl Tryz.ntmps107 rfl ?_
 refine bB.open fun e=> ?_
 refine aa ?_;intros
 refine af rfl (Bo p hw hg) ?_
 intro _
 refine aa ?_;intros
 rename_i x
 exact ae (aj rfl rfl x rfl (U.sat (cx.bS (by rfl) (bB.shut (e:=e)))))
theorem Nr:Spec Tryz.prog 137 [.pointer p] W (bB p ws gs*F) (fun g:Option Addr=> .pointer g) (fun g=>cx g ⟨0,true,0,0,false,false⟩*(bB p ws gs*F)):=by
 refine Spec.of Tryz.func137 rfl Tryz.ntmps137 rfl ?_
 refine aa ?_;intros
 rename_i x
 exact ae (aj rfl rfl x rfl (U.sat (cx.bS (by rfl) (U.refl _))))
theorem NS (hw:w<gs.length)(hg:gs.length≤64)(hl:ws.length=gs.length+1):Spec Tryz.prog 86 [.pointer p,.int .i64 (w:Int)] W (bB p ws gs*F) (fun _:Unit=> .tuple #[]) (fun _=>bB p (ws.set (1+w) 0) gs*F):=by
 refine Spec.of Tryz.func86 rfl Tryz.ntmps86 rfl ?_
 refine bB.open fun e=> ?_
 refine aa ?_;intros
 refine af rfl (Bo p hw hg) ?_
 intro _
 simp only[kN]
 refine aa ?_;intros
 rw[show(1:Int)+(w:Int)=((1+w:Nat):Int)by omega]
 refine af rfl (Spec.aL e.c (zP e.c ws (1+w) 0 (by omega) (by omega))) ?_
 intro _
 refine aa ?_;intros
 exact aE (aF rfl () rfl (U.sat (U.trans (ab) (bB.shut (e:=e)))))
theorem R0 (h:oT gs.length ws gs)(hs:s.Ok gs.length)(ha:s.kT=false):Spec Tryz.prog 109 [.pointer p,.pointer q] W (cx q s*(bB p ws gs*F)) (fun _:Unit=> .tuple #[]) (fun _=>cx q (nF ws s).2*(bB p (nF ws s).1 gs*F)):=by
 refine Spec.of Tryz.func109 rfl Tryz.ntmps109 rfl ?_
 have hl:=h.len
 have hn:=h.n1
 have ga:=hs.worker
 have Ul:=hs.seen
 have s7:=h.w 0
 have uq:=hs.cb ha
 refine dc p (bB.open fun e=> ?_)
 simp only[kN]
 refine dc q (cx.open ?_)
 have jo:s.at_=0∨s.at_=1∨s.at_=2:=by omega
 rcases jo with e0|e0|e0
 ·have es:nF ws s=(ws,{s with seen:=ws.getD 0 0,at_:=1}):=by unfold nF;rw[if_pos e0]
  rw[es]
  simp only[iG,e0]
  refine aa ?_;intros
  refine af rfl (Spec.aL e.c (fM e.c ws 0 (by omega) (by omega))) ?_
  intro _
  refine aa ?_;intros
  exact aE (aF rfl () rfl (U.sat (cx.dN (by rfl) (U.trans (ab) (bB.shut (e:=e))))))
 ·have es:nF ws s=(ws.set (1+s.worker) (s.seen+1),{s with at_:=2}):=by unfold nF;rw[if_neg (by omega),if_pos e0]
  rw[es]
  simp only[iG,e0]
  refine aa ?_;intros
  refine ay 99 (Obj p 170 [.pointer e.c,.slice e.g.1 gs.length e.g.2]*(Obj q 233 [.int .i64 (s.worker:Int),.bool s.kT,.int .i64 ((1:Nat):Int),.int .u64 (s.seen:Int),.bool s.done,.bool s.zp]*1)) rfl rfl rfl ?_
  refine ah ?_
  rw[show(1:Int)+(s.worker:Int)=((1+s.worker:Nat):Int)by omega,show(s.seen:Int)+1=((s.seen+1:Nat):Int)by omega]
  refine aw rfl rfl rfl rfl rfl (Spec.aL e.c (zP e.c ws (1+s.worker) (s.seen+1) (by omega) (by omega))) (fun _=>ab) ?_
  intro _
  refine ah ?_
  refine aa ?_;intros
  exact aE (aF rfl () rfl (U.sat (cx.dN (by rfl) (U.trans (ab) (bB.shut (e:=e))))))
 ·have es:nF ws s=(ws,{s with done:=decide (ws.getD 0 0=s.seen),at_:=0}):=by unfold nF;rw[if_neg (by omega),if_neg (by omega)]
  rw[es]
  simp only[iG,e0]
  refine aa ?_;intros
  refine ay 13 (Obj p 170 [.pointer e.c,.slice e.g.1 gs.length e.g.2]*(Obj q 233 [.int .i64 (s.worker:Int),.bool s.kT,.int .i64 ((2:Nat):Int),.int .u64 (s.seen:Int),.bool s.done,.bool s.zp]*1)) rfl rfl rfl ?_
  refine ah ?_
  refine aw rfl rfl rfl rfl rfl (Spec.aL e.c (fM e.c ws 0 (by omega) (by omega))) (fun _=>ab) ?_
  intro _
  refine ah ?_
  refine bD ?_;intros
  refine aa ?_;intros
  refine aE (aF rfl () rfl (U.sat (cx.dN ?_ (U.trans (ab) (bB.shut (e:=e))))))
  simp only[iG]
  simp[Int.natCast_inj]
theorem RO (h:oT gs.length ws gs)(hs:s.Ok gs.length)(mX:1≤gs.length):Spec Tryz.prog 108 [.pointer p,.pointer q] W (cx q s*(bB p ws gs*F)) (fun _:Unit=> .tuple #[]) (fun _=>cx q (nE gs.length ws s).2*(bB p (nE gs.length ws s).1 gs*F)):=by
 refine Spec.of Tryz.func108 rfl Tryz.ntmps108 rfl ?_
 have hl:=h.len
 have hn:=h.n1
 have Ul:=hs.seen
 have s7:=h.w 0
 have yF:=h.w s.at_
 have uq:=hs.at_
 refine dc p (bB.open fun e=> ?_)
 simp only[kN]
 refine dc q (cx.open ?_)
 by_cases e0:s.at_=0
 ·have es:nE gs.length ws s=(ws,{s with seen:=ws.getD 0 0,at_:=1}):=by unfold nE;rw[if_pos e0]
  rw[es]
  simp only[iG,e0]
  refine aa ?_;intros
  refine af rfl (Spec.aL e.c (fM e.c ws 0 (by omega) (by omega))) ?_
  intro _
  refine aa ?_;intros
  exact aE (aF rfl () rfl (U.sat (cx.dN (by rfl) (U.trans (ab) (bB.shut (e:=e))))))
 by_cases e1:s.at_≤gs.length
 ·have es:nE gs.length ws s=(ws,{s with done:=decide (ws.getD s.at_ 0≠0)&&decide (ws.getD s.at_ 0≠s.seen+1),at_:=s.at_+1}):=by unfold nE;rw[if_neg e0,if_pos e1]
  rw[es]
  refine aa ?_;intros
  refine ay 99 (Obj p 170 [.pointer e.c,.slice e.g.1 gs.length e.g.2]*(Obj q 233 (iG s)*1)) rfl rfl rfl ?_
  refine ah ?_
  refine aa ?_;intros
  refine ay 99 (Obj p 170 [.pointer e.c,.slice e.g.1 gs.length e.g.2]*(Obj q 233 (iG s)*1)) rfl rfl rfl ?_
  refine ah ?_
  refine aw rfl rfl rfl rfl rfl (Spec.aL e.c (fM e.c ws s.at_ (by omega) (by omega))) (fun _=>ab) ?_
  intro _
  refine ah ?_
  by_cases h0:ws.getD s.at_ 0=0
  ·rw[decide_eq_false (p:=ws.getD s.at_ 0≠0) (fun z=>z h0),Bool.false_and]
   refine aa ?_;intros
   exact aE (aF rfl () rfl (U.sat (cx.dN (by simp only[iG];rw[show(s.at_:Int)+1=((s.at_+1:Nat):Int)by omega]) (U.trans (ab) (bB.shut (e:=e))))))
  ·by_cases h2:ws.getD s.at_ 0=s.seen+1
   ·rw[decide_eq_true (p:=ws.getD s.at_ 0≠0) h0,decide_eq_false (p:=ws.getD s.at_ 0≠s.seen+1) (fun z=>z h2),Bool.true_and]
    refine aa ?_;intros
    exact aE (aF rfl () rfl (U.sat (cx.dN (by simp only[iG];rw[show(s.at_:Int)+1=((s.at_+1:Nat):Int)by omega]) (U.trans (ab) (bB.shut (e:=e))))))
   ·rw[decide_eq_true (p:=ws.getD s.at_ 0≠0) h0,decide_eq_true (p:=ws.getD s.at_ 0≠s.seen+1) h2,Bool.true_and]
    refine aa ?_;intros
    exact aE (aF rfl () rfl (U.sat (cx.dN (by simp only[iG];rw[show(s.at_:Int)+1=((s.at_+1:Nat):Int)by omega]) (U.trans (ab) (bB.shut (e:=e))))))
 ·have es:nE gs.length ws s=(if ws.getD 0 0=s.seen then ws.set 0 (s.seen+1)else ws,{s with zp:=decide (ws.getD 0 0=s.seen),done:=true,at_:=s.at_+1}):=by unfold nE;rw[if_neg e0,if_neg e1]
  rw[es]
  refine aa ?_;intros
  refine ay 99 (Obj p 170 [.pointer e.c,.slice e.g.1 gs.length e.g.2]*(Obj q 233 (iG s)*1)) rfl rfl rfl ?_
  refine ah ?_
  refine aa ?_;intros
  refine ay 17 (Obj p 170 [.pointer e.c,.slice e.g.1 gs.length e.g.2]*(Obj q 233 (iG s)*1)) rfl rfl rfl ?_
  refine ah ?_
  rw[show(s.seen:Int)+1=((s.seen+1:Nat):Int)by omega]
  refine aw rfl rfl rfl rfl rfl (Spec.aL e.c (ns e.c ws 0 s.seen (s.seen+1) (by omega) (by omega))) (fun _=>ab) ?_
  intro _
  refine ah ?_
  refine bD ?_;intros
  refine aa ?_;intros
  exact aE (aF rfl () rfl (U.sat (cx.dN (by simp only[iG];rw[show(s.at_:Int)+1=((s.at_+1:Nat):Int)by omega]) (U.trans (ab) (bB.shut (e:=e))))))
theorem Gt (h:oT gs.length ws gs)(hs:s.Ok gs.length)(mX:1≤gs.length)(hd:s.done=false):Spec Tryz.prog 80 [.pointer p,.pointer q] W (cx q s*(bB p ws gs*F)) (fun _:Unit=> .bool (cv gs.length ws s).2.done) (fun _=>cx q (cv gs.length ws s).2*(bB p (cv gs.length ws s).1 gs*F)):=by
 refine Spec.of Tryz.func80 rfl Tryz.ntmps80 rfl ?_
 refine dc q (cx.open ?_)
 cases ha:s.kT with
 |true=>
  have es:cv gs.length ws s=nE gs.length ws s:=by unfold cv;rw[if_neg (by rw[hd];decide),if_pos ha]
  rw[es]
  simp only[iG,hd,ha]
  refine aa ?_;intros
  refine af rfl (Spec.pre (RO (p:=p) (q:=q) (s:=s) h hs mX) (cx.bS (by simp only[iG,hd,ha]) (U.refl _))) ?_
  intro _
  generalize nE gs.length ws s=D at*
  refine cx.iK ?_
  refine aa ?_;intros
  exact ae (aj rfl rfl () rfl (U.sat (cx.bS (by rfl) (U.refl _))))
 |false=>
  have es:cv gs.length ws s=nF ws s:=by unfold cv;rw[if_neg (by rw[hd];decide),if_neg (by rw[ha];decide)]
  rw[es]
  simp only[iG,hd,ha]
  refine aa ?_;intros
  refine af rfl (Spec.pre (R0 (p:=p) (q:=q) (s:=s) h hs ha) (cx.bS (by simp only[iG,hd,ha]) (U.refl _))) ?_
  intro _
  generalize nF ws s=D at*
  refine cx.iK ?_
  refine aa ?_;intros
  exact ae (aj rfl rfl () rfl (U.sat (cx.bS (by rfl) (U.refl _))))
instance (priority:=100) kR.one (xs:List Value)(i:Nat)(v:Value):kR xs i 1 0 [v] (xs.set i v) (i<xs.length):=⟨fun h=>by
 refine⟨by simp;omega,?_⟩
 simp only[Nat.mul_one,Nat.add_zero,List.length_cons,List.length_nil,Nat.zero_add]
 rw[List.set_eq_take_append_cons_drop,if_pos h,List.append_assoc,List.singleton_append]⟩
def u9 (ps:Nat→az)(w:Nat)(q:az):Nat→az:=fun i=>if i=w then q else ps i
theorem IK (f:Nat→Value):∀l:List Nat,l.flatMap (fun i=>[f i])=l.map f
 |[]=>rfl
 |a::l=>by simp[List.flatMap_cons,IK f l]
theorem I5 (gs:List (List (Nat×Nat)))(ps:Nat→az):mf gs ps=(List.range gs.length).map fun i=>Value.slice (ps i).1 (gs.getD i []).length (ps i).2:=IK _ _
theorem I6 (ps:Nat→az)(q:az)(l:List (Nat×Nat))(hw:w<gs.length):mf (gs.set w l) (u9 ps w q)=(mf gs ps).set w (.slice q.1 l.length q.2):=by
 rw[I5,I5,List.length_set]
 apply List.ext_getElem
 ·simp
 intro j h1 h2
 simp only[List.getElem_map,List.getElem_range,List.getElem_set]
 unfold u9
 by_cases e:w=j
 ·subst e
  rw[if_pos rfl,if_pos rfl]
  simp[List.getD_eq_getElem?_getD,hw]
 ·rw[if_neg (fun z=>e z.symm),if_neg e]
  simp[List.getD_eq_getElem?_getD,List.getElem?_set_ne e]
theorem Mg (ps:Nat→az)(q:az)(l:List (Nat×Nat))(hw:w<gs.length)(F:SL):ao (qM (gs.set w l) (u9 ps w q)) (gs.set w l).length*F=ad 266 2 q.1 l.length q.2 (nX l)*(ao (cA (qM gs ps) w) gs.length*F):=by
 rw[F3 (by rw[List.length_set];exact hw),List.length_set]
 have e1:(gs.set w l).getD w []=l:=by simp[List.getD_eq_getElem?_getD,hw]
 have e2:u9 ps w q w=q:=if_pos rfl
 rw[e1,e2]
 congr 2
 refine ao.congr _ fun i hi=> ?_
 unfold cA
 split
 ·rfl
 ·rename_i e
  unfold qM u9
  rw[if_neg e]
  have e3:(gs.set w l).getD i []=gs.getD i []:=by simp[List.getD_eq_getElem?_getD,List.getElem?_set_ne (fun z=>e z.symm)]
  rw[e3]
theorem Mi (l:List (Nat×Nat))(a b:Nat):nX l++[.int .u64 (a:Int),.int .u64 (b:Int)]=nX (l++[(a,b)]):=by simp[nX,zf]
set_option maxHeartbeats 2000000 in
theorem Nw {id:Nat}(hw:w<gs.length)(hg:gs.length≤64)(hl:ws.length=gs.length+1)(hk:(gs.getD w []).length≤1000000):Spec Tryz.prog 140 [.pointer p,.int .i64 (w:Int),.int .u64 (id:Int)] W (bB p ws gs*F) (fun _:Unit=> .int .i64 0) (fun _=>bB p ws (gs.set w (gs.getD w []++[(id,ws.getD 0 0)]))*F):=by
 refine Spec.of Tryz.func140 rfl Tryz.ntmps140 rfl ?_
 refine bB.open fun e=> ?_
 refine aa ?_;intros
 refine af rfl (Bo p hw hg) ?_
 intro _
 simp only[kN]
 rw[F3 hw]
 refine aa ?_;intros
 refine ay 22 (Obj p 170 [.pointer e.c,.slice e.g.1 gs.length e.g.2]*(ad 264 1 e.g.1 gs.length e.g.2 (mf gs e.ps)*1)) rfl rfl rfl ?_
 refine ah ?_
 refine aw rfl rfl rfl rfl rfl (Spec.aL e.c (fM e.c ws 0 (by omega) (by omega))) (fun _=>ab) ?_
 intro _
 refine ah ?_
 have AL:(mf gs e.ps).length=gs.length:=by rw[Ax,Nat.mul_one]
 refine bD ?_;intros
 refine aa ?_;intros
 rename_i z
 refine ae (aj rfl rfl () rfl (U.sat (U.trans ?_ (bB.shut (e:=⟨e.c,e.g,u9 e.ps w z⟩)))))
 simp only[kN]
 have AS:(gs.getD w []++[(id,ws.getD 0 0)]).length=(gs.getD w []).length+1:=by simp
 rw[Mg e.ps z _ hw,I6 e.ps z _ hw,List.length_set,AS,←Mi]
 exact ab
theorem XA (now:Nat)(l:List (Nat×Nat))(t:Nat×Nat):fS now (l++[t])=fS now l++(if t.2+2≤now then [t]else [])∧kK now (l++[t])=kK now l++(if t.2+2≤now then []else [t]):=by
 unfold fS kK
 rw[List.filter_append,List.filter_append]
 by_cases h:t.2+2≤now
 ·rw[if_pos h,if_pos h];simp[h]
 ·rw[if_neg h,if_neg h];simp[h]
set_option maxHeartbeats 2000000 in
theorem NR (h:oT gs.length ws gs)(hw:w<gs.length)(hk:(gs.getD w []).length≤1000000):Spec Tryz.prog 89 [.pointer p,.int .i64 (w:Int)] W (bB p ws gs*F) (fun z:az=> .slice z.1 (fS (ws.getD 0 0) (gs.getD w [])).length z.2)
  (fun z=>ad 61 1 z.1 (fS (ws.getD 0 0) (gs.getD w [])).length z.2 (ba .u64 ((fS (ws.getD 0 0) (gs.getD w [])).map (·.1)))*(bB p ws (gs.set w (kK (ws.getD 0 0) (gs.getD w [])))*F)):=by
 refine Spec.of Tryz.func89 rfl Tryz.ntmps89 rfl ?_
 have hl:=h.len
 have hg:=h.n1
 have s7:=h.w 0
 refine bB.open fun e=> ?_
 refine aa ?_;intros
 refine af rfl (Bo p hw hg) ?_
 intro _
 simp only[kN]
 rw[F3 hw]
 refine aa ?_;intros
 refine af rfl (Spec.aL e.c (fM e.c ws 0 (by omega) (by omega))) ?_
 intro _
 refine aa ?_;intros
 have AL:(mf gs e.ps).length=gs.length:=by rw[Ax,Nat.mul_one]
 obtain⟨L,hL⟩:∃L,gs.getD w []=L:=⟨_,rfl⟩
 have qv:∀i,i<L.length→(L.getD i (0,0)).1<18446744073709551616∧(L.getD i (0,0)).2<4611686018427387904:=fun i hi=>h.g w _ (by rw[hL,←I0 L (0,0) hi];exact List.getElem_mem hi)
 rw[hL]at hk ⊢
 obtain⟨now,Em⟩:∃now,ws.getD 0 0=now:=⟨_,rfl⟩
 rw[Em]at s7 ⊢
 refine fy (γ:=Nat×az×az) (fun a=>a.1≤L.length) (fun a=>[(0,.pointer p),(1,.int .i64 (w:Int)),(5,.int .u64 (now:Int)),(6,.slice a.2.1.1 (fS now (L.take a.1)).length a.2.1.2),(7,.slice a.2.2.1 (kK now (L.take a.1)).length a.2.2.2),(25,.slice (e.ps w).1 L.length (e.ps w).2),(26,.int .i64 (L.length:Int)),(27,.int .i64 (a.1:Int))])
  (fun a=>ad 61 1 a.2.1.1 (fS now (L.take a.1)).length a.2.1.2 (ba .u64 ((fS now (L.take a.1)).map (·.1)))*(ad 266 2 a.2.2.1 (kK now (L.take a.1)).length a.2.2.2 (nX (kK now (L.take a.1)))*(cB e.c ws*(Obj p 170 [.pointer e.c,.slice e.g.1 gs.length e.g.2]*(ad 264 1 e.g.1 gs.length e.g.2 (mf gs e.ps)*
   (ad 266 2 (e.ps w).1 L.length (e.ps w).2 (nX L)*(ao (cA (qM gs e.ps) w) gs.length*F))))))) (fun a=>L.length-a.1) (0,(none,0),(none,0)) (Nat.zero_le _) ⟨rfl,rfl,rfl,rfl,rfl,rfl,rfl,rfl,trivial⟩ (U.sat (U.none (U.none (ab)))) ?_
 intro ⟨i,a,b⟩ h1;dsimp only at h1 ⊢
 by_cases hi:i<L.length
 ·obtain⟨r1,r2⟩:=XA now (L.take i) (L.getD i (0,0))
  rw[tv (d:=(0,0)) hi]at r1 r2
  obtain⟨t1,t2⟩:=qv i hi
  have uE:((fS now (L.take i)).map (·.1)).length=(fS now (L.take i)).length:=List.length_map _
  have b1:(fS now (L.take i)).length≤i:=by
   unfold fS;have:=List.length_filter_le (fun t:Nat×Nat=>decide (t.2+2≤now)) (L.take i);rw[List.length_take]at this;omega
  have b2:(kK now (L.take i)).length≤i:=by
   unfold kK;have:=List.length_filter_le (fun t:Nat×Nat=> !decide (t.2+2≤now)) (L.take i);rw[List.length_take]at this;omega
  by_cases ht:(L.getD i (0,0)).2+2≤now
  ·rw[if_pos ht]at r1 r2
   have l1:(fS now (L.take (i+1))).length=(fS now (L.take i)).length+1:=by rw[r1,List.length_append];rfl
   have l2:(kK now (L.take (i+1))).length=(kK now (L.take i)).length:=by rw[r2,List.append_nil]
   refine aa ?_;intros
   rename_i z
   refine cJ (i+1,z,b) (by dsimp only;omega) (by dsimp only;omega) ⟨rfl,rfl,rfl,by rw[l1];rfl,by rw[l2];rfl,rfl,rfl,rfl,trivial⟩ (U.sat ?_)
   dsimp only
   rw[l1,l2,r1,r2,List.append_nil,List.map_append,List.map_singleton,←BA]
   exact ab
  ·rw[if_neg ht]at r1 r2
   have l1:(fS now (L.take (i+1))).length=(fS now (L.take i)).length:=by rw[r1,List.append_nil]
   have l2:(kK now (L.take (i+1))).length=(kK now (L.take i)).length+1:=by rw[r2,List.length_append];rfl
   refine aa ?_;intros
   rename_i z
   refine cJ (i+1,a,z) (by dsimp only;omega) (by dsimp only;omega) ⟨rfl,rfl,rfl,by rw[l1];rfl,by rw[l2];rfl,rfl,rfl,rfl,trivial⟩ (U.sat ?_)
   dsimp only
   rw[l1,l2,r1,r2,List.append_nil,←Mi]
   exact ab
 ·have e1:i=L.length:=by omega
  subst e1
  rw[List.take_length]
  refine aa ?_;intros
  refine ae (aj rfl rfl a rfl (U.sat (U.cons (U.trans ?_ (bB.shut (e:=⟨e.c,e.g,u9 e.ps w b⟩))))))
  simp only[kN]
  rw[Mg e.ps b _ hw,I6 e.ps b _ hw,List.length_set]
  exact ab
end
end Go.Proofs.YtfkngchldmfpfaaGreatDoor
