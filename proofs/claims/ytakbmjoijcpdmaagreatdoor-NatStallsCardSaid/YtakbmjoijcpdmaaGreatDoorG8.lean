/-
  A part of a proof, joined by a program (wip/bundle3.py).
-/
import Derived.Lib.ItoaNum
import Derived.Lib.Join
import Derived.Lib.TrailingZeros
import Derived.Laws.BitsAllLaws
import Derived.Test.YtakbmjoijcpdmaaGreatDoorG0
import Derived.Test.YtakbmjoijcpdmaaGreatDoorG1
import Derived.Test.YtakbmjoijcpdmaaGreatDoorG2
import Derived.Test.YtakbmjoijcpdmaaGreatDoorG6
import Derived.Test.YtakbmjoijcpdmaaGreatDoorG7
set_option linter.unusedVariables false
set_option linter.unusedSimpArgs false
namespace Go.Proofs.YtakbmjoijcpdmaaGreatDoor
section
open Go.RowKit
theorem KU {a b k:Nat}(hb:b<2^k):(a*2^k|||b)=a*2^k+b:=by
 rw[Nat.mul_comm];exact(Nat.two_pow_add_eq_or_of_lt hb a).symm
theorem Mf {a b k:Nat}(hb:b<2^k)(h:a*2^k+b<18446744073709551616):bits .or .u64 ((a*2^k:Nat):Int) (b:Int)=((a*2^k+b:Nat):Int):=by
 rw[u64_or_nat _ _ (by omega) (by omega),KU hb]
theorem sc {a b k:Nat}(hb:b<2^k)(h:a*2^k+b<18446744073709551616):bits .or .u64 (b:Int) ((a*2^k:Nat):Int)=((b+a*2^k:Nat):Int):=by
 rw[u64_or_nat _ _ (by omega) (by omega),Nat.or_comm,KU hb,Nat.add_comm]
theorem qC {a:Nat}(k:Nat)(ha:a<18446744073709551616)(hk:k≤63):bits .and .u64 (a:Int) ((2^k-1:Nat):Int)=((a%2^k:Nat):Int):=by
 have h:2^k-1<18446744073709551616:=by
  have:2^k≤2^63:=Nat.pow_le_pow_right (by decide) hk
  omega
 rw[u64_and_nat a _ ha h,Nat.and_two_pow_sub_one_eq_mod]
theorem nR (a k:Nat)(h:a*2^k<18446744073709551616):IntKind.u64.wrap ((a:Int)*2^((k:Int)).toNat)=((a*2^k:Nat):Int):=by
 rw[Int.toNat_natCast]
 have e:((a*2^k:Nat):Int)=(a:Int)*2^k:=by simp
 rw[e,←e]
 exact bF.wrap (by simp only[bF];omega)
theorem lg {a:Nat}(h:a<9223372036854775808):IntKind.i64.wrap (a:Int)=(a:Int):=bF.wrap (by simp only[bF];omega)
structure aJ where
 st:Nat
 gen:Nat
 tr:Nat
 sn:Nat
deriving DecidableEq
namespace aJ
def ok (w:aJ):Prop:=w.st≤3∧w.gen≤65535∧w.tr≤7∧w.sn≤4294967295
instance (w:aJ):Decidable w.ok:=by unfold ok;infer_instance
def num (w:aJ):Nat:=w.st+w.tr*256+w.gen*65536+w.sn*4294967296
def of (n:Nat):aJ:=⟨n%4,n/65536%65536,n/256%8,n/4294967296⟩
abbrev vs (w:aJ):List Value:=[.int .i64 (w.st:Int),.int .i64 (w.gen:Int),.int .i64 (w.tr:Int),.int .i64 (w.sn:Int)]
theorem Wj {w:aJ}(h:w.ok):w.num<18446744073709551616:=by unfold ok at h;unfold num;omega
theorem xA {n:Nat}(h:n<18446744073709551616):(of n).ok:=by unfold ok of;dsimp only;omega
theorem lj {w:aJ}(h:w.ok):of w.num=w:=by
 obtain⟨a,b,c,d⟩:=w
 unfold ok at h;unfold num of
 dsimp only at h ⊢
 congr 1<;>omega
end aJ
def kE (bH now:aJ):Bool:=
 match bH.st with
 |0=>decide (now.st=1)&&decide (now.gen=(bH.gen+1)%65536)
 |1=>(decide (now.st=2)||decide (now.st=0))&&decide (now={bH with st:=now.st})
 |2=>if now.st=2 then decide (now.gen=bH.gen)&&decide (bH.sn≤now.sn)else decide (now.st=3)&&decide (now={bH with st:=now.st})
 |_=>decide (now.st=0)&&decide (now={bH with st:=now.st})
section may
variable {a b:aJ}
theorem Ep (e:a.st=0):kE a b=(decide (b.st=1)&&decide (b.gen=(a.gen+1)%65536)):=by unfold kE;rw[e];rfl
theorem xq (e:a.st=1):kE a b=((decide (b.st=2)||decide (b.st=0))&&decide (b={a with st:=b.st})):=by unfold kE;rw[e];rfl
theorem xr (e:a.st=2):kE a b=if b.st=2 then decide (b.gen=a.gen)&&decide (a.sn≤b.sn)else decide (b.st=3)&&decide (b={a with st:=b.st}):=by unfold kE;rw[e];rfl
theorem Ku (e:a.st=3):kE a b=(decide (b.st=0)&&decide (b={a with st:=b.st})):=by unfold kE;rw[e];rfl
end may
def gz (proto addr port:Nat):Nat:=proto*281474976710656+addr*65536+port
theorem JE {a b c:Nat}(ha:a<65536)(hb:b<4294967296)(hc:c<65536):bits .or .u64 (bits .or .u64 ((a*2^48:Nat):Int) ((b*2^16:Nat):Int)) (c:Int)=(gz a b c:Int):=by
 rw[Mf (by omega) (by omega),show a*2^48+b*2^16=(a*2^32+b)*2^16 by omega,Mf (by omega) (by omega),show(a*2^32+b)*2^16+c=gz a b c by unfold gz;omega]
theorem YF (x:Nat):IntKind.u64.wrap ((x:Int)*2^Int.toNat 48)=((x%65536*2^48:Nat):Int):=by
 rw[IntKind.wrap_u64,show(2:Int)^Int.toNat 48=281474976710656 from rfl]
 omega
def oF (n:Nat):Nat:=
 let x:=n*11400714819323198485%18446744073709551616
 let y:=(x^^^x/4294967296)*13787848793156543929%18446744073709551616
 y^^^y/4294967296
def fH (b:Int):Bool:=decide (b=2∨b=4∨b=8∨b=16∨b=32∨b=64∨b=128∨b=256∨b=512∨b=1024)
theorem Kx (a c:Nat):IntKind.u64.wrap ((a:Int)*(c:Int))=((a*c%18446744073709551616:Nat):Int):=by
 rw[IntKind.wrap_u64,Int.natCast_emod];simp
theorem ML {a:Nat}(h:a<18446744073709551616):bits .xor .u64 (a:Int) ((a:Int)/2^Int.toNat 32)=((a^^^a/4294967296:Nat):Int):=by
 rw[show(a:Int)/2^Int.toNat 32=((a/4294967296:Nat):Int)from mj a 32,u64_xor_nat a _ h (by omega)]
theorem ZM {a:Nat}(h:a<18446744073709551616):(a^^^a/4294967296)<18446744073709551616:=Nat.xor_lt_two_pow (n:=64) h (by omega)
theorem RO:((List.range 1025).all fun k=>decide (k<2)||(decide (k&&& (k-1)=0)==fH (k:Int)))=true:=by decide+kernel
theorem RP {k:Nat}(h1:2≤k)(h2:k≤1024):decide (bits .and .i64 (k:Int) ((k:Int)-1)=0)=fH (k:Int):=by
 have h:=List.all_eq_true.1 RO k (List.mem_range.2 (by omega))
 rw[decide_eq_false (by omega),Bool.false_or,beq_iff_eq]at h
 rw[←h,show((k:Int)-1)=((k-1:Nat):Int)by omega,D8 _ _ (by omega) (by omega)]
 exact decide_eq_decide.2 ⟨fun e=>by omega,fun e=>by rw[e];rfl⟩
theorem Ia {b:Int}(h:¬(2≤b∧b≤1024)):fH b=false:=by
 unfold fH
 exact decide_eq_false (by omega)
def gq (n b:Nat):Nat×Nat:=(oF n%b,(oF n%b+1+oF n/4294967296%(b-1))%b)
theorem X5 (n:Nat):oF n<18446744073709551616:=by
 unfold oF
 exact Nat.xor_lt_two_pow (n:=64) (by omega) (by omega)
theorem xO {n b:Nat}(hb:2≤b):(gq n b).1<b∧(gq n b).2<b∧(gq n b).1≠(gq n b).2:=by
 unfold gq
 have h1:=Nat.mod_lt (oF n) (show 0<b by omega)
 have h2:=Nat.mod_lt (oF n/4294967296) (show 0<b-1 by omega)
 refine⟨h1,Nat.mod_lt _ (by omega),?_⟩
 generalize oF n%b=a at*
 generalize oF n/4294967296%(b-1)=d at*
 dsimp only
 intro e
 rcases Nat.lt_or_ge (a+1+d) b with h|h
 ·rw[Nat.mod_eq_of_lt h]at e;omega
 ·rw[Nat.mod_eq_sub_mod h,Nat.mod_eq_of_lt (by omega)]at e;omega
end
section
open Go.RowKit
def bM (u i:Nat):Int:=((u/2^(12*i)%4096:Nat):Int)-1
def dY (u:Nat)(id:Int):Int:=if bM u 0=id then 0 else if bM u 1=id then 1 else if bM u 2=id then 2 else if bM u 3=id then 3 else-1
def cZ (u:Nat):Bool:=decide (dY u (-1)<0)
def kV (u i v:Nat):Nat:=(((u&&& (18446744073709551615-4095*2^(12*i)))|||v*2^(12*i))+281474976710656)%18446744073709551616
def iO (u:Nat)(id:Int):Nat:=kV u (dY u (-1)).toNat (id+1).toNat
structure eM where
 phase:Nat
 id:Nat
 fr:Nat
 to:Nat
 version:Nat
 aS:Nat
deriving DecidableEq
structure aU where
 kind:Nat
 f1:Nat
 f2:Nat
 f3:Nat
 id:Int
 a:Nat
 b:Nat
 next:Nat
 first:Nat
 word:Nat
 at_:Nat
 half:Bool
 seen:aJ
 still:Nat
 m:eM
 v:Nat
 u:Nat
 o0:Nat
 o1:Nat
 o2:Nat
 o3:Nat
 g0:Nat
 g1:Nat
 g2:Nat
 g3:Nat
 cA:Nat
 second:Bool
 found:Int
 aQ:aJ
 end_:Nat
 done:Bool
deriving DecidableEq
def w0:aJ:=⟨0,0,0,0⟩
def pk (kind f1 f2 f3:Nat)(id:Int)(next:Nat)(n:Nat):aU:=
 {kind:=kind,f1:=f1,f2:=f2,f3:=f3,id:=id,a:=(gq (gz f1 f2 f3) n).1,b:=(gq (gz f1 f2 f3) n).2,next:=next,first:=0,word:=0,at_:=0,half:=false,seen:=w0,still:=0,m:=⟨0,0,0,0,0,0⟩,
  v:=0,u:=0,o0:=0,o1:=0,o2:=0,o3:=0,g0:=0,g1:=0,g2:=0,g3:=0,cA:=0,second:=false,found:= -1,aQ:=w0,end_:=11,done:=false}
def gn (word:Nat)(id:Int):Nat→Nat→Nat
 |0,i=>i
 |f+1,i=>if i<4∧(bM word i<0∨bM word i=id)then gn word id f (i+1)else i
theorem Fk (word:Nat)(id:Int):∀f i,i≤4→gn word id f i≤4
 |0,_,h=>h
 |f+1,i,h=>by
  unfold gn
  split
  ·exact Fk word id f (i+1) (by omega)
  ·exact h
theorem Fl {word:Nat}{id:Int}:∀f i,4≤i+f→¬(gn word id f i<4∧(bM word (gn word id f i)<0∨bM word (gn word id f i)=id))
 |0,i,h=>by unfold gn;omega
 |f+1,i,h=>by
  unfold gn
  split
  ·exact Fl f (i+1) (by omega)
  ·assumption
def jr (s:aU)(e:Nat):aU:={s with done:=true,end_:=e}
def jv (pl:List Nat)(s:aU):aU×Bool:=
 if s.at_=4 then(s,true)
 else
  let i:=(bM s.word s.at_).toNat
  if s.half=false then
   let w:=aJ.of (pl.getD (2*i) 0)
   if w.st=1∨w.st=2 then({s with seen:=w,half:=true},false)
   else({s with seen:=w,at_:=s.at_+1},decide (s.at_+1=4))
  else if pl.getD (2*i+1) 0=gz s.f1 s.f2 s.f3 then({s with half:=false,found:=bM s.word s.at_,aQ:=s.seen,done:=true,end_:=if s.kind=1 then 10 else 0},false)
  else({s with half:=false,at_:=s.at_+1},decide (s.at_+1=4))
def dx (pl:List Nat)(s:aU):aU×Bool:=jv pl {s with at_:=gn s.word s.id 4 s.at_}
theorem UF {n a b c:Nat}(hn:n<18446744073709551616)(ha:a≤255)(hb:b<4294967296)(hc:c<65536):(n/281474976710656=a∧n/65536%4294967296=b∧n%65536=c)↔n=gz a b c:=by
 unfold gz;omega
theorem UE {n a b c:Nat}(hn:n<18446744073709551616)(ha:a≤255)(hb:b<4294967296)(hc:c<65536):(@decide (([.int .i64 ((n/281474976710656:Nat):Int),.int .u32 ((n/65536%4294967296:Nat):Int),.int .u16 ((n%65536:Nat):Int)]:List Value)=[.int .i64 (a:Int),.int .u32 (b:Int),.int .u16 (c:Int)]) (Classical.propDecidable _))=decide (n=gz a b c):=by
 rw[decide_eq_decide,←UF hn ha hb hc]
 simp only[List.cons.injEq,Value.int.injEq,true_and,and_true,Int.natCast_inj]
def nQ (s:aU)(u next:Nat):aU:={s with word:=u,at_:=0,half:=false,next:=next}
def nv (s:aU):Nat:=if s.kind=0 then 4 else if cZ s.first then 6 else 5
def ib (cs pl:List Nat)(s:aU):List Nat×aU:=
 if s.next=0 then(cs,nQ {s with first:=cs.getD s.a 0} (cs.getD s.a 0) 1)
 else if s.next=1 then(cs,if(dx pl s).2=true then {(dx pl s).1 with next:=2}else(dx pl s).1)
 else if s.next=2 then(cs,nQ s (cs.getD s.b 0) 3)
 else if s.next=3 then(cs,if(dx pl s).2=true then {(dx pl s).1 with next:=nv (dx pl s).1}else(dx pl s).1)
 else if s.next=4 then(cs,if cs.getD s.a 0=s.first then jr s 7 else nQ {s with first:=cs.getD s.a 0} (cs.getD s.a 0) 1)
 else if cs.getD s.a 0=s.first then(cs.set s.a (iO s.first s.id),jr {s with next:=0} 0)else(cs,{s with next:=0})
structure GC (n np:Nat)(cs pl:List Nat)(s:aU):Prop where
 vR:cs.length=n+1
 n2:n≤1024
 mg:pl.length=2*np
 jw:np≤3072
 cw:∀j,cs.getD j 0<18446744073709551616
 pw:∀j,pl.getD j 0<18446744073709551616
 a:s.a<n
 b:s.b<n
 next:s.next≤5
 nY:s.at_≤4
 refs:∀i,i<4→bM s.word i<np
 word:s.word<18446744073709551616
 first:s.first<18446744073709551616
 Eb: -1≤s.id
 uL:s.id<np
 f1:s.f1≤255
 f2:s.f2<4294967296
 f3:s.f3<65536
 kind:s.kind≤2
 done:s.done=false
 link:s.next=5→0≤s.id∧cZ s.first=false
end
section
def qF (u:Nat)(id:Int):Nat:=kV u (dY u id).toNat 0
def fJ (u:Nat):eM:=⟨u%4,u/4%4096,u/16384%1024,u/16777216%1024,u/17179869184%65536,u/1125899906842624⟩
def kF (m:eM):Nat:=m.phase+m.id*4+m.fr*16384+m.to*16777216+m.version*17179869184+m.aS%16384*1125899906842624
def jy (pl:List Nat)(n:Nat)(id:Int)(bucket:Nat):Nat:=
 if(gq (pl.getD (2*id.toNat+1) 0) n).1=bucket then(gq (pl.getD (2*id.toNat+1) 0) n).2 else(gq (pl.getD (2*id.toNat+1) 0) n).1
def aU.c7 (s:aU)(v:Nat):Nat:=if v=0 then s.o0 else if v=1 then s.o1 else if v=2 then s.o2 else s.o3
def aU.dV (s:aU)(v:Nat):Nat:=if v=0 then s.g0 else if v=1 then s.g1 else if v=2 then s.g2 else s.g3
def aU.jg (s:aU)(v x:Nat):aU:=if v=0 then {s with o0:=x}else if v=1 then {s with o1:=x}else if v=2 then {s with o2:=x}else {s with o3:=x}
def aU.ic (s:aU)(v x:Nat):aU:=if v=0 then {s with g0:=x}else if v=1 then {s with g1:=x}else if v=2 then {s with g2:=x}else {s with g3:=x}
def lT (s:aU)(id:Int)(fr to u:Nat):aU:={s with m:=⟨1,id.toNat,fr,to,u/281474976710656,(fJ s.still).aS⟩,next:=12}
def cx (pl:List Nat)(n:Nat)(cs:List Nat)(s:aU):List Nat×aU:=
 if s.next=6 then(cs,{s with still:=cs.getD n 0,m:=fJ (cs.getD n 0),next:=if(fJ (cs.getD n 0)).phase≠0 then 13 else 7})
 else if s.next=7 then(cs,{s with v:=0,u:=0,next:=if cs.getD s.a 0≠s.first then 0 else 8})
 else if s.next=8 then(cs,{s.jg s.v (jy pl n (bM s.first s.v) s.a)with next:=9})
 else if s.next=9 then
  (cs,if cZ (cs.getD (s.c7 s.v) 0)=false then lT (s.ic s.v (cs.getD (s.c7 s.v) 0)) (bM s.first s.v) s.a (s.c7 s.v) (cs.getD (s.c7 s.v) 0)
   else {s.ic s.v (cs.getD (s.c7 s.v) 0)with v:=if s.v+1=4 then 0 else s.v+1,next:=if s.v+1=4 then 10 else 8})
 else if s.next=10 then(cs,{s with cA:=jy pl n (bM (s.dV s.v) s.u) (s.c7 s.v),next:=11})
 else if s.next=11 then
  (cs,if cZ (cs.getD s.cA 0)=false then lT s (bM (s.dV s.v) s.u) (s.c7 s.v) s.cA (cs.getD s.cA 0)
   else if s.u+1=4 then(if s.v+1=4 then jr {s with v:=4,u:=0,next:=10} 9 else {s with v:=s.v+1,u:=0,next:=10})
   else {s with u:=s.u+1,next:=10})
 else if cs.getD n 0=s.still then(cs.set n (kF s.m),{s with next:=13})else(cs,{s with next:=6})
def AG (s:aU)(u yes no:Nat):aU:={s with word:=u,next:=if 0≤dY u (s.m.id:Int)then yes else no}
def H3 (n:Nat)(cs:List Nat)(s:aU):aU:=
 if(fJ (cs.getD n 0)).phase=0∨{fJ (cs.getD n 0)with phase:=s.m.phase}≠s.m then {s with next:=0}
 else {s with m:={s.m with phase:=(fJ (cs.getD n 0)).phase},next:=if(fJ (cs.getD n 0)).phase=1 then 14 else if(fJ (cs.getD n 0)).phase=2 then 17 else 19}
def yK (n:Nat)(cs:List Nat)(s:aU):List Nat×aU:=
 if s.next=15 then(if cs.getD s.m.to 0=s.word then cs.set s.m.to (iO s.word (s.m.id:Int))else cs,{s with next:=13})
 else if s.next=18 then(if cs.getD s.m.fr 0=s.word then cs.set s.m.fr (qF s.word (s.m.id:Int))else cs,{s with next:=13})
 else if s.next=21 then(if cs.getD s.m.to 0=s.word then cs.set s.m.to (qF s.word (s.m.id:Int))else cs,{s with next:=13})
 else if s.next=16 then(if cs.getD n 0=kF s.m then cs.set n (kF {s.m with phase:=s.m.phase+1})else cs,{s with next:=13})
 else if cs.getD n 0=kF s.m then(cs.set n (kF ⟨0,0,0,0,0,s.m.aS+1⟩),{s with next:=0})else(cs,{s with next:=13})
def gF (pl:List Nat)(n:Nat)(cs:List Nat)(s:aU):List Nat×aU:=
 if s.next=13 then(cs,H3 n cs s)
 else if s.next=14 then(cs,{s with word:=cs.getD s.m.to 0,next:=if 0≤dY (cs.getD s.m.to 0) (s.m.id:Int)then 16 else if cs.getD s.m.to 0/281474976710656=s.m.version then 15 else 22})
 else if s.next=17 then(cs,AG s (cs.getD s.m.fr 0) 18 16)
 else if s.next=19 then(cs,{s with next:=if(aJ.of (pl.getD (2*s.m.id) 0)).st=1∨(aJ.of (pl.getD (2*s.m.id) 0)).st=2 then 22 else 20})
 else if s.next=20 then(cs,AG s (cs.getD s.m.to 0) 21 22)
 else yK n cs s
def oP (s:aU):Nat:=if s.second=true then s.b else s.a
def rR (s:aU):aU:=if s.second=true then {jr s 0 with second:=true}else {s with second:=true}
def ri (cs:List Nat)(s:aU):List Nat×aU:=
 if s.next=24 then
  if cs.getD (oP s) 0=s.word then(cs.set (oP s) (qF s.word s.id),rR {s with next:=23})else(cs,{s with next:=23})
 else if 0≤dY (cs.getD (oP s) 0) s.id∧0≤s.id then(cs,{s with word:=cs.getD (oP s) 0,next:=24})
 else(cs,rR {s with word:=cs.getD (oP s) 0})
def bA (pl:List Nat)(n:Nat)(cs:List Nat)(s:aU):List Nat×aU:=
 if s.done=true then(cs,s)else if 23≤s.next then ri cs s else if 13≤s.next then gF pl n cs s else if 6≤s.next then cx pl n cs s else ib cs pl s
end
section
open Go.RowKit
theorem CV {α:Type}(k:Nat)(f:α→List Value)(hf:∀a,(f a).length=k):∀(l:List α) (i j:Nat) (hi:i<l.length),j<k→(l.flatMap f)[i*k+j]? =(f l[i])[j]?
 |[],_,_,hi,_=>by simp at hi
 |a::l,0,j,_,hj=>by
  rw[List.flatMap_cons,Nat.zero_mul,Nat.zero_add,List.getElem?_append_left (by rw[hf];exact hj)];rfl
 |a::l,i+1,j,hi,hj=>by
  have h1:(i+1)*k+j=k+(i*k+j):=by rw[Nat.succ_mul];omega
  rw[List.flatMap_cons,h1,List.getElem?_append_right (by rw[hf];omega),hf,Nat.add_sub_cancel_left,CV k f hf l i j (by simpa using hi) hj]
  rfl
theorem y5 {α:Type}(k:Nat)(f:α→List Value)(hf:∀a,(f a).length=k):∀l:List α,(l.flatMap f).length=l.length*k
 |[]=>by simp
 |a::l=>by rw[List.flatMap_cons,List.length_append,hf,y5 k f hf l,List.length_cons,Nat.succ_mul];omega
theorem C5 {α:Type}(l:List α)(d:α){i:Nat}(h:i<l.length):l[i]=l.getD i d:=by
 rw[List.getD_eq_getElem?_getD,List.getElem?_eq_getElem h];rfl
def CB (c:Int×Int):List Value:=[.int .i64 c.1,.int .i64 c.2]
def mO (l:List (Int×Int)):List Value:=l.flatMap CB
theorem CC (l:List (Int×Int)):(mO l).length=l.length*2:=y5 2 CB (fun _=>rfl) l
theorem yL (l:List (Int×Int))(c:Int×Int):mO (l++[c])=mO l++[.int .i64 c.1,.int .i64 c.2]:=by simp[mO,CB]
theorem Ih {α β:Type}{f g:α→List β}:∀ {l:List α},(∀a∈l,f a=g a)→l.flatMap f=l.flatMap g
 |[],_=>rfl
 |a::l,h=>by
  rw[List.flatMap_cons,List.flatMap_cons,h a (List.mem_cons_self ..),Ih fun x hx=>h x (List.mem_cons_of_mem _ hx)]
def aE (f:Nat→SL):Nat→SL
 |0=>1
 |i+1=>f i*aE f i
theorem aE.succ (f:Nat→SL)(n:Nat):aE f (n+1)=f n*aE f n:=rfl
def df (f:Nat→SL)(i:Nat):Nat→SL:=fun j=>if j=i then 1 else f j
theorem aE.congr {f g:Nat→SL}:∀n,(∀i,i<n→f i=g i)→aE f n=aE g n
 |0,_=>rfl
 |n+1,h=>by
  unfold aE
  rw[h n (by omega),aE.congr n fun i hi=>h i (by omega)]
theorem aE.at {f:Nat→SL}{i:Nat}:∀n,i<n→aE f n=f i*aE (df f i) n
 |0,h=>by omega
 |n+1,h=>by
  unfold aE
  by_cases e:i=n
  ·subst e
   have e1:df f i i=1:=if_pos rfl
   rw[e1,SL.tO 1,SL.oD,aE.congr (f:=df f i) (g:=f) i fun j hj=>by unfold df;rw[if_neg (by omega)]]
  ·have e1:df f i n=f n:=by unfold df;rw[if_neg (fun h=>e h.symm)]
   rw[e1,aE.at (f:=f) (i:=i) n (by omega)]
   ac_rfl
end
section
open Go.RowKit
def AJ (t:Nat×Nat):List Value:=[.int .u64 (t.1:Int),.int .u64 (t.2:Int)]
def sb (l:List (Nat×Nat)):List Value:=l.flatMap AJ
theorem L9 (l:List (Nat×Nat)):(sb l).length=l.length*2:=y5 2 AJ (fun _=>rfl) l
theorem Yv {l:List (Nat×Nat)}{i j:Nat}(hi:i<l.length)(hj:j<2):(sb l)[i*2+j]? =(AJ (l.getD i (0,0)))[j]? :=by
 unfold sb
 rw[CV 2 AJ (fun _=>rfl) l i j hi hj,C5 l (0,0) hi]
instance sJ.th (l:List (Nat×Nat))(i:Nat):sJ (sb l) i 2 [.int .u64 ((l.getD i (0,0)).1:Int),.int .u64 ((l.getD i (0,0)).2:Int)] (i<l.length):=⟨fun h=>⟨rfl,fun j v hv=>by
 have hj:j<2:=(List.getElem?_eq_some_iff.1 hv).1
 rw[Yv h hj];exact hv⟩⟩
def rE (gs:List (List (Nat×Nat)))(ps:Nat→aP)(i:Nat):List Value:=[.slice (ps i).1 (gs.getD i []).length (ps i).2]
def qd (gs:List (List (Nat×Nat)))(ps:Nat→aP):List Value:=(List.range gs.length).flatMap (rE gs ps)
theorem Iz (gs:List (List (Nat×Nat)))(ps:Nat→aP):(qd gs ps).length=gs.length*1:=by
 unfold qd
 rw[y5 1 (rE gs ps) (fun _=>rfl),List.length_range]
instance eK.gv (gs:List (List (Nat×Nat)))(ps:Nat→aP)(i:Nat):eK (qd gs ps) i 1 0 (.slice (ps i).1 (gs.getD i []).length (ps i).2) (i<gs.length):=⟨fun h=>by
 unfold qd
 rw[CV 1 (rE gs ps) (fun _=>rfl) _ i 0 (by simpa using h) (by decide)]
 simp[rE]⟩
theorem Sl:∀n:Nat,qd (List.replicate n []) (fun _=>(none,0))=ke n [.slice none 0 0]:=by
 intro n
 unfold qd
 rw[List.length_replicate]
 induction n with
 |zero=>rfl
 |succ n ih=>
  rw[List.range_succ,List.flatMap_append,List.flatMap_singleton]
  have h1:(List.range n).flatMap (rE (List.replicate (n+1) []) fun _=>(none,0))=(List.range n).flatMap (rE (List.replicate n []) fun _=>(none,0)):=Ih fun i hi=>by
   have:=List.mem_range.1 hi
   unfold rE
   simp[List.getD_eq_getElem?_getD,this,Nat.lt_succ_of_lt this]
  rw[h1,ih]
  unfold rE
  simp[List.getD_eq_getElem?_getD,ke,List.replicate_succ']
end
section
open Go.RowKit
structure jl where
 worker:Nat
 mH:Bool
 at_:Nat
 seen:Nat
 done:Bool
 ya:Bool
deriving DecidableEq
abbrev hO (s:jl):List Value:=[.int .i64 (s.worker:Int),.bool s.mH,.int .i64 (s.at_:Int),.int .u64 (s.seen:Int),.bool s.done,.bool s.ya]
def jq (ws:List Nat)(s:jl):List Nat×jl:=
 if s.at_=0 then(ws,{s with seen:=ws.getD 0 0,at_:=1})
 else if s.at_=1 then(ws.set (1+s.worker) (s.seen+1),{s with at_:=2})
 else(ws,{s with done:=decide (ws.getD 0 0=s.seen),at_:=0})
def nZ (n:Nat)(ws:List Nat)(s:jl):List Nat×jl:=
 if s.at_=0 then(ws,{s with seen:=ws.getD 0 0,at_:=1})
 else if s.at_≤n then(ws,{s with done:=decide (ws.getD s.at_ 0≠0)&&decide (ws.getD s.at_ 0≠s.seen+1),at_:=s.at_+1})
 else(if ws.getD 0 0=s.seen then ws.set 0 (s.seen+1)else ws,{s with ya:=decide (ws.getD 0 0=s.seen),done:=true,at_:=s.at_+1})
def dt (n:Nat)(ws:List Nat)(s:jl):List Nat×jl:=if s.done=true then(ws,s)else if s.mH=true then nZ n ws s else jq ws s
def Xo (now:Nat)(l:List (Nat×Nat)):List (Nat×Nat):=l.filter fun t=>decide (t.2+2≤now)
def YP (now:Nat)(l:List (Nat×Nat)):List (Nat×Nat):=l.filter fun t=> !decide (t.2+2≤now)
structure vp (n:Nat)(ws:List Nat)(gs:List (List (Nat×Nat))):Prop where
 len:ws.length=n+1
 n1:n≤64
 rA:gs.length=n
 w:∀j,ws.getD j 0<4611686018427387904
 g:∀i t,t∈gs.getD i []→t.1<18446744073709551616∧t.2<4611686018427387904
structure jl.Ok (n:Nat)(s:jl):Prop where
 worker:s.worker<n
 at_:s.at_≤100
 bE:s.mH=false→s.at_≤2
 seen:s.seen<4611686018427387904
end
section
open Go.RowKit
structure NC where
 n:Nat
 o:Nat
 lo:Nat
 hi:Nat
 nb:Nat
 r:Nat
def NC.cfg (c:NC):fS:=⟨c.n,c.o,c.lo,c.hi,c.nb,c.r⟩
def NC.np (c:NC):Nat:=c.hi+1-c.lo
structure NC.Ok (c:NC):Prop where
 n:1≤c.n∧c.n≤64
 o:c.o≠0∧c.o<4294967295
 p:1≤c.lo∧c.hi≤65535∧c.lo≤c.hi∧c.hi-c.lo<1024
 b:iI (c.nb:Int)
 r:1≤c.r∧c.r≤256
theorem NC.Ok.ez {c:NC}(h:c.Ok):c.cfg.Good:=by
 obtain⟨h1,h2,h3,h4,h5⟩:=h
 exact⟨by unfold NC.cfg;dsimp only;omega,by unfold NC.cfg;dsimp only;omega,by unfold NC.cfg;dsimp only;omega,h4,by unfold NC.cfg;dsimp only;omega⟩
theorem NC.Ok.fit {c:NC}(h:c.Ok):c.cfg.Fit:=by
 obtain⟨h1,h2,h3,h4,h5⟩:=h
 have h6:(c.nb:Int)≤1024:=by unfold iI at h4;omega
 exact⟨by unfold NC.cfg lC;dsimp only;omega,by unfold NC.cfg;dsimp only;omega,by unfold NC.cfg lC;dsimp only;omega,by unfold NC.cfg lC;dsimp only;omega,by unfold NC.cfg lC;dsimp only;omega,by unfold NC.cfg lC;dsimp only;omega⟩
theorem NC.Ok.ports {c:NC}(h:c.Ok):gk c.cfg=(c.np:Int):=by
 unfold gk
 rw[if_pos (tY.2 h.ez)]
 obtain⟨h1,h2,h3,h4,h5⟩:=h
 unfold NC.cfg NC.np
 dsimp only
 omega
structure mF where
 p:Option Addr
 c0:Option Addr
 c1:Option Addr
 c2:Option Addr
 wh:Option Addr
 m:Nat
structure pN where
 ep:Option Addr
 pl:Option Addr
 tb:Option Addr
 p0:Option Addr
 p1:Option Addr
 p2:Option Addr
 ws:aP
 wk:Nat→mF
def c9 (n:Nat)(f:Nat→Option Addr):List Value:=(List.range n).map fun i=> .pointer (f i)
theorem EW (n:Nat)(f:Nat→Option Addr):(c9 n f).length=n:=by simp[c9]
instance eK.c9 (n:Nat)(f:Nat→Option Addr)(i:Nat):eK (c9 n f) i 1 0 (.pointer (f i)) (i<n):=⟨fun h=>by simp[Go.Proofs.YtakbmjoijcpdmaaGreatDoor.c9,h]⟩
theorem WZ (n:Nat)(f:Nat→Option Addr):c9 n f++[.pointer (f n)]=c9 (n+1) f:=by simp[c9,List.range_succ]
theorem Lg {n:Nat}{f g:Nat→Option Addr}(h:∀i,i<n→f i=g i):c9 n f=c9 n g:=by
 unfold c9
 exact List.map_congr_left fun i hi=>by rw[h i (List.mem_range.1 hi)]
abbrev nK (c:NC)(np n:Nat)(ep pl tb a b d:Option Addr)(ws:aP):List Value:=[.int .i64 (c.n:Int),.int .u32 (c.o:Int),.int .i64 (c.lo:Int),.int .i64 (c.hi:Int),.int .i64 (c.nb:Int),.int .i64 (c.r:Int),.int .i64 (np:Int),.pointer ep,.pointer a,.pointer b,.pointer d,.pointer pl,.pointer tb,.slice ws.1 n ws.2]
abbrev KD (c:NC)(R:pN)(np:Nat)(n:Nat):List Value:=nK c np n R.ep R.pl R.tb R.p0 R.p1 R.p2 R.ws
abbrev xZ (c0 c1 c2 wh:Option Addr)(m:Nat):List Value:=[.pointer c0,.pointer c1,.pointer c2,.pointer wh,.map (some m),.pointer none,.pointer none,.slice none 0 0,.int .i64 0,.bool false,.slice none 0 0]
abbrev Mz (x:mF):List Value:=xZ x.c0 x.c1 x.c2 x.wh x.m
def u9 (f:Nat→mF)(n:Nat)(x:mF):Nat→mF:=fun i=>if i=n then x else f i
theorem Mh (f:Nat→mF){n i:Nat}(x:mF)(h:i<n):u9 f n x i=f i:=if_neg (by omega)
theorem Mg (f:Nat→mF)(n:Nat)(x:mF):u9 f n x n=x:=if_pos rfl
theorem O7 {X:Cx}{σ:Env}{H:SL}{o:Oper}{t:TypeId}(ho:o.op= .makeMap t none):ba X σ H o (fun m:Nat=> .map (some m)) (fun m=>SL.cH m (.map #[] 0)*H):=by
 intro a w ha hs
 refine⟨w.heap.size,w.alloc (.map #[] 0),?_,hs.alloc _⟩
 simp only[execOp,ho]
 simp[Instr.makeMap,go_sem]
end
section
def ofBits:List Nat→Nat
 |[]=>0
 |i::l=>2^i|||ofBits l
theorem sa (l:List Nat)(j:Nat):(ofBits l).testBit j=decide (j∈l):=by
 induction l with
 |nil=>simp[ofBits]
 |cons i l ih=>
  simp only[ofBits,Nat.testBit_or,Nat.testBit_two_pow,ih,List.mem_cons]
  by_cases h:i=j
  ·simp[h]
  ·simp[h,show ¬j=i from fun e=>h e.symm]
theorem xz (l:List Nat)(n:Nat)(h:∀i∈l,i<n):ofBits l<2^n:=by
 apply Nat.lt_pow_two_of_testBit
 intro j hj
 rw[sa]
 simp only[decide_eq_false_iff_not]
 intro hm
 have:=h j hm
 omega
theorem ED (l:List Nat):ofBits l=0↔l=[]:=by
 constructor
 ·intro h
  cases l with
  |nil=>rfl
  |cons i l=>
   have:=sa (i::l) i
   rw[h]at this
   simp at this
 ·rintro rfl;rfl
theorem QA (i:Nat)(l:List Nat)(h:∀j∈l,i<j)(hi:i<64)(hl:∀j∈l,j<64):Lib.ctz 64 (ofBits (i::l))=i:=by
 have h0:ofBits (i::l)≠0:=fun e=>by simpa using(ED _).1 e
 have ck:ofBits (i::l)<2^64:=xz _ 64 (by intro j hj;rcases List.mem_cons.1 hj with rfl|hj;exact hi;exact hl j hj)
 unfold Lib.ctz
 rw[if_neg h0]
 obtain⟨m,hm,hc⟩:=Lib.ctzFrom_spec 64 _ (Nat.pos_of_ne_zero h0) ck
 generalize Lib.ctzFrom 64 (ofBits (i::l))=c at hm hc ⊢
 have t1:(ofBits (i::l)).testBit c=true:=by
  rw[hm,Nat.testBit_two_pow_mul]
  simp
 have t2:∀j,j<c→(ofBits (i::l)).testBit j=false:=by
  intro j hj
  rw[hm,Nat.testBit_two_pow_mul]
  simp;omega
 rw[sa]at t1
 have t1:c∈i::l:=by simpa using t1
 rcases List.mem_cons.1 t1 with rfl|DF
 ·rfl
 ·have:=t2 i (h c DF)
  rw[sa]at this
  simp at this
def yA:List Nat→Prop:=List.Pairwise (· < ·)
theorem Wo (i:Nat)(l:List Nat)(h:∀j∈l,i<j)(hl:∀j∈l,j<64)(hi:i<64):ofBits (i::l)&&& (18446744073709551615-2^i)=ofBits l:=by
 apply Nat.eq_of_testBit_eq
 intro j
 have e:(18446744073709551615-2^i).testBit j=(decide (j<64)&& !(decide (i=j))):=by
  have:=Nat.testBit_two_pow_sub_succ (n:=64) (x:=2^i) (Nat.pow_lt_pow_of_lt (by omega) hi) j
  rw[show(2:Nat)^64-(2^i+1)=18446744073709551615-2^i by omega,Nat.testBit_two_pow]at this
  exact this
 rw[Nat.testBit_and,sa,sa,e]
 by_cases h1:j∈l
 ·have:=h j h1;have:=hl j h1
  simp[h1,show j<64 by omega,show ¬i=j by omega]
 ·by_cases h2:i=j
  ·simp[h1,h2]
  ·simp[h1,h2,show ¬j=i from fun e=>h2 e.symm]
def cE (u:Nat):List Nat:=(List.range 32).filter fun i=> !u.testBit i
theorem ow {u i:Nat}:i∈cE u↔i<32∧u.testBit i=false:=by simp[cE]
theorem It (u:Nat):yA (cE u):=List.Pairwise.filter _ List.pairwise_lt_range
theorem RW (u:Nat):(cE u).length≤32:=by
 have:=List.length_filter_le (fun i=> !u.testBit i) (List.range 32)
 simpa[cE]using this
theorem Xp {l:List Nat}(h:yA l){k i:Nat}{m:List Nat}(e:l.drop k=i::m):(∀j∈m,i<j):=by
 have h2:yA (i::m):=e▸List.Pairwise.sublist (List.drop_sublist k l) h
 exact(List.pairwise_cons.1 h2).1
theorem Is (u:Nat):cE u=[]↔u%4294967296=4294967295:=by
 have hb:∀j,(u%4294967296).testBit j=(decide (j<32)&&u.testBit j):=fun j=>Nat.testBit_mod_two_pow u 32 j
 have hc:∀j,(4294967295:Nat).testBit j=decide (j<32):=fun j=>Nat.testBit_two_pow_sub_one 32 j
 constructor
 ·intro h
  apply Nat.eq_of_testBit_eq
  intro j
  rw[hb,hc]
  by_cases hj:j<32
  ·cases ht:u.testBit j with
   |true=>simp
   |false=>
    have:j∈cE u:=ow.2 ⟨hj,ht⟩
    rw[h]at this;simp at this
  ·simp[hj]
 ·intro h
  apply List.eq_nil_iff_forall_not_mem.2
  intro j hj
  obtain⟨h1,h2⟩:=ow.1 hj
  have:=hb j
  rw[h,hc,h2]at this
  simp[h1]at this
theorem Wm (u:Nat)(hu:u<18446744073709551616):(18446744073709551615-u)&&& 4294967295=ofBits (cE u):=by
 apply Nat.eq_of_testBit_eq
 intro j
 rw[Nat.testBit_and,sa]
 have hc:(4294967295:Nat).testBit j=decide (j<32):=Nat.testBit_two_pow_sub_one 32 j
 have:=Nat.testBit_two_pow_sub_succ (n:=64) (x:=u) hu j
 rw[show(2:Nat)^64-(u+1)=18446744073709551615-u by omega]at this
 rw[hc,this]
 by_cases hj:j<32
 ·cases ht:u.testBit j<;>simp[ow,hj,ht,show j<64 by omega]
 ·simp[ow,hj]
def lO (u low:Nat):Nat:=(u/4294967296+1)%4294967296*4294967296+low
theorem Hy {u low:Nat}(h:low<4294967296):lO u low<18446744073709551616:=by
 unfold lO
 have:=Nat.mod_lt (u/4294967296+1) (show 0<4294967296 by decide)
 omega
theorem Qs {u low:Nat}(hu:u<18446744073709551616)(h:low<4294967296):((u/4294967296+1)*4294967296%18446744073709551616)|||low=lO u low:=by
 have e:(u/4294967296+1)*4294967296%18446744073709551616=(u/4294967296+1)%4294967296*4294967296:=by omega
 rw[e]
 exact nat_join 32 _ _ (by simp) h
theorem Qr {u low:Nat}(h:low<4294967296):lO u low%4294967296=low:=by unfold lO;omega
end
section
open Go.RowKit
theorem xH {i:Nat}(h:i<32):2^i<4294967296:=Nat.pow_lt_pow_of_lt (a:=2) (m:=32) (by decide) h
theorem xC {a b:Nat}(ha:a<4294967296)(hb:b<4294967296):a|||b<4294967296:=Nat.or_lt_two_pow (n:=32) ha hb
structure bL where
 kind:Nat:=0
 word:Nat:=0
 left:Nat:=0
 most:Nat:=0
 read:Bool:=false
 seen:Nat:=0
 words:List Nat:=[]
 parts:List (Nat×Nat):=[]
 ports:List Nat:=[]
 done:Bool:=false
 alike:Bool:=false
variable {m n:Nat} {ws:List Nat} {s:bL}
def eA (u most:Nat):List Nat:=(cE u).take most
def ji (ws:List Nat)(s:bL):List Nat×bL:=
 if s.read=true then
  if ws.getD s.word 0=s.seen then
   (ws.set s.word (lO s.seen (s.seen%4294967296|||ofBits (eA s.seen s.most))),{s with read:=false,ports:=(eA s.seen s.most).map (s.word*32+ ·),done:=true})
  else(ws,{s with read:=false})
 else if cE (ws.getD s.word 0)=[]then
  (ws,{s with seen:=ws.getD s.word 0,words:=s.words.set s.word (ws.getD s.word 0),word:=(s.word+1)%s.words.length,left:=s.left-1,done:=decide (s.left-1=0)})
 else(ws,{s with seen:=ws.getD s.word 0,read:=true})
def qx (ws:List Nat)(s:bL):List Nat×bL:=
 if ws.getD s.word 0=s.words.getD s.word 0 then
  (ws,{s with word:=s.word+1,done:=decide (s.word+1=s.words.length),alike:=decide (s.word+1=s.words.length)})
 else(ws,{s with done:=true})
def sO (ws:List Nat)(s:bL):List Nat×bL:=
 match s.parts with
 |[]=>(ws,{s with done:=true})
 |(k,mask)::rest=>
  if s.read=true then
   if ws.getD k 0=s.seen then
    (ws.set k (lO s.seen (s.seen%4294967296&&& (18446744073709551615-mask))),{s with read:=false,parts:=rest,done:=decide (rest=[])})
   else(ws,{s with read:=false})
  else if ws.getD k 0&&& mask=0 then(ws,{s with seen:=ws.getD k 0,read:=false,parts:=rest,done:=decide (rest=[])})
  else(ws,{s with seen:=ws.getD k 0,read:=true})
def bh (ws:List Nat)(s:bL):List Nat×bL:=
 if s.done=true then(ws,s)else if s.kind=0 then ji ws s else if s.kind=1 then qx ws s else sO ws s
structure bL.Ok (m:Nat)(s:bL):Prop where
 kind:s.kind=0∨s.kind=1∨s.kind=2
 seen:s.seen<18446744073709551616
 words:∀u∈s.words,u<18446744073709551616
 lu:s.kind=0→s.words.length=m∧s.word<m∧s.left≤m∧1≤s.most∧s.most≤32∧(s.done=false→1≤s.left)
 pj:s.kind=1→s.words.length=m∧s.word≤m∧(s.done=false→s.word<m)
 parts:∀p∈s.parts,p.1<m∧p.2<4294967296
 ports:s.ports.length≤32
structure hJ (m:Nat)(ws:List Nat):Prop where
 len:ws.length=m
 pos:1≤m
 most:m≤32
 lt:∀u∈ws,u<18446744073709551616
theorem hJ.get {m:Nat}{ws:List Nat}(h:hJ m ws){i:Nat}(hi:i<m):ws[i]? =some (ws.getD i 0)∧ws.getD i 0<18446744073709551616:=by
 have na:i<ws.length:=by rw[h.len];exact hi
 rw[List.getD_eq_getElem?_getD,List.getElem?_eq_getElem na]
 exact⟨rfl,h.lt _ (List.getElem_mem na)⟩
theorem Hj (h:s.parts=[]):sO ws s=(ws,{s with done:=true}):=by
 cases s;simp at h;subst h;rfl
theorem Hi {k mask:Nat}{rest:List (Nat×Nat)}(h:s.parts=(k,mask)::rest):sO ws s=
  if s.read=true then
   if ws.getD k 0=s.seen then
    (ws.set k (lO s.seen (s.seen%4294967296&&& (18446744073709551615-mask))),{s with read:=false,parts:=rest,done:=decide (rest=[])})
   else(ws,{s with read:=false})
  else if ws.getD k 0&&& mask=0 then(ws,{s with seen:=ws.getD k 0,read:=false,parts:=rest,done:=decide (rest=[])})
  else(ws,{s with seen:=ws.getD k 0,read:=true}):=by
 cases s;simp at h;subst h;rfl
def partAt (ps:List (Nat×Nat))(k:Nat):Option Nat:=ps.findIdx? fun p=>p.1==k
def iL (fr mo:Int)(m:Nat):bL:=
 {kind:=0,word:=(fr%18446744073709551616).toNat%m,left:=m,most:=(min (max mo 1) 32).toNat,words:=List.replicate m 0}
theorem Yl (fr mo:Int)(hm:1≤m):(iL fr mo m).Ok m where
 kind:= .inl rfl
 seen:=by simp[iL]
 words:=by simp[iL]
 lu:=fun _=>⟨by simp[iL],Nat.mod_lt _ hm,Nat.le_refl _,by simp[iL];omega,by simp[iL];omega,fun _=>hm⟩
 pj:=by simp[iL]
 parts:=by simp[iL]
 ports:=by simp[iL]
def jd (s:bL):Bool:=decide (s.kind=0)&&s.done&&decide (s.ports=[])
def oC (t:bL):bL:={kind:=1,words:=t.words}
theorem XF {t:bL}(ht:t.Ok m)(hk:t.kind=0)(hm:1≤m):(oC t).Ok m where
 kind:= .inr (.inl rfl)
 seen:=by simp[oC]
 words:=ht.words
 lu:=by simp[oC]
 pj:=fun _=>⟨(ht.lu hk).1,by simp[oC],fun _=>by simp[oC];omega⟩
 parts:=by simp[oC]
 ports:=by simp[oC]
def fk (ws:List Nat)(j:Nat):Bool:= !(ws.getD (j/32) 0).testBit (j%32)
def gh (ws:List Nat)(c:Nat):List Nat:=(List.range c).filter (fk ws)
theorem RV (ws:List Nat)(c:Nat):gh ws (c+1)=gh ws c++if fk ws c then [c]else []:=by
 unfold gh
 rw[List.range_succ,List.filter_append]
 congr 1
 by_cases h:fk ws c<;>simp[h]
theorem Ir (ws:List Nat)(c:Nat):(gh ws c).length≤c:=by
 have:=List.length_filter_le (fk ws) (List.range c)
 simpa[gh]using this
def dy (n:Nat):List Nat:=
 if n%32=0 then List.replicate ((n+31)/32) 0
 else(List.replicate ((n+31)/32) 0).set ((n+31)/32-1) (4294967295&&& (18446744073709551615-(2^(n%32)-1)))
theorem V5 (h1:1≤n)(h2:n≤1024):hJ ((n+31)/32) (dy n) where
 len:=by unfold dy;split<;>simp
 pos:=by omega
 most:=by omega
 lt:=by
  unfold dy
  split
  ·intro u hu;simp at hu;omega
  ·intro u hu
   rcases List.mem_or_eq_of_mem_set hu with hu|rfl
   ·simp at hu;omega
   ·exact Nat.lt_of_le_of_lt Nat.and_le_left (by decide)
def addPart (ps:List (Nat×Nat))(z:Nat):List (Nat×Nat):=
 match partAt ps (z/32)with
 |some i=>ps.set i ((ps.getD i (0,0)).1,(ps.getD i (0,0)).2|||2^(z%32))
 |none=>ps++[(z/32,2^(z%32))]
def lI (n:Nat)(ps:List (Nat×Nat))(z:Int):List (Nat×Nat):=if 0≤z∧z<n then addPart ps z.toNat else ps
def rh (n:Nat)(l:List Int):List (Nat×Nat):=l.foldl (lI n) []
def re (n:Nat)(l:List Int):bL:={kind:=2,parts:=rh n l}
theorem PG (ps:List (Nat×Nat))(z:Nat):(addPart ps z).length≤ps.length+1:=by
 unfold addPart;split<;>simp
theorem PY (n:Nat)(ps:List (Nat×Nat))(z:Int):(lI n ps z).length≤ps.length+1:=by
 unfold lI;split
 ·exact PG _ _
 ·omega
theorem Im (n:Nat):∀(l:List Int) (ps:List (Nat×Nat)),(l.foldl (lI n) ps).length≤ps.length+l.length
 |[],ps=>by simp
 |z::l,ps=>by
  have:=Im n l (lI n ps z)
  have:=PY n ps z
  simp only[List.foldl_cons,List.length_cons]
  omega
theorem PX (n:Nat)(l:List Int):(rh n l).length≤l.length:=by have:=Im n l [];simpa[rh]using this
theorem Ld (z:Nat):2^(z%32)<4294967296:=xH (Nat.mod_lt _ (by decide))
theorem K0 {ps:List (Nat×Nat)}{c i:Nat}(h:partAt ps c=some i):i<ps.length:=by
 unfold partAt at h
 obtain⟨h',_⟩:=List.findIdx?_eq_some_iff_getElem.1 h
 exact h'
theorem PH {ps:List (Nat×Nat)}(h:∀p∈ps,p.1<m∧p.2<4294967296)(z:Nat)(hz:z/32<m):∀p∈addPart ps z,p.1<m∧p.2<4294967296:=by
 intro p hp
 unfold addPart at hp
 split at hp
 ·rename_i i hi
  have na:i<ps.length:=by
   unfold partAt at hi
   obtain⟨h',_⟩:=List.findIdx?_eq_some_iff_getElem.1 hi
   exact h'
  rcases List.mem_or_eq_of_mem_set hp with hp|rfl
  ·exact h p hp
  ·have:=h ps[i] (List.getElem_mem na)
   rw[List.getD_eq_getElem?_getD,List.getElem?_eq_getElem na]
   exact⟨this.1,xC this.2 (Ld z)⟩
 ·rcases List.mem_append.1 hp with hp|hp
  ·exact h p hp
  ·simp at hp
   subst hp
   exact⟨hz,Ld z⟩
theorem Hg (hn:n≤32*m):∀(l:List Int) (ps:List (Nat×Nat)),(∀p∈ps,p.1<m∧p.2<4294967296)→∀p∈l.foldl (lI n) ps,p.1<m∧p.2<4294967296
 |[],ps,h=>by simpa using h
 |z::l,ps,h=>by
  rw[List.foldl_cons]
  refine Hg hn l _ ?_
  unfold lI
  split
  ·exact PH h _ (by omega)
  ·exact h
theorem PW (hn:n≤32*m)(l:List Int):(re n l).Ok m where
 kind:= .inr (.inr rfl)
 seen:=by simp[re]
 words:=by simp[re]
 lu:=by simp[re]
 pj:=by simp[re]
 parts:=Hg hn l [] (by simp)
 ports:=by simp[re]
theorem WS {u most i:Nat}(h:i∈eA u most):i<32:=(ow.1 (List.mem_of_mem_take h)).1
theorem K9 (u most:Nat):ofBits (eA u most)<4294967296:=xz _ 32 fun _ h=>WS h
theorem hJ.set (h:hJ m ws)(i:Nat){u:Nat}(hu:u<18446744073709551616):hJ m (ws.set i u) where
 len:=by rw[List.length_set];exact h.len
 pos:=h.pos
 most:=h.most
 lt:=fun x hx=>by
  rcases List.mem_or_eq_of_mem_set hx with hx|rfl
  ·exact h.lt x hx
  ·exact hu
theorem getD_lt (h:∀u∈ws,u<18446744073709551616)(i:Nat):ws.getD i 0<18446744073709551616:=by
 rw[List.getD_eq_getElem?_getD]
 by_cases hi:i<ws.length
 ·rw[List.getElem?_eq_getElem hi];exact h _ (List.getElem_mem hi)
 ·rw[List.getElem?_eq_none (by omega)];simp
theorem yO (hw:hJ m ws)(hs:s.Ok m):hJ m (bh ws s).1∧(bh ws s).2.Ok m:=by
 unfold bh
 by_cases hd:s.done=true
 ·rw[if_pos hd];exact⟨hw,hs⟩
 rw[if_neg hd]
 by_cases h0:s.kind=0
 ·rw[if_pos h0]
  obtain⟨t1,t2,t3,t4,t5,t6⟩:=hs.lu h0
  have t6:=t6 (by simpa using hd)
  have hu:=getD_lt hw.lt s.word
  unfold ji
  by_cases hr:s.read=true
  ·rw[if_pos hr]
   by_cases he:ws.getD s.word 0=s.seen
   ·rw[if_pos he]
    refine⟨hw.set _ (Hy (xC (by omega) (K9 _ _))),⟨hs.kind,hs.seen,hs.words,fun _=>⟨t1,t2,t3,t4,t5,fun h=>by simp at h⟩,fun h=>by simp[h0]at h,hs.parts,?_⟩⟩
    simp only[List.length_map,eA,List.length_take]
    have:=RW s.seen
    omega
   ·rw[if_neg he]
    exact⟨hw,⟨hs.kind,hs.seen,hs.words,hs.lu,hs.pj,hs.parts,hs.ports⟩⟩
  ·rw[if_neg hr]
   by_cases hf:cE (ws.getD s.word 0)=[]
   ·rw[if_pos hf]
    refine⟨hw,⟨hs.kind,hu,fun x hx=> ?_,fun _=>⟨by simp[t1],?_,by simp;omega,t4,t5,fun h=> ?_⟩,fun h=>by simp[h0]at h,hs.parts,hs.ports⟩⟩
    ·rcases List.mem_or_eq_of_mem_set hx with hx|rfl
     ·exact hs.words x hx
     ·exact hu
    ·simp only[t1]
     exact Nat.mod_lt _ (by omega)
    ·have h':decide (s.left-1=0)=false:=h
     have:=of_decide_eq_false h'
     show 1≤s.left-1
     omega
   ·rw[if_neg hf]
    exact⟨hw,⟨hs.kind,hu,hs.words,hs.lu,hs.pj,hs.parts,hs.ports⟩⟩
 ·rw[if_neg h0]
  by_cases h1:s.kind=1
  ·rw[if_pos h1]
   obtain⟨t1,t2,t3⟩:=hs.pj h1
   have t3:=t3 (by simpa using hd)
   unfold qx
   by_cases he:ws.getD s.word 0=s.words.getD s.word 0
   ·rw[if_pos he]
    refine⟨hw,⟨hs.kind,hs.seen,hs.words,fun h=>absurd h h0,fun _=>⟨t1,by simp;omega,fun h=> ?_⟩,hs.parts,hs.ports⟩⟩
    simp[t1]at h
    simp;omega
   ·rw[if_neg he]
    exact⟨hw,⟨hs.kind,hs.seen,hs.words,fun h=>absurd h h0,fun _=>⟨t1,t2,fun h=>by simp at h⟩,hs.parts,hs.ports⟩⟩
  ·rw[if_neg h1]
   match hp:s.parts with
   |[]=>
    rw[Hj hp]
    exact⟨hw,⟨hs.kind,hs.seen,hs.words,fun h=>absurd h h0,fun h=>absurd h h1,hs.parts,hs.ports⟩⟩
   |(k,mask)::rest=>
    rw[Hi hp]
    have DV:∀p∈rest,p.1<m∧p.2<4294967296:=fun p zG=>hs.parts p (by rw[hp];exact List.mem_cons_of_mem _ zG)
    by_cases hr:s.read=true
    ·rw[if_pos hr]
     by_cases he:ws.getD k 0=s.seen
     ·rw[if_pos he]
      exact⟨hw.set _ (Hy (Nat.lt_of_le_of_lt Nat.and_le_left (by omega))),⟨hs.kind,hs.seen,hs.words,fun h=>absurd h h0,fun h=>absurd h h1,DV,hs.ports⟩⟩
     ·rw[if_neg he]
      exact⟨hw,⟨hs.kind,hs.seen,hs.words,hs.lu,hs.pj,hs.parts,hs.ports⟩⟩
    ·rw[if_neg hr]
     have hu:=getD_lt hw.lt k
     by_cases he:ws.getD k 0&&& mask=0
     ·rw[if_pos he]
      exact⟨hw,⟨hs.kind,hu,hs.words,fun h=>absurd h h0,fun h=>absurd h h1,DV,hs.ports⟩⟩
     ·rw[if_neg he]
      exact⟨hw,⟨hs.kind,hu,hs.words,hs.lu,hs.pj,hs.parts,hs.ports⟩⟩
theorem MG {i:Nat}(h:i<32):IntKind.u64.wrap ((2:Int)^i)=((2^i:Nat):Int):=by
 have:2^i<4294967296:=xH h
 rw[IntKind.wrap_u64,show((2:Int)^i)=((2^i:Nat):Int)by norm_cast]
 generalize 2^i=p at*
 omega
theorem ZL {u:Nat}(hu:u<18446744073709551616):bits BinOp.xor IntKind.u64 IntKind.u64.max (u:Int)=((18446744073709551615-u:Nat):Int):=by
 have:=u64_xor_nat 18446744073709551615 u (by decide) hu
 rw[show IntKind.u64.max=((18446744073709551615:Nat):Int)from rfl,this]
 congr 1
 apply Nat.eq_of_testBit_eq
 intro j
 have h1:(18446744073709551615:Nat).testBit j=decide (j<64):=Nat.testBit_two_pow_sub_one 64 j
 have h2:=Nat.testBit_two_pow_sub_succ (n:=64) (x:=u) hu j
 rw[show(2:Nat)^64-(u+1)=18446744073709551615-u by omega]at h2
 rw[Nat.testBit_xor,h1,h2]
 by_cases hj:j<64
 ·simp[hj]
 ·have:u.testBit j=false:=Nat.testBit_lt_two_pow (Nat.lt_of_lt_of_le hu (Nat.pow_le_pow_right (show 0<2 by decide) (show 64≤j by omega)))
  simp[hj,this]
theorem K8 (u most:Nat):(eA u most).length=min most (cE u).length:=by simp[eA]
theorem RY {u:Nat}(hu:u<18446744073709551616):bits BinOp.and IntKind.u64 (bits BinOp.xor IntKind.u64 IntKind.u64.max (u:Int)) 4294967295=((ofBits (cE u):Nat):Int):=by
 rw[ZL hu,←Wm _ hu]
 exact u64_and_nat _ 4294967295 (by omega) (by decide)
theorem Sg {u most k:Nat}:(¬ofBits ((cE u).drop k)=0∧k<most)↔k<(eA u most).length:=by
 rw[K8,ED,List.drop_eq_nil_iff]
 omega
theorem RZ (u k:Nat):ofBits ((cE u).drop k)<4294967296:=xz _ 32 fun i hi=>(ow.1 (List.mem_of_mem_drop hi)).1
theorem Sh {u k:Nat}(h:k<(cE u).length):
  Lib.ctz 64 (ofBits ((cE u).drop k))=(cE u)[k]∧(cE u)[k]<32∧
   ofBits ((cE u).drop k)&&& (18446744073709551615-2^(cE u)[k])=ofBits ((cE u).drop (k+1)):=by
 have e:=List.drop_eq_getElem_cons h
 have ck:∀j∈cE u,j<32:=fun j hj=>(ow.1 hj).1
 have h1:∀j∈(cE u).drop (k+1),(cE u)[k]<j:=Xp (It u) e
 have h2:∀j∈(cE u).drop (k+1),j<64:=fun j hj=>by have:=ck j (List.mem_of_mem_drop hj);omega
 have h3:(cE u)[k]<32:=ck _ (List.getElem_mem h)
 rw[e]
 exact⟨QA _ _ h1 (by omega) h2,h3,Wo _ _ h1 h2 (by omega)⟩
theorem Wn (l:List Nat)(i:Nat):ofBits (l++[i])=ofBits l|||2^i:=by
 induction l with
 |nil=>simp[ofBits]
 |cons j l ih=>simp[ofBits,ih,Nat.or_assoc]
theorem Wp (u k:Nat):ofBits ((cE u).take k)<4294967296:=xz _ 32 fun i hi=>(ow.1 (List.mem_of_mem_take hi)).1
def uB (ws:List Nat)(s:bL):List Nat×bL:=
 if ws.getD s.word 0=s.seen then
  (ws.set s.word (lO s.seen (s.seen%4294967296|||ofBits (eA s.seen s.most))),{s with ports:=(eA s.seen s.most).map (s.word*32+ ·),done:=true})
 else(ws,s)
theorem Eo {u:Nat}(hu:u<18446744073709551616):bits BinOp.and IntKind.u64 (u:Int) 4294967295=((u%4294967296:Nat):Int):=by
 have:=u64_and_nat u 4294967295 hu (by decide)
 rw[show((4294967295:Nat):Int)=4294967295 from rfl]at this
 rw[this,Nat.and_two_pow_sub_one_eq_mod u 32]
theorem PL {u k:Nat}(hu:u<18446744073709551616)(hk:k<4294967296):bits BinOp.and IntKind.u64 (u:Int) (k:Int)=((u&&& k:Nat):Int):=u64_and_nat u k hu (by omega)
theorem PK {u mask:Nat}(hu:u<18446744073709551616)(hm:mask<4294967296):bits BinOp.andNot IntKind.u64 ((u:Int)%4294967296) (mask:Int)=((u%4294967296&&& (18446744073709551615-mask):Nat):Int):=by
 have:=u64_andNot_nat (u%4294967296) mask (by omega) (by omega)
 rw[←this]
 congr 1
theorem Yn (h:s.read=true):ji ws s=uB ws {s with read:=false}:=by
 unfold ji uB
 rw[if_pos h]
end
section
open Go.RowKit
structure cU where
 id:Int
 at_:Nat
 aS:Nat
theorem xor_zero {a b:Nat}(h:a^^^b=0):a=b:=by
 apply Nat.eq_of_testBit_eq
 intro i
 have:=congrArg (fun z=>Nat.testBit z i) h
 simp only[Nat.testBit_xor,Nat.zero_testBit]at this
 cases ha:a.testBit i<;>cases hb:b.testBit i<;>simp_all
def gi (a b:Nat):Nat:=(Lib.bitLen (a^^^b)-1)/6
theorem EH (l:Nat):64^l=2^(6*l):=by rw[Nat.pow_mul]
theorem Em {a b:Nat}(ha:a<4294967296)(hb:b<4294967296)(h:a≠b):gi a b≤5∧a/64^(gi a b+1)=b/64^(gi a b+1)∧a/64^gi a b≠b/64^gi a b:=by
 have hv:a^^^b<2^32:=Nat.xor_lt_two_pow (by omega) (by omega)
 have D5:a^^^b≠0:=fun e=>h (xor_zero e)
 obtain⟨h1,h2,h3⟩:=Lib.bitLenAux_bounds 64 (a^^^b) (by omega) D5
 have hl:Lib.bitLen (a^^^b)≤32:=Lib.bitLen_le _ 32 (by decide) hv
 have e:Lib.bitLen (a^^^b)=Lib.bitLenAux 64 (a^^^b):=rfl
 rw[←e]at h1 h2 h3
 unfold gi
 generalize Lib.bitLen (a^^^b)=n at*
 refine⟨by omega,?_,?_⟩
 ·apply xor_zero
  rw[EH,←Nat.xor_div_two_pow]
  refine Nat.div_eq_of_lt (Nat.lt_of_lt_of_le h3 (Nat.pow_le_pow_right (by decide) (by omega)))
 ·intro g
  have:(a^^^b)/2^(6*((n-1)/6))=0:=by
   rw[Nat.xor_div_two_pow,←EH,g,Nat.xor_self]
  have h4:2^(6*((n-1)/6))≤a^^^b:=Nat.le_trans (Nat.pow_le_pow_right (by decide) (by omega)) h2
  have h5:=Nat.div_pos h4 (Nat.pow_pos (by decide))
  omega
theorem HM {a b m n:Nat}(h:a/64^m=b/64^m)(hm:m≤n):a/64^n=b/64^n:=by
 obtain⟨k,rfl⟩:∃k,n=m+k:=⟨n-m,by omega⟩
 rw[Nat.pow_add,←Nat.div_div_eq_div_mul,←Nat.div_div_eq_div_mul,h]
theorem UX {a b l:Nat}(ha:a<4294967296)(hb:b<4294967296)(h1:a/64^(l+1)=b/64^(l+1))(h2:a/64^l≠b/64^l):gi a b=l:=by
 have dc:a≠b:=fun e=>h2 (by rw[e])
 obtain⟨_,k1,k2⟩:=Em ha hb dc
 rcases Nat.lt_trichotomy (gi a b) l with g|g|g
 ·exact absurd (HM k1 g) h2
 ·exact g
 ·exact absurd (HM h1 g) k2
def dg (x l:Nat):Nat:=x/64^l%64
theorem yN (x l:Nat):x/64^(l+1)=x/64^l/64:=by rw[Nat.pow_succ,←Nat.div_div_eq_div_mul]
theorem QJ {x f l:Nat}(h:f<x)(h1:x/64^(l+1)=f/64^(l+1))(h2:x/64^l≠f/64^l):dg f l<dg x l:=by
 have h3:f/64^l≤x/64^l:=Nat.div_le_div_right (by omega)
 rw[yN,yN]at h1
 unfold dg
 omega
theorem Sk {x t l:Nat}(h1:x/64^(l+1)=t/64^(l+1))(h2:dg t l<dg x l):t<x∧x/64^l≠t/64^l:=by
 rw[yN,yN]at h1
 unfold dg at h2
 have h3:t/64^l<x/64^l:=by omega
 refine⟨?_,by omega⟩
 rcases Nat.lt_or_ge t x with g|g
 ·exact g
 ·have:x/64^l≤t/64^l:=Nat.div_le_div_right g
  omega
def EM (l f t:Nat):List Nat:=if f/64^(l+1)=t/64^(l+1)then List.range' (dg f l+1) (dg t l-dg f l)else List.range' 0 64
theorem stays {x f t:Nat}(hx:x<4294967296)(ht:t<4294967296)(hf:f<x)(hn:dg x (gi x f)∉EM (gi x f) f t):t<x∧gi x t=gi x f:=by
 obtain⟨_,h1,h2⟩:=Em hx (by omega) (show x≠f by omega)
 have h3:=QJ hf h1 h2
 have h4:dg x (gi x f)<64:=Nat.mod_lt _ (by decide)
 generalize gi x f=l at*
 unfold EM at hn
 split at hn
 ·rename_i e
  have h5:dg t l<dg x l:=by
   rcases Nat.lt_or_ge (dg t l) (dg x l)with g|g
   ·exact g
   ·refine absurd (List.mem_range'.2 ⟨dg x l-(dg f l+1),by omega,by omega⟩) hn
  obtain⟨h6,h7⟩:=Sk (h1.trans e) h5
  exact⟨h6,UX hx ht (h1.trans e) h7⟩
 ·exact absurd (List.mem_range'.2 ⟨dg x l,by omega,by omega⟩) hn
structure ec where
 now:Nat
 aS:Nat
 ready:List cU
 sl:Nat→List cU
def gY {α:Type}(f:Nat→α)(k:Nat)(v:α):Nat→α:=fun i=>if i=k then v else f i
theorem xU {α:Type}(f:Nat→α)(k:Nat)(v:α):gY f k v k=v:=if_pos rfl
theorem va {α:Type}(f:Nat→α){k i:Nat}(v:α)(h:i≠k):gY f k v i=f i:=if_neg h
def spot (now a:Nat):Nat:=gi a now*64+dg a (gi a now)
theorem LW {now a:Nat}(ha:a<4294967296)(h:now<a):spot now a<384:=by
 have h1:=(Em ha (show now<4294967296 by omega) (show a≠now by omega)).1
 have h2:dg a (gi a now)<64:=Nat.mod_lt _ (by decide)
 unfold spot
 omega
def rn (sl:Nat→List cU):List cU:=(List.range 384).flatMap sl
def ec.all (s:ec):List cU:=s.ready++rn s.sl
def nN (s:ec)(x:cU):ec:=if x.at_≤s.now then {s with ready:=s.ready++[x]}else {s with sl:=gY s.sl (spot s.now x.at_) (s.sl (spot s.now x.at_)++[x])}
structure yF (s:ec):Prop where
 now:s.now<4294967296
 ready:∀x∈s.ready,x.at_≤s.now
 sl:∀k,k<384→∀x∈s.sl k,s.now<x.at_∧x.at_<4294967296∧spot s.now x.at_=k
theorem W5 (s:ec)(x:cU):(nN s x).now=s.now∧(nN s x).aS=s.aS:=by unfold nN;split<;>exact⟨rfl,rfl⟩
theorem W6 {s:ec}{x:cU}(h:yF s)(hx:x.at_<4294967296):yF (nN s x):=by
 unfold nN
 split
 ·rename_i g
  refine⟨h.now,fun y hy=> ?_,h.sl⟩
  rcases List.mem_append.1 hy with hy|hy
  ·exact h.ready y hy
  ·simp only[List.mem_singleton]at hy
   subst hy;exact g
 ·rename_i g
  refine⟨h.now,h.ready,fun k hk y hy=> ?_⟩
  dsimp only at hy ⊢
  unfold gY at hy
  split at hy
  ·rename_i e
   subst e
   rcases List.mem_append.1 hy with hy|hy
   ·exact h.sl _ hk y hy
   ·simp only[List.mem_singleton]at hy
    subst hy
    exact⟨by omega,hx,rfl⟩
  ·exact h.sl k hk y hy
open List in
theorem Ii (f:Nat→List cU)(k:Nat)(v:List cU):∀n,k<n→((List.range n).flatMap (gY f k v)++f k) ~ ((List.range n).flatMap f++v)
 |0,h=>absurd h (by omega)
 |n+1,h=>by
  rw[List.range_succ,List.flatMap_append,List.flatMap_append]
  simp only[List.flatMap_cons,List.flatMap_nil,List.append_nil]
  rcases Nat.lt_or_ge k n with g|g
  ·have ih:=Ii f k v n g
   rw[va f v (show n≠k by omega)]
   have e1:((List.range n).flatMap (gY f k v)++f n++f k) ~ (((List.range n).flatMap (gY f k v)++f k)++f n):=by
    rw[List.append_assoc,List.append_assoc]
    exact List.Perm.append_left _ List.perm_append_comm
   have e2:((List.range n).flatMap f++v++f n) ~ ((List.range n).flatMap f++f n++v):=by
    rw[List.append_assoc,List.append_assoc]
    exact List.Perm.append_left _ List.perm_append_comm
   exact e1.trans ((ih.append_right _).trans e2)
  ·obtain rfl:k=n:=by omega
   rw[xU]
   have e3:(List.range k).flatMap (gY f k v)=(List.range k).flatMap f:=by
    have hc:∀x∈List.range k,gY f k v x=f x:=fun x hx=>va f v (by have:=List.mem_range.1 hx;omega)
    rw[List.flatMap_def,List.flatMap_def,List.map_congr_left hc]
   rw[e3,List.append_assoc,List.append_assoc]
   exact List.Perm.append_left _ List.perm_append_comm
open List in
theorem W3 {s:ec}{x:cU}(hx:x.at_<4294967296):(nN s x).all ~ (x::s.all):=by
 unfold nN ec.all
 split
 ·dsimp only
  rw[List.append_assoc]
  exact List.perm_middle
 ·rename_i g
  dsimp only
  have h:=Ii s.sl (spot s.now x.at_) (s.sl (spot s.now x.at_)++[x]) 384 (LW hx (by omega))
  have h2:(rn (gY s.sl (spot s.now x.at_) (s.sl (spot s.now x.at_)++[x]))) ~ (rn s.sl++[x]):=by
   have h3:(rn (gY s.sl (spot s.now x.at_) (s.sl (spot s.now x.at_)++[x]))++s.sl (spot s.now x.at_)) ~ ((rn s.sl++[x])++s.sl (spot s.now x.at_)):=by
    refine h.trans ?_
    rw[←List.append_assoc,List.append_assoc,List.append_assoc]
    exact List.Perm.append_left _ List.perm_append_comm
   exact(List.perm_append_right_iff _).1 h3
  refine(List.Perm.append_left _ h2).trans ?_
  rw[←List.append_assoc]
  exact List.perm_append_singleton _ _
def Iy:List Nat→(Nat→List cU)→List cU→List cU×(Nat→List cU)
 |[],sl,out=>(out,sl)
 |i::l,sl,out=>Iy l (gY sl i []) (out++sl i)
def UN (l f t:Nat):List Nat:=(EM l f t).map (l*64+ ·)
def idx (f t:Nat):List Nat:=(List.range 6).flatMap fun l=>UN l f t
def Ra (s:ec)(t:Nat):List cU×ec:=
 let g:=Iy (idx s.now t) s.sl []
 let s2:=g.1.foldl nN ⟨t,s.aS,[],g.2⟩
 (s.ready++s2.ready,{s2 with ready:=[]})
def HQ (s:ec)(n:Int):List cU×ec:=if(s.now:Int)<min n 4294967295 then Ra s (min n 4294967295).toNat else(s.ready,{s with ready:=[]})
end
section
open Go.RowKit
def Rh (a b:cU):Bool:=decide (a.at_<b.at_∨(a.at_=b.at_∧a.aS<b.aS))
abbrev Rg (a b:cU):Bool:= !Rh b a
def X7 (l:List cU):List cU:=l.mergeSort Rg
def nU (l:List cU):Prop:=(l.map cU.aS).Nodup
theorem nU.perm {l m:List cU}(h:nU l)(p:m.Perm l):nU m:=List.Nodup.perm h (p.symm.map _)
theorem nU.cons {l:List cU}{x:cU}(ht:nU l)(hx:∀y∈l,y.aS<x.aS):nU (x::l):=by
 unfold nU at*
 rw[List.map_cons,List.nodup_cons]
 refine⟨fun h=> ?_,ht⟩
 obtain⟨y,hy,e⟩:=List.mem_map.1 h
 have:=hx y hy
 omega
structure nt (s:ec):Prop where
 pos:yF s
 turns:nU s.all
 less:∀x∈s.all,x.aS≤s.aS
def kI:ec:=⟨0,0,[],fun _=>[]⟩
theorem CW:rn (fun _=>[])=[]:=by unfold rn;simp
theorem V6:nt kI:=⟨⟨by decide,fun x hx=>by simp[kI]at hx,fun k _ x hx=>by simp[kI]at hx⟩,by simp[nU,ec.all,kI,CW],fun x hx=>by simp[ec.all,kI,CW]at hx⟩
theorem KE:kI.all=[]:=by simp[ec.all,kI,CW]
def mG (s:ec)(id:Int)(a:Nat):ec:=nN {s with aS:=s.aS+1} ⟨id,a,s.aS+1⟩
theorem G4 {s:ec}{id:Int}{a:Nat}(h:nt s)(ha:a<4294967296):nt (mG s id a)∧(mG s id a).now=s.now∧(mG s id a).aS=s.aS+1∧(mG s id a).all.Perm (⟨id,a,s.aS+1⟩::s.all):=by
 have hp:yF {s with aS:=s.aS+1}:=⟨h.pos.now,h.pos.ready,h.pos.sl⟩
 have h1:=W6 (x:=⟨id,a,s.aS+1⟩) hp ha
 have h2:=W3 (s:={s with aS:=s.aS+1}) (x:=⟨id,a,s.aS+1⟩) ha
 obtain⟨h3,h4⟩:=W5 {s with aS:=s.aS+1} ⟨id,a,s.aS+1⟩
 have ht:nU (⟨id,a,s.aS+1⟩::s.all):=nU.cons h.turns fun y hy=>by have:=h.less y hy;dsimp only;omega
 refine⟨⟨h1,ht.perm h2,fun x hx=> ?_⟩,h3,h4,h2⟩
 unfold mG
 rw[h4]
 dsimp only
 rcases List.mem_cons.1 (h2.mem_iff.1 hx)with rfl|hx
 ·exact Nat.le_refl _
 ·have:=h.less x hx;omega
end
section
def EV:bL:={kind:=0}
structure j5 where
 kind:Nat
 bG:bL
 done:Bool
structure dC where
 h:Nat
 l:List Nat
 out:Option bL
def pV (h:Nat):dC:=⟨h,[],none⟩
def xQ:j5:=⟨3,EV,false⟩
def mN (np:Nat)(c:dC):j5:=if c.l≠ []∨c.out.isSome=true then xQ else⟨0,iL c.h 8 ((np+31)/32),false⟩
def Hs (f:j5):j5:=⟨1,oC f.bG,false⟩
def ny (s:j5):Bool:=decide (s.kind=0)&&s.done&&jd s.bG
def kp (np:Nat)(c:dC)(x:Nat):dC×j5:=
 if 16<(c.l++[x]).length∧c.out.isSome=false then({c with l:=(c.l++[x]).drop 8,out:=some (re np (((c.l++[x]).take 8).map fun y:Nat=>(y:Int)))},⟨2,EV,false⟩)
 else({c with l:=c.l++[x]},xQ)
def eh (ws:List Nat)(c:dC)(s:j5):List Nat×dC×j5:=
 if s.done=true then(ws,c,s)
 else if s.kind=3 then(ws,c,{s with done:=true})
 else if s.kind=2 then
  match c.out with
  |some o=>((bh ws o).1,{c with out:=if(bh ws o).2.done=true then none else some (bh ws o).2},{s with done:=(bh ws o).2.done})
  |none=>(ws,c,{s with done:=true})
 else((bh ws s.bG).1,if s.kind=0∧(bh ws s.bG).2.done=true then {c with h:=if(bh ws s.bG).2.ports=[]then c.h else(bh ws s.bG).2.word,l:=c.l++(bh ws s.bG).2.ports.reverse}else c,{s with bG:=(bh ws s.bG).2,done:=(bh ws s.bG).2.done})
structure aH where
 out:Bool
 b:List UInt8
 tick:Int
 next:Nat
 ar:dQ
 part:gQ
 fW:Bool
 bE:Option jl
 find:Option aU
 fill:Option j5
 again:Option j5
 enter:Option aU
 id:Int
 word:aJ
 now:aJ
 dU:dQ
 made:Bool
 fY:Nat
 pinned:Bool
 fD:List UInt8
 lH:Nat
 done:Bool
structure gR where
 tick:Int
 next:Nat
 due:List Nat
 word:aJ
 drop:Option aU
 dying:Int
 on:Option jl
 dr:List Nat
 back:Option j5
 done:Bool
structure aR where
 c0:dC
 c1:dC
 c2:dC
 bp:ec
 cm:List (Int×dQ)
 frame:Option aH
 aX:Option gR
 cj:List UInt8
 iM:Nat
 any:Bool
 ended:List (Int×Int)
structure aW where
 pl:List Nat
 tb:List Nat
 ep:List Nat
 gs:List (List (Nat×Nat))
 p0:List Nat
 p1:List Nat
 p2:List Nat
structure bm where
 sh:aW
 wk:List aR
def aR.ca (k:aR)(i:Nat):dC:=if i=0 then k.c0 else if i=1 then k.c1 else k.c2
def aR.bK (k:aR)(i:Nat)(c:dC):aR:=if i=0 then {k with c0:=c}else if i=1 then {k with c1:=c}else {k with c2:=c}
def aW.po (s:aW)(i:Nat):List Nat:=if i=0 then s.p0 else if i=1 then s.p1 else s.p2
def aW.dP (s:aW)(i:Nat)(w:List Nat):aW:=if i=0 then {s with p0:=w}else if i=1 then {s with p1:=w}else {s with p2:=w}
def jB (w:Nat):aR:=⟨pV w,pV w,pV w,kI,[],none,none,[],0,false,[]⟩
def dI (c:NC):bm:=⟨⟨List.replicate (2*(3*c.np)) 0,List.replicate (c.nb+1) 0,List.replicate (c.n+1) 0,List.replicate c.n [],dy c.np,dy c.np,dy c.np⟩,(List.range c.n).map jB⟩
def aF (proto:Nat):Nat:=if proto=1 then 0 else if proto=6 then 1 else 2
def jY (k:Nat):Nat:=if k=0 then 1 else if k=1 then 6 else 17
def qq (f:dQ):Nat:=gz f.proto f.addr f.port
def nC (k:Nat):dQ:=⟨k/281474976710656,k/65536%4294967296,k%65536⟩
def jh (c:NC)(kind:Nat)(f:dQ)(id:Int)(next:Nat):aU:=pk kind f.proto f.addr f.port id next c.nb
def bC (s:aW)(id:Int):aJ:=aJ.of (s.pl.getD (2*id.toNat) 0)
def o9 (s:aW)(id:Int):Nat:=s.pl.getD (2*id.toNat+1) 0
def fG (s:aW)(id:Int)(a b:aJ):Bool:=kE a b&&decide (s.pl.getD (2*id.toNat) 0=a.num)
def bN (s:aW)(id:Int)(a b:aJ):aW:=if fG s id a b=true then {s with pl:=s.pl.set (2*id.toNat) b.num}else s
def oE (s:aW)(id:Int)(f:dQ):aW:={s with pl:=s.pl.set (2*id.toNat+1) (qq f)}
def nD (out:Bool)(b:List UInt8)(tick:Int):aH:=⟨out,b,tick,0,qc,bz,false,none,none,none,none,none, -1,w0,w0,qc,false,0,false,[],0,false⟩
def aH.fin (f:aH)(b:List UInt8)(e:Nat):aH:={f with fD:=b,lH:=e,next:=18}
def aH.refuse (f:aH)(e:Nat):aH:={f with fD:=[],lH:=e,done:=true}
def aH.look (c:NC)(f:aH):aH:={f with find:=some (jh c 0 f.ar (-1) 0),next:=2}
def aH.gm (f:aH)(w:aJ):aJ:=if f.part.err then w else {w with tr:=iF f.ar.proto w.tr f.out f.part.flags,sn:=if mi f.ar.proto f.out then max w.sn f.tick.toNat else w.sn}
def u4 (l:List UInt8):Nat:=dz l
def aH.goes (c:NC)(f:aH)(id:Int):aH:=f.fin (jf f.b true c.o (c.lo+id.toNat%c.np)) (u4 f.b)
def aH.fj (f:aH)(id:Int)(w:aJ):aH:={f with id:=id,word:=w,next:=if w.st=1 then 3 else 4}
def nP (c:NC)(w:Nat)(f:aH):aH:=
 if f.tick<0∨f.tick>4294967295 then f.refuse 1
 else if jj c.o f.out f.b≠0 then f.refuse (jj c.o f.out f.b)
 else if f.out=false∧iH c.cfg (cQ f.out f.b).proto (cQ f.out f.b).port<0 then
  {f with part:=dv f.b,ar:=cQ f.out f.b,fW:=kU f.out f.b,id:=iH c.cfg (cQ f.out f.b).proto (cQ f.out f.b).port}.refuse 7
 else {f with part:=dv f.b,ar:=cQ f.out f.b,fW:=kU f.out f.b,id:=if f.out=true then f.id else iH c.cfg (cQ f.out f.b).proto (cQ f.out f.b).port,bE:=some ⟨w,false,0,0,false,false⟩,next:=1}
def aH.qa (c:NC)(k:aR)(f:aH):aH:={f with fill:=some (mN c.np (k.ca (aF f.ar.proto))),next:=6}
def tU (c:NC)(s:aW)(f:aH):aH:=
 if(bC s f.id).gen≠f.word.gen∨((bC s f.id).st≠2∧(bC s f.id).st≠1)then f.look c
 else if(bC s f.id).st=1 then f.fj f.id (bC s f.id)
 else if f.gm (bC s f.id)=bC s f.id then {f with word:=bC s f.id,now:=f.gm (bC s f.id),next:=5}.goes c f.id
 else {f with word:=bC s f.id,now:=f.gm (bC s f.id),next:=5}
def oT (c:NC)(k:aR)(f:aH)(t:aU):aH:=
 if t.end_=0 then f.fj t.found t.aQ else if f.fW=true then f.qa c k else f.fin [] 7
def fw (c:NC)(s:aW)(k:aR)(f:aH):aW×aH:=
 if f.next=2 then
  match f.find with
  |some t=>({s with tb:=(bA s.pl c.nb s.tb t).1},if(bA s.pl c.nb s.tb t).2.done=false then {f with find:=some (bA s.pl c.nb s.tb t).2}else oT c k {f with find:=some (bA s.pl c.nb s.tb t).2} (bA s.pl c.nb s.tb t).2)
  |none=>(s,f)
 else if f.next=3 then(bN s f.id f.word {f.word with st:=2},{f with next:=4})
 else if f.next=4 then(s,tU c s f)
 else(bN s f.id f.word f.now,if fG s f.id f.word f.now=true then {f with next:=4}.goes c f.id else {f with next:=4})
def dA (c:dC):Nat:=c.l.getD (c.l.length-1) 0
def cC (c:NC)(s:aW)(k:aR)(f:aH):aW×aR×aH:=
 if f.next=6 then
  match f.fill with
  |some x=>
   ({s.dP (aF f.ar.proto) (eh (s.po (aF f.ar.proto)) (k.ca (aF f.ar.proto)) x).1 with tb:=s.tb},k.bK (aF f.ar.proto) (eh (s.po (aF f.ar.proto)) (k.ca (aF f.ar.proto)) x).2.1,
    if(eh (s.po (aF f.ar.proto)) (k.ca (aF f.ar.proto)) x).2.2.done=false then {f with fill:=some (eh (s.po (aF f.ar.proto)) (k.ca (aF f.ar.proto)) x).2.2}
    else if ny (eh (s.po (aF f.ar.proto)) (k.ca (aF f.ar.proto)) x).2.2=true then {f with fill:=some (eh (s.po (aF f.ar.proto)) (k.ca (aF f.ar.proto)) x).2.2,find:=some (jh c 0 f.ar (-1) 0),next:=7}
    else {f with fill:=some (eh (s.po (aF f.ar.proto)) (k.ca (aF f.ar.proto)) x).2.2,next:=9})
  |none=>(s,k,f)
 else if f.next=7 then
  match f.find,f.fill with
  |some t,some x=>({s with tb:=(bA s.pl c.nb s.tb t).1},k,if(bA s.pl c.nb s.tb t).2.done=false then {f with find:=some (bA s.pl c.nb s.tb t).2}
    else if(bA s.pl c.nb s.tb t).2.end_=0 then {f with find:=some (bA s.pl c.nb s.tb t).2}.fj (bA s.pl c.nb s.tb t).2.found (bA s.pl c.nb s.tb t).2.aQ
    else {f with find:=some (bA s.pl c.nb s.tb t).2,again:=some (Hs x),next:=8})
  |_,_=>(s,k,f)
 else if f.next=8 then
  match f.again with
  |some x=>
   (s.dP (aF f.ar.proto) (eh (s.po (aF f.ar.proto)) (k.ca (aF f.ar.proto)) x).1,k,
    if(eh (s.po (aF f.ar.proto)) (k.ca (aF f.ar.proto)) x).2.2.done=false then {f with again:=some (eh (s.po (aF f.ar.proto)) (k.ca (aF f.ar.proto)) x).2.2}
    else if(eh (s.po (aF f.ar.proto)) (k.ca (aF f.ar.proto)) x).2.2.bG.alike=true then {f with again:=some (eh (s.po (aF f.ar.proto)) (k.ca (aF f.ar.proto)) x).2.2}.fin [] 8
    else {f with again:=some (eh (s.po (aF f.ar.proto)) (k.ca (aF f.ar.proto)) x).2.2}.qa c k)
  |none=>(s,k,f)
 else if f.next=9 then
  (s,k,{f with id:=((aF f.ar.proto*c.np+dA (k.ca (aF f.ar.proto)):Nat):Int),word:=bC s ((aF f.ar.proto*c.np+dA (k.ca (aF f.ar.proto)):Nat):Int),next:=10})
 else if f.next=10 then(oE s f.id f.ar,k,{f with next:=11})
 else
  let now:aJ:=⟨1,(f.word.gen+1)%65536,iF f.ar.proto 0 true f.part.flags,f.tick.toNat⟩
  if fG s f.id f.word now=true then
   (bN s f.id f.word now,k.bK (aF f.ar.proto) {k.ca (aF f.ar.proto)with l:=(k.ca (aF f.ar.proto)).l.take ((k.ca (aF f.ar.proto)).l.length-1)},
    {f with word:=now,made:=true,fY:=f.id.toNat,enter:=some (jh c 1 f.ar f.id 0),next:=12})
  else(s,k,{f with next:=9})
def jo (k:aR)(proto:Nat)(id:Int)(w:aJ)(tick:Int):aR:=
 if proto≠6 then(if w.sn+nJ proto w.tr≤4294967295 then {k with bp:=mG k.bp id (w.sn+nJ proto w.tr)}else k)
 else if tick≤4294967295 then {k with bp:=mG k.bp id tick.toNat}else k
def ir (l:List (Int×dQ))(i:Int)(f:dQ):List (Int×dQ):=if l.any (fun p=>p.1=i)then l.map (fun p=>if p.1=i then(i,f)else p)else l++[(i,f)]
def fi (c:NC)(s:aW)(k:aR)(f:aH):aW×aR×aH:=
 if f.next=12 then
  match f.enter with
  |some t=>({s with tb:=(bA s.pl c.nb s.tb t).1},k,if(bA s.pl c.nb s.tb t).2.done=false then {f with enter:=some (bA s.pl c.nb s.tb t).2}else {f with enter:=some (bA s.pl c.nb s.tb t).2,next:=if(bA s.pl c.nb s.tb t).2.end_=0 then 13 else 14})
  |none=>(s,k,f)
 else if f.next=13 then
  (bN s f.id f.word {f.word with st:=2},jo {k with cm:=ir k.cm f.id f.ar} (jY (f.id.toNat/c.np)) f.id f.word f.tick,f.goes c f.id)
 else
  match f.enter with
  |some t=>(bN s f.id f.word {f.word with st:=0},k.bK (aF f.ar.proto) (kp c.np (k.ca (aF f.ar.proto)) (f.id.toNat%c.np)).1,
    if t.end_=10 then {f with made:=false}.fj t.found t.aQ else {f with made:=false}.fin [] 9)
  |none=>(s,k,f)
def hZ (c:NC)(s:aW)(f:aH):aW×aH:=
 if f.next=15 then(s,if(bC s f.id).st≠2 then {f with word:=bC s f.id,next:=16}.fin [] 7 else {f with word:=bC s f.id,next:=16})
 else if f.next=16 then(s,{f with dU:=nC (o9 s f.id),now:=f.gm f.word,next:=17})
 else if f.now=f.word then(s,if bC s f.id=f.word then {f with next:=15}.fin (jf f.b false f.dU.addr f.dU.port) (u4 f.b)else {f with next:=15})
 else(bN s f.id f.word f.now,if fG s f.id f.word f.now=true then {f with next:=15}.fin (jf f.b false f.dU.addr f.dU.port) (u4 f.b)else {f with next:=15})
def bZ (c:NC)(w:Nat)(s:aW)(k:aR)(f:aH):aW×aR×aH:=
 if f.next=0 then(s,k,nP c w f)
 else if f.next=1 then
  match f.bE with
  |some e=>({s with ep:=(dt c.n s.ep e).1},k,if(dt c.n s.ep e).2.done=false then {f with bE:=some (dt c.n s.ep e).2}
    else if f.out=true then {f with bE:=some (dt c.n s.ep e).2,pinned:=true}.look c else {f with bE:=some (dt c.n s.ep e).2,pinned:=true,next:=15})
  |none=>(s,k,f)
 else if f.next≤5 then((fw c s k f).1,k,(fw c s k f).2)
 else if f.next≤11 then cC c s k f
 else if f.next≤14 then fi c s k f
 else if f.next≤17 then((hZ c s f).1,k,(hZ c s f).2)
 else({s with ep:=s.ep.set (1+w) 0},k,{f with pinned:=false,done:=true})
def QI (l:List (Int×dQ))(i:Int):List (Int×dQ):=l.filter fun p=>p.1≠i
def getM (l:List (Int×dQ))(i:Int):dQ:=match l.find? fun p=>p.1=i with|some p=>p.2|none=>qc
def Rp (c:NC)(w:Nat)(s:aW)(k:aR)(x:gR):aW×aR×gR:=
 if x.next=1∧x.due=[]then(s,k,{x with on:=some ⟨0,true,0,0,false,false⟩,next:=5})
 else
  let id:=x.due.getD 0 0
  if x.next=1 then
   if(((bC s (id:Int)).sn+nJ (jY (id/c.np)) (bC s (id:Int)).tr:Nat):Int)>x.tick then
    (s,jo k (jY (id/c.np)) (id:Int) (bC s (id:Int)) x.tick,{x with word:=bC s (id:Int),due:=x.due.drop 1})
   else(s,k,{x with word:=bC s (id:Int),next:=2})
  else if x.next=2 then
   if fG s (id:Int) x.word {x.word with st:=3}=true then
    (bN s (id:Int) x.word {x.word with st:=3},{k with ended:=k.ended++[((jY (id/c.np):Int),((c.lo+id%c.np:Nat):Int))]},{x with dying:=(id:Int),next:=3,drop:=some (jh c 2 (getM k.cm (id:Int)) (id:Int) 23)})
   else(s,k,{x with next:=1})
  else if x.next=3 then
   match x.drop with
   |some t=>({s with tb:=(bA s.pl c.nb s.tb t).1},k,{x with drop:=some (bA s.pl c.nb s.tb t).2,next:=if(bA s.pl c.nb s.tb t).2.done=true then 4 else 3})
   |none=>(s,k,x)
  else({s with gs:=s.gs.set w (s.gs.getD w []++[(id,s.ep.getD 0 0)])},{k with cm:=QI k.cm (id:Int)},{x with dying:= -1,due:=x.due.drop 1,next:=1})
def pa (k:aR):Nat:=if(match k.c2.out with|some o=>decide (o.parts.any fun p=>p.2≠0)|none=>false)=true then 2 else if(match k.c1.out with|some o=>decide (o.parts.any fun p=>p.2≠0)|none=>false)=true then 1 else 0
def RX (c:NC)(s:aW)(k:aR)(x:gR):aW×aR×gR:=
 if x.next=7 then
  if x.dr=[]then(s,k,{x with done:=true})else(s,k,{x with word:=bC s ((x.dr.getD 0 0:Nat):Int),next:=8})
 else if x.next=8 then
  let id:=x.dr.getD 0 0
  (bN s (id:Int) x.word {x.word with st:=0},k.bK (id/c.np) (kp c.np (k.ca (id/c.np)) (id%c.np)).1,{x with dr:=x.dr.drop 1,back:=some (kp c.np (k.ca (id/c.np)) (id%c.np)).2,next:=9})
 else
  match x.back with
  |some b=>(s.dP (pa k) (eh (s.po (pa k)) (k.ca (pa k)) b).1,k.bK (pa k) (eh (s.po (pa k)) (k.ca (pa k)) b).2.1,{x with back:=some (eh (s.po (pa k)) (k.ca (pa k)) b).2.2,next:=if(eh (s.po (pa k)) (k.ca (pa k)) b).2.2.done=true then 7 else 9})
  |none=>(s,k,x)
def Yj (c:NC)(w:Nat)(s:aW)(k:aR)(x:gR):aW×aR×gR:=
 if x.next=0 then(s,{k with bp:=(HQ k.bp x.tick).2},{x with due:=x.due++(X7 (HQ k.bp x.tick).1).map fun y=>y.id.toNat,next:=1})
 else if x.next≤4 then Rp c w s k x
 else if x.next=5 then
  match x.on with
  |some e=>({s with ep:=(dt c.n s.ep e).1},k,{x with on:=some (dt c.n s.ep e).2,next:=if(dt c.n s.ep e).2.done=true then 6 else 5})
  |none=>(s,k,x)
 else if x.next=6 then({s with gs:=s.gs.set w (YP (s.ep.getD 0 0) (s.gs.getD w []))},k,{x with dr:=x.dr++(Xo (s.ep.getD 0 0) (s.gs.getD w [])).map (·.1),next:=7})
 else RX c s k x
def aR.busy (k:aR):Bool:=k.frame.isSome||k.aX.isSome
def ax:aR:=jB 0
def de (c:NC)(w:Nat)(n:bm):bm×Bool:=
 if n.wk.length≤w then(n,true)
 else
  match(n.wk.getD w ax).frame with
  |some f=>
   let r:=bZ c w n.sh (n.wk.getD w ax) f
   let k:aR:=if r.2.2.done=true then {r.2.1 with cj:=r.2.2.fD,iM:=r.2.2.lH,any:=true,frame:=none}else {r.2.1 with frame:=some r.2.2}
   (⟨r.1,n.wk.set w k⟩, !k.busy)
  |none=>
   match(n.wk.getD w ax).aX with
   |some x=>
    let r:=Yj c w n.sh (n.wk.getD w ax) x
    let k:aR:=if r.2.2.done=true then {r.2.1 with aX:=none}else {r.2.1 with aX:=some r.2.2}
    (⟨r.1,n.wk.set w k⟩, !k.busy)
   |none=>(n,true)
end
section
def kL (u:Nat):Nat:=u/281474976710656
theorem Yz (i:Nat):2^(12*(i+1))=2^(12*i)*4096:=by rw[show 12*(i+1)=12*i+12 by omega,Nat.pow_add]
theorem CE (u i:Nat):u=2^(12*i)*(4096*(u/2^(12*(i+1)))+u/2^(12*i)%4096)+u%2^(12*i):=by
 have h1:=Nat.div_add_mod u (2^(12*i))
 have h2:=Nat.div_add_mod (u/2^(12*i)) 4096
 rw[Yz,←Nat.div_div_eq_div_mul]
 rw[h2]
 omega
theorem VO {i:Nat}(hi:i<4):18446744073709551615-4095*2^(12*i)=2^(12*i)*(4096*(2^(52-12*i)-1)+0)+(2^(12*i)-1):=by
 match i,hi with
 |0,_=>decide
 |1,_=>decide
 |2,_=>decide
 |3,_=>decide
theorem rZ (x y z i j:Nat)(hy:y<4096)(hz:z<2^(12*i)):(2^(12*i)*(4096*x+y)+z).testBit j=if j<12*i then z.testBit j else if j-12*i<12 then y.testBit (j-12*i)else x.testBit (j-12*i-12):=by
 rw[Nat.testBit_two_pow_mul_add _ hz]
 split
 ·rfl
 ·have h:=Nat.testBit_two_pow_mul_add x (i:=12) (b:=y) hy (j-12*i)
  rw[show 2^12*x+y=4096*x+y from rfl]at h
  rw[h]
theorem XO {u i v:Nat}(hu:u<18446744073709551616)(hi:i<4)(hv:v<4096):((u&&& (18446744073709551615-4095*2^(12*i)))|||v*2^(12*i))=2^(12*i)*(4096*(u/2^(12*(i+1)))+v)+u%2^(12*i):=by
 have hp:0<2^(12*i):=Nat.two_pow_pos _
 apply Nat.eq_of_testBit_eq
 intro j
 have e1:v*2^(12*i)=2^(12*i)*(4096*0+v)+0:=by rw[Nat.mul_zero,Nat.zero_add,Nat.add_zero,Nat.mul_comm]
 have hx:u/2^(12*(i+1))<2^(52-12*i):=by
  rw[Nat.div_lt_iff_lt_mul (Nat.two_pow_pos _),←Nat.pow_add,show 52-12*i+12*(i+1)=64 by omega]
  exact hu
 rw[Nat.testBit_or,Nat.testBit_and,e1,VO hi,rZ _ _ _ i j hv hp,rZ _ _ _ i j (by decide) (by omega),rZ _ _ _ i j hv (Nat.mod_lt _ hp)]
 conv=>lhs;lhs;lhs;rw[CE u i]
 rw[rZ _ _ _ i j (Nat.mod_lt _ (by decide)) (Nat.mod_lt _ hp)]
 split
 ·rename_i h
  rw[Nat.testBit_two_pow_sub_one,decide_eq_true h]
  simp
 ·split
  ·simp
  ·rename_i h1 h2
   rw[Nat.testBit_two_pow_sub_one]
   by_cases h3:j-12*i-12<52-12*i
   ·rw[decide_eq_true h3];simp
   ·rw[decide_eq_false h3]
    have:(u/2^(12*(i+1))).testBit (j-12*i-12)=false:=Nat.testBit_lt_two_pow (Nat.lt_of_lt_of_le hx (Nat.pow_le_pow_right (by decide) (by omega)))
    rw[this];simp
theorem K6 (w j t:Nat):(w/2^(12*j)%4096).testBit t=(decide (t<12)&&w.testBit (12*j+t)):=by
 rw[show(4096:Nat)=2^12 from rfl,Nat.testBit_mod_two_pow,Nat.testBit_div_two_pow,Nat.add_comm]
def uO (u i v:Nat):Nat:=2^(12*i)*(4096*(u/2^(12*(i+1)))+v)+u%2^(12*i)
theorem VU {u i v j:Nat}(hv:v<4096):uO u i v/2^(12*j)%4096=if j=i then v else u/2^(12*j)%4096:=by
 have hp:0<2^(12*i):=Nat.two_pow_pos _
 apply Nat.eq_of_testBit_eq
 intro t
 have hb:=rZ (u/2^(12*(i+1))) v (u%2^(12*i)) i (12*j+t) hv (Nat.mod_lt _ hp)
 have hu:=rZ (u/2^(12*(i+1))) (u/2^(12*i)%4096) (u%2^(12*i)) i (12*j+t) (Nat.mod_lt _ (by decide)) (Nat.mod_lt _ hp)
 rw[←CE]at hu
 rw[K6]
 unfold uO
 rw[hb]
 by_cases ht:t<12
 ·rw[decide_eq_true ht,Bool.true_and]
  by_cases e:j=i
  ·subst e
   rw[if_pos rfl,if_neg (by omega),if_pos (by omega),show 12*j+t-12*j=t by omega]
  ·rw[if_neg e,K6,decide_eq_true ht,Bool.true_and,hu]
   split
   ·rfl
   ·rw[if_neg (by omega),if_neg (by omega)]
 ·rw[decide_eq_false ht,Bool.false_and]
  symm
  split
  ·exact Nat.testBit_lt_two_pow (Nat.lt_of_lt_of_le hv (show 2^12≤2^t from Nat.pow_le_pow_right (by decide) (by omega)))
  ·exact Nat.testBit_lt_two_pow (Nat.lt_of_lt_of_le (Nat.mod_lt _ (by decide)) (show 2^12≤2^t from Nat.pow_le_pow_right (by decide) (by omega)))
theorem Kw {u i v:Nat}(hi:i<4)(hv:v<4096):kL (uO u i v)=kL u:=by
 unfold kL
 have hp:0<2^(12*i):=Nat.two_pow_pos _
 rw[show(281474976710656:Nat)=2^48 from rfl]
 apply Nat.eq_of_testBit_eq
 intro t
 have hb:=rZ (u/2^(12*(i+1))) v (u%2^(12*i)) i (48+t) hv (Nat.mod_lt _ hp)
 have hu:=rZ (u/2^(12*(i+1))) (u/2^(12*i)%4096) (u%2^(12*i)) i (48+t) (Nat.mod_lt _ (by decide)) (Nat.mod_lt _ hp)
 rw[←CE]at hu
 rw[Nat.testBit_div_two_pow,Nat.testBit_div_two_pow,Nat.add_comm t 48,hu]
 unfold uO
 rw[hb,if_neg (by omega),if_neg (by omega),if_neg (by omega),if_neg (by omega)]
theorem Kv {u i v:Nat}(hu:u<18446744073709551616)(hi:i<4)(hv:v<4096):uO u i v<18446744073709551616:=by
 have h1:=Kw (u:=u) hi hv
 unfold kL at h1
 omega
theorem HB {u i v:Nat}(hu:u<18446744073709551616)(hi:i<4)(hv:v<4096):kV u i v=(uO u i v+281474976710656)%18446744073709551616:=by
 unfold kV
 rw[XO hu hi hv]
 rfl
theorem YQ {w j:Nat}(_:w<18446744073709551616)(hj:j<4):(w+281474976710656)%18446744073709551616/2^(12*j)%4096=w/2^(12*j)%4096:=by
 match j,hj with
 |0,_=>simp only[Nat.mul_zero,Nat.pow_zero,Nat.div_one];omega
 |1,_=>rw[show 2^(12*1)=4096 from rfl];omega
 |2,_=>rw[show 2^(12*2)=16777216 from rfl];omega
 |3,_=>rw[show 2^(12*3)=68719476736 from rfl];omega
theorem CA {u i v j:Nat}(hu:u<18446744073709551616)(hi:i<4)(hv:v<4096)(hj:j<4):bM (kV u i v) j=if j=i then(v:Int)-1 else bM u j:=by
 unfold bM
 rw[HB hu hi hv,YQ (Kv hu hi hv) hj,VU hv]
 split<;>rfl
theorem HC {u i v:Nat}(hu:u<18446744073709551616)(hi:i<4)(hv:v<4096):kL (kV u i v)=(kL u+1)%65536:=by
 have h1:=Kw (u:=u) hi hv
 have h2:=Kv hu hi hv
 rw[HB hu hi hv]
 unfold kL at h1 ⊢
 omega
theorem HA (u i v:Nat):kV u i v<18446744073709551616:=Nat.mod_lt _ (by decide)
end
end Go.Proofs.YtakbmjoijcpdmaaGreatDoor
