/-
  Joined by a program (wip/bundle2.py).
-/
import Derived.Lib.ItoaNum
import Derived.Lib.Join
import Derived.Lib.TrailingZeros
import Derived.Laws.BitsAllLaws
import Derived.Test.YtimekbpkejemoaaGreatDoorG0
import Derived.Test.YtimekbpkejemoaaGreatDoorG1
import Derived.Test.YtimekbpkejemoaaGreatDoorG2
import Derived.Test.YtimekbpkejemoaaGreatDoorG3
set_option linter.unusedVariables false
set_option linter.unusedSimpArgs false
namespace Go.Proofs.YtimekbpkejemoaaGreatDoor
section
open Go.RowKit
theorem Gh {a b k:Nat}(hb:b<2^k):(a*2^k|||b)=a*2^k+b:=by
 rw[Nat.mul_comm];exact(Nat.two_pow_add_eq_or_of_lt hb a).symm
theorem Ho {a b k:Nat}(hb:b<2^k)(h:a*2^k+b<18446744073709551616):bits .or .u64 ((a*2^k:Nat):Int) (b:Int)=((a*2^k+b:Nat):Int):=by
 rw[u64_or_nat _ _ (by omega) (by omega),Gh hb]
theorem pL {a b k:Nat}(hb:b<2^k)(h:a*2^k+b<18446744073709551616):bits .or .u64 (b:Int) ((a*2^k:Nat):Int)=((b+a*2^k:Nat):Int):=by
 rw[u64_or_nat _ _ (by omega) (by omega),Nat.or_comm,Gh hb,Nat.add_comm]
theorem og {a:Nat}(k:Nat)(ha:a<18446744073709551616)(hk:k≤63):bits .and .u64 (a:Int) ((2^k-1:Nat):Int)=((a%2^k:Nat):Int):=by
 have h:2^k-1<18446744073709551616:=by
  have:2^k≤2^63:=Nat.pow_le_pow_right (by decide) hk
  omega
 rw[u64_and_nat a _ ha h,Nat.and_two_pow_sub_one_eq_mod]
theorem lE (a k:Nat)(h:a*2^k<18446744073709551616):IntKind.u64.wrap ((a:Int)*2^((k:Int)).toNat)=((a*2^k:Nat):Int):=by
 rw[Int.toNat_natCast]
 have e:((a*2^k:Nat):Int)=(a:Int)*2^k:=by simp
 rw[e,←e]
 exact bq.wrap (by simp only[bq];omega)
theorem jZ {a:Nat}(h:a<9223372036854775808):IntKind.i64.wrap (a:Int)=(a:Int):=bq.wrap (by simp only[bq];omega)
structure br where
 st:Nat
 gen:Nat
 tr:Nat
 sn:Nat
deriving DecidableEq
namespace br
def ok (w:br):Prop:=w.st≤3∧w.gen≤65535∧w.tr≤7∧w.sn≤4294967295
instance (w:br):Decidable w.ok:=by unfold ok;infer_instance
def num (w:br):Nat:=w.st+w.tr*256+w.gen*65536+w.sn*4294967296
def of (n:Nat):br:=⟨n%4,n/65536%65536,n/256%8,n/4294967296⟩
abbrev vs (w:br):List Value:=[.int .i64 (w.st:Int),.int .i64 (w.gen:Int),.int .i64 (w.tr:Int),.int .i64 (w.sn:Int)]
theorem QK {w:br}(h:w.ok):w.num<18446744073709551616:=by unfold ok at h;unfold num;omega
theorem Ge {n:Nat}(h:n<18446744073709551616):(of n).ok:=by unfold ok of;dsimp only;omega
theorem QR {w:br}(h:w.ok):of w.num=w:=by
 obtain⟨a,b,c,d⟩:=w
 unfold ok at h;unfold num of
 dsimp only at h ⊢
 congr 1<;>omega
end br
def kr (bB now:br):Bool:=
 match bB.st with
 |0=>decide (now.st=1)&&decide (now.gen=(bB.gen+1)%65536)
 |1=>(decide (now.st=2)||decide (now.st=0))&&decide (now={bB with st:=now.st})
 |2=>if now.st=2 then decide (now.gen=bB.gen)&&decide (bB.sn≤now.sn)else decide (now.st=3)&&decide (now={bB with st:=now.st})
 |_=>decide (now.st=0)&&decide (now={bB with st:=now.st})
section may
variable {a b:br}
theorem FV (e:a.st=0):kr a b=(decide (b.st=1)&&decide (b.gen=(a.gen+1)%65536)):=by unfold kr;rw[e];rfl
theorem AJ (e:a.st=1):kr a b=((decide (b.st=2)||decide (b.st=0))&&decide (b={a with st:=b.st})):=by unfold kr;rw[e];rfl
theorem v7 (e:a.st=2):kr a b=if b.st=2 then decide (b.gen=a.gen)&&decide (a.sn≤b.sn)else decide (b.st=3)&&decide (b={a with st:=b.st}):=by unfold kr;rw[e];rfl
theorem FW (e:a.st=3):kr a b=(decide (b.st=0)&&decide (b={a with st:=b.st})):=by unfold kr;rw[e];rfl
end may
def fM (proto addr port:Nat):Nat:=proto*281474976710656+addr*65536+port
theorem E4 {a b c:Nat}(ha:a<65536)(hb:b<4294967296)(hc:c<65536):bits .or .u64 (bits .or .u64 ((a*2^48:Nat):Int) ((b*2^16:Nat):Int)) (c:Int)=(fM a b c:Int):=by
 rw[Ho (by omega) (by omega),show a*2^48+b*2^16=(a*2^32+b)*2^16 by omega,Ho (by omega) (by omega),show(a*2^32+b)*2^16+c=fM a b c by unfold fM;omega]
theorem Sv (x:Nat):IntKind.u64.wrap ((x:Int)*2^Int.toNat 48)=((x%65536*2^48:Nat):Int):=by
 rw[IntKind.wrap_u64,show(2:Int)^Int.toNat 48=281474976710656 from rfl]
 omega
def ml (n:Nat):Nat:=
 let x:=n*11400714819323198485%18446744073709551616
 let y:=(x^^^x/4294967296)*13787848793156543929%18446744073709551616
 y^^^y/4294967296
def eK (b:Int):Bool:=decide (b=2∨b=4∨b=8∨b=16∨b=32∨b=64∨b=128∨b=256∨b=512∨b=1024)
theorem FZ (a c:Nat):IntKind.u64.wrap ((a:Int)*(c:Int))=((a*c%18446744073709551616:Nat):Int):=by
 rw[IntKind.wrap_u64,Int.natCast_emod];simp
theorem HU {a:Nat}(h:a<18446744073709551616):bits .xor .u64 (a:Int) ((a:Int)/2^Int.toNat 32)=((a^^^a/4294967296:Nat):Int):=by
 rw[show(a:Int)/2^Int.toNat 32=((a/4294967296:Nat):Int)from ky a 32,u64_xor_nat a _ h (by omega)]
theorem Tu {a:Nat}(h:a<18446744073709551616):(a^^^a/4294967296)<18446744073709551616:=Nat.xor_lt_two_pow (n:=64) h (by omega)
theorem MB:((List.range 1025).all fun k=>decide (k<2)||(decide (k&&& (k-1)=0)==eK (k:Int)))=true:=by decide+kernel
theorem MC {k:Nat}(h1:2≤k)(h2:k≤1024):decide (bits .and .i64 (k:Int) ((k:Int)-1)=0)=eK (k:Int):=by
 have h:=List.all_eq_true.1 MB k (List.mem_range.2 (by omega))
 rw[decide_eq_false (by omega),Bool.false_or,beq_iff_eq]at h
 rw[←h,show((k:Int)-1)=((k-1:Nat):Int)by omega,Aw _ _ (by omega) (by omega)]
 exact decide_eq_decide.2 ⟨fun e=>by omega,fun e=>by rw[e];rfl⟩
theorem Dy {b:Int}(h:¬(2≤b∧b≤1024)):eK b=false:=by
 unfold eK
 exact decide_eq_false (by omega)
def gh (n b:Nat):Nat×Nat:=(ml n%b,(ml n%b+1+ml n/4294967296%(b-1))%b)
theorem R6 (n:Nat):ml n<18446744073709551616:=by
 unfold ml
 exact Nat.xor_lt_two_pow (n:=64) (by omega) (by omega)
theorem wO {n b:Nat}(hb:2≤b):(gh n b).1<b∧(gh n b).2<b∧(gh n b).1≠(gh n b).2:=by
 unfold gh
 have h1:=Nat.mod_lt (ml n) (show 0<b by omega)
 have h2:=Nat.mod_lt (ml n/4294967296) (show 0<b-1 by omega)
 refine⟨h1,Nat.mod_lt _ (by omega),?_⟩
 generalize ml n%b=a at*
 generalize ml n/4294967296%(b-1)=d at*
 dsimp only
 intro e
 rcases Nat.lt_or_ge (a+1+d) b with h|h
 ·rw[Nat.mod_eq_of_lt h]at e;omega
 ·rw[Nat.mod_eq_sub_mod h,Nat.mod_eq_of_lt (by omega)]at e;omega
end
section
open Go.RowKit
def bE (u i:Nat):Int:=((u/2^(12*i)%4096:Nat):Int)-1
def dC (u:Nat)(id:Int):Int:=if bE u 0=id then 0 else if bE u 1=id then 1 else if bE u 2=id then 2 else if bE u 3=id then 3 else-1
def cD (u:Nat):Bool:=decide (dC u (-1)<0)
def kN (u i v:Nat):Nat:=(((u&&& (18446744073709551615-4095*2^(12*i)))|||v*2^(12*i))+281474976710656)%18446744073709551616
def jm (u:Nat)(id:Int):Nat:=kN u (dC u (-1)).toNat (id+1).toNat
structure dG where
 phase:Nat
 id:Nat
 fr:Nat
 to:Nat
 version:Nat
 aK:Nat
deriving DecidableEq
structure aR where
 kind:Nat
 f1:Nat
 f2:Nat
 f3:Nat
 id:Int
 a:Nat
 b:Nat
 next:Nat
 first:Nat
 word:Nat
 at_:Nat
 half:Bool
 seen:br
 still:Nat
 m:dG
 v:Nat
 u:Nat
 o0:Nat
 o1:Nat
 o2:Nat
 o3:Nat
 g0:Nat
 g1:Nat
 g2:Nat
 g3:Nat
 b0:Nat
 second:Bool
 found:Int
 aM:br
 end_:Nat
 done:Bool
deriving DecidableEq
def w0:br:=⟨0,0,0,0⟩
def qS (kind f1 f2 f3:Nat)(id:Int)(next:Nat)(n:Nat):aR:=
 {kind:=kind,f1:=f1,f2:=f2,f3:=f3,id:=id,a:=(gh (fM f1 f2 f3) n).1,b:=(gh (fM f1 f2 f3) n).2,next:=next,first:=0,word:=0,at_:=0,half:=false,seen:=w0,still:=0,m:=⟨0,0,0,0,0,0⟩,
  v:=0,u:=0,o0:=0,o1:=0,o2:=0,o3:=0,g0:=0,g1:=0,g2:=0,g3:=0,b0:=0,second:=false,found:= -1,aM:=w0,end_:=11,done:=false}
def gq (word:Nat)(id:Int):Nat→Nat→Nat
 |0,i=>i
 |f+1,i=>if i<4∧(bE word i<0∨bE word i=id)then gq word id f (i+1)else i
theorem Be (word:Nat)(id:Int):∀f i,i≤4→gq word id f i≤4
 |0,_,h=>h
 |f+1,i,h=>by
  unfold gq
  split
  ·exact Be word id f (i+1) (by omega)
  ·exact h
theorem Bf {word:Nat}{id:Int}:∀f i,4≤i+f→¬(gq word id f i<4∧(bE word (gq word id f i)<0∨bE word (gq word id f i)=id))
 |0,i,h=>by unfold gq;omega
 |f+1,i,h=>by
  unfold gq
  split
  ·exact Bf f (i+1) (by omega)
  ·assumption
def hO (s:aR)(e:Nat):aR:={s with done:=true,end_:=e}
def je (pl:List Nat)(s:aR):aR×Bool:=
 if s.at_=4 then(s,true)
 else
  let i:=(bE s.word s.at_).toNat
  if s.half=false then
   let w:=br.of (pl.getD (2*i) 0)
   if w.st=1∨w.st=2 then({s with seen:=w,half:=true},false)
   else({s with seen:=w,at_:=s.at_+1},decide (s.at_+1=4))
  else if pl.getD (2*i+1) 0=fM s.f1 s.f2 s.f3 then({s with half:=false,found:=bE s.word s.at_,aM:=s.seen,done:=true,end_:=if s.kind=1 then 10 else 0},false)
  else({s with half:=false,at_:=s.at_+1},decide (s.at_+1=4))
def dL (pl:List Nat)(s:aR):aR×Bool:=je pl {s with at_:=gq s.word s.id 4 s.at_}
theorem O8 {n a b c:Nat}(hn:n<18446744073709551616)(ha:a≤255)(hb:b<4294967296)(hc:c<65536):(n/281474976710656=a∧n/65536%4294967296=b∧n%65536=c)↔n=fM a b c:=by
 unfold fM;omega
theorem O7 {n a b c:Nat}(hn:n<18446744073709551616)(ha:a≤255)(hb:b<4294967296)(hc:c<65536):(@decide (([.int .i64 ((n/281474976710656:Nat):Int),.int .u32 ((n/65536%4294967296:Nat):Int),.int .u16 ((n%65536:Nat):Int)]:List Value)=[.int .i64 (a:Int),.int .u32 (b:Int),.int .u16 (c:Int)]) (Classical.propDecidable _))=decide (n=fM a b c):=by
 rw[decide_eq_decide,←O8 hn ha hb hc]
 simp only[List.cons.injEq,Value.int.injEq,true_and,and_true,Int.natCast_inj]
def pK (s:aR)(u next:Nat):aR:={s with word:=u,at_:=0,half:=false,next:=next}
def mC (s:aR):Nat:=if s.kind=0 then 4 else if cD s.first then 6 else 5
def gG (cs pl:List Nat)(s:aR):List Nat×aR:=
 if s.next=0 then(cs,pK {s with first:=cs.getD s.a 0} (cs.getD s.a 0) 1)
 else if s.next=1 then(cs,if(dL pl s).2=true then {(dL pl s).1 with next:=2}else(dL pl s).1)
 else if s.next=2 then(cs,pK s (cs.getD s.b 0) 3)
 else if s.next=3 then(cs,if(dL pl s).2=true then {(dL pl s).1 with next:=mC (dL pl s).1}else(dL pl s).1)
 else if s.next=4 then(cs,if cs.getD s.a 0=s.first then hO s 7 else pK {s with first:=cs.getD s.a 0} (cs.getD s.a 0) 1)
 else if cs.getD s.a 0=s.first then(cs.set s.a (jm s.first s.id),hO {s with next:=0} 0)else(cs,{s with next:=0})
structure Cb (n np:Nat)(cs pl:List Nat)(s:aR):Prop where
 sP:cs.length=n+1
 n2:n≤1024
 Q5:pl.length=2*np
 hZ:np≤3072
 cw:∀j,cs.getD j 0<18446744073709551616
 pw:∀j,pl.getD j 0<18446744073709551616
 a:s.a<n
 b:s.b<n
 next:s.next≤5
 lQ:s.at_≤4
 refs:∀i,i<4→bE s.word i<np
 word:s.word<18446744073709551616
 first:s.first<18446744073709551616
 Az: -1≤s.id
 rJ:s.id<np
 f1:s.f1≤255
 f2:s.f2<4294967296
 f3:s.f3<65536
 kind:s.kind≤2
 done:s.done=false
 link:s.next=5→0≤s.id∧cD s.first=false
end
section
def ou (u:Nat)(id:Int):Nat:=kN u (dC u id).toNat 0
def eM (u:Nat):dG:=⟨u%4,u/4%4096,u/16384%1024,u/16777216%1024,u/17179869184%65536,u/1125899906842624⟩
def jF (m:dG):Nat:=m.phase+m.id*4+m.fr*16384+m.to*16777216+m.version*17179869184+m.aK%16384*1125899906842624
def ib (pl:List Nat)(n:Nat)(id:Int)(bucket:Nat):Nat:=
 if(gh (pl.getD (2*id.toNat+1) 0) n).1=bucket then(gh (pl.getD (2*id.toNat+1) 0) n).2 else(gh (pl.getD (2*id.toNat+1) 0) n).1
def aR.cF (s:aR)(v:Nat):Nat:=if v=0 then s.o0 else if v=1 then s.o1 else if v=2 then s.o2 else s.o3
def aR.dn (s:aR)(v:Nat):Nat:=if v=0 then s.g0 else if v=1 then s.g1 else if v=2 then s.g2 else s.g3
def aR.gZ (s:aR)(v x:Nat):aR:=if v=0 then {s with o0:=x}else if v=1 then {s with o1:=x}else if v=2 then {s with o2:=x}else {s with o3:=x}
def aR.ga (s:aR)(v x:Nat):aR:=if v=0 then {s with g0:=x}else if v=1 then {s with g1:=x}else if v=2 then {s with g2:=x}else {s with g3:=x}
def kj (s:aR)(id:Int)(fr to u:Nat):aR:={s with m:=⟨1,id.toNat,fr,to,u/281474976710656,(eM s.still).aK⟩,next:=12}
def bY (pl:List Nat)(n:Nat)(cs:List Nat)(s:aR):List Nat×aR:=
 if s.next=6 then(cs,{s with still:=cs.getD n 0,m:=eM (cs.getD n 0),next:=if(eM (cs.getD n 0)).phase≠0 then 13 else 7})
 else if s.next=7 then(cs,{s with v:=0,u:=0,next:=if cs.getD s.a 0≠s.first then 0 else 8})
 else if s.next=8 then(cs,{s.gZ s.v (ib pl n (bE s.first s.v) s.a)with next:=9})
 else if s.next=9 then
  (cs,if cD (cs.getD (s.cF s.v) 0)=false then kj (s.ga s.v (cs.getD (s.cF s.v) 0)) (bE s.first s.v) s.a (s.cF s.v) (cs.getD (s.cF s.v) 0)
   else {s.ga s.v (cs.getD (s.cF s.v) 0)with v:=if s.v+1=4 then 0 else s.v+1,next:=if s.v+1=4 then 10 else 8})
 else if s.next=10 then(cs,{s with b0:=ib pl n (bE (s.dn s.v) s.u) (s.cF s.v),next:=11})
 else if s.next=11 then
  (cs,if cD (cs.getD s.b0 0)=false then kj s (bE (s.dn s.v) s.u) (s.cF s.v) s.b0 (cs.getD s.b0 0)
   else if s.u+1=4 then(if s.v+1=4 then hO {s with v:=4,u:=0,next:=10} 9 else {s with v:=s.v+1,u:=0,next:=10})
   else {s with u:=s.u+1,next:=10})
 else if cs.getD n 0=s.still then(cs.set n (jF s.m),{s with next:=13})else(cs,{s with next:=6})
def wQ (s:aR)(u yes no:Nat):aR:={s with word:=u,next:=if 0≤dC u (s.m.id:Int)then yes else no}
def Ds (n:Nat)(cs:List Nat)(s:aR):aR:=
 if(eM (cs.getD n 0)).phase=0∨{eM (cs.getD n 0)with phase:=s.m.phase}≠s.m then {s with next:=0}
 else {s with m:={s.m with phase:=(eM (cs.getD n 0)).phase},next:=if(eM (cs.getD n 0)).phase=1 then 14 else if(eM (cs.getD n 0)).phase=2 then 17 else 19}
def u0 (n:Nat)(cs:List Nat)(s:aR):List Nat×aR:=
 if s.next=15 then(if cs.getD s.m.to 0=s.word then cs.set s.m.to (jm s.word (s.m.id:Int))else cs,{s with next:=13})
 else if s.next=18 then(if cs.getD s.m.fr 0=s.word then cs.set s.m.fr (ou s.word (s.m.id:Int))else cs,{s with next:=13})
 else if s.next=21 then(if cs.getD s.m.to 0=s.word then cs.set s.m.to (ou s.word (s.m.id:Int))else cs,{s with next:=13})
 else if s.next=16 then(if cs.getD n 0=jF s.m then cs.set n (jF {s.m with phase:=s.m.phase+1})else cs,{s with next:=13})
 else if cs.getD n 0=jF s.m then(cs.set n (jF ⟨0,0,0,0,0,s.m.aK+1⟩),{s with next:=0})else(cs,{s with next:=13})
def fx (pl:List Nat)(n:Nat)(cs:List Nat)(s:aR):List Nat×aR:=
 if s.next=13 then(cs,Ds n cs s)
 else if s.next=14 then(cs,{s with word:=cs.getD s.m.to 0,next:=if 0≤dC (cs.getD s.m.to 0) (s.m.id:Int)then 16 else if cs.getD s.m.to 0/281474976710656=s.m.version then 15 else 22})
 else if s.next=17 then(cs,wQ s (cs.getD s.m.fr 0) 18 16)
 else if s.next=19 then(cs,{s with next:=if(br.of (pl.getD (2*s.m.id) 0)).st=1∨(br.of (pl.getD (2*s.m.id) 0)).st=2 then 22 else 20})
 else if s.next=20 then(cs,wQ s (cs.getD s.m.to 0) 21 22)
 else u0 n cs s
def mE (s:aR):Nat:=if s.second=true then s.b else s.a
def pB (s:aR):aR:=if s.second=true then {hO s 0 with second:=true}else {s with second:=true}
def oV (cs:List Nat)(s:aR):List Nat×aR:=
 if s.next=24 then
  if cs.getD (mE s) 0=s.word then(cs.set (mE s) (ou s.word s.id),pB {s with next:=23})else(cs,{s with next:=23})
 else if 0≤dC (cs.getD (mE s) 0) s.id∧0≤s.id then(cs,{s with word:=cs.getD (mE s) 0,next:=24})
 else(cs,pB {s with word:=cs.getD (mE s) 0})
def bI (pl:List Nat)(n:Nat)(cs:List Nat)(s:aR):List Nat×aR:=
 if s.done=true then(cs,s)else if 23≤s.next then oV cs s else if 13≤s.next then fx pl n cs s else if 6≤s.next then bY pl n cs s else gG cs pl s
end
section
open Go.RowKit
theorem zl {α:Type}(k:Nat)(f:α→List Value)(hf:∀a,(f a).length=k):∀(l:List α) (i j:Nat) (hi:i<l.length),j<k→(l.flatMap f)[i*k+j]? =(f l[i])[j]?
 |[],_,_,hi,_=>by simp at hi
 |a::l,0,j,_,hj=>by
  rw[List.flatMap_cons,Nat.zero_mul,Nat.zero_add,List.getElem?_append_left (by rw[hf];exact hj)];rfl
 |a::l,i+1,j,hi,hj=>by
  have h1:(i+1)*k+j=k+(i*k+j):=by rw[Nat.succ_mul];omega
  rw[List.flatMap_cons,h1,List.getElem?_append_right (by rw[hf];omega),hf,Nat.add_sub_cancel_left,zl k f hf l i j (by simpa using hi) hj]
  rfl
theorem vg {α:Type}(k:Nat)(f:α→List Value)(hf:∀a,(f a).length=k):∀l:List α,(l.flatMap f).length=l.length*k
 |[]=>by simp
 |a::l=>by rw[List.flatMap_cons,List.length_append,hf,vg k f hf l,List.length_cons,Nat.succ_mul];omega
theorem zt {α:Type}(l:List α)(d:α){i:Nat}(h:i<l.length):l[i]=l.getD i d:=by
 rw[List.getD_eq_getElem?_getD,List.getElem?_eq_getElem h];rfl
def C8 (c:Int×Int):List Value:=[.int .i64 c.1,.int .i64 c.2]
def iu (l:List (Int×Int)):List Value:=l.flatMap C8
theorem C9 (l:List (Int×Int)):(iu l).length=l.length*2:=vg 2 C8 (fun _=>rfl) l
theorem DD {α β:Type}{f g:α→List β}:∀ {l:List α},(∀a∈l,f a=g a)→l.flatMap f=l.flatMap g
 |[],_=>rfl
 |a::l,h=>by
  rw[List.flatMap_cons,List.flatMap_cons,h a (List.mem_cons_self ..),DD fun x hx=>h x (List.mem_cons_of_mem _ hx)]
def aE (f:Nat→SL):Nat→SL
 |0=>1
 |i+1=>f i*aE f i
theorem aE.succ (f:Nat→SL)(n:Nat):aE f (n+1)=f n*aE f n:=rfl
def dw (f:Nat→SL)(i:Nat):Nat→SL:=fun j=>if j=i then 1 else f j
theorem aE.congr {f g:Nat→SL}:∀n,(∀i,i<n→f i=g i)→aE f n=aE g n
 |0,_=>rfl
 |n+1,h=>by
  unfold aE
  rw[h n (by omega),aE.congr n fun i hi=>h i (by omega)]
theorem aE.at {f:Nat→SL}{i:Nat}:∀n,i<n→aE f n=f i*aE (dw f i) n
 |0,h=>by omega
 |n+1,h=>by
  unfold aE
  by_cases e:i=n
  ·subst e
   have e1:dw f i i=1:=if_pos rfl
   rw[e1,SL.qP 1,SL.mj,aE.congr (f:=dw f i) (g:=f) i fun j hj=>by unfold dw;rw[if_neg (by omega)]]
  ·have e1:dw f i n=f n:=by unfold dw;rw[if_neg (fun h=>e h.symm)]
   rw[e1,aE.at (f:=f) (i:=i) n (by omega)]
   ac_rfl
end
section
open Go.RowKit
def wU (t:Nat×Nat):List Value:=[.int .u64 (t.1:Int),.int .u64 (t.2:Int)]
def pJ (l:List (Nat×Nat)):List Value:=l.flatMap wU
theorem Hl (l:List (Nat×Nat)):(pJ l).length=l.length*2:=vg 2 wU (fun _=>rfl) l
theorem Sl {l:List (Nat×Nat)}{i j:Nat}(hi:i<l.length)(hj:j<2):(pJ l)[i*2+j]? =(wU (l.getD i (0,0)))[j]? :=by
 unfold pJ
 rw[zl 2 wU (fun _=>rfl) l i j hi hj,zt l (0,0) hi]
instance oM.th (l:List (Nat×Nat))(i:Nat):oM (pJ l) i 2 [.int .u64 ((l.getD i (0,0)).1:Int),.int .u64 ((l.getD i (0,0)).2:Int)] (i<l.length):=⟨fun h=>⟨rfl,fun j v hv=>by
 have hj:j<2:=(List.getElem?_eq_some_iff.1 hv).1
 rw[Sl h hj];exact hv⟩⟩
def pa (gs:List (List (Nat×Nat)))(ps:Nat→aO)(i:Nat):List Value:=[.slice (ps i).1 (gs.getD i []).length (ps i).2]
def nD (gs:List (List (Nat×Nat)))(ps:Nat→aO):List Value:=(List.range gs.length).flatMap (pa gs ps)
theorem DU (gs:List (List (Nat×Nat)))(ps:Nat→aO):(nD gs ps).length=gs.length*1:=by
 unfold nD
 rw[vg 1 (pa gs ps) (fun _=>rfl),List.length_range]
instance fp.gv (gs:List (List (Nat×Nat)))(ps:Nat→aO)(i:Nat):fp (nD gs ps) i 1 0 (.slice (ps i).1 (gs.getD i []).length (ps i).2) (i<gs.length):=⟨fun h=>by
 unfold nD
 rw[zl 1 (pa gs ps) (fun _=>rfl) _ i 0 (by simpa using h) (by decide)]
 simp[pa]⟩
theorem M6:∀n:Nat,nD (List.replicate n []) (fun _=>(none,0))=jk n [.slice none 0 0]:=by
 intro n
 unfold nD
 rw[List.length_replicate]
 induction n with
 |zero=>rfl
 |succ n ih=>
  rw[List.range_succ,List.flatMap_append,List.flatMap_singleton]
  have h1:(List.range n).flatMap (pa (List.replicate (n+1) []) fun _=>(none,0))=(List.range n).flatMap (pa (List.replicate n []) fun _=>(none,0)):=DD fun i hi=>by
   have:=List.mem_range.1 hi
   unfold pa
   simp[List.getD_eq_getElem?_getD,this,Nat.lt_succ_of_lt this]
  rw[h1,ih]
  unfold pa
  simp[List.getD_eq_getElem?_getD,jk,List.replicate_succ']
end
section
open Go.RowKit
structure iT where
 worker:Nat
 lN:Bool
 at_:Nat
 seen:Nat
 done:Bool
 uv:Bool
deriving DecidableEq
abbrev fW (s:iT):List Value:=[.int .i64 (s.worker:Int),.bool s.lN,.int .i64 (s.at_:Int),.int .u64 (s.seen:Int),.bool s.done,.bool s.uv]
def lq (ws:List Nat)(s:iT):List Nat×iT:=
 if s.at_=0 then(ws,{s with seen:=ws.getD 0 0,at_:=1})
 else if s.at_=1 then(ws.set (1+s.worker) (s.seen+1),{s with at_:=2})
 else(ws,{s with done:=decide (ws.getD 0 0=s.seen),at_:=0})
def lV (n:Nat)(ws:List Nat)(s:iT):List Nat×iT:=
 if s.at_=0 then(ws,{s with seen:=ws.getD 0 0,at_:=1})
 else if s.at_≤n then(ws,{s with done:=decide (ws.getD s.at_ 0≠0)&&decide (ws.getD s.at_ 0≠s.seen+1),at_:=s.at_+1})
 else(if ws.getD 0 0=s.seen then ws.set 0 (s.seen+1)else ws,{s with uv:=decide (ws.getD 0 0=s.seen),done:=true,at_:=s.at_+1})
def du (n:Nat)(ws:List Nat)(s:iT):List Nat×iT:=if s.done=true then(ws,s)else if s.lN=true then lV n ws s else lq ws s
def RC (now:Nat)(l:List (Nat×Nat)):List (Nat×Nat):=l.filter fun t=>decide (t.2+2≤now)
def SA (now:Nat)(l:List (Nat×Nat)):List (Nat×Nat):=l.filter fun t=> !decide (t.2+2≤now)
structure sq (n:Nat)(ws:List Nat)(gs:List (List (Nat×Nat))):Prop where
 len:ws.length=n+1
 n1:n≤64
 qq:gs.length=n
 w:∀j,ws.getD j 0<4611686018427387904
 g:∀i t,t∈gs.getD i []→t.1<18446744073709551616∧t.2<4611686018427387904
structure iT.Ok (n:Nat)(s:iT):Prop where
 worker:s.worker<n
 at_:s.at_≤100
 bR:s.lN=false→s.at_≤2
 seen:s.seen<4611686018427387904
end
section
open Go.RowKit
structure eA where
 w:Int
 o:Int
 lo:Int
 hi:Int
 b:Int
 r:Int
def gJ (z:Int):Prop:= -9223372036854775808≤z∧z≤9223372036854775807
structure eA.Fit (c:eA):Prop where
 w:gJ c.w
 o:0≤c.o∧c.o≤4294967295
 lo:gJ c.lo
 hi:gJ c.hi
 b:gJ c.b
 r:gJ c.r
def eA.cells (c:eA):List Value:=[.int .i64 c.w,.int .u32 c.o,.int .i64 c.lo,.int .i64 c.hi,.int .i64 c.b,.int .i64 c.r]
def gW (b:Int):Prop:=b=2∨b=4∨b=8∨b=16∨b=32∨b=64∨b=128∨b=256∨b=512∨b=1024
instance (b:Int):Decidable (gW b):=by unfold gW;infer_instance
def dh (c:eA):List UInt8:=
 if ¬(1≤c.w∧c.w≤64)then [119,111,114,107,101,114,115]
 else if c.o=0∨c.o=4294967295 then [111,117,116,101,114]
 else if c.lo<1∨c.hi>65535∨c.hi<c.lo∨c.hi-c.lo≥1024 then [112,111,114,116,115]
 else if ¬gW c.b then [98,117,99,107,101,116,115]
 else if ¬(1≤c.r∧c.r≤256)then [114,105,110,103]
 else []
structure eA.Good (c:eA):Prop where
 w:1≤c.w∧c.w≤64
 o:¬c.o=0∧¬c.o=4294967295
 p:1≤c.lo∧c.hi≤65535∧c.lo≤c.hi∧c.hi-c.lo<1024
 b:gW c.b
 r:1≤c.r∧c.r≤256
theorem ov {c:eA}:dh c=[]↔c.Good:=by
 unfold dh
 constructor
 ·intro h
  split at h; ·simp at h
  split at h; ·simp at h
  split at h; ·simp at h
  split at h; ·simp at h
  split at h; ·simp at h
  rename_i h1 h2 h3 h4 h5
  exact⟨by omega,by omega,by omega,Classical.not_not.1 h4,by omega⟩
 ·intro h
  obtain⟨h1,h2,h3,h4,h5⟩:=h
  rw[if_neg (by omega),if_neg (by omega),if_neg (by omega),if_neg (Classical.not_not.2 h4),if_neg (by omega)]
def fZ (c:eA):Int:=if dh c=[]then c.hi-c.lo+1 else 0
theorem wv (c:eA):0≤fZ c∧fZ c≤1024:=by
 unfold fZ
 split
 ·rename_i h
  have:=(ov.1 h).p
  omega
 ·omega
def ff (p:Int):Int:=if p=1 then 0 else if p=6 then 1 else if p=17 then 2 else-1
def jh (k:Int):Int:=if k=0 then 1 else if k=1 then 6 else 17
def fN (c:eA)(proto port:Int):Int:=if fZ c=0∨ff proto<0∨¬(c.lo≤port∧port≤c.hi)then-1 else ff proto*fZ c+port-c.lo
def qM (c:eA)(place:Int):Int×Int:=if fZ c=0∨¬(0≤place∧place≤3*fZ c-1)then(0,0)else(jh (place/fZ c),c.lo+place%fZ c)
theorem Pd (k:Int)(h:0≤k)(h2:k≤2):ff (jh k)=k:=by
 have:k=0∨k=1∨k=2:=by omega
 rcases this with rfl|rfl|rfl<;>decide
end
section
open Go.RowKit
structure NC where
 n:Nat
 o:Nat
 lo:Nat
 hi:Nat
 nb:Nat
 r:Nat
def NC.cfg (c:NC):eA:=⟨c.n,c.o,c.lo,c.hi,c.nb,c.r⟩
def NC.np (c:NC):Nat:=c.hi+1-c.lo
structure NC.Ok (c:NC):Prop where
 n:1≤c.n∧c.n≤64
 o:c.o≠0∧c.o<4294967295
 p:1≤c.lo∧c.hi≤65535∧c.lo≤c.hi∧c.hi-c.lo<1024
 b:gW (c.nb:Int)
 r:1≤c.r∧c.r≤256
theorem NC.Ok.dy {c:NC}(h:c.Ok):c.cfg.Good:=by
 obtain⟨h1,h2,h3,h4,h5⟩:=h
 exact⟨by unfold NC.cfg;dsimp only;omega,by unfold NC.cfg;dsimp only;omega,by unfold NC.cfg;dsimp only;omega,h4,by unfold NC.cfg;dsimp only;omega⟩
theorem NC.Ok.fit {c:NC}(h:c.Ok):c.cfg.Fit:=by
 obtain⟨h1,h2,h3,h4,h5⟩:=h
 have h6:(c.nb:Int)≤1024:=by unfold gW at h4;omega
 exact⟨by unfold NC.cfg gJ;dsimp only;omega,by unfold NC.cfg;dsimp only;omega,by unfold NC.cfg gJ;dsimp only;omega,by unfold NC.cfg gJ;dsimp only;omega,by unfold NC.cfg gJ;dsimp only;omega,by unfold NC.cfg gJ;dsimp only;omega⟩
theorem NC.Ok.bo {c:NC}(h:c.Ok):fZ c.cfg=(c.np:Int):=by
 unfold fZ
 rw[if_pos (ov.2 h.dy)]
 obtain⟨h1,h2,h3,h4,h5⟩:=h
 unfold NC.cfg NC.np
 dsimp only
 omega
structure j8 where
 p:Option Addr
 c0:Option Addr
 c1:Option Addr
 c2:Option Addr
 wh:Option Addr
 m:Nat
structure lI where
 ep:Option Addr
 pl:Option Addr
 tb:Option Addr
 p0:Option Addr
 p1:Option Addr
 p2:Option Addr
 ws:aO
 wk:Nat→j8
def dA (n:Nat)(f:Nat→Option Addr):List Value:=(List.range n).map fun i=> .pointer (f i)
theorem GA (n:Nat)(f:Nat→Option Addr):(dA n f).length=n:=by simp[dA]
instance fp.dA (n:Nat)(f:Nat→Option Addr)(i:Nat):fp (dA n f) i 1 0 (.pointer (f i)) (i<n):=⟨fun h=>by simp[Go.Proofs.YtimekbpkejemoaaGreatDoor.dA,h]⟩
theorem Rc (n:Nat)(f:Nat→Option Addr):dA n f++[.pointer (f n)]=dA (n+1) f:=by simp[dA,List.range_succ]
theorem Gz {n:Nat}{f g:Nat→Option Addr}(h:∀i,i<n→f i=g i):dA n f=dA n g:=by
 unfold dA
 exact List.map_congr_left fun i hi=>by rw[h i (List.mem_range.1 hi)]
abbrev lz (c:NC)(np n:Nat)(ep pl tb a b d:Option Addr)(ws:aO):List Value:=[.int .i64 (c.n:Int),.int .u32 (c.o:Int),.int .i64 (c.lo:Int),.int .i64 (c.hi:Int),.int .i64 (c.nb:Int),.int .i64 (c.r:Int),.int .i64 (np:Int),.pointer ep,.pointer a,.pointer b,.pointer d,.pointer pl,.pointer tb,.slice ws.1 n ws.2]
abbrev AM (c:NC)(R:lI)(np:Nat)(n:Nat):List Value:=lz c np n R.ep R.pl R.tb R.p0 R.p1 R.p2 R.ws
abbrev uu (c0 c1 c2 wh:Option Addr)(m:Nat):List Value:=[.pointer c0,.pointer c1,.pointer c2,.pointer wh,.map (some m),.pointer none,.pointer none,.slice none 0 0,.int .i64 0,.bool false,.slice none 0 0]
abbrev Bv (x:j8):List Value:=uu x.c0 x.c1 x.c2 x.wh x.m
def r9 (f:Nat→j8)(n:Nat)(x:j8):Nat→j8:=fun i=>if i=n then x else f i
theorem Hs (f:Nat→j8){n i:Nat}(x:j8)(h:i<n):r9 f n x i=f i:=if_neg (by omega)
theorem Hr (f:Nat→j8)(n:Nat)(x:j8):r9 f n x n=x:=if_pos rfl
theorem JY {X:Cx}{σ:Env}{H:SL}{o:Oper}{t:TypeId}(ho:o.op= .makeMap t none):aV X σ H o (fun m:Nat=> .map (some m)) (fun m=>SL.cC m (.map #[] 0)*H):=by
 intro a w ha hs
 refine⟨w.heap.size,w.alloc (.map #[] 0),?_,hs.alloc _⟩
 simp only[execOp,ho]
 simp[Instr.makeMap,go_sem]
end
section
open Go.RowKit
def b1 (l:List UInt8)(i:Nat):Nat:=(l.getD i 0).toNat
def w2 (l:List UInt8)(i:Nat):Nat:=b1 l i*256+b1 l (i+1)
def w4 (l:List UInt8)(i:Nat):Nat:=w2 l i*65536+w2 l (i+2)
theorem cZ (l:List UInt8)(i:Nat):b1 l i<256:=UInt8.toNat_lt _
theorem c9 (l:List UInt8)(i:Nat):w2 l i<65536:=by
 have h1:=cZ l i
 have h2:=cZ l (i+1)
 unfold w2
 omega
theorem lG (l:List UInt8)(i:Nat):w4 l i<4294967296:=by
 have h1:=c9 l i
 have h2:=c9 l (i+2)
 unfold w4
 omega
def u8 (n:Nat):UInt8:=UInt8.ofNat n
theorem pM (n:Nat):(u8 n).toNat=n%256:=by simp[u8]
def jS (n:Nat):List UInt8:=[u8 (n/256),u8 n]
def ka (n:Nat):List UInt8:=[u8 (n/16777216),u8 (n/65536),u8 (n/256),u8 n]
def st2 (l:List UInt8)(i n:Nat):List UInt8:=(l.set i (u8 (n/256))).set (i+1) (u8 n)
theorem dO (l:List UInt8)(i n:Nat):(st2 l i n).length=l.length:=by simp[st2]
theorem CH (l:List UInt8)(i j:Nat)(v:UInt8)(hi:i<l.length):b1 (l.set i v) j=if j=i then v.toNat else b1 l j:=by
 unfold b1
 rw[List.getD_eq_getElem?_getD,List.getD_eq_getElem?_getD,List.getElem?_set]
 by_cases h:i=j
 ·subst h
  simp[hi]
 ·rw[if_neg h,if_neg (Ne.symm h)]
theorem uZ (l:List UInt8)(i n j:Nat)(hi:i+1<l.length):b1 (st2 l i n) j=if j=i+1 then n%256 else if j=i then n/256%256 else b1 l j:=by
 unfold st2
 rw[CH _ _ _ _ (by simpa using hi),CH _ _ _ _ (by omega),pM,pM]
theorem wZ (l:List UInt8){i n:Nat}(hn:n<65536)(hi:i+1<l.length):w2 (st2 l i n) i=n:=by
 unfold w2
 rw[uZ _ _ _ _ hi,uZ _ _ _ _ hi,if_neg (by omega),if_pos rfl,if_pos rfl]
 omega
theorem Tf (l:List UInt8){i n j:Nat}(hi:i+1<l.length)(hj:j+1<i∨i+1<j):w2 (st2 l i n) j=w2 l j:=by
 unfold w2
 rw[uZ _ _ _ _ hi,uZ _ _ _ _ hi,if_neg (by omega),if_neg (by omega),if_neg (by omega),if_neg (by omega)]
theorem rY (l:List UInt8)(i a b:Nat):st2 (st2 l i a) i b=st2 l i b:=by
 unfold st2
 apply List.ext_getElem?
 intro j
 simp only[List.getElem?_set,List.length_set]
 repeat' split
 all_goals first|rfl|omega
def cG:Bool→List UInt8→Nat
 |_,[]=>0
 |true,b::l=>b.toNat*256+cG false l
 |false,b::l=>b.toNat+cG true l
theorem wA:∀(e:Bool) (l:List UInt8),cG e l≤65280*l.length
 |_,[]=>by simp[cG]
 |true,b::l=>by
  have:=wA false l
  have hb:=b.toNat_lt
  simp only[cG,List.length_cons]
  omega
 |false,b::l=>by
  have:=wA true l
  have hb:=b.toNat_lt
  simp only[cG,List.length_cons]
  omega
theorem wz:∀(e:Bool) (l m:List UInt8),cG e (l++m)=cG e l+cG (if l.length%2=0 then e else !e) m
 |e,[],m=>by simp[cG]
 |true,b::l,m=>by
  rw[List.cons_append,cG,cG,wz false l m,List.length_cons]
  by_cases h:l.length%2=0
  ·rw[if_pos h,if_neg (by omega),Bool.not_true];omega
  ·rw[if_neg h,if_pos (by omega),Bool.not_false];omega
 |false,b::l,m=>by
  rw[List.cons_append,cG,cG,wz true l m,List.length_cons]
  by_cases h:l.length%2=0
  ·rw[if_pos h,if_neg (by omega),Bool.not_false];omega
  ·rw[if_neg h,if_pos (by omega),Bool.not_true];omega
theorem Rt (l:List UInt8)(b:UInt8):cG true (l++[b])=cG true l+b.toNat*(if l.length%2=0 then 256 else 1):=by
 rw[wz]
 by_cases h:l.length%2=0
 ·rw[if_pos h,if_pos h];simp[cG]
 ·rw[if_neg h,if_neg h];simp[cG]
def c3 (n:Nat):Nat:=if n=0 then 0 else(n-1)%65535+1
theorem qn (n:Nat):c3 n≤65535:=by
 unfold c3
 split
 ·omega
 ·have:=Nat.mod_lt (n-1) (show 0<65535 by omega)
  omega
theorem vi {n:Nat}(h:n≤65535):c3 n=n:=by
 unfold c3
 split
 ·omega
 ·rw[Nat.mod_eq_of_lt (by omega)];omega
theorem MF {n:Nat}:c3 n=0↔n=0:=by
 unfold c3
 split
 ·simp_all
 ·simp_all
theorem DF {n:Nat}(h:65535<n):c3 (n/65536+n%65536)=c3 n:=by
 unfold c3
 rw[if_neg (by omega),if_neg (by omega)]
 congr 1
 have e:n=65536*(n/65536)+n%65536:=(Nat.div_add_mod n 65536).symm
 have:n-1=(n/65536+n%65536-1)+65535*(n/65536):=by omega
 rw[this,Nat.add_mul_mod_self_left]
theorem zo (a b:Nat):c3 (c3 a+b)=c3 (a+b):=by
 by_cases ha:a=0
 ·subst ha;rfl
 ·have hf:c3 a≠0:=fun e=>ha (MF.1 e)
  have e1:c3 a=(a-1)%65535+1:=by unfold c3;rw[if_neg ha]
  have e2:=Nat.div_add_mod (a-1) 65535
  unfold c3 at*
  rw[if_neg ha]at*
  rw[if_neg (by omega),if_neg (by omega)]
  congr 1
  have:a+b-1=((a-1)%65535+1+b-1)+65535*((a-1)/65535):=by omega
  rw[this,Nat.add_mul_mod_self_left]
def dX (l:List UInt8):Nat:=65535-c3 (cG true l)
theorem qi (l:List UInt8):dX l<65536:=by unfold dX;omega
def lY (s bB now:Nat):Nat:=65535-c3 (65535-s+(65535-bB)+now)
theorem qm (s bB now:Nat):lY s bB now<65536:=by unfold lY;omega
def gA (s bB now:Nat):Nat:=lY (lY s (bB/65536) (now/65536)) (bB%65536) (now%65536)
theorem oY (s bB now:Nat):gA s bB now<65536:=qm _ _ _
def ji (src dst proto:Nat)(l:List UInt8):Nat:=dX (ka src++ka dst++[0,u8 proto]++jS l.length++l)
structure ee where
 size:Nat
 len:Nat
 dP:Nat
 proto:Nat
 src:Nat
 dst:Nat
def dR:ee:=⟨0,0,0,0,0,0⟩
abbrev cr (h:ee):List Value:=[.int .i64 (h.size:Int),.int .i64 (h.len:Int),.int .i64 (h.dP:Int),.int .i64 (h.proto:Int),.int .u32 (h.src:Int),.int .u32 (h.dst:Int)]
def aW (l:List UInt8):ee:=⟨b1 l 0%16*4,w2 l 2,b1 l 8,b1 l 9,w4 l 12,w4 l 16⟩
def c5 (part:Bool)(l:List UInt8):Nat:=
 if l.length<20 then 2
 else if b1 l 0/16≠4∨b1 l 0%16*4<20 then 3
 else if l.length<b1 l 0%16*4 then 2
 else if w2 l 2<b1 l 0%16*4∨(w2 l 2>1500∧part=false)then 3
 else if l.length<w2 l 2∧part=false then 2
 else if part=false∧dX (l.take (b1 l 0%16*4))≠0 then 4
 else if w2 l 6%16384≠0 then 5
 else 0
def kS (part:Bool)(l:List UInt8):ee:=if c5 part l=0 then aW l else dR
theorem vw {part:Bool}{l:List UInt8}(h:c5 part l=0):20≤(aW l).size∧(aW l).size≤60∧(aW l).size≤l.length∧(aW l).size≤(aW l).len∧(part=false→(aW l).len≤1500∧(aW l).len≤l.length)∧kS part l=aW l:=by
 have e:kS part l=aW l:=by unfold kS;rw[if_pos h]
 rw[e]
 have hb:=cZ l 0
 unfold c5 at h
 unfold aW
 dsimp only
 repeat' split at h
 all_goals first|(exact absurd h (by decide))|skip
 rename_i h1 h2 h3 h4 h5 h6 h7
 refine⟨by omega,by omega,by omega,by omega,fun hp=>⟨?_,?_⟩,rfl⟩
 ·exact Nat.le_of_not_lt fun g=>h4 (.inr ⟨g,hp⟩)
 ·exact Nat.le_of_not_lt fun g=>h5 ⟨g,hp⟩
structure fR where
 proto:Nat
 sp:Nat
 dp:Nat
 flags:Nat
 kind:Nat
 code:Nat
 err:Bool
 inner:ee
 pos:Nat
 bare:Bool
def bm:fR:=⟨0,0,0,0,0,0,false,dR,0,false⟩
abbrev bu (p:fR):List Value:=[.int .i64 (p.proto:Int),.int .u16 (p.sp:Int),.int .u16 (p.dp:Int),.int .i64 (p.flags:Int),.int .i64 (p.kind:Int),.int .i64 (p.code:Int),.bool p.err,.int .i64 (p.inner.size:Int),.int .i64 (p.inner.len:Int),.int .i64 (p.inner.dP:Int),.int .i64 (p.inner.proto:Int),.int .u32 (p.inner.src:Int),.int .u32 (p.inner.dst:Int),.int .i64 (p.pos:Int),.bool p.bare]
def om (src dst:Nat)(x:List UInt8):Nat:=
 if x.length<8 then 2
 else if w2 x 4≠x.length then 3
 else if w2 x 6≠0∧ji src dst 17 x≠0 then 4
 else 0
def mY (x:List UInt8):fR:={bm with proto:=17,sp:=w2 x 0,dp:=w2 x 2,bare:=decide (w2 x 6=0)}
def oe (src dst:Nat)(x:List UInt8):Nat:=
 if x.length<20 then 2
 else if b1 x 12/16*4<20∨b1 x 12/16*4>x.length then 3
 else if ji src dst 6 x≠0 then 4
 else 0
def wT (x:List UInt8):fR:={bm with proto:=6,sp:=w2 x 0,dp:=w2 x 2,flags:=b1 x 13}
def mK (y8:List UInt8):Nat:=
 if c5 true y8≠0 then c5 true y8
 else if y8.length-(aW y8).size<8∨(aW y8).len<(aW y8).size+8 then 3
 else if(aW y8).proto=17∨(aW y8).proto=6 then 0
 else if(aW y8).proto=1∧(b1 y8 (aW y8).size=0∨b1 y8 (aW y8).size=8)then 0
 else 6
def nA (kind code Al:Nat)(y8:List UInt8):fR:=
 {bm with proto:=1,kind:=kind,code:=code,err:=true,inner:=aW y8,pos:=Al+8,sp:=if(aW y8).proto=1 then w2 y8 ((aW y8).size+4)else w2 y8 (aW y8).size,dp:=if(aW y8).proto=1 then w2 y8 ((aW y8).size+4)else w2 y8 ((aW y8).size+2)}
def rk (k:Nat):Prop:=k=3∨k=11∨k=12
instance (k:Nat):Decidable (rk k):=inferInstanceAs (Decidable (_∨_))
def lx (x:List UInt8):Nat:=
 if x.length<8 then 2
 else if dX x≠0 then 4
 else if b1 x 0=0∨b1 x 0=8 then(if b1 x 1≠0 then 3 else 0)
 else if rk (b1 x 0)then mK (x.drop 8)
 else 6
def nQ (Al:Nat)(x:List UInt8):fR:=
 if b1 x 0=0∨b1 x 0=8 then {bm with proto:=1,kind:=b1 x 0,code:=0,sp:=w2 x 4,dp:=w2 x 4}
 else nA (b1 x 0) (b1 x 1) Al (x.drop 8)
def lT (h:ee)(l:List UInt8):List UInt8:=(l.take h.len).drop h.size
def ic (h:ee)(l:List UInt8):Nat:=
 if h.proto=17 then om h.src h.dst (lT h l)
 else if h.proto=6 then oe h.src h.dst (lT h l)
 else if h.proto=1 then lx (lT h l)
 else 6
def kX (h:ee)(l:List UInt8):fR:=
 if h.proto=17 then mY (lT h l)
 else if h.proto=6 then wT (lT h l)
 else nQ h.size (lT h l)
def mg (h:ee)(l:List UInt8):fR:=if ic h l=0 then kX h l else bm
def mz (l:List UInt8)(head place addr:Nat):List UInt8:=
 let l1:=st2 (st2 l place (addr/65536)) (place+2) (addr%65536)
 st2 l1 (head+10) (gA (w2 l1 (head+10)) (w4 l place) addr)
def tU (s:Nat):Nat:=if s=0 then 65535 else s
def qj (l:List UInt8)(pos id:Nat):List UInt8:=st2 (st2 l (pos+4) id) (pos+2) (tU (lY (w2 l (pos+2)) (w2 l (pos+4)) id))
def rQ (pos:Nat)(src:Bool):Nat:=if src then pos else pos+2
def ob (pos proto:Nat):Nat:=if proto=17 then pos+6 else pos+16
def rh (l1:List UInt8)(pos proto Hx port bB addr:Nat):List UInt8:=
 if l1.length<ob pos proto+2∨(proto=17∧w2 l1 (ob pos proto)=0)then l1
 else st2 l1 (ob pos proto) (if proto=17 then tU (lY (gA (w2 l1 (ob pos proto)) bB addr) Hx port)else lY (gA (w2 l1 (ob pos proto)) bB addr) Hx port)
def mH (l:List UInt8)(pos proto:Nat)(src:Bool)(port bB addr:Nat):List UInt8:=rh (st2 l (rQ pos src) port) pos proto (w2 l (rQ pos src)) port bB addr
def kM (l:List UInt8)(pos proto:Nat)(src:Bool)(port bB addr:Nat):List UInt8:=if proto=1 then qj l pos port else mH l pos proto src port bB addr
def gO (out:Bool):Nat:=if out then 12 else 16
def G1 (h:ee)(p:fR)(l:List UInt8)(out:Bool)(addr port:Nat):List UInt8:=
 let b:=l.take h.len
 let b1:=mz b 0 (gO out) addr
 if p.err then
  let b2:=kM (mz b1 p.pos (p.pos+gO (!out)) addr) (p.pos+p.inner.size) p.inner.proto (!out) port (w4 b1 (p.pos+gO (!out))) addr
  let b3:=st2 b2 (h.size+2) 0
  st2 b3 (h.size+2) (dX (b3.drop h.size))
 else kM b1 h.size h.proto out port (w4 b (gO out)) addr
def dv (l:List UInt8):Nat:=if c5 false l=0 then ic (aW l) l else c5 false l
def jH (l:List UInt8)(out:Bool)(addr port:Nat):List UInt8:=if dv l=0 then G1 (aW l) (kX (aW l) l) l out addr port else []
def ze (s:Nat)(out:Bool):Nat:=if s≤1 then(if out then 2 else 3)else if(s=2∧out=false)∨(s=3∧out=true)then 4 else s
def j1 (proto s:Nat)(out:Bool)(flags:Nat):Nat:=
 if proto≠6 then 0
 else if flags/4%2=1 then 4
 else if flags%2=1 then ze s out
 else if(flags/2%2=1∧flags/16%2=0)∧out=true∧s=4 then 0
 else if flags/16%2=1∧out=false∧s=0 then 1
 else s
theorem AO {proto s flags:Nat}{out:Bool}(h:s≤4):j1 proto s out flags≤4:=by
 unfold j1 ze
 repeat' split
 all_goals omega
def ly (proto s:Nat):Nat:=if proto=17 then 120 else if proto=1 then 60 else if proto=6 then(if s=1 then 7440 else 240)else 0
def lD (proto:Nat)(out:Bool):Bool:=proto==6||(out&&(proto==17||proto==1))
def kK (proto kind flags:Nat):Bool:=proto==17||(proto==6&&(flags/2%2==1&&flags%2==0&&flags/4%2==0&&flags/16%2==0))||(proto==1&&kind==8)
end
section
open Go.RowKit
structure dE where
 proto:Nat
 addr:Nat
 port:Nat
deriving DecidableEq
def nC:dE:=⟨0,0,0⟩
structure oy where
 ao:dE
 port:Nat
 Bm:Nat
 seen:Nat
deriving DecidableEq
def vU (h:ee)(p:fR):dE:=if p.err then⟨p.inner.proto,p.inner.dst,p.dp⟩else⟨h.proto,h.src,p.sp⟩
def wm (h:ee)(p:fR):dE:=if p.err then⟨p.inner.proto,p.inner.src,p.sp⟩else⟨h.proto,h.dst,p.dp⟩
def dY (l:List UInt8):fR:=kX (aW l) l
def da (out:Bool)(l:List UInt8):dE:=if out then vU (aW l) (dY l)else wm (aW l) (dY l)
def jL (o:Nat)(out:Bool)(l:List UInt8):Nat:=
 if dv l≠0 then dv l else if out=false∧((aW l).dst≠o∨(da out l).addr≠o)then 7 else 0
def pQ (o:Nat)(out:Bool)(l:List UInt8):dE:=if jL o out l=0 then da out l else nC
def lR (out:Bool)(l:List UInt8):Bool:=out&&decide (dv l=0)&& !(dY l).err&&kK (dY l).proto (dY l).kind (dY l).flags
structure oL (p:fR):Prop where
 sp:p.sp<65536
 dp:p.dp<65536
 flags:p.flags<256
 kind:p.kind<256
 vV:p.inner.proto<256
 OJ:p.inner.src<4294967296
 OC:p.inner.dst<4294967296
 proto:p.proto<256
theorem oL.of (h:ee)(l:List UInt8):oL (kX h l):=by
 have z:(0:Nat)<256:=by decide
 have z2:(0:Nat)<65536:=by decide
 have z4:(0:Nat)<4294967296:=by decide
 unfold kX
 split
 ·exact⟨c9 _ _,c9 _ _,z,z,z,z4,z4,by show 17<256;decide⟩
 split
 ·exact⟨c9 _ _,c9 _ _,cZ _ _,z,z,z4,z4,by show 6<256;decide⟩
 unfold nQ
 split
 ·exact⟨c9 _ _,c9 _ _,z,cZ _ _,z,z4,z4,by show 1<256;decide⟩
 ·refine⟨?_,?_,z,cZ _ _,cZ _ _,lG _ _,lG _ _,by show 1<256;decide⟩
  ·unfold nA
   dsimp only
   split<;>exact c9 _ _
  ·unfold nA
   dsimp only
   split<;>exact c9 _ _
theorem HD (out:Bool)(l:List UInt8):(da out l).proto<256∧(da out l).addr<4294967296∧(da out l).port<65536:=by
 have r:oL (dY l):=oL.of (aW l) l
 have h1:(aW l).proto<256:=cZ l 9
 have h2:(aW l).src<4294967296:=lG l 12
 have h3:(aW l).dst<4294967296:=lG l 16
 unfold da vU wm
 split<;>split
 ·exact⟨r.vV,r.OC,r.dp⟩
 ·exact⟨h1,h2,r.sp⟩
 ·exact⟨r.vV,r.OJ,r.sp⟩
 ·exact⟨h1,h3,r.dp⟩
end
section
def ofBits:List Nat→Nat
 |[]=>0
 |i::l=>2^i|||ofBits l
theorem pI (l:List Nat)(j:Nat):(ofBits l).testBit j=decide (j∈l):=by
 induction l with
 |nil=>simp[ofBits]
 |cons i l ih=>
  simp only[ofBits,Nat.testBit_or,Nat.testBit_two_pow,ih,List.mem_cons]
  by_cases h:i=j
  ·simp[h]
  ·simp[h,show ¬j=i from fun e=>h e.symm]
theorem tW (l:List Nat)(n:Nat)(h:∀i∈l,i<n):ofBits l<2^n:=by
 apply Nat.lt_pow_two_of_testBit
 intro j hj
 rw[pI]
 simp only[decide_eq_false_iff_not]
 intro hm
 have:=h j hm
 omega
theorem AT (l:List Nat):ofBits l=0↔l=[]:=by
 constructor
 ·intro h
  cases l with
  |nil=>rfl
  |cons i l=>
   have:=pI (i::l) i
   rw[h]at this
   simp at this
 ·rintro rfl;rfl
theorem Lu (i:Nat)(l:List Nat)(h:∀j∈l,i<j)(hi:i<64)(hl:∀j∈l,j<64):Lib.ctz 64 (ofBits (i::l))=i:=by
 have h0:ofBits (i::l)≠0:=fun e=>by simpa using(AT _).1 e
 have cN:ofBits (i::l)<2^64:=tW _ 64 (by intro j hj;rcases List.mem_cons.1 hj with rfl|hj;exact hi;exact hl j hj)
 unfold Lib.ctz
 rw[if_neg h0]
 obtain⟨m,hm,hc⟩:=Lib.ctzFrom_spec 64 _ (Nat.pos_of_ne_zero h0) cN
 generalize Lib.ctzFrom 64 (ofBits (i::l))=c at hm hc ⊢
 have t1:(ofBits (i::l)).testBit c=true:=by
  rw[hm,Nat.testBit_two_pow_mul]
  simp
 have t2:∀j,j<c→(ofBits (i::l)).testBit j=false:=by
  intro j hj
  rw[hm,Nat.testBit_two_pow_mul]
  simp;omega
 rw[pI]at t1
 have t1:c∈i::l:=by simpa using t1
 rcases List.mem_cons.1 t1 with rfl|zU
 ·rfl
 ·have:=t2 i (h c zU)
  rw[pI]at this
  simp at this
def uS:List Nat→Prop:=List.Pairwise (· < ·)
theorem QP (i:Nat)(l:List Nat)(h:∀j∈l,i<j)(hl:∀j∈l,j<64)(hi:i<64):ofBits (i::l)&&& (18446744073709551615-2^i)=ofBits l:=by
 apply Nat.eq_of_testBit_eq
 intro j
 have e:(18446744073709551615-2^i).testBit j=(decide (j<64)&& !(decide (i=j))):=by
  have:=Nat.testBit_two_pow_sub_succ (n:=64) (x:=2^i) (Nat.pow_lt_pow_of_lt (by omega) hi) j
  rw[show(2:Nat)^64-(2^i+1)=18446744073709551615-2^i by omega,Nat.testBit_two_pow]at this
  exact this
 rw[Nat.testBit_and,pI,pI,e]
 by_cases h1:j∈l
 ·have:=h j h1;have:=hl j h1
  simp[h1,show j<64 by omega,show ¬i=j by omega]
 ·by_cases h2:i=j
  ·simp[h1,h2]
  ·simp[h1,h2,show ¬j=i from fun e=>h2 e.symm]
def cM (u:Nat):List Nat:=(List.range 32).filter fun i=> !u.testBit i
theorem mV {u i:Nat}:i∈cM u↔i<32∧u.testBit i=false:=by simp[cM]
theorem DM (u:Nat):uS (cM u):=List.Pairwise.filter _ List.pairwise_lt_range
theorem MI (u:Nat):(cM u).length≤32:=by
 have:=List.length_filter_le (fun i=> !u.testBit i) (List.range 32)
 simpa[cM]using this
theorem RD {l:List Nat}(h:uS l){k i:Nat}{m:List Nat}(e:l.drop k=i::m):(∀j∈m,i<j):=by
 have h2:uS (i::m):=e▸List.Pairwise.sublist (List.drop_sublist k l) h
 exact(List.pairwise_cons.1 h2).1
theorem DL (u:Nat):cM u=[]↔u%4294967296=4294967295:=by
 have hb:∀j,(u%4294967296).testBit j=(decide (j<32)&&u.testBit j):=fun j=>Nat.testBit_mod_two_pow u 32 j
 have hc:∀j,(4294967295:Nat).testBit j=decide (j<32):=fun j=>Nat.testBit_two_pow_sub_one 32 j
 constructor
 ·intro h
  apply Nat.eq_of_testBit_eq
  intro j
  rw[hb,hc]
  by_cases hj:j<32
  ·cases ht:u.testBit j with
   |true=>simp
   |false=>
    have:j∈cM u:=mV.2 ⟨hj,ht⟩
    rw[h]at this;simp at this
  ·simp[hj]
 ·intro h
  apply List.eq_nil_iff_forall_not_mem.2
  intro j hj
  obtain⟨h1,h2⟩:=mV.1 hj
  have:=hb j
  rw[h,hc,h2]at this
  simp[h1]at this
theorem QN (u:Nat)(hu:u<18446744073709551616):(18446744073709551615-u)&&& 4294967295=ofBits (cM u):=by
 apply Nat.eq_of_testBit_eq
 intro j
 rw[Nat.testBit_and,pI]
 have hc:(4294967295:Nat).testBit j=decide (j<32):=Nat.testBit_two_pow_sub_one 32 j
 have:=Nat.testBit_two_pow_sub_succ (n:=64) (x:=u) hu j
 rw[show(2:Nat)^64-(u+1)=18446744073709551615-u by omega]at this
 rw[hc,this]
 by_cases hj:j<32
 ·cases ht:u.testBit j<;>simp[mV,hj,ht,show j<64 by omega]
 ·simp[mV,hj]
def kh (u low:Nat):Nat:=(u/4294967296+1)%4294967296*4294967296+low
theorem C2 {u low:Nat}(h:low<4294967296):kh u low<18446744073709551616:=by
 unfold kh
 have:=Nat.mod_lt (u/4294967296+1) (show 0<4294967296 by decide)
 omega
theorem Lj {u low:Nat}(hu:u<18446744073709551616)(h:low<4294967296):((u/4294967296+1)*4294967296%18446744073709551616)|||low=kh u low:=by
 have e:(u/4294967296+1)*4294967296%18446744073709551616=(u/4294967296+1)%4294967296*4294967296:=by omega
 rw[e]
 exact nat_join 32 _ _ (by simp) h
theorem Li {u low:Nat}(h:low<4294967296):kh u low%4294967296=low:=by unfold kh;omega
end
section
open Go.RowKit
theorem ub {i:Nat}(h:i<32):2^i<4294967296:=Nat.pow_lt_pow_of_lt (a:=2) (m:=32) (by decide) h
theorem tY {a b:Nat}(ha:a<4294967296)(hb:b<4294967296):a|||b<4294967296:=Nat.or_lt_two_pow (n:=32) ha hb
structure bG where
 kind:Nat:=0
 word:Nat:=0
 left:Nat:=0
 most:Nat:=0
 read:Bool:=false
 seen:Nat:=0
 words:List Nat:=[]
 parts:List (Nat×Nat):=[]
 bo:List Nat:=[]
 done:Bool:=false
 alike:Bool:=false
variable {m n:Nat} {ws:List Nat} {s:bG}
def dN (u most:Nat):List Nat:=(cM u).take most
def iK (ws:List Nat)(s:bG):List Nat×bG:=
 if s.read=true then
  if ws.getD s.word 0=s.seen then
   (ws.set s.word (kh s.seen (s.seen%4294967296|||ofBits (dN s.seen s.most))),{s with read:=false,bo:=(dN s.seen s.most).map (s.word*32+ ·),done:=true})
  else(ws,{s with read:=false})
 else if cM (ws.getD s.word 0)=[]then
  (ws,{s with seen:=ws.getD s.word 0,words:=s.words.set s.word (ws.getD s.word 0),word:=(s.word+1)%s.words.length,left:=s.left-1,done:=decide (s.left-1=0)})
 else(ws,{s with seen:=ws.getD s.word 0,read:=true})
def nW (ws:List Nat)(s:bG):List Nat×bG:=
 if ws.getD s.word 0=s.words.getD s.word 0 then
  (ws,{s with word:=s.word+1,done:=decide (s.word+1=s.words.length),alike:=decide (s.word+1=s.words.length)})
 else(ws,{s with done:=true})
def qd (ws:List Nat)(s:bG):List Nat×bG:=
 match s.parts with
 |[]=>(ws,{s with done:=true})
 |(k,mask)::rest=>
  if s.read=true then
   if ws.getD k 0=s.seen then
    (ws.set k (kh s.seen (s.seen%4294967296&&& (18446744073709551615-mask))),{s with read:=false,parts:=rest,done:=decide (rest=[])})
   else(ws,{s with read:=false})
  else if ws.getD k 0&&& mask=0 then(ws,{s with seen:=ws.getD k 0,read:=false,parts:=rest,done:=decide (rest=[])})
  else(ws,{s with seen:=ws.getD k 0,read:=true})
def bz (ws:List Nat)(s:bG):List Nat×bG:=
 if s.done=true then(ws,s)else if s.kind=0 then iK ws s else if s.kind=1 then nW ws s else qd ws s
structure bG.Ok (m:Nat)(s:bG):Prop where
 kind:s.kind=0∨s.kind=1∨s.kind=2
 seen:s.seen<18446744073709551616
 words:∀u∈s.words,u<18446744073709551616
 kB:s.kind=0→s.words.length=m∧s.word<m∧s.left≤m∧1≤s.most∧s.most≤32∧(s.done=false→1≤s.left)
 mX:s.kind=1→s.words.length=m∧s.word≤m∧(s.done=false→s.word<m)
 parts:∀p∈s.parts,p.1<m∧p.2<4294967296
 bo:s.bo.length≤32
structure gm (m:Nat)(ws:List Nat):Prop where
 len:ws.length=m
 pos:1≤m
 most:m≤32
 lt:∀u∈ws,u<18446744073709551616
theorem gm.get {m:Nat}{ws:List Nat}(h:gm m ws){i:Nat}(hi:i<m):ws[i]? =some (ws.getD i 0)∧ws.getD i 0<18446744073709551616:=by
 have jB:i<ws.length:=by rw[h.len];exact hi
 rw[List.getD_eq_getElem?_getD,List.getElem?_eq_getElem jB]
 exact⟨rfl,h.lt _ (List.getElem_mem jB)⟩
theorem CL (h:s.parts=[]):qd ws s=(ws,{s with done:=true}):=by
 cases s;simp at h;subst h;rfl
theorem CK {k mask:Nat}{rest:List (Nat×Nat)}(h:s.parts=(k,mask)::rest):qd ws s=
  if s.read=true then
   if ws.getD k 0=s.seen then
    (ws.set k (kh s.seen (s.seen%4294967296&&& (18446744073709551615-mask))),{s with read:=false,parts:=rest,done:=decide (rest=[])})
   else(ws,{s with read:=false})
  else if ws.getD k 0&&& mask=0 then(ws,{s with seen:=ws.getD k 0,read:=false,parts:=rest,done:=decide (rest=[])})
  else(ws,{s with seen:=ws.getD k 0,read:=true}):=by
 cases s;simp at h;subst h;rfl
def partAt (ps:List (Nat×Nat))(k:Nat):Option Nat:=ps.findIdx? fun p=>p.1==k
def ij (fr mo:Int)(m:Nat):bG:=
 {kind:=0,word:=(fr%18446744073709551616).toNat%m,left:=m,most:=(min (max mo 1) 32).toNat,words:=List.replicate m 0}
theorem Sc (fr mo:Int)(hm:1≤m):(ij fr mo m).Ok m where
 kind:= .inl rfl
 seen:=by simp[ij]
 words:=by simp[ij]
 kB:=fun _=>⟨by simp[ij],Nat.mod_lt _ hm,Nat.le_refl _,by simp[ij];omega,by simp[ij];omega,fun _=>hm⟩
 mX:=by simp[ij]
 parts:=by simp[ij]
 bo:=by simp[ij]
def hY (s:bG):Bool:=decide (s.kind=0)&&s.done&&decide (s.bo=[])
def mi (t:bG):bG:={kind:=1,words:=t.words}
theorem RO {t:bG}(ht:t.Ok m)(hk:t.kind=0)(hm:1≤m):(mi t).Ok m where
 kind:= .inr (.inl rfl)
 seen:=by simp[mi]
 words:=ht.words
 kB:=by simp[mi]
 mX:=fun _=>⟨(ht.kB hk).1,by simp[mi],fun _=>by simp[mi];omega⟩
 parts:=by simp[mi]
 bo:=by simp[mi]
def gC (ws:List Nat)(j:Nat):Bool:= !(ws.getD (j/32) 0).testBit (j%32)
def fc (ws:List Nat)(c:Nat):List Nat:=(List.range c).filter (gC ws)
theorem MH (ws:List Nat)(c:Nat):fc ws (c+1)=fc ws c++if gC ws c then [c]else []:=by
 unfold fc
 rw[List.range_succ,List.filter_append]
 congr 1
 by_cases h:gC ws c<;>simp[h]
theorem vk (ws:List Nat)(c:Nat):(fc ws c).length≤c:=by
 have:=List.length_filter_le (gC ws) (List.range c)
 simpa[fc]using this
def cJ (n:Nat):List Nat:=
 if n%32=0 then List.replicate ((n+31)/32) 0
 else(List.replicate ((n+31)/32) 0).set ((n+31)/32-1) (4294967295&&& (18446744073709551615-(2^(n%32)-1)))
theorem wi (h1:1≤n)(h2:n≤1024):gm ((n+31)/32) (cJ n) where
 len:=by unfold cJ;split<;>simp
 pos:=by omega
 most:=by omega
 lt:=by
  unfold cJ
  split
  ·intro u hu;simp at hu;omega
  ·intro u hu
   rcases List.mem_or_eq_of_mem_set hu with hu|rfl
   ·simp at hu;omega
   ·exact Nat.lt_of_le_of_lt Nat.and_le_left (by decide)
def addPart (ps:List (Nat×Nat))(z:Nat):List (Nat×Nat):=
 match partAt ps (z/32)with
 |some i=>ps.set i ((ps.getD i (0,0)).1,(ps.getD i (0,0)).2|||2^(z%32))
 |none=>ps++[(z/32,2^(z%32))]
def j9 (n:Nat)(ps:List (Nat×Nat))(z:Int):List (Nat×Nat):=if 0≤z∧z<n then addPart ps z.toNat else ps
def oU (n:Nat)(l:List Int):List (Nat×Nat):=l.foldl (j9 n) []
def oT (n:Nat)(l:List Int):bG:={kind:=2,parts:=oU n l}
theorem Kv (ps:List (Nat×Nat))(z:Nat):(addPart ps z).length≤ps.length+1:=by
 unfold addPart;split<;>simp
theorem KH (n:Nat)(ps:List (Nat×Nat))(z:Int):(j9 n ps z).length≤ps.length+1:=by
 unfold j9;split
 ·exact Kv _ _
 ·omega
theorem DH (n:Nat):∀(l:List Int) (ps:List (Nat×Nat)),(l.foldl (j9 n) ps).length≤ps.length+l.length
 |[],ps=>by simp
 |z::l,ps=>by
  have:=DH n l (j9 n ps z)
  have:=KH n ps z
  simp only[List.foldl_cons,List.length_cons]
  omega
theorem KG (n:Nat)(l:List Int):(oU n l).length≤l.length:=by have:=DH n l [];simpa[oU]using this
theorem Gx (z:Nat):2^(z%32)<4294967296:=ub (Nat.mod_lt _ (by decide))
theorem Gn {ps:List (Nat×Nat)}{c i:Nat}(h:partAt ps c=some i):i<ps.length:=by
 unfold partAt at h
 obtain⟨h',_⟩:=List.findIdx?_eq_some_iff_getElem.1 h
 exact h'
theorem Kw {ps:List (Nat×Nat)}(h:∀p∈ps,p.1<m∧p.2<4294967296)(z:Nat)(hz:z/32<m):∀p∈addPart ps z,p.1<m∧p.2<4294967296:=by
 intro p hp
 unfold addPart at hp
 split at hp
 ·rename_i i hi
  have jB:i<ps.length:=by
   unfold partAt at hi
   obtain⟨h',_⟩:=List.findIdx?_eq_some_iff_getElem.1 hi
   exact h'
  rcases List.mem_or_eq_of_mem_set hp with hp|rfl
  ·exact h p hp
  ·have:=h ps[i] (List.getElem_mem jB)
   rw[List.getD_eq_getElem?_getD,List.getElem?_eq_getElem jB]
   exact⟨this.1,tY this.2 (Gx z)⟩
 ·rcases List.mem_append.1 hp with hp|hp
  ·exact h p hp
  ·simp at hp
   subst hp
   exact⟨hz,Gx z⟩
theorem CI (hn:n≤32*m):∀(l:List Int) (ps:List (Nat×Nat)),(∀p∈ps,p.1<m∧p.2<4294967296)→∀p∈l.foldl (j9 n) ps,p.1<m∧p.2<4294967296
 |[],ps,h=>by simpa using h
 |z::l,ps,h=>by
  rw[List.foldl_cons]
  refine CI hn l _ ?_
  unfold j9
  split
  ·exact Kw h _ (by omega)
  ·exact h
theorem KF (hn:n≤32*m)(l:List Int):(oT n l).Ok m where
 kind:= .inr (.inr rfl)
 seen:=by simp[oT]
 words:=by simp[oT]
 kB:=by simp[oT]
 mX:=by simp[oT]
 parts:=CI hn l [] (by simp)
 bo:=by simp[oT]
theorem Q2 {u most i:Nat}(h:i∈dN u most):i<32:=(mV.1 (List.mem_of_mem_take h)).1
theorem Gs (u most:Nat):ofBits (dN u most)<4294967296:=tW _ 32 fun _ h=>Q2 h
theorem gm.set (h:gm m ws)(i:Nat){u:Nat}(hu:u<18446744073709551616):gm m (ws.set i u) where
 len:=by rw[List.length_set];exact h.len
 pos:=h.pos
 most:=h.most
 lt:=fun x hx=>by
  rcases List.mem_or_eq_of_mem_set hx with hx|rfl
  ·exact h.lt x hx
  ·exact hu
theorem getD_lt (h:∀u∈ws,u<18446744073709551616)(i:Nat):ws.getD i 0<18446744073709551616:=by
 rw[List.getD_eq_getElem?_getD]
 by_cases hi:i<ws.length
 ·rw[List.getElem?_eq_getElem hi];exact h _ (List.getElem_mem hi)
 ·rw[List.getElem?_eq_none (by omega)];simp
theorem u6 (hw:gm m ws)(hs:s.Ok m):gm m (bz ws s).1∧(bz ws s).2.Ok m:=by
 unfold bz
 by_cases hd:s.done=true
 ·rw[if_pos hd];exact⟨hw,hs⟩
 rw[if_neg hd]
 by_cases h0:s.kind=0
 ·rw[if_pos h0]
  obtain⟨t1,t2,t3,t4,t5,t6⟩:=hs.kB h0
  have t6:=t6 (by simpa using hd)
  have hu:=getD_lt hw.lt s.word
  unfold iK
  by_cases hr:s.read=true
  ·rw[if_pos hr]
   by_cases he:ws.getD s.word 0=s.seen
   ·rw[if_pos he]
    refine⟨hw.set _ (C2 (tY (by omega) (Gs _ _))),⟨hs.kind,hs.seen,hs.words,fun _=>⟨t1,t2,t3,t4,t5,fun h=>by simp at h⟩,fun h=>by simp[h0]at h,hs.parts,?_⟩⟩
    simp only[List.length_map,dN,List.length_take]
    have:=MI s.seen
    omega
   ·rw[if_neg he]
    exact⟨hw,⟨hs.kind,hs.seen,hs.words,hs.kB,hs.mX,hs.parts,hs.bo⟩⟩
  ·rw[if_neg hr]
   by_cases hf:cM (ws.getD s.word 0)=[]
   ·rw[if_pos hf]
    refine⟨hw,⟨hs.kind,hu,fun x hx=> ?_,fun _=>⟨by simp[t1],?_,by simp;omega,t4,t5,fun h=> ?_⟩,fun h=>by simp[h0]at h,hs.parts,hs.bo⟩⟩
    ·rcases List.mem_or_eq_of_mem_set hx with hx|rfl
     ·exact hs.words x hx
     ·exact hu
    ·simp only[t1]
     exact Nat.mod_lt _ (by omega)
    ·have h':decide (s.left-1=0)=false:=h
     have:=of_decide_eq_false h'
     show 1≤s.left-1
     omega
   ·rw[if_neg hf]
    exact⟨hw,⟨hs.kind,hu,hs.words,hs.kB,hs.mX,hs.parts,hs.bo⟩⟩
 ·rw[if_neg h0]
  by_cases h1:s.kind=1
  ·rw[if_pos h1]
   obtain⟨t1,t2,t3⟩:=hs.mX h1
   have t3:=t3 (by simpa using hd)
   unfold nW
   by_cases he:ws.getD s.word 0=s.words.getD s.word 0
   ·rw[if_pos he]
    refine⟨hw,⟨hs.kind,hs.seen,hs.words,fun h=>absurd h h0,fun _=>⟨t1,by simp;omega,fun h=> ?_⟩,hs.parts,hs.bo⟩⟩
    simp[t1]at h
    simp;omega
   ·rw[if_neg he]
    exact⟨hw,⟨hs.kind,hs.seen,hs.words,fun h=>absurd h h0,fun _=>⟨t1,t2,fun h=>by simp at h⟩,hs.parts,hs.bo⟩⟩
  ·rw[if_neg h1]
   match hp:s.parts with
   |[]=>
    rw[CL hp]
    exact⟨hw,⟨hs.kind,hs.seen,hs.words,fun h=>absurd h h0,fun h=>absurd h h1,hs.parts,hs.bo⟩⟩
   |(k,mask)::rest=>
    rw[CK hp]
    have vH:∀p∈rest,p.1<m∧p.2<4294967296:=fun p vG=>hs.parts p (by rw[hp];exact List.mem_cons_of_mem _ vG)
    by_cases hr:s.read=true
    ·rw[if_pos hr]
     by_cases he:ws.getD k 0=s.seen
     ·rw[if_pos he]
      exact⟨hw.set _ (C2 (Nat.lt_of_le_of_lt Nat.and_le_left (by omega))),⟨hs.kind,hs.seen,hs.words,fun h=>absurd h h0,fun h=>absurd h h1,vH,hs.bo⟩⟩
     ·rw[if_neg he]
      exact⟨hw,⟨hs.kind,hs.seen,hs.words,hs.kB,hs.mX,hs.parts,hs.bo⟩⟩
    ·rw[if_neg hr]
     have hu:=getD_lt hw.lt k
     by_cases he:ws.getD k 0&&& mask=0
     ·rw[if_pos he]
      exact⟨hw,⟨hs.kind,hu,hs.words,fun h=>absurd h h0,fun h=>absurd h h1,vH,hs.bo⟩⟩
     ·rw[if_neg he]
      exact⟨hw,⟨hs.kind,hu,hs.words,hs.kB,hs.mX,hs.parts,hs.bo⟩⟩
theorem HP {i:Nat}(h:i<32):IntKind.u64.wrap ((2:Int)^i)=((2^i:Nat):Int):=by
 have:2^i<4294967296:=ub h
 rw[IntKind.wrap_u64,show((2:Int)^i)=((2^i:Nat):Int)by norm_cast]
 generalize 2^i=p at*
 omega
theorem Tt {u:Nat}(hu:u<18446744073709551616):bits BinOp.xor IntKind.u64 IntKind.u64.max (u:Int)=((18446744073709551615-u:Nat):Int):=by
 have:=u64_xor_nat 18446744073709551615 u (by decide) hu
 rw[show IntKind.u64.max=((18446744073709551615:Nat):Int)from rfl,this]
 congr 1
 apply Nat.eq_of_testBit_eq
 intro j
 have h1:(18446744073709551615:Nat).testBit j=decide (j<64):=Nat.testBit_two_pow_sub_one 64 j
 have h2:=Nat.testBit_two_pow_sub_succ (n:=64) (x:=u) hu j
 rw[show(2:Nat)^64-(u+1)=18446744073709551615-u by omega]at h2
 rw[Nat.testBit_xor,h1,h2]
 by_cases hj:j<64
 ·simp[hj]
 ·have:u.testBit j=false:=Nat.testBit_lt_two_pow (Nat.lt_of_lt_of_le hu (Nat.pow_le_pow_right (show 0<2 by decide) (show 64≤j by omega)))
  simp[hj,this]
theorem Gr (u most:Nat):(dN u most).length=min most (cM u).length:=by simp[dN]
theorem MK {u:Nat}(hu:u<18446744073709551616):bits BinOp.and IntKind.u64 (bits BinOp.xor IntKind.u64 IntKind.u64.max (u:Int)) 4294967295=((ofBits (cM u):Nat):Int):=by
 rw[Tt hu,←QN _ hu]
 exact u64_and_nat _ 4294967295 (by omega) (by decide)
theorem M0 {u most k:Nat}:(¬ofBits ((cM u).drop k)=0∧k<most)↔k<(dN u most).length:=by
 rw[Gr,AT,List.drop_eq_nil_iff]
 omega
theorem ML (u k:Nat):ofBits ((cM u).drop k)<4294967296:=tW _ 32 fun i hi=>(mV.1 (List.mem_of_mem_drop hi)).1
theorem M1 {u k:Nat}(h:k<(cM u).length):
  Lib.ctz 64 (ofBits ((cM u).drop k))=(cM u)[k]∧(cM u)[k]<32∧
   ofBits ((cM u).drop k)&&& (18446744073709551615-2^(cM u)[k])=ofBits ((cM u).drop (k+1)):=by
 have e:=List.drop_eq_getElem_cons h
 have cN:∀j∈cM u,j<32:=fun j hj=>(mV.1 hj).1
 have h1:∀j∈(cM u).drop (k+1),(cM u)[k]<j:=RD (DM u) e
 have h2:∀j∈(cM u).drop (k+1),j<64:=fun j hj=>by have:=cN j (List.mem_of_mem_drop hj);omega
 have h3:(cM u)[k]<32:=cN _ (List.getElem_mem h)
 rw[e]
 exact⟨Lu _ _ h1 (by omega) h2,h3,QP _ _ h1 h2 (by omega)⟩
theorem QO (l:List Nat)(i:Nat):ofBits (l++[i])=ofBits l|||2^i:=by
 induction l with
 |nil=>simp[ofBits]
 |cons j l ih=>simp[ofBits,ih,Nat.or_assoc]
theorem QQ (u k:Nat):ofBits ((cM u).take k)<4294967296:=tW _ 32 fun i hi=>(mV.1 (List.mem_of_mem_take hi)).1
def rq (ws:List Nat)(s:bG):List Nat×bG:=
 if ws.getD s.word 0=s.seen then
  (ws.set s.word (kh s.seen (s.seen%4294967296|||ofBits (dN s.seen s.most))),{s with bo:=(dN s.seen s.most).map (s.word*32+ ·),done:=true})
 else(ws,s)
theorem AI {u:Nat}(hu:u<18446744073709551616):bits BinOp.and IntKind.u64 (u:Int) 4294967295=((u%4294967296:Nat):Int):=by
 have:=u64_and_nat u 4294967295 hu (by decide)
 rw[show((4294967295:Nat):Int)=4294967295 from rfl]at this
 rw[this,Nat.and_two_pow_sub_one_eq_mod u 32]
theorem KB {u k:Nat}(hu:u<18446744073709551616)(hk:k<4294967296):bits BinOp.and IntKind.u64 (u:Int) (k:Int)=((u&&& k:Nat):Int):=u64_and_nat u k hu (by omega)
theorem KA {u mask:Nat}(hu:u<18446744073709551616)(hm:mask<4294967296):bits BinOp.andNot IntKind.u64 ((u:Int)%4294967296) (mask:Int)=((u%4294967296&&& (18446744073709551615-mask):Nat):Int):=by
 have:=u64_andNot_nat (u%4294967296) mask (by omega) (by omega)
 rw[←this]
 congr 1
theorem Se (h:s.read=true):iK ws s=rq ws {s with read:=false}:=by
 unfold iK rq
 rw[if_pos h]
end
section
open Go.RowKit
structure cx where
 id:Int
 at_:Nat
 aK:Nat
theorem xor_zero {a b:Nat}(h:a^^^b=0):a=b:=by
 apply Nat.eq_of_testBit_eq
 intro i
 have:=congrArg (fun z=>Nat.testBit z i) h
 simp only[Nat.testBit_xor,Nat.zero_testBit]at this
 cases ha:a.testBit i<;>cases hb:b.testBit i<;>simp_all
def fm (a b:Nat):Nat:=(Lib.bitLen (a^^^b)-1)/6
theorem AU (l:Nat):64^l=2^(6*l):=by rw[Nat.pow_mul]
theorem AH {a b:Nat}(ha:a<4294967296)(hb:b<4294967296)(h:a≠b):fm a b≤5∧a/64^(fm a b+1)=b/64^(fm a b+1)∧a/64^fm a b≠b/64^fm a b:=by
 have hv:a^^^b<2^32:=Nat.xor_lt_two_pow (by omega) (by omega)
 have Ar:a^^^b≠0:=fun e=>h (xor_zero e)
 obtain⟨h1,h2,h3⟩:=Lib.bitLenAux_bounds 64 (a^^^b) (by omega) Ar
 have hl:Lib.bitLen (a^^^b)≤32:=Lib.bitLen_le _ 32 (by decide) hv
 have e:Lib.bitLen (a^^^b)=Lib.bitLenAux 64 (a^^^b):=rfl
 rw[←e]at h1 h2 h3
 unfold fm
 generalize Lib.bitLen (a^^^b)=n at*
 refine⟨by omega,?_,?_⟩
 ·apply xor_zero
  rw[AU,←Nat.xor_div_two_pow]
  refine Nat.div_eq_of_lt (Nat.lt_of_lt_of_le h3 (Nat.pow_le_pow_right (by decide) (by omega)))
 ·intro g
  have:(a^^^b)/2^(6*((n-1)/6))=0:=by
   rw[Nat.xor_div_two_pow,←AU,g,Nat.xor_self]
  have h4:2^(6*((n-1)/6))≤a^^^b:=Nat.le_trans (Nat.pow_le_pow_right (by decide) (by omega)) h2
  have h5:=Nat.div_pos h4 (Nat.pow_pos (by decide))
  omega
theorem De {a b m n:Nat}(h:a/64^m=b/64^m)(hm:m≤n):a/64^n=b/64^n:=by
 obtain⟨k,rfl⟩:∃k,n=m+k:=⟨n-m,by omega⟩
 rw[Nat.pow_add,←Nat.div_div_eq_div_mul,←Nat.div_div_eq_div_mul,h]
theorem Pn {a b l:Nat}(ha:a<4294967296)(hb:b<4294967296)(h1:a/64^(l+1)=b/64^(l+1))(h2:a/64^l≠b/64^l):fm a b=l:=by
 have lv:a≠b:=fun e=>h2 (by rw[e])
 obtain⟨_,k1,k2⟩:=AH ha hb lv
 rcases Nat.lt_trichotomy (fm a b) l with g|g|g
 ·exact absurd (De k1 g) h2
 ·exact g
 ·exact absurd (De h1 g) k2
def dg (x l:Nat):Nat:=x/64^l%64
theorem u5 (x l:Nat):x/64^(l+1)=x/64^l/64:=by rw[Nat.pow_succ,←Nat.div_div_eq_div_mul]
theorem LD {x f l:Nat}(h:f<x)(h1:x/64^(l+1)=f/64^(l+1))(h2:x/64^l≠f/64^l):dg f l<dg x l:=by
 have h3:f/64^l≤x/64^l:=Nat.div_le_div_right (by omega)
 rw[u5,u5]at h1
 unfold dg
 omega
theorem M5 {x t l:Nat}(h1:x/64^(l+1)=t/64^(l+1))(h2:dg t l<dg x l):t<x∧x/64^l≠t/64^l:=by
 rw[u5,u5]at h1
 unfold dg at h2
 have h3:t/64^l<x/64^l:=by omega
 refine⟨?_,by omega⟩
 rcases Nat.lt_or_ge t x with g|g
 ·exact g
 ·have:x/64^l≤t/64^l:=Nat.div_le_div_right g
  omega
def AW (l f t:Nat):List Nat:=if f/64^(l+1)=t/64^(l+1)then List.range' (dg f l+1) (dg t l-dg f l)else List.range' 0 64
theorem stays {x f t:Nat}(hx:x<4294967296)(ht:t<4294967296)(hf:f<x)(hn:dg x (fm x f)∉AW (fm x f) f t):t<x∧fm x t=fm x f:=by
 obtain⟨_,h1,h2⟩:=AH hx (by omega) (show x≠f by omega)
 have h3:=LD hf h1 h2
 have h4:dg x (fm x f)<64:=Nat.mod_lt _ (by decide)
 generalize fm x f=l at*
 unfold AW at hn
 split at hn
 ·rename_i e
  have h5:dg t l<dg x l:=by
   rcases Nat.lt_or_ge (dg t l) (dg x l)with g|g
   ·exact g
   ·refine absurd (List.mem_range'.2 ⟨dg x l-(dg f l+1),by omega,by omega⟩) hn
  obtain⟨h6,h7⟩:=M5 (h1.trans e) h5
  exact⟨h6,Pn hx ht (h1.trans e) h7⟩
 ·exact absurd (List.mem_range'.2 ⟨dg x l,by omega,by omega⟩) hn
structure dr where
 now:Nat
 aK:Nat
 ready:List cx
 sl:Nat→List cx
def hF {α:Type}(f:Nat→α)(k:Nat)(v:α):Nat→α:=fun i=>if i=k then v else f i
theorem uk {α:Type}(f:Nat→α)(k:Nat)(v:α):hF f k v k=v:=if_pos rfl
theorem sa {α:Type}(f:Nat→α){k i:Nat}(v:α)(h:i≠k):hF f k v i=f i:=if_neg h
def spot (now a:Nat):Nat:=fm a now*64+dg a (fm a now)
theorem Ha {now a:Nat}(ha:a<4294967296)(h:now<a):spot now a<384:=by
 have h1:=(AH ha (show now<4294967296 by omega) (show a≠now by omega)).1
 have h2:dg a (fm a now)<64:=Nat.mod_lt _ (by decide)
 unfold spot
 omega
def oZ (sl:Nat→List cx):List cx:=(List.range 384).flatMap sl
def dr.all (s:dr):List cx:=s.ready++oZ s.sl
def lC (s:dr)(x:cx):dr:=if x.at_≤s.now then {s with ready:=s.ready++[x]}else {s with sl:=hF s.sl (spot s.now x.at_) (s.sl (spot s.now x.at_)++[x])}
structure uX (s:dr):Prop where
 now:s.now<4294967296
 ready:∀x∈s.ready,x.at_≤s.now
 sl:∀k,k<384→∀x∈s.sl k,s.now<x.at_∧x.at_<4294967296∧spot s.now x.at_=k
theorem Rj (s:dr)(x:cx):(lC s x).now=s.now∧(lC s x).aK=s.aK:=by unfold lC;split<;>exact⟨rfl,rfl⟩
theorem Rk {s:dr}{x:cx}(h:uX s)(hx:x.at_<4294967296):uX (lC s x):=by
 unfold lC
 split
 ·rename_i g
  refine⟨h.now,fun y hy=> ?_,h.sl⟩
  rcases List.mem_append.1 hy with hy|hy
  ·exact h.ready y hy
  ·simp only[List.mem_singleton]at hy
   subst hy;exact g
 ·rename_i g
  refine⟨h.now,h.ready,fun k hk y hy=> ?_⟩
  dsimp only at hy ⊢
  unfold hF at hy
  split at hy
  ·rename_i e
   subst e
   rcases List.mem_append.1 hy with hy|hy
   ·exact h.sl _ hk y hy
   ·simp only[List.mem_singleton]at hy
    subst hy
    exact⟨by omega,hx,rfl⟩
  ·exact h.sl k hk y hy
open List in
theorem DE (f:Nat→List cx)(k:Nat)(v:List cx):∀n,k<n→((List.range n).flatMap (hF f k v)++f k) ~ ((List.range n).flatMap f++v)
 |0,h=>absurd h (by omega)
 |n+1,h=>by
  rw[List.range_succ,List.flatMap_append,List.flatMap_append]
  simp only[List.flatMap_cons,List.flatMap_nil,List.append_nil]
  rcases Nat.lt_or_ge k n with g|g
  ·have ih:=DE f k v n g
   rw[sa f v (show n≠k by omega)]
   have e1:((List.range n).flatMap (hF f k v)++f n++f k) ~ (((List.range n).flatMap (hF f k v)++f k)++f n):=by
    rw[List.append_assoc,List.append_assoc]
    exact List.Perm.append_left _ List.perm_append_comm
   have e2:((List.range n).flatMap f++v++f n) ~ ((List.range n).flatMap f++f n++v):=by
    rw[List.append_assoc,List.append_assoc]
    exact List.Perm.append_left _ List.perm_append_comm
   exact e1.trans ((ih.append_right _).trans e2)
  ·obtain rfl:k=n:=by omega
   rw[uk]
   have e3:(List.range k).flatMap (hF f k v)=(List.range k).flatMap f:=by
    have hc:∀x∈List.range k,hF f k v x=f x:=fun x hx=>sa f v (by have:=List.mem_range.1 hx;omega)
    rw[List.flatMap_def,List.flatMap_def,List.map_congr_left hc]
   rw[e3,List.append_assoc,List.append_assoc]
   exact List.Perm.append_left _ List.perm_append_comm
open List in
theorem Rh {s:dr}{x:cx}(hx:x.at_<4294967296):(lC s x).all ~ (x::s.all):=by
 unfold lC dr.all
 split
 ·dsimp only
  rw[List.append_assoc]
  exact List.perm_middle
 ·rename_i g
  dsimp only
  have h:=DE s.sl (spot s.now x.at_) (s.sl (spot s.now x.at_)++[x]) 384 (Ha hx (by omega))
  have h2:(oZ (hF s.sl (spot s.now x.at_) (s.sl (spot s.now x.at_)++[x]))) ~ (oZ s.sl++[x]):=by
   have h3:(oZ (hF s.sl (spot s.now x.at_) (s.sl (spot s.now x.at_)++[x]))++s.sl (spot s.now x.at_)) ~ ((oZ s.sl++[x])++s.sl (spot s.now x.at_)):=by
    refine h.trans ?_
    rw[←List.append_assoc,List.append_assoc,List.append_assoc]
    exact List.Perm.append_left _ List.perm_append_comm
   exact(List.perm_append_right_iff _).1 h3
  refine(List.Perm.append_left _ h2).trans ?_
  rw[←List.append_assoc]
  exact List.perm_append_singleton _ _
def DT:List Nat→(Nat→List cx)→List cx→List cx×(Nat→List cx)
 |[],sl,out=>(out,sl)
 |i::l,sl,out=>DT l (hF sl i []) (out++sl i)
def Ph (l f t:Nat):List Nat:=(AW l f t).map (l*64+ ·)
def idx (f t:Nat):List Nat:=(List.range 6).flatMap fun l=>Ph l f t
def L2 (s:dr)(t:Nat):List cx×dr:=
 let g:=DT (idx s.now t) s.sl []
 let s2:=g.1.foldl lC ⟨t,s.aK,[],g.2⟩
 (s.ready++s2.ready,{s2 with ready:=[]})
def Df (s:dr)(n:Int):List cx×dr:=if(s.now:Int)<min n 4294967295 then L2 s (min n 4294967295).toNat else(s.ready,{s with ready:=[]})
end
section
open Go.RowKit
def L6 (a b:cx):Bool:=decide (a.at_<b.at_∨(a.at_=b.at_∧a.aK<b.aK))
abbrev L5 (a b:cx):Bool:= !L6 b a
def R8 (l:List cx):List cx:=l.mergeSort L5
def lK (l:List cx):Prop:=(l.map cx.aK).Nodup
theorem lK.perm {l m:List cx}(h:lK l)(p:m.Perm l):lK m:=List.Nodup.perm h (p.symm.map _)
theorem lK.cons {l:List cx}{x:cx}(ht:lK l)(hx:∀y∈l,y.aK<x.aK):lK (x::l):=by
 unfold lK at*
 rw[List.map_cons,List.nodup_cons]
 refine⟨fun h=> ?_,ht⟩
 obtain⟨y,hy,e⟩:=List.mem_map.1 h
 have:=hx y hy
 omega
structure lj (s:dr):Prop where
 pos:uX s
 turns:lK s.all
 less:∀x∈s.all,x.aK≤s.aK
def jg:dr:=⟨0,0,[],fun _=>[]⟩
theorem zm:oZ (fun _=>[])=[]:=by unfold oZ;simp
theorem Qw:lj jg:=⟨⟨by decide,fun x hx=>by simp[jg]at hx,fun k _ x hx=>by simp[jg]at hx⟩,by simp[lK,dr.all,jg,zm],fun x hx=>by simp[dr.all,jg,zm]at hx⟩
theorem F9:jg.all=[]:=by simp[dr.all,jg,zm]
def kJ (s:dr)(id:Int)(a:Nat):dr:=lC {s with aK:=s.aK+1} ⟨id,a,s.aK+1⟩
theorem CA {s:dr}{id:Int}{a:Nat}(h:lj s)(ha:a<4294967296):lj (kJ s id a)∧(kJ s id a).now=s.now∧(kJ s id a).aK=s.aK+1∧(kJ s id a).all.Perm (⟨id,a,s.aK+1⟩::s.all):=by
 have hp:uX {s with aK:=s.aK+1}:=⟨h.pos.now,h.pos.ready,h.pos.sl⟩
 have h1:=Rk (x:=⟨id,a,s.aK+1⟩) hp ha
 have h2:=Rh (s:={s with aK:=s.aK+1}) (x:=⟨id,a,s.aK+1⟩) ha
 obtain⟨h3,h4⟩:=Rj {s with aK:=s.aK+1} ⟨id,a,s.aK+1⟩
 have ht:lK (⟨id,a,s.aK+1⟩::s.all):=lK.cons h.turns fun y hy=>by have:=h.less y hy;dsimp only;omega
 refine⟨⟨h1,ht.perm h2,fun x hx=> ?_⟩,h3,h4,h2⟩
 unfold kJ
 rw[h4]
 dsimp only
 rcases List.mem_cons.1 (h2.mem_iff.1 hx)with rfl|hx
 ·exact Nat.le_refl _
 ·have:=h.less x hx;omega
end
end Go.Proofs.YtimekbpkejemoaaGreatDoor
