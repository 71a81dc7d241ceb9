/-
  A part of a proof, joined by a program (wip/bundle3.py).
-/
import Derived.OrdersHeld
import Derived.Lib.ItoaNum
import Derived.Lib.Join
import Derived.Lib.TrailingZeros
import Derived.Laws.BitsAllLaws
import Derived.Test.YtfkngchldmfpfaaGreatDoorG1
import Derived.Test.YtfkngchldmfpfaaGreatDoorG2
import Derived.Test.YtfkngchldmfpfaaGreatDoorG5
set_option linter.unusedVariables false
set_option linter.unusedSimpArgs false
namespace Go.Proofs.YtfkngchldmfpfaaGreatDoor
section
open Go.RowKit
set_option maxRecDepth 10000
attribute [local irreducible] EK EX ER EN EL ES EG an aR aU
variable {W:World} {F:SL} {X:Cx} {k:List KI} {σ:Env}
attribute [local simp] mJ
instance kR.bytes (l:List UInt8)(i:Nat)(b:UInt8):kR (ar l) i 1 0 [.int .u8 ((b.toNat:Nat):Int)] (ar (l.set i b)) (i<l.length):=⟨fun h=>by
 refine⟨by simp;omega,?_⟩
 simp only[Nat.mul_one,Nat.add_zero,List.length_cons,List.length_nil,Nat.zero_add]
 rw[←FR (by simpa using h)]
 simp[ar,List.map_set]⟩
abbrev dW (w:Option Addr)(q:az)(out:Bool)(l:List UInt8)(F:SL):SL:=Obj w 330 [.slice q.1 l.length q.2,.bool out]*(ad 5 1 q.1 l.length q.2 (ar l)*F)
section
variable {w:Option Addr} {q:az} {out:Bool} {l:List UInt8}
theorem mF (i:Nat)(h:i+1<l.length)(hi:i≤9000000):Spec Tryz.prog 251 [.pointer w,.int .i64 (i:Int)] W (dW w q out l F) (fun _:Unit=> .int .u16 (w2 l i:Int)) (fun _=>dW w q out l F):=by
 refine Spec.of Tryz.func251 rfl Tryz.ntmps251 rfl ?_
 have h0:=dM l i
 have h1:=dM l (i+1)
 simp only[dW]
 refine aa ?_;intros
 refine ay 99 (Obj w 330 [.slice q.1 l.length q.2,.bool out]*(ad 5 1 q.1 l.length q.2 (ar l)*F)) rfl rfl rfl ?_
 refine ah ?_
 refine aa ?_;intros
 exact ae (aj rfl rfl () (by rw[K7 h0 h1];rfl) (U.sat (ag)))
theorem kL (i n:Nat)(h:i+1<l.length)(hi:i≤9000000):Spec Tryz.prog 250 [.pointer w,.int .i64 (i:Int),.int .u16 (n:Int)] W (dW w q out l F) (fun _:Unit=> .tuple #[]) (fun _=>dW w q out (st2 l i n) F):=by
 refine Spec.of Tryz.func250 rfl Tryz.ntmps250 rfl ?_
 simp only[dW,dB]
 unfold st2
 have hs:(l.set i (u8 (n/256))).length=l.length:=List.length_set
 refine aa ?_;intros
 refine ay 19 (Obj w 330 [.slice q.1 l.length q.2,.bool out]*(vp 5 1 q.1 l.length q.2*F)) rfl rfl rfl ?_
 refine ah ?_
 rw[show(n:Int)/2^Int.toNat 8=((n/256:Nat):Int)from gO n 8,dG,dG]
 refine bD ?_;intros
 exact aE (aF rfl () rfl (U.sat (ag)))
theorem WT {a b:Nat}(ha:a<65536)(hb:b<65536):bits .or .u32 (IntKind.u32.wrap ((a:Int)*2^Int.toNat 16)) (b:Int)=((a*65536+b:Nat):Int):=by
 rw[show(a:Int)*2^Int.toNat 16=((a*2^16:Nat):Int)by rw[show Int.toNat 16=16 from rfl];omega,cG.wrap (k:= .u32) (z:=((a*2^16:Nat):Int)) (by simp only[cG];omega),u32_or_nat _ _ (by omega) (by omega)]
 rw[Nat.mul_comm,←Nat.two_pow_add_eq_or_of_lt (show b<2^16 by omega) a]
theorem MQ (i:Nat)(h:i+3<l.length)(hi:i≤1000000):Spec Tryz.prog 247 [.pointer w,.int .i64 (i:Int)] W (dW w q out l F) (fun _:Unit=> .int .u32 (w4 l i:Int)) (fun _=>dW w q out l F):=by
 refine Spec.of Tryz.func247 rfl Tryz.ntmps247 rfl ?_
 have h0:=dZ l i
 have h2:=dZ l (i+2)
 refine aa ?_;intros
 refine af rfl (mF i (by omega) (by omega)) ?_
 intro _
 refine aa ?_;intros
 refine af rfl (mF (i+2) (by omega) (by omega)) ?_
 intro _
 refine aa ?_;intros
 exact ae (aj rfl rfl () (by rw[WT h0 h2];rfl) (U.sat (ag)))
theorem MO (i n:Nat)(h:i+3<l.length)(hi:i≤1000000)(hn:n<4294967296):Spec Tryz.prog 248 [.pointer w,.int .i64 (i:Int),.int .u32 (n:Int)] W (dW w q out l F) (fun _:Unit=> .tuple #[]) (fun _=>dW w q out (st2 (st2 l i (n/65536)) (i+2) (n%65536)) F):=by
 refine Spec.of Tryz.func248 rfl Tryz.ntmps248 rfl ?_
 refine aa ?_;intros
 rw[show(n:Int)/2^Int.toNat 16=((n/65536:Nat):Int)from gO n 16,Gc (a:=n/65536) (by omega)]
 refine af rfl (kL i (n/65536) (by omega) (by omega)) ?_
 intro _
 refine aa ?_;intros
 rw[Gd]
 refine af rfl (kL (i+2) (n%65536) (by rw[dB];omega) (by omega)) ?_
 intro _
 refine aa ?_;intros
 exact aE (aF rfl () rfl (U.sat (ag)))
theorem wJ (i bT now:Nat)(h:i+1<l.length)(hi:i≤1000000)(h1:bT<4294967296)(h2:now<4294967296):Spec Tryz.prog 249 [.pointer w,.int .i64 (i:Int),.int .u32 (bT:Int),.int .u32 (now:Int)] W (dW w q out l F) (fun _:Unit=> .tuple #[]) (fun _=>dW w q out (st2 l i (jl (w2 l i) bT now)) F):=by
 refine Spec.of Tryz.func249 rfl Tryz.ntmps249 rfl ?_
 refine aa ?_;intros
 refine af rfl (mF i h (by omega)) ?_
 intro _
 refine aa ?_;intros
 refine af rfl (N0 (dZ l i) h1 h2) ?_
 intro _
 refine aa ?_;intros
 refine af rfl (kL i (jl (w2 l i) bT now) h (by omega)) ?_
 intro _
 refine aa ?_;intros
 exact aE (aF rfl () rfl (U.sat (ag)))
theorem Mr (head addr:Nat)(src:Bool)(h:head+19<l.length)(hi:head≤100000)(ha:addr<4294967296):Spec Tryz.prog 226 [.pointer w,.int .i64 (head:Int),.bool src,.int .u32 (addr:Int)] W (dW w q out l F) (fun _:Unit=> .int .u32 (w4 l (head+jy src):Int)) (fun _=>dW w q out (om l head (head+jy src) addr) F):=by
 refine Spec.of Tryz.func226 rfl Tryz.ntmps226 rfl ?_
 cases src with
 |false=>
  rw[show jy false=16 from rfl]
  have hw:=oR l (head+16)
  refine aa ?_;intros
  refine af rfl (MQ (head+16) (by omega) (by omega)) ?_
  intro _
  refine aa ?_;intros
  refine af rfl (MO (head+16) addr (by omega) (by omega) ha) ?_
  intro _
  refine aa ?_;intros
  refine af rfl (wJ (head+10) _ addr (by rw[dB,dB];omega) (by omega) hw ha) ?_
  intro _
  refine aa ?_;intros
  exact ae (aj rfl rfl () rfl (U.sat (ag)))
 |true=>
  rw[show jy true=12 from rfl]
  have hw:=oR l (head+12)
  refine aa ?_;intros
  refine af rfl (MQ (head+12) (by omega) (by omega)) ?_
  intro _
  refine aa ?_;intros
  refine af rfl (MO (head+12) addr (by omega) (by omega) ha) ?_
  intro _
  refine aa ?_;intros
  refine af rfl (wJ (head+10) _ addr (by rw[dB,dB];omega) (by omega) hw ha) ?_
  intro _
  refine aa ?_;intros
  exact ae (aj rfl rfl () rfl (U.sat (ag)))
theorem Mu (i id:Nat)(h:i+5<l.length)(hi:i≤100000)(hd:id<65536):Spec Tryz.prog 228 [.pointer w,.int .i64 (i:Int),.int .u16 (id:Int)] W (dW w q out l F) (fun _:Unit=> .tuple #[]) (fun _=>dW w q out (sM l i id) F):=by
 refine Spec.of Tryz.func228 rfl Tryz.ntmps228 rfl ?_
 have e2:w2 (st2 l (i+4) id) (i+2)=w2 l (i+2):=ZG l (by omega) (by omega)
 have hf:=uh (w2 l (i+2)) (w2 l (i+4)) id
 refine aa ?_;intros
 refine af rfl (mF (i+4) (by omega) (by omega)) ?_
 intro _
 refine aa ?_;intros
 refine af rfl (kL (i+4) id (by omega) (by omega)) ?_
 intro _
 refine aa ?_;intros
 refine af rfl (mF (i+2) (by rw[dB];omega) (by omega)) ?_
 intro _
 rw[e2]
 refine aa ?_;intros
 refine af rfl (tQ (dZ l (i+2)) (dZ l (i+4)) hd) ?_
 intro _
 unfold sM yR
 by_cases hz:pd (w2 l (i+2)) (w2 l (i+4)) id=0
 ·rw[if_pos hz]
  refine aa ?_;intros
  refine af rfl (kL (i+2) 65535 (by rw[dB];omega) (by omega)) ?_
  intro _
  refine aa ?_;intros
  exact aE (aF rfl () rfl (U.sat (ag)))
 ·rw[if_neg hz]
  refine aa ?_;intros
  refine af rfl (kL (i+2) _ (by rw[dB];omega) (by omega)) ?_
  intro _
  refine aa ?_;intros
  exact aE (aF rfl () rfl (U.sat (ag)))
theorem Cj (i:Nat)(hi:i≤1000000):Spec Tryz.prog 253 [.pointer w,.int .i64 (i:Int)] W (dW w q out l F) (fun _:Unit=> .bool (decide (i+2≤l.length))) (fun _=>dW w q out l F):=by
 refine Spec.of Tryz.func253 rfl Tryz.ntmps253 rfl ?_
 simp only[dW]
 by_cases h:i+2≤l.length
 ·rw[decide_eq_true h]
  refine aa ?_;intros
  exact ae (aj rfl rfl () rfl (U.sat (ag)))
 ·rw[decide_eq_false h]
  refine aa ?_;intros
  exact ae (aj rfl rfl () rfl (U.sat (ag)))
end
end
section
open Go.RowKit
variable {X:Cx} {k:List KI} {σ:Env} {H S:SL} {ops:List Oper} {fuel:Nat} {listed:Array Bool}
instance hU.here (x:Value)(l:List Value):hU (x::l) 0 1 0 x (0≤0):=⟨fun _=>rfl⟩
instance hU.there (x:Value)(l:List Value)(i:Nat)(v:Value)(φ:Prop)[g:hU l i 1 0 v φ]:hU (x::l) (i+1) 1 0 v φ:=⟨fun h=>by
 have:=g.get h
 simpa using this⟩
end
section
open Go.RowKit
set_option maxRecDepth 10000
attribute [local irreducible] EK EX ER EN EL ES EG an aR aU
variable {W:World} {F:SL} {X:Cx} {k:List KI} {σ:Env}
attribute [local simp] mJ vz vy
section
variable {p:Option Addr} {c:Nat} {l:List UInt8}
theorem Ak [s:Src W F p l.length (ar l)][r:Room W F p l.length c](h:l.length≤1400):Spec Tryz.prog 142 [.slice p l.length c] W F (fun _:Unit=> .slice p l.length c) (fun _=>F):=by
 refine Spec.of Tryz.func142 rfl Tryz.ntmps142 rfl ?_
 refine aa ?_;intros
 rw[show min (l.length:Int) 1400=(l.length:Int)by omega]
 refine aa ?_;intros
 exact ae (aj rfl rfl () rfl (U.sat (ag)))
def sa (f t:Nat)(l:List UInt8):List UInt8:=ji f++ji t++ji (8+l.length)++[0,0]++l
def Mm (src dst f t:Nat)(l:List UInt8):Nat:=if iy src dst 17 (sa f t l)=0 then 65535 else iy src dst 17 (sa f t l)
def kJ (src dst f t:Nat)(l:List UInt8):List UInt8:=st2 (sa f t l) 6 (Mm src dst f t l)
theorem Ga (f t:Nat)(l:List UInt8):(sa f t l).length=8+l.length:=by simp[sa];omega
theorem Cd (src dst f t:Nat)(l:List UInt8):(kJ src dst f t l).length=8+l.length:=by unfold kJ;rw[dB,Ga]
set_option maxHeartbeats 1000000 in
theorem CZ [s:Src W F p l.length (ar l)][r:Room W F p l.length c](h:l.length≤1400)(src dst f t:Nat)(hf:f<65536)(ht:t<65536):Spec Tryz.prog 91 [.int .u32 (src:Int),.int .u32 (dst:Int),.int .u16 (f:Int),.int .u16 (t:Int),.slice p l.length c] W F
  (fun q:az=> .slice q.1 (kJ src dst f t l).length q.2) (fun q=>ad 5 1 q.1 (kJ src dst f t l).length q.2 (ar (kJ src dst f t l))*F):=by
 refine Spec.of Tryz.func91 rfl Tryz.ntmps91 rfl ?_
 refine aa ?_;intros
 refine af rfl (Ak h) ?_
 intro _
 refine aa ?_;intros
 refine af rfl (wK f) ?_
 intro q1
 refine aa ?_;intros
 refine af rfl (wK t) ?_
 intro q2
 refine aa ?_;intros
 refine af rfl (wK (8+l.length)) ?_
 intro q3
 refine aa ?_;intros
 rename_i z
 have e3:2+2+2+2+l.length=(sa f t l).length:=by rw[Ga]
 have e4:ar (ji f)++ar (ji t)++ar (ji (8+l.length))++[Value.int IntKind.u8 0,Value.int IntKind.u8 0]++ar l=ar (sa f t l):=by simp[ar,sa]
 rw[e4,e3]
 have hlen:=Ga f t l
 refine af rfl (rT src dst 17 (by decide) (by omega)) ?_
 intro _
 have e5:kJ src dst f t l=_:=rfl
 conv at e5=>rhs;unfold kJ Mm
 generalize sa f t l=u at*
 have hs:=tj src dst 17 u
 by_cases h0:iy src dst 17 u=0
 ·rw[if_pos h0]at e5
  rw[h0,e5,dB]
  unfold st2
  have uM:(u.set 6 (u8 (65535/256))).length=u.length:=List.length_set
  refine aa ?_;intros
  rw[show(65535:Int)=((65535:Nat):Int)from rfl,show((65535:Nat):Int)/2^Int.toNat 8=((65535/256:Nat):Int)from gO 65535 8,dG,dG]
  refine aa ?_;intros
  exact ae (aj rfl rfl z rfl (U.sat (ag)))
 ·rw[if_neg h0]at e5
  rw[e5,dB]
  unfold st2
  have uM:(u.set 6 (u8 (iy src dst 17 u/256))).length=u.length:=List.length_set
  refine aa ?_;intros
  rw[show(iy src dst 17 u:Int)/2^Int.toNat 8=((iy src dst 17 u/256:Nat):Int)from gO _ 8,dG,dG]
  refine aa ?_;intros
  exact ae (aj rfl rfl z rfl (U.sat (ag)))
def sW (eQ proto src dst n:Nat):List UInt8:=[69,0]++ji n++[0,0,64,0,u8 eQ,u8 proto,0,0]++mI src++mI dst
def DR (eQ proto src dst n:Nat):List UInt8:=st2 (sW eQ proto src dst n) 10 (cY (sW eQ proto src dst n))
def lL (eQ proto src dst:Nat)(l:List UInt8):List UInt8:=DR eQ proto src dst (20+l.length)++l
theorem Jm (eQ proto src dst n:Nat):(sW eQ proto src dst n).length=20:=rfl
theorem Tz (eQ proto src dst n:Nat):(DR eQ proto src dst n).length=20:=by unfold DR;rw[dB,Jm]
theorem wq (eQ proto src dst:Nat)(l:List UInt8):(lL eQ proto src dst l).length=20+l.length:=by unfold lL;rw[List.length_append,Tz]
theorem FF {n:Nat}(p:Option Addr)(c:Nat)(l:List UInt8)(hn:n=l.length)(hl:l.length≤1000000)[Src W F p n (ar l)]:Spec Tryz.prog 64 [.slice p n c] W F (fun _:Unit=> .int .u16 (cY l:Int)) (fun _=>F):=by
 subst hn
 exact yZ p c l hl
set_option maxHeartbeats 1000000 in
theorem w9 [s:Src W F p l.length (ar l)][r:Room W F p l.length c](h:l.length≤1480)(eQ proto src dst:Nat)(h1:eQ<256)(h2:proto<256):Spec Tryz.prog 62 [.agg #[.int .i64 0,.int .i64 0,.int .i64 (eQ:Int),.int .i64 (proto:Int),.int .u32 (src:Int),.int .u32 (dst:Int)],.slice p l.length c] W F
  (fun q:az=> .tuple #[.slice q.1 (lL eQ proto src dst l).length q.2,.bool true]) (fun q=>ad 5 1 q.1 (lL eQ proto src dst l).length q.2 (ar (lL eQ proto src dst l))*F):=by
 refine Spec.of Tryz.func62 rfl Tryz.ntmps62 rfl ?_
 refine aa ?_;intros
 rename_i q
 have g8:∀n:Nat,(n:Int)/2^Int.toNat 8=((n/256:Nat):Int):=fun n=>gO n 8
 have g16:∀n:Nat,(n:Int)/2^Int.toNat 16=((n/65536:Nat):Int):=fun n=>gO n 16
 have g24:∀n:Nat,(n:Int)/2^Int.toNat 24=((n/16777216:Nat):Int):=fun n=>gO n 24
 have gl:20+(l.length:Int)=((20+l.length:Nat):Int):=by omega
 have gt:(eQ:Int)=(((u8 eQ).toNat:Nat):Int):=by rw[r9];omega
 have gp:(proto:Int)=(((u8 proto).toNat:Nat):Int):=by rw[r9];omega
 have e:[Value.int .u8 69,Value.int .u8 0,Value.int .u8 (IntKind.u8.wrap ((20+(l.length:Int))/2^Int.toNat 8)),Value.int .u8 (IntKind.u8.wrap (20+(l.length:Int))),Value.int .u8 0,Value.int .u8 0,Value.int .u8 64,Value.int .u8 0,Value.int .u8 (eQ:Int),Value.int .u8 (proto:Int),Value.int .u8 0,Value.int .u8 0,
   Value.int .u8 (IntKind.u8.wrap ((src:Int)/2^Int.toNat 24)),Value.int .u8 (IntKind.u8.wrap ((src:Int)/2^Int.toNat 16)),Value.int .u8 (IntKind.u8.wrap ((src:Int)/2^Int.toNat 8)),Value.int .u8 (IntKind.u8.wrap (src:Int)),
   Value.int .u8 (IntKind.u8.wrap ((dst:Int)/2^Int.toNat 24)),Value.int .u8 (IntKind.u8.wrap ((dst:Int)/2^Int.toNat 16)),Value.int .u8 (IntKind.u8.wrap ((dst:Int)/2^Int.toNat 8)),Value.int .u8 (IntKind.u8.wrap (dst:Int))]=ar (sW eQ proto src dst (20+l.length)):=by
  rw[gl,g8,g8,g8,g16,g16,g24,g24,dG,dG,dG,dG,dG,dG,dG,dG,dG,dG,gt,gp]
  rfl
 rw[e]
 have e1:lL eQ proto src dst l=st2 (sW eQ proto src dst (20+l.length)) 10 (cY (sW eQ proto src dst (20+l.length)))++l:=rfl
 have e2:20=(sW eQ proto src dst (20+l.length)).length:=(Jm _ _ _ _ _).symm
 have e3:(lL eQ proto src dst l).length=20+l.length:=wq _ _ _ _ _
 rw[e3,e1]
 generalize sW eQ proto src dst (20+l.length)=u at*
 have hs:=qf u
 have h2:(st2 u 10 (cY u)).length=20:=by rw[dB,←e2]
 have h3:(u.set 10 (u8 (cY u/256))).length=20:=by rw[List.length_set,←e2]
 refine af rfl (FF q 20 u e2 (by omega)) ?_
 intro _
 refine aa ?_;intros
 rw[show(cY u:Int)/2^Int.toNat 8=((cY u/256:Nat):Int)from gO _ 8,dG,dG]
 refine aa ?_;intros
 rename_i z
 rw[show ar ((u.set 10 (u8 (cY u/256))).set 11 (u8 (cY u)))++ar l=ar (st2 u 10 (cY u)++l)by simp[ar,st2]]
 exact ae (fz rfl rfl rfl z rfl (U.sat (ag)))
end
def ru (src dst f t:Nat)(l:List UInt8):List UInt8:=lL 64 17 src dst (kJ src dst f t l)
theorem Sq (src dst f t:Nat)(l:List UInt8):(ru src dst f t l).length=28+l.length:=by unfold ru;rw[wq,Cd];omega
section
variable {p:Option Addr} {c:Nat} {l:List UInt8}
theorem Nd [s:Src W F p l.length (ar l)][r:Room W F p l.length c](h:l.length≤40)(src dst f t:Nat)(hf:f<65536)(ht:t<65536)(fl:Int):Spec Tryz.prog 61 [.agg #[.int .i64 0,.int .u32 (src:Int),.int .u32 (dst:Int),.int .u16 (f:Int),.int .u16 (t:Int),.int .i64 fl,.slice p l.length c]] W F
  (fun q:az=> .tuple #[.slice q.1 (kJ src dst f t l).length q.2,.int .i64 17]) (fun q=>ad 5 1 q.1 (kJ src dst f t l).length q.2 (ar (kJ src dst f t l))*F):=by
 refine Spec.of Tryz.func61 rfl Tryz.ntmps61 rfl ?_
 have hm:min l.length 40=l.length:=Nat.min_eq_left h
 refine aa ?_;intros
 rw[hm]
 refine aa ?_;intros
 refine af rfl (CZ (by omega) src dst f t hf ht) ?_
 intro z
 refine aa ?_;intros
 exact ae (fz rfl rfl rfl z rfl (U.sat (ag)))
theorem N1 [s:Src W F p l.length (ar l)][r:Room W F p l.length c](h:l.length≤40)(src dst f t:Nat)(hf:f<65536)(ht:t<65536)(fl:Int):Spec Tryz.prog 29 [.agg #[.int .i64 0,.int .u32 (src:Int),.int .u32 (dst:Int),.int .u16 (f:Int),.int .u16 (t:Int),.int .i64 fl,.slice p l.length c]] W F
  (fun q:az=> .slice q.1 (ru src dst f t l).length q.2) (fun q=>ad 5 1 q.1 (ru src dst f t l).length q.2 (ar (ru src dst f t l))*F):=by
 refine Spec.of Tryz.func29 rfl Tryz.ntmps29 rfl ?_
 have hl:=Cd src dst f t l
 refine aa ?_;intros
 refine af rfl (Nd h src dst f t hf ht fl) ?_
 intro z
 refine aa ?_;intros
 refine af rfl (w9 (l:=kJ src dst f t l) (by omega) 64 17 src dst (by decide) (by decide)) ?_
 intro y
 refine aa ?_;intros
 rw[show lL 64 17 src dst (kJ src dst f t l)=ru src dst f t l from rfl]
 exact ae (aj rfl rfl y rfl (U.sat (ag)))
def fp:List UInt8:=ru 167772161 134744065 5 53 []
theorem PQ:Spec Tryz.prog 9 [.agg #[.bool true,.int .i64 0,.int .i64 0,.int .i64 0,.int .i64 0,.slice none 0 0,.int .i64 0,.int .u8 0,.int .i64 0]] W F
  (fun q:az=> .slice q.1 fp.length q.2) (fun q=>ad 5 1 q.1 fp.length q.2 (ar fp)*F):=by
 refine Spec.of Tryz.func9 rfl Tryz.ntmps9 rfl ?_
 refine aa ?_;intros
 refine jf rfl (by kernel_rfl) ?_
 repeat(refine cD ?_)
 refine aa ?_;intros
 rw[show(167772161+0%3:Int)=((167772161:Nat):Int)from rfl,show(134744065+0/3%3:Int)=((134744065:Nat):Int)from rfl]
 rename_i x
 haveI:∀H:SL,Room W H none 0 0:=fun H=>⟨fun _ _=>Nat.le_refl _⟩
 haveI:∀H:SL,Room W H none ([]:List UInt8).length 0:=fun H=>⟨fun _ _=>Nat.le_refl _⟩
 haveI:∀H:SL,Src W H none ([]:List UInt8).length (ar []):=fun H=>⟨fun _ _ i v hv=>by simp[ar]at hv,fun _ _ h=>by simp at h⟩
 refine ay 21 (Obj x 25 [.bool true,.int .i64 0,.int .i64 0,.int .i64 0,.int .i64 0,.slice none 0 0,.int .i64 0,.int .u8 0,.int .i64 0]*F) rfl rfl rfl ?_
 refine ah ?_
 refine bD ?_;intros
 refine aa ?_;intros
 rw[show(5+0%5:Int)=((5:Nat):Int)from rfl,show min 0 20=([]:List UInt8).length from rfl]
 refine af rfl (N1 (p:=none) (c:=0) (l:=[]) (by decide) 167772161 134744065 5 53 (by decide) (by decide) 0) ?_
 intro z
 rw[show ru 167772161 134744065 5 53 []=fp from rfl]
 refine aa ?_;intros
 exact ae (aj rfl rfl z rfl (U.sat (ag)))
end
end
section
open Go.RowKit
set_option maxRecDepth 10000
attribute [local irreducible] EK EX ER EN EL ES EG an aR aU
variable {W:World} {F:SL} {X:Cx} {k:List KI} {σ:Env}
attribute [local simp] mJ vz vy
section
variable {p:Option Addr} {c:Nat} {l:List UInt8}
def tE (z:Int):UInt8:=UInt8.ofNat (z%256).toNat
theorem F9 (z:Int):IntKind.u8.wrap z=(((tE z).toNat:Nat):Int):=by
 rw[IntKind.wrap_u8]
 unfold tE
 rw[UInt8.toNat_ofNat']
 omega
def qL (f t:Nat)(fl:Int)(l:List UInt8):List UInt8:=ji f++ji t++[0,0,0,0,0,0,0,0,80,tE fl,32,0,0,0,0,0]++l
def nW (src dst f t:Nat)(fl:Int)(l:List UInt8):List UInt8:=st2 (qL f t fl l) 16 (iy src dst 6 (qL f t fl l))
theorem F2 (f t:Nat)(fl:Int)(l:List UInt8):(qL f t fl l).length=20+l.length:=by simp[qL];omega
theorem Mf (src dst f t:Nat)(fl:Int)(l:List UInt8):(nW src dst f t fl l).length=20+l.length:=by unfold nW;rw[dB,F2]
set_option maxHeartbeats 1000000 in
theorem Hu [s:Src W F p l.length (ar l)][r:Room W F p l.length c](h:l.length≤1400)(src dst f t:Nat)(hf:f<65536)(ht:t<65536)(fl:Int):Spec Tryz.prog 92 [.int .u32 (src:Int),.int .u32 (dst:Int),.int .u16 (f:Int),.int .u16 (t:Int),.int .i64 fl,.slice p l.length c] W F
  (fun q:az=> .slice q.1 (nW src dst f t fl l).length q.2) (fun q=>ad 5 1 q.1 (nW src dst f t fl l).length q.2 (ar (nW src dst f t fl l))*F):=by
 refine Spec.of Tryz.func92 rfl Tryz.ntmps92 rfl ?_
 refine aa ?_;intros
 refine af rfl (wK f) ?_
 intro q1
 refine aa ?_;intros
 refine af rfl (wK t) ?_
 intro q2
 refine aa ?_;intros
 refine af rfl (Ak h) ?_
 intro _
 refine aa ?_;intros
 rename_i z
 have e3:2+2+16+l.length=(qL f t fl l).length:=by rw[F2]
 rw[F9]
 have e4:ar (ji f)++ar (ji t)++[Value.int IntKind.u8 0,Value.int IntKind.u8 0,Value.int IntKind.u8 0,Value.int IntKind.u8 0,Value.int IntKind.u8 0,Value.int IntKind.u8 0,Value.int IntKind.u8 0,Value.int IntKind.u8 0,Value.int IntKind.u8 80,Value.int IntKind.u8 (((tE fl).toNat:Nat):Int),Value.int IntKind.u8 32,Value.int IntKind.u8 0,Value.int IntKind.u8 0,Value.int IntKind.u8 0,Value.int IntKind.u8 0,Value.int IntKind.u8 0]++ar l=ar (qL f t fl l):=by simp[ar,qL]
 rw[e4,e3]
 have hlen:=F2 f t fl l
 refine af rfl (rT src dst 6 (by decide) (by omega)) ?_
 intro _
 have e5:nW src dst f t fl l=st2 (qL f t fl l) 16 (iy src dst 6 (qL f t fl l)):=rfl
 rw[e5,dB]
 unfold st2
 generalize qL f t fl l=u at*
 have hs:=tj src dst 6 u
 have uM:(u.set 16 (u8 (iy src dst 6 u/256))).length=u.length:=List.length_set
 refine aa ?_;intros
 rw[show(iy src dst 6 u:Int)/2^Int.toNat 8=((iy src dst 6 u/256:Nat):Int)from gO _ 8,dG,dG]
 refine aa ?_;intros
 exact ae (aj rfl rfl z rfl (U.sat (ag)))
def qj (r:Bool)(id:Nat)(l:List UInt8):List UInt8:=[if r then 0 else 8,0,0,0]++ji id++[0,0]++l
def nG (r:Bool)(id:Nat)(l:List UInt8):List UInt8:=st2 (qj r id l) 2 (cY (qj r id l))
theorem Di (r:Bool)(id:Nat)(l:List UInt8):(qj r id l).length=8+l.length:=by simp[qj];omega
theorem Dj (r:Bool)(id:Nat)(l:List UInt8):(nG r id l).length=8+l.length:=by unfold nG;rw[dB,Di]
set_option maxHeartbeats 1000000 in
theorem Cr [s:Src W F p l.length (ar l)][r:Room W F p l.length c](h:l.length≤1400)(b:Bool)(id:Nat):Spec Tryz.prog 93 [.bool b,.int .u16 (id:Int),.slice p l.length c] W F
  (fun q:az=> .slice q.1 (nG b id l).length q.2) (fun q=>ad 5 1 q.1 (nG b id l).length q.2 (ar (nG b id l))*F):=by
 refine Spec.of Tryz.func93 rfl Tryz.ntmps93 rfl ?_
 have e5:nG b id l=st2 (qj b id l) 2 (cY (qj b id l)):=rfl
 rw[e5,dB]
 have hlen:=Di b id l
 have e4:[Value.int IntKind.u8 (if b=true then 0 else 8),Value.int IntKind.u8 0,Value.int IntKind.u8 0,Value.int IntKind.u8 0,Value.int IntKind.u8 (((u8 (id/256)).toNat:Nat):Int),Value.int IntKind.u8 (((u8 id).toNat:Nat):Int),Value.int IntKind.u8 0,Value.int IntKind.u8 0]++ar l=ar (qj b id l):=by cases b<;>simp[ar,qj,ji]
 have e3:8+l.length=(qj b id l).length:=by rw[Di]
 cases b
 all_goals
  simp only[Bool.false_eq_true,if_false,if_true]at e4
  refine aa ?_;intros
  refine af rfl (Ak h) ?_
  intro _
  refine aa ?_;intros
  rename_i z
  rw[show(id:Int)/2^Int.toNat 8=((id/256:Nat):Int)from gO _ 8,dG,dG,e4,e3]
  generalize qj _ id l=u at*
  refine af rfl (FF z.1 z.2 u rfl (by omega)) ?_
  intro _
  unfold st2
  have hs:=qf u
  have uM:(u.set 2 (u8 (cY u/256))).length=u.length:=List.length_set
  refine aa ?_;intros
  rw[show(cY u:Int)/2^Int.toNat 8=((cY u/256:Nat):Int)from gO _ 8,dG,dG]
  refine aa ?_;intros
  exact ae (aj rfl rfl z rfl (U.sat (ag)))
set_option maxHeartbeats 1000000 in
theorem Ct [s:Src W F p l.length (ar l)][r:Room W F p l.length c](h:l.length≤1400)(kd cd:Int):Spec Tryz.prog 94 [.int .i64 kd,.int .i64 cd,.slice p l.length c] W F
  (fun q:{q:az×List UInt8//q.2.length=8+l.length}=> .slice q.1.1.1 q.1.2.length q.1.1.2) (fun q=>ad 5 1 q.1.1.1 q.1.2.length q.1.1.2 (ar q.1.2)*F):=by
 refine Spec.of Tryz.func94 rfl Tryz.ntmps94 rfl ?_
 refine aa ?_;intros
 refine af rfl (Ak h) ?_
 intro _
 refine aa ?_;intros
 rename_i z
 obtain⟨u,hu⟩:∃u:List UInt8,u=[tE kd,tE cd,0,0,0,0,0,0]++l:=⟨_,rfl⟩
 have hlen:u.length=8+l.length:=by rw[hu];simp;omega
 have e4:[Value.int IntKind.u8 (((tE kd).toNat:Nat):Int),Value.int IntKind.u8 (((tE cd).toNat:Nat):Int),Value.int IntKind.u8 0,Value.int IntKind.u8 0,Value.int IntKind.u8 0,Value.int IntKind.u8 0,Value.int IntKind.u8 0,Value.int IntKind.u8 0]++ar l=ar u:=by rw[hu];simp[ar]
 rw[F9,F9,e4,←hlen]
 refine af rfl (FF z.1 z.2 u rfl (by omega)) ?_
 intro _
 have hs:=qf u
 have uM:(u.set 2 (u8 (cY u/256))).length=u.length:=List.length_set
 refine aa ?_;intros
 rw[show(cY u:Int)/2^Int.toNat 8=((cY u/256:Nat):Int)from gO _ 8,dG,dG]
 refine aa ?_;intros
 have h2:((u.set 2 (u8 (cY u/256))).set 3 (u8 (cY u))).length=u.length:=by simp
 exact ae (aj rfl rfl ⟨(z,(u.set 2 (u8 (cY u/256))).set 3 (u8 (cY u))),by dsimp only;omega⟩ (by dsimp only;rw[h2]) (U.sat (by dsimp only;rw[h2];exact ag)))
end
end
section
open Go.RowKit
set_option maxRecDepth 10000
attribute [local irreducible] EK EX ER EN EL ES EG an aR aU
variable {W:World} {F:SL} {X:Cx} {k:List KI} {σ:Env}
attribute [local simp] mJ vz vy
section
variable {p:Option Addr} {c:Nat} {l:List UInt8}
abbrev dS:=az×List UInt8
abbrev dS.val (q:dS):Value:= .slice q.1.1 q.2.length q.1.2
abbrev dS.row (q:dS):SL:=ad 5 1 q.1.1 q.2.length q.1.2 (ar q.2)
def um (z:Int)(m:Nat):Nat:=(z%18446744073709551616).toNat%m
theorem nZ (z:Int){m:Nat}(h:1≤m):um z m<m:=Nat.mod_lt _ h
theorem zg (z:Int){m:Nat}(h:1≤m):(IntKind.u64.wrap z).tmod (m:Int)=((um z m:Nat):Int):=by
 rw[IntKind.wrap_u64,Int.tmod_eq_emod_of_nonneg (by omega)]
 unfold um
 rw[Int.natCast_emod,Int.toNat_of_nonneg (by omega)]
theorem tF (z:Int){m:Nat}(h:1≤m)(hm:m≤1000000):IntKind.i64.wrap ((IntKind.u64.wrap z).tmod (m:Int))=((um z m:Nat):Int):=by
 have:=nZ z h
 rw[zg z h,cG.wrap (k:= .i64) (by simp only[cG];omega)]
structure Nc (wt:Int)(src dst f t:Nat)(fl:Int)(l b:List UInt8)(pr:Nat):Prop where
 ge:8≤b.length
 le:b.length≤200
 lt:pr<256
 Y2:um wt 7=0→b=kJ src dst f t l∧pr=17
 tcp:um wt 7=1→b=nW src dst f t fl l∧pr=6
 RP:um wt 7=2→b=nG false f l∧pr=1
set_option maxHeartbeats 2000000 in
theorem Nf [s:Src W F p l.length (ar l)][r:Room W F p l.length c](h:l.length≤40)(wt:Int)(src dst f t:Nat)(hf:f<65536)(ht:t<65536)(fl:Int):Spec Tryz.prog 61 [.agg #[.int .i64 wt,.int .u32 (src:Int),.int .u32 (dst:Int),.int .u16 (f:Int),.int .u16 (t:Int),.int .i64 fl,.slice p l.length c]] W F
  (fun q:{q:dS×Nat//Nc wt src dst f t fl l q.1.2 q.2}=> .tuple #[q.1.1.val,.int .i64 (q.1.2:Int)]) (fun q=>q.1.1.row*F):=by
 refine Spec.of Tryz.func61 rfl Tryz.ntmps61 rfl ?_
 have hm:min l.length 40=l.length:=Nat.min_eq_left h
 refine aa ?_;intros
 rename_i bx
 rw[hm]
 refine aa ?_;intros
 have EH:=nZ wt (m:=7) (by decide)
 rw[show IntKind.i64.wrap ((IntKind.u64.wrap wt).tmod 7)=((um wt 7:Nat):Int)from tF wt (m:=7) (by decide) (by decide)]
 generalize hg:um wt 7=g at*
 obtain rfl|rfl|rfl|rfl|rfl|rfl|rfl:g=0∨g=1∨g=2∨g=3∨g=4∨g=5∨g=6:=by omega
 ·refine aa ?_;intros
  refine af rfl (CZ (by omega) src dst f t hf ht) ?_
  intro z
  refine aa ?_;intros
  have hl:=Cd src dst f t l
  exact ae (fz rfl rfl rfl ⟨((z,kJ src dst f t l),17),⟨by dsimp only;omega,by dsimp only;omega,by dsimp only;omega,fun _=>⟨rfl,rfl⟩,fun h=>by omega,fun h=>by omega⟩⟩ rfl (U.sat (ag)))
 ·refine aa ?_;intros
  refine af rfl (Hu (by omega) src dst f t hf ht fl) ?_
  intro z
  refine aa ?_;intros
  have hl:=Mf src dst f t fl l
  exact ae (fz rfl rfl rfl ⟨((z,nW src dst f t fl l),6),⟨by dsimp only;omega,by dsimp only;omega,by dsimp only;omega,fun h=>by omega,fun _=>⟨rfl,rfl⟩,fun h=>by omega⟩⟩ rfl (U.sat (ag)))
 ·refine aa ?_;intros
  refine af rfl (Cr (by omega) false f) ?_
  intro z
  refine aa ?_;intros
  have hl:=Dj false f l
  exact ae (fz rfl rfl rfl ⟨((z,nG false f l),1),⟨by dsimp only;omega,by dsimp only;omega,by dsimp only;omega,fun h=>by omega,fun h=>by omega,fun _=>⟨rfl,rfl⟩⟩⟩ rfl (U.sat (ag)))
 ·refine aa ?_;intros
  refine af rfl (Cr (by omega) true f) ?_
  intro z
  refine aa ?_;intros
  have hl:=Dj true f l
  exact ae (fz rfl rfl rfl ⟨((z,nG true f l),1),⟨by dsimp only;omega,by dsimp only;omega,by dsimp only;omega,fun h=>by omega,fun h=>by omega,fun h=>by omega⟩⟩ rfl (U.sat (ag)))
 ·refine aa ?_;intros
  refine ay 99 (Obj bx 85 [.int .i64 wt,.int .u32 (src:Int),.int .u32 (dst:Int),.int .u16 (f:Int),.int .u16 (t:Int),.int .i64 fl,.slice p l.length c]*1) rfl rfl rfl ?_
  refine ah ?_
  refine aw rfl rfl rfl rfl rfl (CZ (by omega) dst src t f ht hf) (fun _=>ag) ?_
  intro z
  refine ah ?_
  have hl:=Cd dst src t f l
  refine aw rfl rfl rfl rfl rfl (w9 (l:=kJ dst src t f l) (by omega) 9 17 dst src (by decide) (by decide)) (fun _=>ag) ?_
  intro y
  have hp:=wq 9 17 dst src (kJ dst src t f l)
  refine bD ?_;intros
  refine aa ?_;intros
  refine af rfl (Ct (l:=lL 9 17 dst src (kJ dst src t f l)) (by omega) 3 (fl.tmod 16)) ?_
  intro ⟨q,hq⟩
  refine aa ?_;intros
  exact ae (fz rfl rfl rfl ⟨(q,1),⟨by dsimp only;omega,by dsimp only;omega,by dsimp only;omega,fun h=>by omega,fun h=>by omega,fun h=>by omega⟩⟩ rfl (U.sat (ag)))
 ·refine aa ?_;intros
  refine ay 99 (Obj bx 85 [.int .i64 wt,.int .u32 (src:Int),.int .u32 (dst:Int),.int .u16 (f:Int),.int .u16 (t:Int),.int .i64 fl,.slice p l.length c]*1) rfl rfl rfl ?_
  refine ah ?_
  refine aw rfl rfl rfl rfl rfl (Hu (by omega) dst src t f ht hf 2) (fun _=>ag) ?_
  intro z
  refine ah ?_
  have hl:=Mf dst src t f 2 l
  refine aw rfl rfl rfl rfl rfl (w9 (l:=nW dst src t f 2 l) (by omega) 9 6 dst src (by decide) (by decide)) (fun _=>ag) ?_
  intro y
  have hp:=wq 9 6 dst src (nW dst src t f 2 l)
  refine bD ?_;intros
  refine aa ?_;intros
  obtain⟨j,hj⟩:∃j,j=28+l.length/2:=⟨_,rfl⟩
  rw[←hj]
  have AP:j=((lL 9 6 dst src (nW dst src t f 2 l)).take j).length:=by rw[List.length_take];omega
  rw[show Value.slice y.1 j y.2=Value.slice y.1 ((lL 9 6 dst src (nW dst src t f 2 l)).take j).length y.2 by rw[←AP]]
  refine af rfl (Ct (s:=Src.pre inferInstance (by omega)) (r:=Room.pre inferInstance) (by omega) 11 0) ?_
  intro ⟨q,hq⟩
  refine aa ?_;intros
  exact ae (fz rfl rfl rfl ⟨(q,1),⟨by dsimp only;omega,by dsimp only;omega,by dsimp only;omega,fun h=>by omega,fun h=>by omega,fun h=>by omega⟩⟩ rfl (U.sat (ag)))
 ·refine aa ?_;intros
  refine ay 99 (Obj bx 85 [.int .i64 wt,.int .u32 (src:Int),.int .u32 (dst:Int),.int .u16 (f:Int),.int .u16 (t:Int),.int .i64 fl,.slice p l.length c]*1) rfl rfl rfl ?_
  refine ah ?_
  refine aw rfl rfl rfl rfl rfl (Cr (by omega) false t) (fun _=>ag) ?_
  intro z
  refine ah ?_
  have hl:=Dj false t l
  refine aw rfl rfl rfl rfl rfl (w9 (l:=nG false t l) (by omega) 9 1 dst src (by decide) (by decide)) (fun _=>ag) ?_
  intro y
  have hp:=wq 9 1 dst src (nG false t l)
  refine bD ?_;intros
  refine aa ?_;intros
  refine af rfl (Ct (l:=lL 9 1 dst src (nG false t l)) (by omega) 3 1) ?_
  intro ⟨q,hq⟩
  refine aa ?_;intros
  exact ae (fz rfl rfl rfl ⟨(q,1),⟨by dsimp only;omega,by dsimp only;omega,by dsimp only;omega,fun h=>by omega,fun h=>by omega,fun h=>by omega⟩⟩ rfl (U.sat (ag)))
structure N3 (wt:Int)(src dst f t:Nat)(fl:Int)(l b:List UInt8):Prop where
 ge:28≤b.length
 le:b.length≤220
 Y2:um wt 7=0→b=ru src dst f t l
 tcp:um wt 7=1→b=lL 64 6 src dst (nW src dst f t fl l)
 RP:um wt 7=2→b=lL 64 1 src dst (nG false f l)
theorem N2 [s:Src W F p l.length (ar l)][r:Room W F p l.length c](h:l.length≤40)(wt:Int)(src dst f t:Nat)(hf:f<65536)(ht:t<65536)(fl:Int):Spec Tryz.prog 29 [.agg #[.int .i64 wt,.int .u32 (src:Int),.int .u32 (dst:Int),.int .u16 (f:Int),.int .u16 (t:Int),.int .i64 fl,.slice p l.length c]] W F
  (fun q:{q:dS//N3 wt src dst f t fl l q.2}=>q.1.val) (fun q=>q.1.row*F):=by
 refine Spec.of Tryz.func29 rfl Tryz.ntmps29 rfl ?_
 refine aa ?_;intros
 refine af rfl (Nf h wt src dst f t hf ht fl) ?_
 intro ⟨⟨⟨z,b⟩,pr⟩,hz⟩
 obtain⟨h1,h2,h3,h4,h5,h6⟩:=hz
 dsimp only at h1 h2 h3 h4 h5 h6
 refine aa ?_;intros
 refine af rfl (w9 (l:=b) (by omega) 64 pr src dst (by decide) h3) ?_
 intro y
 refine aa ?_;intros
 have hl:=wq 64 pr src dst b
 exact ae (aj rfl rfl ⟨(y,lL 64 pr src dst b),⟨by dsimp only;omega,by dsimp only;omega,fun e=>by obtain⟨rfl,rfl⟩:=h4 e;rfl,fun e=>by obtain⟨rfl,rfl⟩:=h5 e;rfl,fun e=>by obtain⟨rfl,rfl⟩:=h6 e;rfl⟩⟩ rfl (U.sat (ag)))
instance kR.aaa (l:List UInt8)(i:Nat):kR (ar l) i 1 0 [.int .u8 0] (ar (l.set i 0)) (i<l.length):=kR.bytes l i 0
theorem GL [s:Src W F p l.length (ar l)][r:Room W F p l.length c](h:l.length≤1400)(h2:20≤l.length):Spec Tryz.prog 31 [.slice p l.length c] W F (fun q:{q:dS//q.2.length=l.length}=>q.1.val) (fun q=>q.1.row*F):=by
 refine Spec.of Tryz.func31 rfl Tryz.ntmps31 rfl ?_
 refine aa ?_;intros
 rename_i z
 rw[Nat.zero_add,List.nil_append]
 have hb:=dM l 0
 have ev:((b1 l 0:Nat):Int)%16*4=((b1 l 0%16*4:Nat):Int):=by omega
 generalize hv:b1 l 0%16*4=v at*
 have pA:(l.set 10 0).length=l.length:=List.length_set
 have fg:((l.set 10 0).set 11 0).length=l.length:=by rw[List.length_set,List.length_set]
 rcases Nat.lt_or_ge v 20 with I8|I8
 ·refine aa ?_;intros
  rw[←fg]
  generalize (l.set 10 0).set 11 0=u at*
  refine af rfl (BK inferInstance (j:=20) (by omega) (by omega)) ?_
  intro _
  generalize cY (u.take (20))=cs at*
  have jG:(u.set 10 (u8 (cs/256))).length=u.length:=List.length_set
  refine aa ?_;intros
  rw[show(cs:Int)/2^Int.toNat 8=((cs/256:Nat):Int)from gO _ 8,dG,dG]
  refine aa ?_;intros
  exact ae (aj rfl rfl ⟨(z,(u.set 10 (u8 (cs/256))).set 11 (u8 cs)),by dsimp only;rw[List.length_set,List.length_set,fg]⟩ (by dsimp only[dS.val];rw[List.length_set,jG]) (U.sat (by dsimp only[dS.row];rw[List.length_set,jG];exact ag)))
 ·rcases Nat.lt_or_ge l.length v with I9|I9
  ·refine aa ?_;intros
   rw[←fg]
   generalize (l.set 10 0).set 11 0=u at*
   refine af rfl (BK inferInstance (j:=20) (by omega) (by omega)) ?_
   intro _
   generalize cY (u.take (20))=cs at*
   have jG:(u.set 10 (u8 (cs/256))).length=u.length:=List.length_set
   refine aa ?_;intros
   rw[show(cs:Int)/2^Int.toNat 8=((cs/256:Nat):Int)from gO _ 8,dG,dG]
   refine aa ?_;intros
   exact ae (aj rfl rfl ⟨(z,(u.set 10 (u8 (cs/256))).set 11 (u8 cs)),by dsimp only;rw[List.length_set,List.length_set,fg]⟩ (by dsimp only[dS.val];rw[List.length_set,jG]) (U.sat (by dsimp only[dS.row];rw[List.length_set,jG];exact ag)))
  ·refine aa ?_;intros
   rw[←fg]
   generalize (l.set 10 0).set 11 0=u at*
   refine af rfl (BK inferInstance (j:=b1 l 0%16*4) (by omega) (by omega)) ?_
   intro _
   generalize cY (u.take (b1 l 0%16*4))=cs at*
   have jG:(u.set 10 (u8 (cs/256))).length=u.length:=List.length_set
   refine aa ?_;intros
   rw[show(cs:Int)/2^Int.toNat 8=((cs/256:Nat):Int)from gO _ 8,dG,dG]
   refine aa ?_;intros
   exact ae (aj rfl rfl ⟨(z,(u.set 10 (u8 (cs/256))).set 11 (u8 cs)),by dsimp only;rw[List.length_set,List.length_set,fg]⟩ (by dsimp only[dS.val];rw[List.length_set,jG]) (U.sat (by dsimp only[dS.row];rw[List.length_set,jG];exact ag)))
end
end
section
open Go.RowKit
theorem K8 {a b k:Nat}(hb:b<2^k):(a*2^k|||b)=a*2^k+b:=by
 rw[Nat.mul_comm];exact(Nat.two_pow_add_eq_or_of_lt hb a).symm
theorem Ml {a b k:Nat}(hb:b<2^k)(h:a*2^k+b<18446744073709551616):bits .or .u64 ((a*2^k:Nat):Int) (b:Int)=((a*2^k+b:Nat):Int):=by
 rw[u64_or_nat _ _ (by omega) (by omega),K8 hb]
theorem tD {a b k:Nat}(hb:b<2^k)(h:a*2^k+b<18446744073709551616):bits .or .u64 (b:Int) ((a*2^k:Nat):Int)=((b+a*2^k:Nat):Int):=by
 rw[u64_or_nat _ _ (by omega) (by omega),Nat.or_comm,K8 hb,Nat.add_comm]
theorem rZ {a:Nat}(k:Nat)(ha:a<18446744073709551616)(hk:k≤63):bits .and .u64 (a:Int) ((2^k-1:Nat):Int)=((a%2^k:Nat):Int):=by
 have h:2^k-1<18446744073709551616:=by
  have:2^k≤2^63:=Nat.pow_le_pow_right (by decide) hk
  omega
 rw[u64_and_nat a _ ha h,Nat.and_two_pow_sub_one_eq_mod]
theorem oQ (a k:Nat)(h:a*2^k<18446744073709551616):IntKind.u64.wrap ((a:Int)*2^((k:Int)).toNat)=((a*2^k:Nat):Int):=by
 rw[Int.toNat_natCast]
 have e:((a*2^k:Nat):Int)=(a:Int)*2^k:=by simp
 rw[e,←e]
 exact cG.wrap (by simp only[cG];omega)
theorem mr {a:Nat}(h:a<9223372036854775808):IntKind.i64.wrap (a:Int)=(a:Int):=cG.wrap (by simp only[cG];omega)
structure bH where
 st:Nat
 gen:Nat
 tr:Nat
 sn:Nat
deriving DecidableEq
namespace bH
def ok (w:bH):Prop:=w.st≤3∧w.gen≤65535∧w.tr≤7∧w.sn≤4294967295
instance (w:bH):Decidable w.ok:=by unfold ok;infer_instance
def num (w:bH):Nat:=w.st+w.tr*256+w.gen*65536+w.sn*4294967296
def of (n:Nat):bH:=⟨n%4,n/65536%65536,n/256%8,n/4294967296⟩
abbrev vs (w:bH):List Value:=[.int .i64 (w.st:Int),.int .i64 (w.gen:Int),.int .i64 (w.tr:Int),.int .i64 (w.sn:Int)]
theorem Wy {w:bH}(h:w.ok):w.num<18446744073709551616:=by unfold ok at h;unfold num;omega
theorem KV {n:Nat}(h:n<18446744073709551616):(of n).ok:=by unfold ok of;dsimp only;omega
theorem WH {w:bH}(h:w.ok):of w.num=w:=by
 obtain⟨a,b,c,d⟩:=w
 unfold ok at h;unfold num of
 dsimp only at h ⊢
 congr 1<;>omega
end bH
def ng (bT now:bH):Bool:=
 match bT.st with
 |0=>decide (now.st=1)&&decide (now.gen=(bT.gen+1)%65536)
 |1=>(decide (now.st=2)||decide (now.st=0))&&decide (now={bT with st:=now.st})
 |2=>if now.st=2 then decide (now.gen=bT.gen)&&decide (bT.sn≤now.sn)else decide (now.st=3)&&decide (now={bT with st:=now.st})
 |_=>decide (now.st=0)&&decide (now={bT with st:=now.st})
section may
variable {a b:bH}
theorem KA (e:a.st=0):ng a b=(decide (b.st=1)&&decide (b.gen=(a.gen+1)%65536)):=by unfold ng;rw[e];rfl
theorem Fc (e:a.st=1):ng a b=((decide (b.st=2)||decide (b.st=0))&&decide (b={a with st:=b.st})):=by unfold ng;rw[e];rfl
theorem Bw (e:a.st=2):ng a b=if b.st=2 then decide (b.gen=a.gen)&&decide (a.sn≤b.sn)else decide (b.st=3)&&decide (b={a with st:=b.st}):=by unfold ng;rw[e];rfl
theorem KB (e:a.st=3):ng a b=(decide (b.st=0)&&decide (b={a with st:=b.st})):=by unfold ng;rw[e];rfl
end may
def iw (proto addr port:Nat):Nat:=proto*281474976710656+addr*65536+port
theorem Ki {a b c:Nat}(ha:a<65536)(hb:b<4294967296)(hc:c<65536):bits .or .u64 (bits .or .u64 ((a*2^48:Nat):Int) ((b*2^16:Nat):Int)) (c:Int)=(iw a b c:Int):=by
 rw[Ml (by omega) (by omega),show a*2^48+b*2^16=(a*2^32+b)*2^16 by omega,Ml (by omega) (by omega),show(a*2^32+b)*2^16+c=iw a b c by unfold iw;omega]
theorem YZ (x:Nat):IntKind.u64.wrap ((x:Int)*2^Int.toNat 48)=((x%65536*2^48:Nat):Int):=by
 rw[IntKind.wrap_u64,show(2:Int)^Int.toNat 48=281474976710656 from rfl]
 omega
def pM (n:Nat):Nat:=
 let x:=n*11400714819323198485%18446744073709551616
 let y:=(x^^^x/4294967296)*13787848793156543929%18446744073709551616
 y^^^y/4294967296
def fV (b:Int):Bool:=decide (b=2∨b=4∨b=8∨b=16∨b=32∨b=64∨b=128∨b=256∨b=512∨b=1024)
theorem KE (a c:Nat):IntKind.u64.wrap ((a:Int)*(c:Int))=((a*c%18446744073709551616:Nat):Int):=by
 rw[IntKind.wrap_u64,Int.natCast_emod];simp
theorem MS {a:Nat}(h:a<18446744073709551616):bits .xor .u64 (a:Int) ((a:Int)/2^Int.toNat 32)=((a^^^a/4294967296:Nat):Int):=by
 rw[show(a:Int)/2^Int.toNat 32=((a/4294967296:Nat):Int)from nk a 32,u64_xor_nat a _ h (by omega)]
theorem ZU {a:Nat}(h:a<18446744073709551616):(a^^^a/4294967296)<18446744073709551616:=Nat.xor_lt_two_pow (n:=64) h (by omega)
theorem Sj:((List.range 1025).all fun k=>decide (k<2)||(decide (k&&& (k-1)=0)==fV (k:Int)))=true:=by decide+kernel
theorem Sk {k:Nat}(h1:2≤k)(h2:k≤1024):decide (bits .and .i64 (k:Int) ((k:Int)-1)=0)=fV (k:Int):=by
 have h:=List.all_eq_true.1 Sj k (List.mem_range.2 (by omega))
 rw[decide_eq_false (by omega),Bool.false_or,beq_iff_eq]at h
 rw[←h,show((k:Int)-1)=((k-1:Nat):Int)by omega,EV _ _ (by omega) (by omega)]
 exact decide_eq_decide.2 ⟨fun e=>by omega,fun e=>by rw[e];rfl⟩
theorem IF {b:Int}(h:¬(2≤b∧b≤1024)):fV b=false:=by
 unfold fV
 exact decide_eq_false (by omega)
def iN (n b:Nat):Nat×Nat:=(pM n%b,(pM n%b+1+pM n/4294967296%(b-1))%b)
theorem Yd (n:Nat):pM n<18446744073709551616:=by
 unfold pM
 exact Nat.xor_lt_two_pow (n:=64) (by omega) (by omega)
theorem B2 {n b:Nat}(hb:2≤b):(iN n b).1<b∧(iN n b).2<b∧(iN n b).1≠(iN n b).2:=by
 unfold iN
 have h1:=Nat.mod_lt (pM n) (show 0<b by omega)
 have h2:=Nat.mod_lt (pM n/4294967296) (show 0<b-1 by omega)
 refine⟨h1,Nat.mod_lt _ (by omega),?_⟩
 generalize pM n%b=a at*
 generalize pM n/4294967296%(b-1)=d at*
 dsimp only
 intro e
 rcases Nat.lt_or_ge (a+1+d) b with h|h
 ·rw[Nat.mod_eq_of_lt h]at e;omega
 ·rw[Nat.mod_eq_sub_mod h,Nat.mod_eq_of_lt (by omega)]at e;omega
end
section
open Go.RowKit
def bV (u i:Nat):Int:=((u/2^(12*i)%4096:Nat):Int)-1
def fj (u:Nat)(id:Int):Int:=if bV u 0=id then 0 else if bV u 1=id then 1 else if bV u 2=id then 2 else if bV u 3=id then 3 else-1
def dt (u:Nat):Bool:=decide (fj u (-1)<0)
def nD (u i v:Nat):Nat:=(((u&&& (18446744073709551615-4095*2^(12*i)))|||v*2^(12*i))+281474976710656)%18446744073709551616
def ll (u:Nat)(id:Int):Nat:=nD u (fj u (-1)).toNat (id+1).toNat
structure fo where
 phase:Nat
 id:Nat
 fr:Nat
 to:Nat
 version:Nat
 av:Nat
deriving DecidableEq
structure aT where
 kind:Nat
 f1:Nat
 f2:Nat
 f3:Nat
 id:Int
 a:Nat
 b:Nat
 next:Nat
 first:Nat
 word:Nat
 at_:Nat
 half:Bool
 seen:bH
 still:Nat
 m:fo
 v:Nat
 u:Nat
 o0:Nat
 o1:Nat
 o2:Nat
 o3:Nat
 g0:Nat
 g1:Nat
 g2:Nat
 g3:Nat
 cC:Nat
 second:Bool
 found:Int
 aP:bH
 end_:Nat
 done:Bool
deriving DecidableEq
def w0:bH:=⟨0,0,0,0⟩
def tx (kind f1 f2 f3:Nat)(id:Int)(next:Nat)(n:Nat):aT:=
 {kind:=kind,f1:=f1,f2:=f2,f3:=f3,id:=id,a:=(iN (iw f1 f2 f3) n).1,b:=(iN (iw f1 f2 f3) n).2,next:=next,first:=0,word:=0,at_:=0,half:=false,seen:=w0,still:=0,m:=⟨0,0,0,0,0,0⟩,
  v:=0,u:=0,o0:=0,o1:=0,o2:=0,o3:=0,g0:=0,g1:=0,g2:=0,g3:=0,cC:=0,second:=false,found:= -1,aP:=w0,end_:=11,done:=false}
def iY (word:Nat)(id:Int):Nat→Nat→Nat
 |0,i=>i
 |f+1,i=>if i<4∧(bV word i<0∨bV word i=id)then iY word id f (i+1)else i
theorem FT (word:Nat)(id:Int):∀f i,i≤4→iY word id f i≤4
 |0,_,h=>h
 |f+1,i,h=>by
  unfold iY
  split
  ·exact FT word id f (i+1) (by omega)
  ·exact h
theorem FU {word:Nat}{id:Int}:∀f i,4≤i+f→¬(iY word id f i<4∧(bV word (iY word id f i)<0∨bV word (iY word id f i)=id))
 |0,i,h=>by unfold iY;omega
 |f+1,i,h=>by
  unfold iY
  split
  ·exact FU f (i+1) (by omega)
  ·assumption
def jS (s:aT)(e:Nat):aT:={s with done:=true,end_:=e}
def lb (pl:List Nat)(s:aT):aT×Bool:=
 if s.at_=4 then(s,true)
 else
  let i:=(bV s.word s.at_).toNat
  if s.half=false then
   let w:=bH.of (pl.getD (2*i) 0)
   if w.st=1∨w.st=2 then({s with seen:=w,half:=true},false)
   else({s with seen:=w,at_:=s.at_+1},decide (s.at_+1=4))
  else if pl.getD (2*i+1) 0=iw s.f1 s.f2 s.f3 then({s with half:=false,found:=bV s.word s.at_,aP:=s.seen,done:=true,end_:=if s.kind=1 then 10 else 0},false)
  else({s with half:=false,at_:=s.at_+1},decide (s.at_+1=4))
def fv (pl:List Nat)(s:aT):aT×Bool:=lb pl {s with at_:=iY s.word s.id 4 s.at_}
theorem Vo {n a b c:Nat}(hn:n<18446744073709551616)(ha:a≤255)(hb:b<4294967296)(hc:c<65536):(n/281474976710656=a∧n/65536%4294967296=b∧n%65536=c)↔n=iw a b c:=by
 unfold iw;omega
theorem Vn {n a b c:Nat}(hn:n<18446744073709551616)(ha:a≤255)(hb:b<4294967296)(hc:c<65536):(@decide (([.int .i64 ((n/281474976710656:Nat):Int),.int .u32 ((n/65536%4294967296:Nat):Int),.int .u16 ((n%65536:Nat):Int)]:List Value)=[.int .i64 (a:Int),.int .u32 (b:Int),.int .u16 (c:Int)]) (Classical.propDecidable _))=decide (n=iw a b c):=by
 rw[decide_eq_decide,←Vo hn ha hb hc]
 simp only[List.cons.injEq,Value.int.injEq,true_and,and_true,Int.natCast_inj]
def tC (s:aT)(u next:Nat):aT:={s with word:=u,at_:=0,half:=false,next:=next}
def p9 (s:aT):Nat:=if s.kind=0 then 4 else if dt s.first then 6 else 5
def iX (cs pl:List Nat)(s:aT):List Nat×aT:=
 if s.next=0 then(cs,tC {s with first:=cs.getD s.a 0} (cs.getD s.a 0) 1)
 else if s.next=1 then(cs,if(fv pl s).2=true then {(fv pl s).1 with next:=2}else(fv pl s).1)
 else if s.next=2 then(cs,tC s (cs.getD s.b 0) 3)
 else if s.next=3 then(cs,if(fv pl s).2=true then {(fv pl s).1 with next:=p9 (fv pl s).1}else(fv pl s).1)
 else if s.next=4 then(cs,if cs.getD s.a 0=s.first then jS s 7 else tC {s with first:=cs.getD s.a 0} (cs.getD s.a 0) 1)
 else if cs.getD s.a 0=s.first then(cs.set s.a (ll s.first s.id),jS {s with next:=0} 0)else(cs,{s with next:=0})
structure He (n np:Nat)(cs pl:List Nat)(s:aT):Prop where
 xC:cs.length=n+1
 n2:n≤1024
 Xc:pl.length=2*np
 j7:np≤3072
 cw:∀j,cs.getD j 0<18446744073709551616
 pw:∀j,pl.getD j 0<18446744073709551616
 a:s.a<n
 b:s.b<n
 next:s.next≤5
 oZ:s.at_≤4
 refs:∀i,i<4→bV s.word i<np
 word:s.word<18446744073709551616
 first:s.first<18446744073709551616
 EZ: -1≤s.id
 v8:s.id<np
 f1:s.f1≤255
 f2:s.f2<4294967296
 f3:s.f3<65536
 kind:s.kind≤2
 done:s.done=false
 link:s.next=5→0≤s.id∧dt s.first=false
end
section
def si (u:Nat)(id:Int):Nat:=nD u (fj u id).toNat 0
def gh (u:Nat):fo:=⟨u%4,u/4%4096,u/16384%1024,u/16777216%1024,u/17179869184%65536,u/1125899906842624⟩
def lJ (m:fo):Nat:=m.phase+m.id*4+m.fr*16384+m.to*16777216+m.version*17179869184+m.av%16384*1125899906842624
def j8 (pl:List Nat)(n:Nat)(id:Int)(bucket:Nat):Nat:=
 if(iN (pl.getD (2*id.toNat+1) 0) n).1=bucket then(iN (pl.getD (2*id.toNat+1) 0) n).2 else(iN (pl.getD (2*id.toNat+1) 0) n).1
def aT.dw (s:aT)(v:Nat):Nat:=if v=0 then s.o0 else if v=1 then s.o1 else if v=2 then s.o2 else s.o3
def aT.eJ (s:aT)(v:Nat):Nat:=if v=0 then s.g0 else if v=1 then s.g1 else if v=2 then s.g2 else s.g3
def aT.jM (s:aT)(v x:Nat):aT:=if v=0 then {s with o0:=x}else if v=1 then {s with o1:=x}else if v=2 then {s with o2:=x}else {s with o3:=x}
def aT.iM (s:aT)(v x:Nat):aT:=if v=0 then {s with g0:=x}else if v=1 then {s with g1:=x}else if v=2 then {s with g2:=x}else {s with g3:=x}
def mO (s:aT)(id:Int)(fr to u:Nat):aT:={s with m:=⟨1,id.toNat,fr,to,u/281474976710656,(gh s.still).av⟩,next:=12}
def cu (pl:List Nat)(n:Nat)(cs:List Nat)(s:aT):List Nat×aT:=
 if s.next=6 then(cs,{s with still:=cs.getD n 0,m:=gh (cs.getD n 0),next:=if(gh (cs.getD n 0)).phase≠0 then 13 else 7})
 else if s.next=7 then(cs,{s with v:=0,u:=0,next:=if cs.getD s.a 0≠s.first then 0 else 8})
 else if s.next=8 then(cs,{s.jM s.v (j8 pl n (bV s.first s.v) s.a)with next:=9})
 else if s.next=9 then
  (cs,if dt (cs.getD (s.dw s.v) 0)=false then mO (s.iM s.v (cs.getD (s.dw s.v) 0)) (bV s.first s.v) s.a (s.dw s.v) (cs.getD (s.dw s.v) 0)
   else {s.iM s.v (cs.getD (s.dw s.v) 0)with v:=if s.v+1=4 then 0 else s.v+1,next:=if s.v+1=4 then 10 else 8})
 else if s.next=10 then(cs,{s with cC:=j8 pl n (bV (s.eJ s.v) s.u) (s.dw s.v),next:=11})
 else if s.next=11 then
  (cs,if dt (cs.getD s.cC 0)=false then mO s (bV (s.eJ s.v) s.u) (s.dw s.v) s.cC (cs.getD s.cC 0)
   else if s.u+1=4 then(if s.v+1=4 then jS {s with v:=4,u:=0,next:=10} 9 else {s with v:=s.v+1,u:=0,next:=10})
   else {s with u:=s.u+1,next:=10})
 else if cs.getD n 0=s.still then(cs.set n (lJ s.m),{s with next:=13})else(cs,{s with next:=6})
def B5 (s:aT)(u yes no:Nat):aT:={s with word:=u,next:=if 0≤fj u (s.m.id:Int)then yes else no}
def IA (n:Nat)(cs:List Nat)(s:aT):aT:=
 if(gh (cs.getD n 0)).phase=0∨{gh (cs.getD n 0)with phase:=s.m.phase}≠s.m then {s with next:=0}
 else {s with m:={s.m with phase:=(gh (cs.getD n 0)).phase},next:=if(gh (cs.getD n 0)).phase=1 then 14 else if(gh (cs.getD n 0)).phase=2 then 17 else 19}
def xB (n:Nat)(cs:List Nat)(s:aT):List Nat×aT:=
 if s.next=15 then(if cs.getD s.m.to 0=s.word then cs.set s.m.to (ll s.word (s.m.id:Int))else cs,{s with next:=13})
 else if s.next=18 then(if cs.getD s.m.fr 0=s.word then cs.set s.m.fr (si s.word (s.m.id:Int))else cs,{s with next:=13})
 else if s.next=21 then(if cs.getD s.m.to 0=s.word then cs.set s.m.to (si s.word (s.m.id:Int))else cs,{s with next:=13})
 else if s.next=16 then(if cs.getD n 0=lJ s.m then cs.set n (lJ {s.m with phase:=s.m.phase+1})else cs,{s with next:=13})
 else if cs.getD n 0=lJ s.m then(cs.set n (lJ ⟨0,0,0,0,0,s.m.av+1⟩),{s with next:=0})else(cs,{s with next:=13})
def gS (pl:List Nat)(n:Nat)(cs:List Nat)(s:aT):List Nat×aT:=
 if s.next=13 then(cs,IA n cs s)
 else if s.next=14 then(cs,{s with word:=cs.getD s.m.to 0,next:=if 0≤fj (cs.getD s.m.to 0) (s.m.id:Int)then 16 else if cs.getD s.m.to 0/281474976710656=s.m.version then 15 else 22})
 else if s.next=17 then(cs,B5 s (cs.getD s.m.fr 0) 18 16)
 else if s.next=19 then(cs,{s with next:=if(bH.of (pl.getD (2*s.m.id) 0)).st=1∨(bH.of (pl.getD (2*s.m.id) 0)).st=2 then 22 else 20})
 else if s.next=20 then(cs,B5 s (cs.getD s.m.to 0) 21 22)
 else xB n cs s
def qa (s:aT):Nat:=if s.second=true then s.b else s.a
def tg (s:aT):aT:=if s.second=true then {jS s 0 with second:=true}else {s with second:=true}
def rk (cs:List Nat)(s:aT):List Nat×aT:=
 if s.next=24 then
  if cs.getD (qa s) 0=s.word then(cs.set (qa s) (si s.word s.id),tg {s with next:=23})else(cs,{s with next:=23})
 else if 0≤fj (cs.getD (qa s) 0) s.id∧0≤s.id then(cs,{s with word:=cs.getD (qa s) 0,next:=24})
 else(cs,tg {s with word:=cs.getD (qa s) 0})
def bO (pl:List Nat)(n:Nat)(cs:List Nat)(s:aT):List Nat×aT:=
 if s.done=true then(cs,s)else if 23≤s.next then rk cs s else if 13≤s.next then gS pl n cs s else if 6≤s.next then cu pl n cs s else iX cs pl s
end
section
open Go.RowKit
theorem Du {α:Type}(k:Nat)(f:α→List Value)(hf:∀a,(f a).length=k):∀(l:List α) (i j:Nat) (hi:i<l.length),j<k→(l.flatMap f)[i*k+j]? =(f l[i])[j]?
 |[],_,_,hi,_=>by simp at hi
 |a::l,0,j,_,hj=>by
  rw[List.flatMap_cons,Nat.zero_mul,Nat.zero_add,List.getElem?_append_left (by rw[hf];exact hj)];rfl
 |a::l,i+1,j,hi,hj=>by
  have h1:(i+1)*k+j=k+(i*k+j):=by rw[Nat.succ_mul];omega
  rw[List.flatMap_cons,h1,List.getElem?_append_right (by rw[hf];omega),hf,Nat.add_sub_cancel_left,Du k f hf l i j (by simpa using hi) hj]
  rfl
theorem Dv {α:Type}(k:Nat)(f:α→List Value)(hf:∀a,(f a).length=k):∀l:List α,(l.flatMap f).length=l.length*k
 |[]=>by simp
 |a::l=>by rw[List.flatMap_cons,List.length_append,hf,Dv k f hf l,List.length_cons,Nat.succ_mul];omega
theorem I0 {α:Type}(l:List α)(d:α){i:Nat}(h:i<l.length):l[i]=l.getD i d:=by
 rw[List.getD_eq_getElem?_getD,List.getElem?_eq_getElem h];rfl
theorem IL {α β:Type}{f g:α→List β}:∀ {l:List α},(∀a∈l,f a=g a)→l.flatMap f=l.flatMap g
 |[],_=>rfl
 |a::l,h=>by
  rw[List.flatMap_cons,List.flatMap_cons,h a (List.mem_cons_self ..),IL fun x hx=>h x (List.mem_cons_of_mem _ hx)]
def ao (f:Nat→SL):Nat→SL
 |0=>1
 |i+1=>f i*ao f i
theorem ao.succ (f:Nat→SL)(n:Nat):ao f (n+1)=f n*ao f n:=rfl
def cA (f:Nat→SL)(i:Nat):Nat→SL:=fun j=>if j=i then 1 else f j
theorem ao.congr {f g:Nat→SL}:∀n,(∀i,i<n→f i=g i)→ao f n=ao g n
 |0,_=>rfl
 |n+1,h=>by
  unfold ao
  rw[h n (by omega),ao.congr n fun i hi=>h i (by omega)]
theorem ao.at {f:Nat→SL}{i:Nat}:∀n,i<n→ao f n=f i*ao (cA f i) n
 |0,h=>by omega
 |n+1,h=>by
  unfold ao
  by_cases e:i=n
  ·subst e
   have e1:cA f i i=1:=if_pos rfl
   rw[e1,SL.u4 1,SL.pL,ao.congr (f:=cA f i) (g:=f) i fun j hj=>by unfold cA;rw[if_neg (by omega)]]
  ·have e1:cA f i n=f n:=by unfold cA;rw[if_neg (fun h=>e h.symm)]
   rw[e1,ao.at (f:=f) (i:=i) n (by omega)]
   ac_rfl
end
section
open Go.RowKit
def zf (t:Nat×Nat):List Value:=[.int .u64 (t.1:Int),.int .u64 (t.2:Int)]
def nX (l:List (Nat×Nat)):List Value:=l.flatMap zf
theorem Mh (l:List (Nat×Nat)):(nX l).length=l.length*2:=Dv 2 zf (fun _=>rfl) l
theorem YI {l:List (Nat×Nat)}{i j:Nat}(hi:i<l.length)(hj:j<2):(nX l)[i*2+j]? =(zf (l.getD i (0,0)))[j]? :=by
 unfold nX
 rw[Du 2 zf (fun _=>rfl) l i j hi hj,I0 l (0,0) hi]
instance oV.th (l:List (Nat×Nat))(i:Nat):oV (nX l) i 2 [.int .u64 ((l.getD i (0,0)).1:Int),.int .u64 ((l.getD i (0,0)).2:Int)] (i<l.length):=⟨fun h=>⟨rfl,fun j v hv=>by
 have hj:j<2:=(List.getElem?_eq_some_iff.1 hv).1
 rw[YI h hj];exact hv⟩⟩
def sT (gs:List (List (Nat×Nat)))(ps:Nat→az)(i:Nat):List Value:=[.slice (ps i).1 (gs.getD i []).length (ps i).2]
def mf (gs:List (List (Nat×Nat)))(ps:Nat→az):List Value:=(List.range gs.length).flatMap (sT gs ps)
theorem Ax (gs:List (List (Nat×Nat)))(ps:Nat→az):(mf gs ps).length=gs.length*1:=by
 unfold mf
 rw[Dv 1 (sT gs ps) (fun _=>rfl),List.length_range]
instance hU.gv (gs:List (List (Nat×Nat)))(ps:Nat→az)(i:Nat):hU (mf gs ps) i 1 0 (.slice (ps i).1 (gs.getD i []).length (ps i).2) (i<gs.length):=⟨fun h=>by
 unfold mf
 rw[Du 1 (sT gs ps) (fun _=>rfl) _ i 0 (by simpa using h) (by decide)]
 simp[sT]⟩
theorem Ta:∀n:Nat,mf (List.replicate n []) (fun _=>(none,0))=lh n [.slice none 0 0]:=by
 intro n
 unfold mf
 rw[List.length_replicate]
 induction n with
 |zero=>rfl
 |succ n ih=>
  rw[List.range_succ,List.flatMap_append,List.flatMap_singleton]
  have h1:(List.range n).flatMap (sT (List.replicate (n+1) []) fun _=>(none,0))=(List.range n).flatMap (sT (List.replicate n []) fun _=>(none,0)):=IL fun i hi=>by
   have:=List.mem_range.1 hi
   unfold sT
   simp[List.getD_eq_getElem?_getD,this,Nat.lt_succ_of_lt this]
  rw[h1,ih]
  unfold sT
  simp[List.getD_eq_getElem?_getD,lh,List.replicate_succ']
end
section
open Go.RowKit
structure jg where
 worker:Nat
 kT:Bool
 at_:Nat
 seen:Nat
 done:Bool
 zp:Bool
deriving DecidableEq
abbrev iG (s:jg):List Value:=[.int .i64 (s.worker:Int),.bool s.kT,.int .i64 (s.at_:Int),.int .u64 (s.seen:Int),.bool s.done,.bool s.zp]
def nF (ws:List Nat)(s:jg):List Nat×jg:=
 if s.at_=0 then(ws,{s with seen:=ws.getD 0 0,at_:=1})
 else if s.at_=1 then(ws.set (1+s.worker) (s.seen+1),{s with at_:=2})
 else(ws,{s with done:=decide (ws.getD 0 0=s.seen),at_:=0})
def nE (n:Nat)(ws:List Nat)(s:jg):List Nat×jg:=
 if s.at_=0 then(ws,{s with seen:=ws.getD 0 0,at_:=1})
 else if s.at_≤n then(ws,{s with done:=decide (ws.getD s.at_ 0≠0)&&decide (ws.getD s.at_ 0≠s.seen+1),at_:=s.at_+1})
 else(if ws.getD 0 0=s.seen then ws.set 0 (s.seen+1)else ws,{s with zp:=decide (ws.getD 0 0=s.seen),done:=true,at_:=s.at_+1})
def cv (n:Nat)(ws:List Nat)(s:jg):List Nat×jg:=if s.done=true then(ws,s)else if s.kT=true then nE n ws s else nF ws s
def fS (now:Nat)(l:List (Nat×Nat)):List (Nat×Nat):=l.filter fun t=>decide (t.2+2≤now)
def kK (now:Nat)(l:List (Nat×Nat)):List (Nat×Nat):=l.filter fun t=> !decide (t.2+2≤now)
structure oT (n:Nat)(ws:List Nat)(gs:List (List (Nat×Nat))):Prop where
 len:ws.length=n+1
 n1:n≤64
 mN:gs.length=n
 w:∀j,ws.getD j 0<4611686018427387904
 g:∀i t,t∈gs.getD i []→t.1<18446744073709551616∧t.2<4611686018427387904
structure jg.Ok (n:Nat)(s:jg):Prop where
 worker:s.worker<n
 at_:s.at_≤100
 cb:s.kT=false→s.at_≤2
 seen:s.seen<4611686018427387904
end
section
open Go.RowKit
structure gz where
 w:Int
 o:Int
 lo:Int
 hi:Int
 b:Int
 r:Int
def nt (z:Int):Prop:= -9223372036854775808≤z∧z≤9223372036854775807
structure gz.Fit (c:gz):Prop where
 w:nt c.w
 o:0≤c.o∧c.o≤4294967295
 lo:nt c.lo
 hi:nt c.hi
 b:nt c.b
 r:nt c.r
def gz.cells (c:gz):List Value:=[.int .i64 c.w,.int .u32 c.o,.int .i64 c.lo,.int .i64 c.hi,.int .i64 c.b,.int .i64 c.r]
def jK (b:Int):Prop:=b=2∨b=4∨b=8∨b=16∨b=32∨b=64∨b=128∨b=256∨b=512∨b=1024
instance (b:Int):Decidable (jK b):=by unfold jK;infer_instance
def jb (c:gz):List UInt8:=
 if ¬(1≤c.w∧c.w≤64)then [119,111,114,107,101,114,115]
 else if c.o=0∨c.o=4294967295 then [111,117,116,101,114]
 else if c.lo<1∨c.hi>65535∨c.hi<c.lo∨c.hi-c.lo≥1024 then [112,111,114,116,115]
 else if ¬jK c.b then [98,117,99,107,101,116,115]
 else if ¬(1≤c.r∧c.r≤256)then [114,105,110,103]
 else []
structure gz.Good (c:gz):Prop where
 w:1≤c.w∧c.w≤64
 o:¬c.o=0∧¬c.o=4294967295
 p:1≤c.lo∧c.hi≤65535∧c.lo≤c.hi∧c.hi-c.lo<1024
 b:jK c.b
 r:1≤c.r∧c.r≤256
theorem ve {c:gz}:jb c=[]↔c.Good:=by
 unfold jb
 constructor
 ·intro h
  split at h; ·simp at h
  split at h; ·simp at h
  split at h; ·simp at h
  split at h; ·simp at h
  split at h; ·simp at h
  rename_i h1 h2 h3 h4 h5
  exact⟨by omega,by omega,by omega,Classical.not_not.1 h4,by omega⟩
 ·intro h
  obtain⟨h1,h2,h3,h4,h5⟩:=h
  rw[if_neg (by omega),if_neg (by omega),if_neg (by omega),if_neg (Classical.not_not.2 h4),if_neg (by omega)]
def gM (c:gz):Int:=if jb c=[]then c.hi-c.lo+1 else 0
theorem uY (c:gz):0≤gM c∧gM c≤1024:=by
 unfold gM
 split
 ·rename_i h
  have:=(ve.1 h).p
  omega
 ·omega
def zq (c:gz):Int:=(gM c+31)/32
def gX (p:Int):Int:=if p=1 then 0 else if p=6 then 1 else if p=17 then 2 else-1
def wm (k:Int):Int:=if k=0 then 1 else if k=1 then 6 else 17
def ka (c:gz)(proto port:Int):Int:=if gM c=0∨gX proto<0∨¬(c.lo≤port∧port≤c.hi)then-1 else gX proto*gM c+port-c.lo
def uX (c:gz)(place:Int):Int×Int:=if gM c=0∨¬(0≤place∧place≤3*gM c-1)then(0,0)else(wm (place/gM c),c.lo+place%gM c)
end
section
open Go.RowKit
structure NC where
 n:Nat
 o:Nat
 lo:Nat
 hi:Nat
 nb:Nat
 r:Nat
def NC.cfg (c:NC):gz:=⟨c.n,c.o,c.lo,c.hi,c.nb,c.r⟩
def NC.np (c:NC):Nat:=c.hi+1-c.lo
structure NC.Ok (c:NC):Prop where
 n:1≤c.n∧c.n≤64
 o:c.o≠0∧c.o<4294967295
 p:1≤c.lo∧c.hi≤65535∧c.lo≤c.hi∧c.hi-c.lo<1024
 b:jK (c.nb:Int)
 r:1≤c.r∧c.r≤256
theorem NC.Ok.fe {c:NC}(h:c.Ok):c.cfg.Good:=by
 obtain⟨h1,h2,h3,h4,h5⟩:=h
 exact⟨by unfold NC.cfg;dsimp only;omega,by unfold NC.cfg;dsimp only;omega,by unfold NC.cfg;dsimp only;omega,h4,by unfold NC.cfg;dsimp only;omega⟩
theorem NC.Ok.fit {c:NC}(h:c.Ok):c.cfg.Fit:=by
 obtain⟨h1,h2,h3,h4,h5⟩:=h
 have h6:(c.nb:Int)≤1024:=by unfold jK at h4;omega
 exact⟨by unfold NC.cfg nt;dsimp only;omega,by unfold NC.cfg;dsimp only;omega,by unfold NC.cfg nt;dsimp only;omega,by unfold NC.cfg nt;dsimp only;omega,by unfold NC.cfg nt;dsimp only;omega,by unfold NC.cfg nt;dsimp only;omega⟩
theorem NC.Ok.bK {c:NC}(h:c.Ok):gM c.cfg=(c.np:Int):=by
 unfold gM
 rw[if_pos (ve.2 h.fe)]
 obtain⟨h1,h2,h3,h4,h5⟩:=h
 unfold NC.cfg NC.np
 dsimp only
 omega
structure ny where
 p:Option Addr
 c0:Option Addr
 c1:Option Addr
 c2:Option Addr
 wh:Option Addr
 m:Nat
structure sE where
 ep:Option Addr
 pl:Option Addr
 tb:Option Addr
 p0:Option Addr
 p1:Option Addr
 p2:Option Addr
 ws:az
 wk:Nat→ny
def cF (n:Nat)(f:Nat→Option Addr):List Value:=(List.range n).map fun i=> .pointer (f i)
theorem Xi (n:Nat)(f:Nat→Option Addr):(cF n f).length=n:=by simp[cF]
instance hU.cF (n:Nat)(f:Nat→Option Addr)(i:Nat):hU (cF n f) i 1 0 (.pointer (f i)) (i<n):=⟨fun h=>by simp[Go.Proofs.YtfkngchldmfpfaaGreatDoor.cF,h]⟩
theorem Xj (n:Nat)(f:Nat→Option Addr):cF n f++[.pointer (f n)]=cF (n+1) f:=by simp[cF,List.range_succ]
theorem Lp {n:Nat}{f g:Nat→Option Addr}(h:∀i,i<n→f i=g i):cF n f=cF n g:=by
 unfold cF
 exact List.map_congr_left fun i hi=>by rw[h i (List.mem_range.1 hi)]
abbrev oK (c:NC)(np n:Nat)(ep pl tb a b d:Option Addr)(ws:az):List Value:=[.int .i64 (c.n:Int),.int .u32 (c.o:Int),.int .i64 (c.lo:Int),.int .i64 (c.hi:Int),.int .i64 (c.nb:Int),.int .i64 (c.r:Int),.int .i64 (np:Int),.pointer ep,.pointer a,.pointer b,.pointer d,.pointer pl,.pointer tb,.slice ws.1 n ws.2]
abbrev KN (c:NC)(R:sE)(np:Nat)(n:Nat):List Value:=oK c np n R.ep R.pl R.tb R.p0 R.p1 R.p2 R.ws
abbrev zn (c0 c1 c2 wh:Option Addr)(m:Nat):List Value:=[.pointer c0,.pointer c1,.pointer c2,.pointer wh,.map (some m),.pointer none,.pointer none,.slice none 0 0,.int .i64 0,.bool false,.slice none 0 0]
abbrev MG (x:ny):List Value:=zn x.c0 x.c1 x.c2 x.wh x.m
def wG (f:Nat→ny)(n:Nat)(x:ny):Nat→ny:=fun i=>if i=n then x else f i
theorem Mo (f:Nat→ny){n i:Nat}(x:ny)(h:i<n):wG f n x i=f i:=if_neg (by omega)
theorem Mn (f:Nat→ny)(n:Nat)(x:ny):wG f n x n=x:=if_pos rfl
theorem OD {X:Cx}{σ:Env}{H:SL}{o:Oper}{t:TypeId}(ho:o.op= .makeMap t none):aR X σ H o (fun m:Nat=> .map (some m)) (fun m=>SL.cO m (.map #[] 0)*H):=by
 intro a w ha hs
 refine⟨w.heap.size,w.alloc (.map #[] 0),?_,hs.alloc _⟩
 simp only[execOp,ho]
 simp[Instr.makeMap,go_sem]
end
section
open Go.RowKit
structure dU where
 proto:Nat
 addr:Nat
 port:Nat
deriving DecidableEq
def ow:dU:=⟨0,0,0⟩
structure sj where
 ai:dU
 port:Nat
 F7:Nat
 seen:Nat
deriving DecidableEq
def Bi (h:fL)(p:iq):dU:=if p.err then⟨p.inner.proto,p.inner.dst,p.dp⟩else⟨h.proto,h.src,p.sp⟩
def BF (h:fL)(p:iq):dU:=if p.err then⟨p.inner.proto,p.inner.src,p.sp⟩else⟨h.proto,h.dst,p.dp⟩
def fR (l:List UInt8):iq:=nT (bo l) l
def ed (out:Bool)(l:List UInt8):dU:=if out then Bi (bo l) (fR l)else BF (bo l) (fR l)
def lO (o:Nat)(out:Bool)(l:List UInt8):Nat:=
 if eA l≠0 then eA l else if out=false∧((bo l).dst≠o∨(ed out l).addr≠o)then 7 else 0
def tL (o:Nat)(out:Bool)(l:List UInt8):dU:=if lO o out l=0 then ed out l else ow
def o5 (out:Bool)(l:List UInt8):Bool:=out&&decide (eA l=0)&& !(fR l).err&&nB (fR l).proto (fR l).kind (fR l).flags
structure sH (p:iq):Prop where
 sp:p.sp<65536
 dp:p.dp<65536
 flags:p.flags<256
 kind:p.kind<256
 Bk:p.inner.proto<256
 UU:p.inner.src<4294967296
 UM:p.inner.dst<4294967296
 proto:p.proto<256
theorem sH.of (h:fL)(l:List UInt8):sH (nT h l):=by
 have z:(0:Nat)<256:=by decide
 have z2:(0:Nat)<65536:=by decide
 have z4:(0:Nat)<4294967296:=by decide
 unfold nT
 split
 ·exact⟨dZ _ _,dZ _ _,z,z,z,z4,z4,by show 17<256;decide⟩
 split
 ·exact⟨dZ _ _,dZ _ _,dM _ _,z,z,z4,z4,by show 6<256;decide⟩
 unfold rM
 split
 ·exact⟨dZ _ _,dZ _ _,z,dM _ _,z,z4,z4,by show 1<256;decide⟩
 ·refine⟨?_,?_,z,dM _ _,dM _ _,oR _ _,oR _ _,by show 1<256;decide⟩
  ·unfold rn
   dsimp only
   split<;>exact dZ _ _
  ·unfold rn
   dsimp only
   split<;>exact dZ _ _
theorem MA (out:Bool)(l:List UInt8):(ed out l).proto<256∧(ed out l).addr<4294967296∧(ed out l).port<65536:=by
 have r:sH (fR l):=sH.of (bo l) l
 have h1:(bo l).proto<256:=dM l 9
 have h2:(bo l).src<4294967296:=oR l 12
 have h3:(bo l).dst<4294967296:=oR l 16
 unfold ed Bi BF
 split<;>split
 ·exact⟨r.Bk,r.UM,r.dp⟩
 ·exact⟨h1,h2,r.sp⟩
 ·exact⟨r.Bk,r.UU,r.sp⟩
 ·exact⟨h1,h3,r.dp⟩
end
section
def ofBits:List Nat→Nat
 |[]=>0
 |i::l=>2^i|||ofBits l
theorem tB (l:List Nat)(j:Nat):(ofBits l).testBit j=decide (j∈l):=by
 induction l with
 |nil=>simp[ofBits]
 |cons i l ih=>
  simp only[ofBits,Nat.testBit_or,Nat.testBit_two_pow,ih,List.mem_cons]
  by_cases h:i=j
  ·simp[h]
  ·simp[h,show ¬j=i from fun e=>h e.symm]
theorem yU (l:List Nat)(n:Nat)(h:∀i∈l,i<n):ofBits l<2^n:=by
 apply Nat.lt_pow_two_of_testBit
 intro j hj
 rw[tB]
 simp only[decide_eq_false_iff_not]
 intro hm
 have:=h j hm
 omega
theorem Fm (l:List Nat):ofBits l=0↔l=[]:=by
 constructor
 ·intro h
  cases l with
  |nil=>rfl
  |cons i l=>
   have:=tB (i::l) i
   rw[h]at this
   simp at this
 ·rintro rfl;rfl
theorem Q1 (i:Nat)(l:List Nat)(h:∀j∈l,i<j)(hi:i<64)(hl:∀j∈l,j<64):Lib.ctz 64 (ofBits (i::l))=i:=by
 have h0:ofBits (i::l)≠0:=fun e=>by simpa using(Fm _).1 e
 have bY:ofBits (i::l)<2^64:=yU _ 64 (by intro j hj;rcases List.mem_cons.1 hj with rfl|hj;exact hi;exact hl j hj)
 unfold Lib.ctz
 rw[if_neg h0]
 obtain⟨m,hm,hc⟩:=Lib.ctzFrom_spec 64 _ (Nat.pos_of_ne_zero h0) bY
 generalize Lib.ctzFrom 64 (ofBits (i::l))=c at hm hc ⊢
 have t1:(ofBits (i::l)).testBit c=true:=by
  rw[hm,Nat.testBit_two_pow_mul]
  simp
 have t2:∀j,j<c→(ofBits (i::l)).testBit j=false:=by
  intro j hj
  rw[hm,Nat.testBit_two_pow_mul]
  simp;omega
 rw[tB]at t1
 have t1:c∈i::l:=by simpa using t1
 rcases List.mem_cons.1 t1 with rfl|Eb
 ·rfl
 ·have:=t2 i (h c Eb)
  rw[tB]at this
  simp at this
def zN:List Nat→Prop:=List.Pairwise (· < ·)
theorem WD (i:Nat)(l:List Nat)(h:∀j∈l,i<j)(hl:∀j∈l,j<64)(hi:i<64):ofBits (i::l)&&& (18446744073709551615-2^i)=ofBits l:=by
 apply Nat.eq_of_testBit_eq
 intro j
 have e:(18446744073709551615-2^i).testBit j=(decide (j<64)&& !(decide (i=j))):=by
  have:=Nat.testBit_two_pow_sub_succ (n:=64) (x:=2^i) (Nat.pow_lt_pow_of_lt (by omega) hi) j
  rw[show(2:Nat)^64-(2^i+1)=18446744073709551615-2^i by omega,Nat.testBit_two_pow]at this
  exact this
 rw[Nat.testBit_and,tB,tB,e]
 by_cases h1:j∈l
 ·have:=h j h1;have:=hl j h1
  simp[h1,show j<64 by omega,show ¬i=j by omega]
 ·by_cases h2:i=j
  ·simp[h1,h2]
  ·simp[h1,h2,show ¬j=i from fun e=>h2 e.symm]
def dD (u:Nat):List Nat:=(List.range 32).filter fun i=> !u.testBit i
theorem qE {u i:Nat}:i∈dD u↔i<32∧u.testBit i=false:=by simp[dD]
theorem IX (u:Nat):zN (dD u):=List.Pairwise.filter _ List.pairwise_lt_range
theorem Sw (u:Nat):(dD u).length≤32:=by
 have:=List.length_filter_le (fun i=> !u.testBit i) (List.range 32)
 simpa[dD]using this
theorem XB {l:List Nat}(h:zN l){k i:Nat}{m:List Nat}(e:l.drop k=i::m):(∀j∈m,i<j):=by
 have h2:zN (i::m):=e▸List.Pairwise.sublist (List.drop_sublist k l) h
 exact(List.pairwise_cons.1 h2).1
theorem IW (u:Nat):dD u=[]↔u%4294967296=4294967295:=by
 have hb:∀j,(u%4294967296).testBit j=(decide (j<32)&&u.testBit j):=fun j=>Nat.testBit_mod_two_pow u 32 j
 have hc:∀j,(4294967295:Nat).testBit j=decide (j<32):=fun j=>Nat.testBit_two_pow_sub_one 32 j
 constructor
 ·intro h
  apply Nat.eq_of_testBit_eq
  intro j
  rw[hb,hc]
  by_cases hj:j<32
  ·cases ht:u.testBit j with
   |true=>simp
   |false=>
    have:j∈dD u:=qE.2 ⟨hj,ht⟩
    rw[h]at this;simp at this
  ·simp[hj]
 ·intro h
  apply List.eq_nil_iff_forall_not_mem.2
  intro j hj
  obtain⟨h1,h2⟩:=qE.1 hj
  have:=hb j
  rw[h,hc,h2]at this
  simp[h1]at this
theorem WB (u:Nat)(hu:u<18446744073709551616):(18446744073709551615-u)&&& 4294967295=ofBits (dD u):=by
 apply Nat.eq_of_testBit_eq
 intro j
 rw[Nat.testBit_and,tB]
 have hc:(4294967295:Nat).testBit j=decide (j<32):=Nat.testBit_two_pow_sub_one 32 j
 have:=Nat.testBit_two_pow_sub_succ (n:=64) (x:=u) hu j
 rw[show(2:Nat)^64-(u+1)=18446744073709551615-u by omega]at this
 rw[hc,this]
 by_cases hj:j<32
 ·cases ht:u.testBit j<;>simp[qE,hj,ht,show j<64 by omega]
 ·simp[qE,hj]
def mL (u low:Nat):Nat:=(u/4294967296+1)%4294967296*4294967296+low
theorem H8 {u low:Nat}(h:low<4294967296):mL u low<18446744073709551616:=by
 unfold mL
 have:=Nat.mod_lt (u/4294967296+1) (show 0<4294967296 by decide)
 omega
theorem QV {u low:Nat}(hu:u<18446744073709551616)(h:low<4294967296):((u/4294967296+1)*4294967296%18446744073709551616)|||low=mL u low:=by
 have e:(u/4294967296+1)*4294967296%18446744073709551616=(u/4294967296+1)%4294967296*4294967296:=by omega
 rw[e]
 exact nat_join 32 _ _ (by simp) h
theorem QU {u low:Nat}(h:low<4294967296):mL u low%4294967296=low:=by unfold mL;omega
end
end Go.Proofs.YtfkngchldmfpfaaGreatDoor
