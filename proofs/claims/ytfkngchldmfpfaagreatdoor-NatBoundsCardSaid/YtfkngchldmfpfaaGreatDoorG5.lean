/-
  A part of a proof, joined by a program (wip/bundle3.py).
-/
import Derived.Laws.BitsAllLaws
import Derived.Test.YtfkngchldmfpfaaGreatDoorG2
import Derived.Test.YtfkngchldmfpfaaGreatDoorG3
import Derived.Test.YtfkngchldmfpfaaGreatDoorG4
set_option linter.unusedVariables false
set_option linter.unusedSimpArgs false
namespace Go.Proofs.YtfkngchldmfpfaaGreatDoor
section
open Go.RowKit
set_option maxRecDepth 10000
attribute [local irreducible] EK EX ER EN EL ES EG an aR aU
variable {W:World} {F:SL} {X:Cx} {k:List KI} {σ:Env}
theorem C3 {a:Nat}(k:Nat):a&&& (2^k-1)=a%2^k:=Nat.and_two_pow_sub_one_eq_mod a k
theorem YY {m:Nat}(h:m<18446744073709551616):bits .and .u64 (m:Int) 65535=((m%65536:Nat):Int):=by
 rw[show(65535:Int)=((65535:Nat):Int)from rfl,u64_and_nat m 65535 h (by decide)]
 exact congrArg _ (C3 16)
theorem gO (m k:Nat):(m:Int)/2^Int.toNat (k:Int)=((m/2^k:Nat):Int):=by
 rw[Int.toNat_natCast]
 simp
theorem Gc {a:Nat}(h:a<65536):IntKind.u16.wrap (a:Int)=(a:Int):=cG.wrap (by simp only[cG];omega)
theorem Gd (a:Nat):IntKind.u16.wrap (a:Int)=((a%65536:Nat):Int):=by
 rw[IntKind.wrap_u16]
 omega
theorem FH {l:List UInt8}{i:Nat}(hi:i<l.length):dx true (l.take (i+1))=dx true (l.take i)+b1 l i*(if i%2=0 then 256 else 1):=by
 rw[List.take_succ_eq_append_getElem hi,Xt,List.length_take,Nat.min_eq_left (Nat.le_of_lt hi)]
 congr 2
 unfold b1
 rw[List.getD_eq_getElem?_getD,List.getElem?_eq_getElem hi,Option.getD_some]
theorem Xu {l:List UInt8}{i n:Nat}(hi:i<l.length)(hl:l.length≤1000000)(hn:n<4294967296):IntKind.u64.wrap (((n+dx true (l.take i):Nat):Int)+IntKind.u64.wrap ((b1 l i:Int)*2^(8*(1-(i:Int)%2)).toNat))=((n+dx true (l.take (i+1)):Nat):Int):=by
 have hb:=dM l i
 have hr:=BM true (l.take i)
 have s6:65280*(l.take i).length≤65280*1000000:=Nat.mul_le_mul_left _ (by rw[List.length_take];omega)
 rw[FH hi]
 by_cases h:i%2=0
 ·rw[if_pos h,show(8*(1-(i:Int)%2)).toNat=8 by omega,cG.wrap (k:= .u64) (z:=(b1 l i:Int)*2^8) (by simp only[cG];omega),cG.wrap (k:= .u64) (by simp only[cG];omega)]
  omega
 ·rw[if_neg h,show(8*(1-(i:Int)%2)).toNat=0 by omega,cG.wrap (k:= .u64) (z:=(b1 l i:Int)*2^0) (by simp only[cG];omega),cG.wrap (k:= .u64) (by simp only[cG];omega)]
  omega
theorem IQ {n:Nat}(hn:n<18446744073709551616):Spec Tryz.prog 236 [.int .u64 (n:Int)] W F (fun _:Unit=> .int .u32 (dX n:Int)) (fun _=>F):=by
 refine Spec.of Tryz.func236 rfl Tryz.ntmps236 rfl ?_
 refine aa ?_;intros
 refine fy (γ:=Nat) (fun m=>m<18446744073709551616∧dX m=dX n) (fun m=>[(0,.int .u64 (m:Int))]) (fun _=>F) (fun m=>m) n ⟨hn,rfl⟩ ⟨rfl,trivial⟩ (U.sat (U.refl _)) ?_
 intro m ⟨h1,h2⟩
 by_cases h:m≤65535
 ·rw[Ao h]at h2
  refine aa ?_;intros
  exact ae (aj rfl rfl () (by rw[h2]) (U.sat (ab)))
 ·refine aa ?_;intros
  rw[YY h1,show(m:Int)/2^Int.toNat 16=((m/65536:Nat):Int)from gO m 16,cG.wrap (k:= .u64) (z:=((m/65536:Nat):Int)+((m%65536:Nat):Int)) (by simp only[cG];omega)]
  exact cJ (m/65536+m%65536) ⟨by omega,by rw[IP (by omega),h2]⟩ (by omega) ⟨rfl,trivial⟩ (U.sat (ab))
theorem De {n:Nat}(hn:n<4294967296):Spec Tryz.prog 187 [.int .u32 (n:Int)] W F (fun _:Unit=> .int .u16 ((65535-dX n:Nat):Int)) (fun _=>F):=by
 refine Spec.of Tryz.func187 rfl Tryz.ntmps187 rfl ?_
 refine aa ?_;intros
 refine af rfl (IQ (by omega)) ?_
 intro _
 have hf:=ui n
 refine aa ?_;intros
 exact ae (aj rfl rfl () (by rw[show(65535:Int)-(dX n:Int)=((65535-dX n:Nat):Int)by omega]) (U.sat (ab)))
theorem tQ {s bT now:Nat}(h1:s<65536)(h2:bT<65536)(h3:now<65536):Spec Tryz.prog 252 [.int .u16 (s:Int),.int .u16 (bT:Int),.int .u16 (now:Int)] W F (fun _:Unit=> .int .u16 (pd s bT now:Int)) (fun _=>F):=by
 refine Spec.of Tryz.func252 rfl Tryz.ntmps252 rfl ?_
 refine aa ?_;intros
 rw[show(65535:Int)-(s:Int)+(65535-(bT:Int))+(now:Int)=((65535-s+(65535-bT)+now:Nat):Int)by omega]
 refine af rfl (De (n:=65535-s+(65535-bT)+now) (by omega)) ?_
 intro _
 refine aa ?_;intros
 exact ae (aj rfl rfl () rfl (U.sat (ab)))
theorem N0 {s bT now:Nat}(h1:s<65536)(h2:bT<4294967296)(h3:now<4294967296):Spec Tryz.prog 265 [.int .u16 (s:Int),.int .u32 (bT:Int),.int .u32 (now:Int)] W F (fun _:Unit=> .int .u16 (jl s bT now:Int)) (fun _=>F):=by
 refine Spec.of Tryz.func265 rfl Tryz.ntmps265 rfl ?_
 refine aa ?_;intros
 rw[show(bT:Int)/2^Int.toNat 16=((bT/65536:Nat):Int)from gO bT 16,show(now:Int)/2^Int.toNat 16=((now/65536:Nat):Int)from gO now 16]
 rw[Gc (a:=bT/65536) (by omega),Gc (a:=now/65536) (by omega)]
 refine af rfl (tQ h1 (by omega) (by omega)) ?_
 intro _
 have hf:=uh s (bT/65536) (now/65536)
 refine aa ?_;intros
 rw[Gd bT,Gd now]
 refine af rfl (tQ hf (by omega) (by omega)) ?_
 intro _
 refine aa ?_;intros
 exact ae (aj rfl rfl () rfl (U.sat (ab)))
theorem CK {n:Nat}(hn:n<4294967296)(p:Option Addr)(c:Nat)(l:List UInt8)(hl:l.length≤1000000)[Src W F p l.length (ar l)]:Spec Tryz.prog 188 [.int .u32 (n:Int),.slice p l.length c] W F (fun _:Unit=> .int .u32 (dX (n+dx true l):Int)) (fun _=>F):=by
 refine Spec.of Tryz.func188 rfl Tryz.ntmps188 rfl ?_
 refine aa ?_;intros
 refine fy (γ:=Nat) (fun i=>i≤l.length) (fun i=>[(0,.int .u32 (n:Int)),(5,.int .u64 ((n+dx true (l.take i):Nat):Int)),(11,.slice p l.length c),(12,.int .i64 (l.length:Int)),(13,.int .i64 (i:Int))]) (fun _=>F) (fun i=>l.length-i) 0 (Nat.zero_le _) ⟨rfl,rfl,rfl,rfl,rfl,trivial⟩ (U.sat (U.refl _)) ?_
 intro i h1
 by_cases hi:i<l.length
 ·have hb:(l.getD i 0).toNat<256:=dM l i
  refine aa ?_;intros
  refine cJ (i+1) hi (by omega) ⟨rfl,?_,rfl,rfl,rfl,trivial⟩ (U.sat (ab))
  rw[←Xu hi hl hn]
  rfl
 ·have e:i=l.length:=by omega
  subst e
  rw[List.take_length]
  have hr:=BM true l
  have s6:65280*l.length≤65280*1000000:=Nat.mul_le_mul_left _ hl
  refine aa ?_;intros
  refine af rfl (IQ (by omega)) ?_
  intro _
  refine aa ?_;intros
  exact ae (aj rfl rfl () rfl (U.sat (ab)))
theorem CP (p:Option Addr)(c:Nat)(l:List UInt8)(hl:l.length≤1000000)[Src W F p l.length (ar l)]:Spec Tryz.prog 150 [.slice p l.length c] W F (fun _:Unit=> .int .u16 (cY l:Int)) (fun _=>F):=by
 refine Spec.of Tryz.func150 rfl Tryz.ntmps150 rfl ?_
 refine aa ?_;intros
 refine af rfl (CK (n:=0) (by decide) p c l hl) ?_
 intro _
 have hf:=ui (0+dx true l)
 refine af rfl (De (n:=dX (0+dx true l)) (by omega)) ?_
 intro _
 refine aa ?_;intros
 refine ae (aj rfl rfl () ?_ (U.sat (ab)))
 rw[Ao hf,Nat.zero_add]
 rfl
theorem FD {n:Nat}(hn:n<9223372036854775808):Spec Tryz.prog 143 [.int .i64 (n:Int)] W F (fun _:Unit=> .int .i64 (dX n:Int)) (fun _=>F):=by
 refine Spec.of Tryz.func143 rfl Tryz.ntmps143 rfl ?_
 refine aa ?_;intros
 refine fy (γ:=Nat) (fun m=>m<9223372036854775808∧dX m=dX n) (fun m=>[(0,.int .i64 (m:Int))]) (fun _=>F) (fun m=>m) n ⟨hn,rfl⟩ ⟨rfl,trivial⟩ (U.sat (U.refl _)) ?_
 intro m ⟨h1,h2⟩
 by_cases h:m≤65535
 ·rw[Ao h]at h2
  refine aa ?_;intros
  exact ae (aj rfl rfl () (by rw[h2]) (U.sat (ab)))
 ·refine aa ?_;intros
  exact cJ (m/65536+m%65536) ⟨by omega,by rw[IP (by omega),h2]⟩ (by omega) ⟨rfl,trivial⟩ (U.sat (ab))
theorem Xs {n:Nat}(hn:n≤65535)(p:Option Addr)(c:Nat)(l:List UInt8)(hl:l.length≤1000000)[Src W F p l.length (ar l)]:Spec Tryz.prog 95 [.int .i64 (n:Int),.slice p l.length c] W F (fun _:Unit=> .int .i64 (dX (n+dx true l):Int)) (fun _=>F):=by
 refine Spec.of Tryz.func95 rfl Tryz.ntmps95 rfl ?_
 refine aa ?_;intros
 refine af rfl (FD (n:=n) (by omega)) ?_
 intro _
 refine aa ?_;intros
 refine fy (γ:=Nat) (fun i=>i%2=0∧i≤l.length+1) (fun i=>[(0,.int .i64 (dX (n+dx true (l.take i)):Int)),(1,.slice p l.length c),(5,.int .i64 (i:Int))]) (fun _=>F) (fun i=>l.length-i) 0 ⟨rfl,Nat.zero_le _⟩ ⟨rfl,rfl,rfl,trivial⟩ (U.sat (U.refl _)) ?_
 intro i ⟨h0,h1⟩
 have hf:=ui (n+dx true (l.take i))
 by_cases hi:i<l.length
 ·have hb:(l.getD i 0).toNat<256:=dM l i
  have r1:=FH hi
  rw[if_pos h0]at r1
  by_cases h2:i+1<l.length
  ·have ig:(l.getD (i+1) 0).toNat<256:=dM l (i+1)
   have r2:=FH h2
   rw[if_neg (by omega),r1]at r2
   refine aa ?_;intros
   refine af rfl (FD (n:=dX (n+dx true (l.take i))+((l.getD i 0).toNat*256+(l.getD (i+1) 0).toNat)) (by omega)) ?_
   intro _
   rw[Dz]
   refine aa ?_;intros
   refine cJ (i+2) ⟨by omega,by omega⟩ (by omega) ⟨?_,rfl,rfl,trivial⟩ (U.sat (ab))
   rw[r2,show n+(dx true (l.take i)+b1 l i*256+b1 l (i+1)*1)=n+dx true (l.take i)+((l.getD i 0).toNat*256+(l.getD (i+1) 0).toNat)by unfold b1;omega]
   rfl
  ·have e:l.take (i+2)=l.take (i+1):=by rw[List.take_of_length_le (by omega),List.take_of_length_le (by omega)]
   refine aa ?_;intros
   refine af rfl (FD (n:=dX (n+dx true (l.take i))+(l.getD i 0).toNat*256) (by omega)) ?_
   intro _
   rw[Dz]
   refine aa ?_;intros
   refine cJ (i+2) ⟨by omega,by omega⟩ (by omega) ⟨?_,rfl,rfl,trivial⟩ (U.sat (ab))
   rw[e,r1,show n+(dx true (l.take i)+b1 l i*256)=n+dx true (l.take i)+(l.getD i 0).toNat*256 by unfold b1;omega]
   rfl
 ·rw[List.take_of_length_le (by omega)]
  refine aa ?_;intros
  exact ae (aj rfl rfl () rfl (U.sat (ab)))
theorem yZ (p:Option Addr)(c:Nat)(l:List UInt8)(hl:l.length≤1000000)[Src W F p l.length (ar l)]:Spec Tryz.prog 64 [.slice p l.length c] W F (fun _:Unit=> .int .u16 (cY l:Int)) (fun _=>F):=by
 refine Spec.of Tryz.func64 rfl Tryz.ntmps64 rfl ?_
 refine aa ?_;intros
 refine af rfl (Xs (n:=0) (by decide) p c l hl) ?_
 intro _
 have hf:=ui (0+dx true l)
 refine aa ?_;intros
 refine ae (aj rfl rfl () ?_ (U.sat (ab)))
 unfold cY
 rw[Nat.zero_add]at hf ⊢
 congr 1
 omega
end
section
open Go.RowKit
def gu (l:List UInt8)(i j:Nat):List UInt8:=(l.take j).drop i
theorem jj (l:List UInt8){i j:Nat}(h:j≤l.length):(gu l i j).length=j-i:=by
 unfold gu
 rw[List.length_drop,List.length_take,Nat.min_eq_left h]
theorem HI (l:List UInt8){i j k:Nat}(h:i+k<j):b1 (gu l i j) k=b1 l (i+k):=by
 unfold b1 gu
 rw[List.getD_eq_getElem?_getD,List.getD_eq_getElem?_getD,List.getElem?_drop,List.getElem?_take,if_pos h]
theorem zl (l:List UInt8){i j k:Nat}(h:i+k+1<j):w2 (gu l i j) k=w2 l (i+k):=by
 unfold w2
 rw[HI l (by omega),HI l (by omega),Nat.add_assoc]
theorem Mq (l:List UInt8){i j k:Nat}(h:i+k+3<j):w4 (gu l i j) k=w4 l (i+k):=by
 unfold w4
 rw[zl l (by omega),zl l (by omega),Nat.add_assoc]
section
variable {W:World} {H:SL} {p:Option Addr} {c i j:Nat} {l:List UInt8}
theorem Src.cut (s:Src W H p l.length (ar l))(r:Room W H p l.length c)(h:i≤j)(hj:j≤l.length):Src W H (cZ p i c 1) (gu l i j).length (ar (gu l i j)) where
 cells:=fun w hs k v hv=>by
  have hl:=r.le w hs
  have hk:k<j-i:=by
   have:=(List.getElem?_eq_some_iff.1 hv).1
   rwa[mJ,jj l hj]at this
  unfold cZ
  rw[if_neg (by omega),Fo,Nat.mul_one]
  refine s.cells w hs (i+k) v ?_
  rw[←hv]
  unfold ar gu
  rw[List.getElem?_map,List.getElem?_map,List.getElem?_drop,List.getElem?_take,if_pos (by omega)]
 nn:=fun w hs h0=>by
  have hl:=r.le w hs
  rw[jj l hj]at h0
  have:=s.nn w hs (by omega)
  unfold cZ
  rw[if_neg (by omega)]
  cases p with
  |none=>exact absurd rfl this
  |some a=>simp[off]
theorem Room.cut (r:Room W H p l.length c)(hj:j≤l.length):Room W H (cZ p i c 1) (gu l i j).length (c-i):=⟨fun w hs=>by
 have:=r.le w hs
 rw[jj l hj]
 omega⟩
theorem Src.pre (s:Src W H p l.length (ar l))(hj:j≤l.length):Src W H p (l.take j).length (ar (l.take j)) where
 cells:=fun w hs k v hv=>by
  have hk:k<j:=by
   have:=(List.getElem?_eq_some_iff.1 hv).1
   rw[mJ,List.length_take]at this
   omega
  refine s.cells w hs k v ?_
  rw[←hv]
  unfold ar
  rw[List.getElem?_map,List.getElem?_map,List.getElem?_take,if_pos hk]
 nn:=fun w hs h0=>s.nn w hs (by rw[List.length_take]at h0;omega)
theorem Room.pre (r:Room W H p l.length c):Room W H p (l.take j).length c:=⟨fun w hs=>by
 have:=r.le w hs
 rw[List.length_take]
 omega⟩
end
instance (priority:=300) Room.there (W:World)(Q R:SL)(p:Option Addr)(n c:Nat)[r:Room W R p n c]:Room W (Q*R) p n c:=⟨fun w hs=>r.le w hs.drop⟩
instance (priority:=3000) hU.b1 (l:List UInt8)(i:Nat):hU (ar l) i 1 0 (.int .u8 ((Go.Proofs.YtfkngchldmfpfaaGreatDoor.b1 l i:Nat):Int)) (i<l.length):=⟨(hU.bytes l i).get⟩
def oL:List UInt8→Nat→Nat
 |_,0=>0
 |l,n+1=>oL l n*256+b1 l n
theorem Fl (l:List UInt8):∀n,oL l n<256^n
 |0=>by simp[oL]
 |n+1=>by
  have h1:=Fl l n
  have h2:=dM l n
  rw[oL,Nat.pow_succ]
  omega
theorem Fk (l:List UInt8):oL l 2=w2 l 0:=by simp[oL,w2]
theorem KT (l:List UInt8):oL l 4=w4 l 0:=by
 simp only[oL,w4,w2,Nat.zero_add,Nat.reduceAdd]
 omega
end
section
open Go.RowKit
theorem Ig (l:List UInt8)(i:Nat):gu l i l.length=l.drop i:=by unfold gu;rw[List.take_length]
theorem xv (l:List UInt8)(i k:Nat):b1 (l.drop i) k=b1 l (i+k):=by
 unfold b1
 rw[List.getD_eq_getElem?_getD,List.getD_eq_getElem?_getD,List.getElem?_drop]
theorem qO (l:List UInt8)(i k:Nat):w2 (l.drop i) k=w2 l (i+k):=by
 unfold w2
 rw[xv,xv,Nat.add_assoc]
section
variable {W:World} {H:SL} {p:Option Addr} {c i:Nat} {l:List UInt8}
theorem Src.low (s:Src W H p l.length (ar l))(r:Room W H p l.length c)(h:i≤l.length):Src W H (cZ p i c 1) (l.drop i).length (ar (l.drop i)):=by
 have:=Src.cut s r h (Nat.le_refl _)
 rwa[Ig]at this
theorem Room.low (r:Room W H p l.length c):Room W H (cZ p i c 1) (l.drop i).length (c-i):=by
 have:=Room.cut (i:=i) r (Nat.le_refl _)
 rwa[Ig]at this
end
def eE (n:Nat):Nat→List UInt8
 |0=>[]
 |k+1=>u8 (n/256^k)::eE n k
theorem rb (n:Nat):∀k,(eE n k).length=k
 |0=>rfl
 |k+1=>by rw[eE,List.length_cons,rb n k]
theorem Qu (n:Nat):eE n 2=ji n:=by simp[eE,ji]
theorem HO (n:Nat):eE n 4=mI n:=by simp[eE,mI]
theorem Y1 {n i:Nat}:IntKind.u8.wrap ((n:Int)/2^(8*(i:Int)).toNat)=(((u8 (n/256^i)).toNat:Nat):Int):=by
 rw[show(8*(i:Int)).toNat=8*i by omega,r9,IntKind.wrap_u8]
 have:(n:Int)/2^(8*i)=((n/256^i:Nat):Int):=by
  rw[show(256:Nat)^i=2^(8*i)by rw[Nat.pow_mul]]
  simp
 rw[this]
 omega
theorem QM (l:List UInt8)(b:UInt8):ar (l++[b])=ar l++[.int .u8 ((b.toNat:Nat):Int)]:=by simp[ar]
theorem QL (l m:List UInt8):ar (l++m)=ar l++ar m:=by simp[ar]
theorem K7 {a b:Nat}(ha:a<256)(hb:b<256):bits .or .u16 (IntKind.u16.wrap ((a:Int)*2^Int.toNat 8)) (b:Int)=((a*256+b:Nat):Int):=by
 rw[show(a:Int)*2^Int.toNat 8=((a*2^8:Nat):Int)by rw[show Int.toNat 8=8 from rfl];omega,cG.wrap (k:= .u16) (z:=((a*2^8:Nat):Int)) (by simp only[cG];omega),u16_or_nat _ _ (by omega) (by omega)]
 rw[Nat.mul_comm,←Nat.two_pow_add_eq_or_of_lt (show b<2^8 by omega) a]
def ahead (src dst proto n:Nat):List UInt8:=eE src 4++eE dst 4++[0,u8 proto]++eE n 2
theorem HB (src dst proto n:Nat):(ahead src dst proto n).length=12:=by simp[ahead,rb]
theorem Xh (src dst proto:Nat)(l:List UInt8):iy src dst proto l=65535-dX (dX (dX (0+dx true (ahead src dst proto l.length))+dx true l)):=by
 unfold iy cY
 rw[←HO,←HO,←Qu,Nat.zero_add]
 show 65535-dX (dx true (ahead src dst proto l.length++l))=_
 rw[BL,HB,if_pos (by decide),Dz,Ao (ui _)]
theorem tj (src dst proto:Nat)(l:List UInt8):iy src dst proto l<65536:=qf _
end
section
open Go.RowKit
theorem BB (a:Nat)(ha:a<18446744073709551616):(BitVec.ofInt 64 (a:Int)).toNat=a:=by
 rw[BitVec.ofInt_natCast,BitVec.toNat_ofNat];exact Nat.mod_eq_of_lt (by omega)
theorem EV (a b:Nat)(ha:a<9223372036854775808)(hb:b<9223372036854775808):bits .and .i64 (a:Int) (b:Int)=((a&&& b:Nat):Int):=by
 have hx:a&&& b<2^63:=Nat.and_lt_two_pow _ (by omega)
 show IntKind.i64.wrap ((BitVec.ofInt 64 (a:Int)&&& BitVec.ofInt 64 (b:Int)).toNat:Int)=_
 rw[BitVec.toNat_and,BB a (by omega),BB b (by omega)]
 exact cG.wrap (by simp only[cG];omega)
theorem UJ (a b:Nat)(ha:a<9223372036854775808)(hb:b<9223372036854775808):bits .xor .i64 (a:Int) (b:Int)=((a^^^b:Nat):Int):=by
 have hx:a^^^b<2^63:=Nat.xor_lt_two_pow (by omega) (by omega)
 show IntKind.i64.wrap ((BitVec.ofInt 64 (a:Int)^^^BitVec.ofInt 64 (b:Int)).toNat:Int)=_
 rw[BitVec.toNat_xor,BB a (by omega),BB b (by omega)]
 exact cG.wrap (by simp only[cG];omega)
theorem EW (a n:Nat)(ha:a<9223372036854775808)(hn:n≤62):bits .and .i64 (a:Int) (((2^n-1:Nat)):Int)=((a%2^n:Nat):Int):=by
 have h:2^n-1<9223372036854775808:=by
  have:2^n≤2^62:=Nat.pow_le_pow_right (by decide) hn
  omega
 rw[EV a _ ha h,Nat.and_two_pow_sub_one_eq_mod]
theorem nk (a b:Nat):((a:Int)/2^((b:Int)).toNat)=((a/2^b:Nat):Int):=by
 rw[Int.toNat_natCast,Int.natCast_ediv];simp
end
section
open Go.RowKit
set_option maxRecDepth 10000
attribute [local irreducible] EK EX ER EN EL ES EG an aR aU
variable {W:World} {F:SL} {X:Cx} {k:List KI} {σ:Env}
theorem X2 {a n:Nat}(ha:a<16777216)(hn:n<256):bits BinOp.or IntKind.u32 (IntKind.u32.wrap ((a:Int)*2^Int.toNat 8)) (n:Int)=((a*256+n:Nat):Int):=by
 rw[show(a:Int)*2^Int.toNat 8=((a*2^8:Nat):Int)by rw[show Int.toNat 8=8 from rfl];omega,cG.wrap (k:= .u32) (z:=((a*2^8:Nat):Int)) (by simp only[cG];omega),u32_or_nat _ _ (by omega) (by omega)]
 rw[Nat.mul_comm,←Nat.two_pow_add_eq_or_of_lt (show n<2^8 by omega) a]
theorem JP (p:Option Addr)(c:Nat)(l:List UInt8)(hl:l.length≤4)[Src W F p l.length (ar l)]:Spec Tryz.prog 186 [.slice p l.length c] W F (fun _:Unit=> .int .u32 (oL l l.length:Int)) (fun _=>F):=by
 refine Spec.of Tryz.func186 rfl Tryz.ntmps186 rfl ?_
 refine aa ?_;intros
 refine fy (γ:=Nat) (fun i=>i≤l.length) (fun i=>[(3,.int .u32 (oL l i:Int)),(6,.slice p l.length c),(7,.int .i64 (l.length:Int)),(8,.int .i64 (i:Int))]) (fun _=>F) (fun i=>l.length-i) 0 (Nat.zero_le _) ⟨rfl,rfl,rfl,rfl,trivial⟩ (U.sat (U.refl _)) ?_
 intro i h1
 have hn:=Fl l i
 by_cases hi:i<l.length
 ·have hb:=dM l i
  have h3:256^i≤256^3:=Nat.pow_le_pow_right (by decide) (by omega)
  refine aa ?_;intros
  rw[X2 (by omega) hb]
  exact cJ (i+1) hi (by omega) ⟨rfl,rfl,rfl,rfl,trivial⟩ (U.sat (aV))
 ·have e:i=l.length:=by omega
  subst e
  refine aa ?_;intros
  exact ae (aj rfl rfl () rfl (U.sat (aV)))
theorem FE (p:Option Addr)(c:Nat)(l:List UInt8)(hl:l.length≤4)[Src W F p l.length (ar l)]:Spec Tryz.prog 63 [.slice p l.length c] W F (fun _:Unit=> .int .i64 (oL l l.length:Int)) (fun _=>F):=by
 refine Spec.of Tryz.func63 rfl Tryz.ntmps63 rfl ?_
 refine aa ?_;intros
 refine fy (γ:=Nat) (fun i=>i≤l.length) (fun i=>[(3,.int .i64 (oL l i:Int)),(0,.slice p l.length c),(4,.int .i64 (i:Int))]) (fun _=>F) (fun i=>l.length-i) 0 (Nat.zero_le _) ⟨rfl,rfl,rfl,trivial⟩ (U.sat (U.refl _)) ?_
 intro i h1
 have hn:=Fl l i
 by_cases hi:i<l.length
 ·have hb:=dM l i
  have h3:256^i≤256^3:=Nat.pow_le_pow_right (by decide) (by omega)
  refine aa ?_;intros
  exact cJ (i+1) hi (by omega) ⟨rfl,rfl,rfl,trivial⟩ (U.sat (aV))
 ·have e:i=l.length:=by omega
  subst e
  refine aa ?_;intros
  exact ae (aj rfl rfl () rfl (U.sat (aV)))
section
variable {p:Option Addr} {c i j:Nat} {l:List UInt8}
theorem En (s:Src W F p l.length (ar l))(r:Room W F p l.length c)(hj:j=i+2)(h:j≤l.length)(n m:Nat)(hn:n=j-i):Spec Tryz.prog 186 [.slice (cZ p i c 1) n m] W F (fun _:Unit=> .int .u32 (w2 l i:Int)) (fun _=>F):=by
 haveI:=Src.cut s r (i:=i) (by omega) h
 have hl:=jj l (i:=i) h
 have:=JP (W:=W) (F:=F) (cZ p i c 1) m (gu l i j) (by omega)
 rw[hl,show j-i=2 by omega,Fk,zl l (by omega)]at this
 rw[show n=2 by omega]
 exact this
theorem JO (s:Src W F p l.length (ar l))(r:Room W F p l.length c)(hj:j=i+4)(h:j≤l.length)(n m:Nat)(hn:n=j-i):Spec Tryz.prog 186 [.slice (cZ p i c 1) n m] W F (fun _:Unit=> .int .u32 (w4 l i:Int)) (fun _=>F):=by
 haveI:=Src.cut s r (i:=i) (by omega) h
 have hl:=jj l (i:=i) h
 have:=JP (W:=W) (F:=F) (cZ p i c 1) m (gu l i j) (by omega)
 rw[hl,show j-i=4 by omega,KT,Mq l (by omega)]at this
 rw[show n=4 by omega]
 exact this
theorem pI (s:Src W F p l.length (ar l))(r:Room W F p l.length c)(hj:j=i+2)(h:j≤l.length)(n m:Nat)(hn:n=j-i):Spec Tryz.prog 63 [.slice (cZ p i c 1) n m] W F (fun _:Unit=> .int .i64 (w2 l i:Int)) (fun _=>F):=by
 haveI:=Src.cut s r (i:=i) (by omega) h
 have hl:=jj l (i:=i) h
 have:=FE (W:=W) (F:=F) (cZ p i c 1) m (gu l i j) (by omega)
 rw[hl,show j-i=2 by omega,Fk,zl l (by omega)]at this
 rw[show n=2 by omega]
 exact this
theorem Lz (s:Src W F p l.length (ar l))(r:Room W F p l.length c)(hj:j=i+4)(h:j≤l.length)(n m:Nat)(hn:n=j-i):Spec Tryz.prog 63 [.slice (cZ p i c 1) n m] W F (fun _:Unit=> .int .i64 (w4 l i:Int)) (fun _=>F):=by
 haveI:=Src.cut s r (i:=i) (by omega) h
 have hl:=jj l (i:=i) h
 have:=FE (W:=W) (F:=F) (cZ p i c 1) m (gu l i j) (by omega)
 rw[hl,show j-i=4 by omega,KT,Mq l (by omega)]at this
 rw[show n=4 by omega]
 exact this
theorem YX {n:Nat}(h:n<4294967296):bits .and .u32 (n:Int) 16383=((n%16384:Nat):Int):=by
 rw[show(16383:Int)=((16383:Nat):Int)from rfl,u32_and_nat n 16383 h (by decide)]
 exact congrArg _ (C3 14)
theorem UI {n:Nat}(h:n<4294967296):bits .and .i64 (n:Int) 16383=((n%16384:Nat):Int):=EW n 14 (by omega) (by decide)
theorem Y0 {n:Nat}(h:n<256):bits .and .u8 (n:Int) 15=((n%16:Nat):Int):=by
 rw[show(15:Int)=((15:Nat):Int)from rfl,u8_and_nat n 15 h (by decide)]
 exact congrArg _ (C3 4)
def qP (l:List UInt8):Nat:=if w2 l 6%16384≠0 then 5 else 0
abbrev tn (h:fL)(e:Nat):Value:= .tuple #[.agg (cT h).toArray,.int .i64 (e:Int)]
theorem Ov (s:Src W F p l.length (ar l))(hj:j≤l.length)(h6:j≤1000000):Spec Tryz.prog 150 [.slice p j c] W F (fun _:Unit=> .int .u16 (cY (l.take j):Int)) (fun _=>F):=by
 haveI:=Src.pre s hj
 have mY:(l.take j).length=j:=by rw[List.length_take,Nat.min_eq_left hj]
 have:=CP (W:=W) (F:=F) p c (l.take j) (by omega)
 rwa[mY]at this
theorem BK (s:Src W F p l.length (ar l))(hj:j≤l.length)(h6:j≤1000000):Spec Tryz.prog 64 [.slice p j c] W F (fun _:Unit=> .int .u16 (cY (l.take j):Int)) (fun _=>F):=by
 haveI:=Src.pre s hj
 have mY:(l.take j).length=j:=by rw[List.length_take,Nat.min_eq_left hj]
 have:=yZ (W:=W) (F:=F) p c (l.take j) (by omega)
 rwa[mY]at this
theorem MB [s:Src W F p l.length (ar l)][r:Room W F p l.length c](h:20≤l.length)(hd:fL):Spec Tryz.prog 151 [.agg (cT hd).toArray,.slice p l.length c] W F (fun _:Unit=>tn (if qP l=0 then hd else ff) (qP l)) (fun _=>F):=by
 refine Spec.of Tryz.func151 rfl Tryz.ntmps151 rfl ?_
 have hw:=dZ l 6
 refine aa ?_;intros
 refine af rfl (En (j:=8) inferInstance inferInstance rfl (by omega) _ _ rfl) ?_
 intro _
 refine aa ?_;intros
 rw[YX (by omega)]
 by_cases h6:w2 l 6%16384=0
 ·rw[show qP l=0 from if_neg (by omega),if_pos rfl,decide_eq_true (show((w2 l 6%16384:Nat):Int)=0 by omega)]
  refine aa ?_;intros
  exact ae (bu (rs:=[.cell 4 110,.tmp 5]) (v:= .agg (cT hd).toArray) (u:= .int .i64 ((0:Nat):Int)) (vs:=[]) rfl ⟨⟨_,rfl,aX.agg rfl⟩,rfl,trivial⟩ () rfl (U.sat (aV)))
 ·rw[show qP l=5 from if_pos h6,if_neg (by decide),decide_eq_false (show ¬((w2 l 6%16384:Nat):Int)=0 by omega)]
  refine aa ?_;intros
  exact ae (bu (rs:=[.cell 4 110,.tmp 5]) (v:= .agg (cT ff).toArray) (u:= .int .i64 ((5:Nat):Int)) (vs:=[]) rfl ⟨⟨_,rfl,aX.agg rfl⟩,rfl,trivial⟩ () rfl (U.sat (aV)))
def im (most:Nat)(l:List UInt8):Nat:=
 if l.length<20 then 2
 else if b1 l 0/16≠4∨b1 l 0%16*4<20 then 3
 else if l.length<b1 l 0%16*4 then 2
 else if w2 l 2<b1 l 0%16*4∨w2 l 2>most then 3
 else 0
theorem LZ (most:Nat)(hm:most≤65535)(hl:l.length≤140737488355328)[s:Src W F p l.length (ar l)][r:Room W F p l.length c]:Spec Tryz.prog 149 [.slice p l.length c,.int .i64 (most:Int)] W F (fun _:Unit=>tn (if im most l=0 then bo l else ff) (im most l)) (fun _=>F):=by
 refine Spec.of Tryz.func149 rfl Tryz.ntmps149 rfl ?_
 by_cases h1:l.length<20
 ·rw[show im most l=2 from if_pos h1,if_neg (by decide)]
  refine aa ?_;intros
  exact ae (bu (rs:=[.cell 4 110,.tmp 5]) (v:= .agg (cT ff).toArray) (u:= .int .i64 ((2:Nat):Int)) (vs:=[]) rfl ⟨⟨_,rfl,aX.agg rfl⟩,rfl,trivial⟩ () rfl (U.sat (aV)))
 have hb:=dM l 0
 have hw:=dZ l 2
 have e4:IntKind.i64.wrap (4*IntKind.i64.wrap (bits BinOp.and IntKind.u8 (b1 l 0:Int) 15))=((b1 l 0%16*4:Nat):Int):=by
  rw[Y0 hb,cG.wrap (k:= .i64) (z:=((b1 l 0%16:Nat):Int)) (by simp only[cG];omega),cG.wrap (k:= .i64) (by simp only[cG];omega)]
  omega
 refine aa ?_;intros
 refine kh (γ:=Option Addr×Option Addr) (fun _=>True) (fun x=>[(0,.slice p l.length c),(1,.int .i64 (most:Int)),(4,.pointer x.1),(6,.pointer x.2),(5,.int .i64 0)])
  (fun x=>Obj x.2 110 [.int .i64 ((b1 l 0%16*4:Nat):Int),.int .i64 (w2 l 2:Int),.int .i64 0,.int .i64 0,.int .u32 0,.int .u32 0]*(Obj x.1 110 (cT ff)*F)) ?_ ?_
 ·rename_i x4
  refine ay 12 F rfl rfl rfl ?_
  refine ah ?_
  refine qS (i:=8) (j:=11) (su rfl rfl rfl rfl (En (j:=4) inferInstance inferInstance rfl (by omega) _ _ rfl) (fun _=>aV) ?_) (tO rfl rfl (sF rfl) rfl (fun _=>aV) ?_)
  ·intro _
   refine ah ?_
   refine bD ?_;intros
   rename_i x
   rw[e4]
   exact dI (x4,x) trivial ⟨rfl,rfl,rfl,rfl,rfl,trivial⟩ (U.sat (aV))
  ·intro x
   refine aw rfl rfl rfl rfl rfl (En (j:=4) inferInstance inferInstance rfl (by omega) _ _ rfl) (fun _=>aV) ?_
   intro _
   refine ah ?_
   refine bD ?_;intros
   rw[e4]
   exact dI (x4,x) trivial ⟨rfl,rfl,rfl,rfl,rfl,trivial⟩ (U.sat (aV))
 intro ⟨x4,x⟩ _;dsimp only
 refine aa ?_;intros
 rw[show(b1 l 0:Int)/2^Int.toNat 4=((b1 l 0/16:Nat):Int)from gO _ 4]
 by_cases h2:b1 l 0/16≠4∨b1 l 0%16*4<20
 ·rw[show im most l=3 by unfold im;rw[if_neg h1,if_pos h2],if_neg (by decide)]
  refine zD (U.sat (U.refl _)) ?_
  by_cases I7:b1 l 0/16=4
  ·rw[decide_eq_true (show((b1 l 0/16:Nat):Int)=4 by omega)]
   refine aa ?_;intros
   exact ae (bu (rs:=[.cell 4 110,.tmp 5]) (v:= .agg (cT ff).toArray) (u:= .int .i64 ((3:Nat):Int)) (vs:=[]) rfl ⟨⟨_,rfl,aX.agg rfl⟩,rfl,trivial⟩ () rfl (U.sat (aV)))
  ·rw[decide_eq_false (show ¬((b1 l 0/16:Nat):Int)=4 by omega)]
   refine aa ?_;intros
   exact ae (bu (rs:=[.cell 4 110,.tmp 5]) (v:= .agg (cT ff).toArray) (u:= .int .i64 ((3:Nat):Int)) (vs:=[]) rfl ⟨⟨_,rfl,aX.agg rfl⟩,rfl,trivial⟩ () rfl (U.sat (aV)))
 rw[decide_eq_true (show((b1 l 0/16:Nat):Int)=4 by omega)]
 by_cases h3:l.length<b1 l 0%16*4
 ·rw[show im most l=2 by unfold im;rw[if_neg h1,if_neg h2,if_pos h3],if_neg (by decide)]
  refine aa ?_;intros
  exact ae (bu (rs:=[.cell 4 110,.tmp 5]) (v:= .agg (cT ff).toArray) (u:= .int .i64 ((2:Nat):Int)) (vs:=[]) rfl ⟨⟨_,rfl,aX.agg rfl⟩,rfl,trivial⟩ () rfl (U.sat (aV)))
 by_cases h4:w2 l 2<b1 l 0%16*4
 ·rw[show im most l=3 by unfold im;rw[if_neg h1,if_neg h2,if_neg h3,if_pos (.inl h4)],if_neg (by decide)]
  refine aa ?_;intros
  exact ae (bu (rs:=[.cell 4 110,.tmp 5]) (v:= .agg (cT ff).toArray) (u:= .int .i64 ((3:Nat):Int)) (vs:=[]) rfl ⟨⟨_,rfl,aX.agg rfl⟩,rfl,trivial⟩ () rfl (U.sat (aV)))
 by_cases h5:w2 l 2>most
 ·rw[show im most l=3 by unfold im;rw[if_neg h1,if_neg h2,if_neg h3,if_pos (.inr h5)],if_neg (by decide)]
  refine aa ?_;intros
  exact ae (bu (rs:=[.cell 4 110,.tmp 5]) (v:= .agg (cT ff).toArray) (u:= .int .i64 ((3:Nat):Int)) (vs:=[]) rfl ⟨⟨_,rfl,aX.agg rfl⟩,rfl,trivial⟩ () rfl (U.sat (aV)))
 rw[show im most l=0 by unfold im;rw[if_neg h1,if_neg h2,if_neg h3,if_neg (by omega)],if_pos rfl]
 have Tn:=dM l 8
 have To:=dM l 9
 refine aa ?_;intros
 refine ay 11 (iS x 110*F) rfl rfl rfl ?_
 refine ah ?_
 refine bD ?_;intros
 refine aa ?_;intros
 refine ay 9 (iS x 110*F) rfl rfl rfl ?_
 refine ah ?_
 refine aw rfl rfl rfl rfl rfl (JO (j:=16) inferInstance inferInstance rfl (by omega) _ _ rfl) (fun _=>aV) ?_
 intro _
 refine ah ?_
 refine aw rfl rfl rfl rfl rfl (JO (j:=20) inferInstance inferInstance rfl (by omega) _ _ rfl) (fun _=>aV) ?_
 intro _
 refine ah ?_
 refine bD ?_;intros
 refine aa ?_;intros
 exact ae (bu (rs:=[.cell 4 110,.tmp 5]) (v:= .agg (cT (bo l)).toArray) (u:= .int .i64 ((0:Nat):Int)) (vs:=[]) rfl ⟨⟨_,rfl,aX.agg rfl⟩,rfl,trivial⟩ () rfl (U.sat (aV)))
theorem TE (l:List UInt8):dP true l=if im 65535 l≠0 then im 65535 l else qP l:=by
 have hw:=dZ l 2
 unfold dP im qP
 by_cases h1:l.length<20
 ·rw[if_pos h1,if_pos h1,if_pos (by decide)]
 by_cases h2:b1 l 0/16≠4∨b1 l 0%16*4<20
 ·rw[if_neg h1,if_pos h2,if_neg h1,if_pos h2,if_pos (by decide)]
 by_cases h3:l.length<b1 l 0%16*4
 ·rw[if_neg h1,if_neg h2,if_pos h3,if_neg h1,if_neg h2,if_pos h3,if_pos (by decide)]
 by_cases h4:w2 l 2<b1 l 0%16*4
 ·rw[if_neg h1,if_neg h2,if_neg h3,if_pos (Or.inl h4),if_neg h1,if_neg h2,if_neg h3,if_pos (Or.inl h4),if_pos (by decide)]
 have g4:¬(w2 l 2<b1 l 0%16*4∨w2 l 2>1500∧true=false):=fun g=>g.elim h4 fun g=>by cases g.2
 have g5:¬(w2 l 2<b1 l 0%16*4∨w2 l 2>65535):=by omega
 rw[if_neg h1,if_neg h2,if_neg h3,if_neg g4,if_neg (fun g=>by cases g.2),if_neg (fun g=>by cases g.1),if_neg h1,if_neg h2,if_neg h3,if_neg g5,if_neg (show ¬(0:Nat)≠0 by decide)]
theorem TD (l:List UInt8):dP false l=if im 1500 l≠0 then im 1500 l else if l.length<w2 l 2 then 2 else if cY (l.take (b1 l 0%16*4))≠0 then 4 else qP l:=by
 unfold dP im qP
 by_cases h1:l.length<20
 ·rw[if_pos h1,if_pos h1,if_pos (by decide)]
 by_cases h2:b1 l 0/16≠4∨b1 l 0%16*4<20
 ·rw[if_neg h1,if_pos h2,if_neg h1,if_pos h2,if_pos (by decide)]
 by_cases h3:l.length<b1 l 0%16*4
 ·rw[if_neg h1,if_neg h2,if_pos h3,if_neg h1,if_neg h2,if_pos h3,if_pos (by decide)]
 by_cases h4:w2 l 2<b1 l 0%16*4∨w2 l 2>1500
 ·rw[if_neg h1,if_neg h2,if_neg h3,if_pos (h4.imp id fun g=>⟨g,rfl⟩),if_neg h1,if_neg h2,if_neg h3,if_pos h4,if_pos (by decide)]
 rw[if_neg h1,if_neg h2,if_neg h3,if_neg (fun g=>h4 (g.imp id fun g=>g.1)),if_neg h1,if_neg h2,if_neg h3,if_neg h4,if_neg (show ¬(0:Nat)≠0 by decide)]
 by_cases h5:l.length<w2 l 2
 ·rw[if_pos ⟨h5,rfl⟩,if_pos h5]
 rw[if_neg (fun g=>h5 g.1),if_neg h5]
 by_cases h6:cY (l.take (b1 l 0%16*4))≠0
 ·rw[if_pos ⟨rfl,h6⟩,if_pos h6]
 rw[if_neg (fun g=>h6 g.2),if_neg h6]
theorem LY {most:Nat}{l:List UInt8}(h:im most l=0):20≤l.length∧20≤b1 l 0%16*4∧b1 l 0%16*4≤l.length∧b1 l 0%16*4≤w2 l 2∧w2 l 2≤most:=by
 unfold im at h
 repeat' split at h
 all_goals first|(exact absurd h (by decide))|skip
 refine⟨by omega,by omega,by omega,by omega,by omega⟩
theorem mQ {part:Bool}{l:List UInt8}{e:Nat}(h:dP part l=e):mj part l=if e=0 then bo l else ff:=by
 unfold mj;rw[h]
theorem Th (hl:l.length≤140737488355328)[s:Src W F p l.length (ar l)][r:Room W F p l.length c]:Spec Tryz.prog 238 [.slice p l.length c] W F (fun _:Unit=>tn (mj true l) (dP true l)) (fun _=>F):=by
 refine Spec.of Tryz.func238 rfl Tryz.ntmps238 rfl ?_
 refine aa ?_;intros
 refine af rfl (LZ 65535 (Nat.le_refl _) hl) ?_
 intro _
 have e0:=TE l
 by_cases h:im 65535 l=0
 ·rw[h]at e0 ⊢
  rw[if_pos rfl]
  obtain⟨h1,_⟩:=LY h
  refine aa ?_;intros
  refine af rfl (MB h1 (bo l)) ?_
  intro _
  rw[if_neg (by decide)]at e0
  rw[e0,mQ e0]
  refine aa ?_;intros
  exact ae (bu (rs:=[.cell 2 110,.tmp 3]) (v:= .agg (cT _).toArray) (u:= .int .i64 (qP l:Int)) (vs:=[]) rfl ⟨⟨_,rfl,aX.agg rfl⟩,rfl,trivial⟩ () rfl (U.sat (aV)))
 ·rw[if_pos h]at e0
  rw[if_neg h,mQ e0,e0,if_neg h]
  refine aa ?_;intros
  exact ae (bu (rs:=[.cell 2 110,.tmp 3]) (v:= .agg (cT ff).toArray) (u:= .int .i64 (im 65535 l:Int)) (vs:=[]) rfl ⟨⟨_,rfl,aX.agg rfl⟩,rfl,trivial⟩ () rfl (U.sat (aV)))
theorem DK (hl:l.length≤140737488355328)[s:Src W F p l.length (ar l)][r:Room W F p l.length c]:Spec Tryz.prog 103 [.slice p l.length c] W F (fun _:Unit=>tn (mj false l) (dP false l)) (fun _=>F):=by
 refine Spec.of Tryz.func103 rfl Tryz.ntmps103 rfl ?_
 refine aa ?_;intros
 refine af rfl (LZ 1500 (by decide) hl) ?_
 intro _
 have e0:=TD l
 by_cases h:im 1500 l=0
 ·rw[h]at e0 ⊢
  rw[if_pos rfl]
  rw[if_neg (by decide)]at e0
  obtain⟨h1,h2,h3,h4,h5⟩:=LY h
  have f1:(bo l).size=b1 l 0%16*4:=rfl
  have f2:(bo l).len=w2 l 2:=rfl
  rw[←f2]at h4 h5 e0
  rw[←f1]at h2 h3 h4 e0
  obtain⟨hd,f0⟩:∃x,bo l=x:=⟨_,rfl⟩
  rw[f0]at h2 h3 h4 h5 e0 f1 f2 ⊢
  by_cases h6:l.length<hd.len
  ·rw[if_pos h6]at e0
   unfold mj
   rw[e0]
   refine aa ?_;intros
   exact ae (bu (rs:=[.cell 2 110,.tmp 3]) (v:= .agg (cT ff).toArray) (u:= .int .i64 ((2:Nat):Int)) (vs:=[]) rfl ⟨⟨_,rfl,aX.agg rfl⟩,rfl,trivial⟩ () rfl (U.sat (aV)))
  rw[if_neg h6]at e0
  have hc:=qf (l.take hd.size)
  refine aa ?_;intros
  refine af rfl (Ov inferInstance h3 (by omega)) ?_
  intro _
  by_cases h7:cY (l.take hd.size)=0
  ·rw[if_neg (show ¬cY (l.take hd.size)≠0 by omega)]at e0
   refine aa ?_;intros
   refine af rfl (MB h1 hd) ?_
   intro _
   unfold mj
   rw[e0,f0]
   refine aa ?_;intros
   exact ae (bu (rs:=[.cell 2 110,.tmp 3]) (v:= .agg (cT _).toArray) (u:= .int .i64 (qP l:Int)) (vs:=[]) rfl ⟨⟨_,rfl,aX.agg rfl⟩,rfl,trivial⟩ () rfl (U.sat (aV)))
  ·rw[if_pos h7]at e0
   unfold mj
   rw[e0]
   refine aa ?_;intros
   exact ae (bu (rs:=[.cell 2 110,.tmp 3]) (v:= .agg (cT ff).toArray) (u:= .int .i64 ((4:Nat):Int)) (vs:=[]) rfl ⟨⟨_,rfl,aX.agg rfl⟩,rfl,trivial⟩ () rfl (U.sat (aV)))
 ·rw[if_pos h]at e0
  rw[if_neg h,mQ e0,e0,if_neg h]
  refine aa ?_;intros
  exact ae (bu (rs:=[.cell 2 110,.tmp 3]) (v:= .agg (cT ff).toArray) (u:= .int .i64 (im 1500 l:Int)) (vs:=[]) rfl ⟨⟨_,rfl,aX.agg rfl⟩,rfl,trivial⟩ () rfl (U.sat (aV)))
theorem rB {part:Bool}{l:List UInt8}{e:Nat}(h:dP part l=e)(h0:e≠0):tn (mj part l) (dP part l)=tn ff e:=by
 rw[mQ h,h,if_neg h0]
set_option maxHeartbeats 1000000 in
theorem FC (part:Bool)(hl:l.length≤140737488355328)[s:Src W F p l.length (ar l)][r:Room W F p l.length c]:Spec Tryz.prog 30 [.slice p l.length c,.bool part] W F (fun _:Unit=>tn (mj part l) (dP part l)) (fun _=>F):=by
 refine Spec.of Tryz.func30 rfl Tryz.ntmps30 rfl ?_
 have e0:dP part l=_:=rfl
 conv at e0=>rhs;unfold dP
 by_cases h1:l.length<20
 ·rw[if_pos h1]at e0
  rw[rB e0 (by decide)]
  refine aa ?_;intros
  exact ae (bu (rs:=[.cell 4 87,.tmp 5]) (v:= .agg (cT ff).toArray) (u:= .int .i64 ((2:Nat):Int)) (vs:=[]) rfl ⟨⟨_,rfl,aX.agg rfl⟩,rfl,trivial⟩ () rfl (U.sat (aV)))
 rw[if_neg h1]at e0
 have hb:=dM l 0
 have hw:=dZ l 2
 have hw6:=dZ l 6
 refine aa ?_;intros
 refine ay 99 F rfl rfl rfl ?_
 refine ah ?_
 refine aw rfl rfl rfl rfl rfl (pI (j:=4) inferInstance inferInstance rfl (by omega) _ _ rfl) (fun _=>aV) ?_
 intro _
 refine ah ?_
 refine aa ?_;intros
 by_cases h2:¬b1 l 0/16=4
 ·rw[if_pos (Or.inl h2)]at e0
  rw[rB e0 (by decide),decide_eq_false (show ¬(b1 l 0:Int)/16=4 by omega)]
  refine aa ?_;intros
  exact ae (bu (rs:=[.cell 4 87,.tmp 5]) (v:= .agg (cT ff).toArray) (u:= .int .i64 ((3:Nat):Int)) (vs:=[]) rfl ⟨⟨_,rfl,aX.agg rfl⟩,rfl,trivial⟩ () rfl (U.sat (aV)))
 rw[decide_eq_true (show(b1 l 0:Int)/16=4 by omega)]
 by_cases h3:b1 l 0%16*4<20
 ·rw[if_pos (Or.inr h3)]at e0
  rw[rB e0 (by decide)]
  refine aa ?_;intros
  exact ae (bu (rs:=[.cell 4 87,.tmp 5]) (v:= .agg (cT ff).toArray) (u:= .int .i64 ((3:Nat):Int)) (vs:=[]) rfl ⟨⟨_,rfl,aX.agg rfl⟩,rfl,trivial⟩ () rfl (U.sat (aV)))
 rw[if_neg (fun g=>g.elim h2 h3)]at e0
 by_cases h4:l.length<b1 l 0%16*4
 ·rw[if_pos h4]at e0
  rw[rB e0 (by decide)]
  refine aa ?_;intros
  exact ae (bu (rs:=[.cell 4 87,.tmp 5]) (v:= .agg (cT ff).toArray) (u:= .int .i64 ((2:Nat):Int)) (vs:=[]) rfl ⟨⟨_,rfl,aX.agg rfl⟩,rfl,trivial⟩ () rfl (U.sat (aV)))
 rw[if_neg h4]at e0
 by_cases h5:w2 l 2<b1 l 0%16*4
 ·rw[if_pos (Or.inl h5)]at e0
  rw[rB e0 (by decide)]
  refine aa ?_;intros
  exact ae (bu (rs:=[.cell 4 87,.tmp 5]) (v:= .agg (cT ff).toArray) (u:= .int .i64 ((3:Nat):Int)) (vs:=[]) rfl ⟨⟨_,rfl,aX.agg rfl⟩,rfl,trivial⟩ () rfl (U.sat (aV)))
 cases hp:part
 case' true=>
  subst hp
  rw[if_neg (fun g=>g.elim h5 fun g=>by cases g.2),if_neg (fun g=>by cases g.2),if_neg (fun g=>by cases g.1)]at e0
  by_cases h6:w2 l 2>1500<;>by_cases h7:l.length<w2 l 2
  all_goals (refine aa ?_;intros)
 case' false=>
  subst hp
  by_cases h6:w2 l 2>1500
  ·rw[if_pos (Or.inr ⟨h6,rfl⟩)]at e0
   rw[rB e0 (by decide)]
   refine aa ?_;intros
   exact ae (bu (rs:=[.cell 4 87,.tmp 5]) (v:= .agg (cT ff).toArray) (u:= .int .i64 ((3:Nat):Int)) (vs:=[]) rfl ⟨⟨_,rfl,aX.agg rfl⟩,rfl,trivial⟩ () rfl (U.sat (aV)))
  rw[if_neg (fun g=>g.elim h5 fun g=>h6 g.1)]at e0
  by_cases h7:l.length<w2 l 2
  ·rw[if_pos ⟨h7,rfl⟩]at e0
   rw[rB e0 (by decide)]
   refine aa ?_;intros
   exact ae (bu (rs:=[.cell 4 87,.tmp 5]) (v:= .agg (cT ff).toArray) (u:= .int .i64 ((2:Nat):Int)) (vs:=[]) rfl ⟨⟨_,rfl,aX.agg rfl⟩,rfl,trivial⟩ () rfl (U.sat (aV)))
  rw[if_neg (fun g=>h7 g.1)]at e0
  have hc:=qf (l.take (b1 l 0%16*4))
  refine aa ?_;intros
  refine af rfl (BK inferInstance (by omega) (by omega)) ?_
  intro _
  by_cases h8:¬cY (l.take (b1 l 0%16*4))=0
  ·rw[if_pos ⟨rfl,h8⟩]at e0
   rw[rB e0 (by decide)]
   refine aa ?_;intros
   exact ae (bu (rs:=[.cell 4 87,.tmp 5]) (v:= .agg (cT ff).toArray) (u:= .int .i64 ((4:Nat):Int)) (vs:=[]) rfl ⟨⟨_,rfl,aX.agg rfl⟩,rfl,trivial⟩ () rfl (U.sat (aV)))
  rw[if_neg (fun g=>h8 g.2)]at e0
  refine aa ?_;intros
 all_goals
  refine af rfl (pI (j:=8) inferInstance inferInstance rfl (by omega) _ _ rfl) ?_
  intro _
  refine aa ?_;intros
  rw[UI (by omega)]
  by_cases h9:¬w2 l 6%16384=0
  ·rw[if_pos h9]at e0
   rw[rB e0 (by decide),decide_eq_false (show ¬((w2 l 6%16384:Nat):Int)=0 by omega)]
   refine aa ?_;intros
   exact ae (bu (rs:=[.cell 4 87,.tmp 5]) (v:= .agg (cT ff).toArray) (u:= .int .i64 ((5:Nat):Int)) (vs:=[]) rfl ⟨⟨_,rfl,aX.agg rfl⟩,rfl,trivial⟩ () rfl (U.sat (aV)))
  rw[if_neg (by omega)]at e0
  rw[mQ e0,e0,if_pos rfl,decide_eq_true (show((w2 l 6%16384:Nat):Int)=0 by omega)]
  have Tn:=dM l 8
  have To:=dM l 9
  have aez:=oR l 12
  have aeA:=oR l 16
  refine aa ?_;intros
  refine ay 19 F rfl rfl rfl ?_
  refine ah ?_
  refine aw rfl rfl rfl rfl rfl (Lz (j:=16) inferInstance inferInstance rfl (by omega) _ _ rfl) (fun _=>aV) ?_
  intro _
  refine ah ?_
  refine aw rfl rfl rfl rfl rfl (Lz (j:=20) inferInstance inferInstance rfl (by omega) _ _ rfl) (fun _=>aV) ?_
  intro _
  refine ah ?_
  refine bD ?_;intros
  refine aa ?_;intros
  exact ae (bu (rs:=[.cell 4 87,.tmp 5]) (v:= .agg (cT (bo l)).toArray) (u:= .int .i64 ((0:Nat):Int)) (vs:=[]) rfl ⟨⟨_,rfl,aX.agg rfl⟩,rfl,trivial⟩ () rfl (U.sat (aV)))
end
end
section
open Go.RowKit
set_option maxRecDepth 10000
attribute [local irreducible] EK EX ER EN EL ES EG an aR aU
variable {W:World} {F:SL} {X:Cx} {k:List KI} {σ:Env}
section
variable {p:Option Addr} {c i j:Nat} {l:List UInt8}
theorem Lk [s:Src W F p l.length (ar l)](h:2≤l.length):Spec Tryz.prog 189 [.slice p l.length c] W F (fun _:Unit=> .int .u16 (w2 l 0:Int)) (fun _=>F):=by
 refine Spec.of Tryz.func189 rfl Tryz.ntmps189 rfl ?_
 have h0:=dM l 0
 have h1:=dM l 1
 refine aa ?_;intros
 refine ay 99 F rfl rfl rfl ?_
 refine ah ?_
 refine aa ?_;intros
 exact ae (aj rfl rfl () (by rw[K7 h0 h1];rfl) (U.sat (aV)))
theorem uU (i:Nat)(s:Src W F p l.length (ar l))(r:Room W F p l.length c)(h:i+2≤l.length)(m:Nat):Spec Tryz.prog 189 [.slice (cZ p i c 1) (l.length-i) m] W F (fun _:Unit=> .int .u16 (w2 l i:Int)) (fun _=>F):=by
 haveI:=Src.low s r (i:=i) (by omega)
 have h1:=Lk (W:=W) (F:=F) (c:=m) (l:=l.drop i) (p:=cZ p i c 1) (by rw[List.length_drop];omega)
 rw[qO,List.length_drop,Nat.add_zero]at h1
 exact h1
theorem FB (q:Option Addr)(cc:Nat)(l:List UInt8)(n m:Nat)(hl:l.length≤100)(hm:m≤4)(hn:n<4294967296):Spec Tryz.prog 237 [.slice q l.length cc,.int .u32 (n:Int),.int .i64 (m:Int)] W (ad 5 1 q l.length cc (ar l)*F)
  (fun z:az=> .slice z.1 (l++eE n m).length z.2) (fun z=>ad 5 1 z.1 (l++eE n m).length z.2 (ar (l++eE n m))*F):=by
 refine Spec.of Tryz.func237 rfl Tryz.ntmps237 rfl ?_
 refine aa ?_;intros
 refine fy (γ:=Nat×az×List UInt8) (fun a=>a.1≤m∧a.2.2++eE n a.1=l++eE n m∧a.2.2.length≤104) (fun a=>[(0,.slice a.2.1.1 a.2.2.length a.2.1.2),(1,.int .u32 (n:Int)),(7,.int .i64 ((a.1:Int)-1))]) (fun a=>ad 5 1 a.2.1.1 a.2.2.length a.2.1.2 (ar a.2.2)*F) (fun a=>a.1)
  (m,(q,cc),l) ⟨Nat.le_refl _,rfl,by dsimp only;omega⟩ ⟨rfl,rfl,rfl,trivial⟩ (U.sat (U.refl _)) ?_
 intro ⟨t,z,o⟩ ⟨h1,h2,h3⟩;dsimp only at h1 h2 h3 ⊢
 match t,h1,h2 with
 |0,_,h2=>
  have e:o=l++eE n m:=by simpa[eE]using h2
  subst e
  refine aa ?_;intros
  exact ae (aj rfl rfl z rfl (U.sat (aV)))
 |t+1,h1,h2=>
  rw[show((t+1:Nat):Int)-1=(t:Int)by omega]
  refine aa ?_;intros
  rename_i z2
  refine cJ (t,z2,o++[u8 (n/256^t)]) ⟨by dsimp only;omega,by rw[List.append_assoc];exact h2,?_⟩ (by dsimp only;omega) ⟨by rw[List.length_append];rfl,rfl,rfl,trivial⟩ (U.sat ?_)
  ·have:=congrArg List.length h2
   rw[List.length_append,List.length_append,rb,rb]at this
   rw[List.length_append,List.length_singleton]
   omega
  dsimp only
  rw[List.length_append,List.length_singleton,QM,←Y1]
  exact aV
theorem Xn (n m:Nat)(hm:m≤4)(hn:n<4294967296):Spec Tryz.prog 237 [.slice none 0 0,.int .u32 (n:Int),.int .i64 (m:Int)] W F
  (fun z:az=> .slice z.1 (eE n m).length z.2) (fun z=>ad 5 1 z.1 (eE n m).length z.2 (ar (eE n m))*F):=fun w hs=>
 FB none 0 [] n m (by decide) hm hn w (ad.Wq _ _ hs)
theorem Lo [s:Src W F p l.length (ar l)](src dst proto:Nat)(h1:src<4294967296)(h2:dst<4294967296)(h3:proto<256)(hl:l.length≤65535):Spec Tryz.prog 190 [.int .u32 (src:Int),.int .u32 (dst:Int),.int .i64 (proto:Int),.slice p l.length c] W F (fun _:Unit=> .int .u16 (iy src dst proto l:Int)) (fun _=>F):=by
 refine Spec.of Tryz.func190 rfl Tryz.ntmps190 rfl ?_
 refine aa ?_;intros
 refine af rfl (Xn src 4 (by decide) h1) ?_
 intro z1
 refine aa ?_;intros
 refine af rfl (FB z1.1 z1.2 (eE src 4) dst 4 (by rw[rb];decide) (by decide) h2) ?_
 intro z2
 have l2:(eE src 4++eE dst 4).length=8:=by rw[List.length_append,rb,rb]
 refine aa ?_;intros
 rename_i z3
 have e3:(eE src 4++eE dst 4).length+2=(eE src 4++eE dst 4++[0,u8 proto]).length:=by simp[rb]
 have e4:ar (eE src 4++eE dst 4)++[Value.int IntKind.u8 0,Value.int IntKind.u8 (proto:Int)]=ar (eE src 4++eE dst 4++[0,u8 proto]):=by
  rw[QL (eE src 4++eE dst 4)]
  have:(u8 proto).toNat=proto:=by rw[r9];omega
  simp[ar,this]
 rw[e3,e4]
 refine af rfl (FB z3.1 z3.2 (eE src 4++eE dst 4++[0,u8 proto]) l.length 2 (by simp[rb]) (by decide) (by omega)) ?_
 intro z4
 have ea:eE src 4++eE dst 4++[0,u8 proto]++eE l.length 2=ahead src dst proto l.length:=rfl
 rw[ea]
 have hal:=HB src dst proto l.length
 refine aa ?_;intros
 refine af rfl (CK (n:=0) (by decide) z4.1 z4.2 (ahead src dst proto l.length) (by omega)) ?_
 intro _
 have hf:=ui (0+dx true (ahead src dst proto l.length))
 refine aa ?_;intros
 refine af rfl (CK (n:=dX (0+dx true (ahead src dst proto l.length))) (by omega) p c l (by omega)) ?_
 intro _
 have mR:=ui (dX (0+dx true (ahead src dst proto l.length))+dx true l)
 refine aa ?_;intros
 refine af rfl (De (n:=dX (dX (0+dx true (ahead src dst proto l.length))+dx true l)) (by omega)) ?_
 intro _
 refine aa ?_;intros
 exact ae (aj rfl rfl () (by rw[Xh]) (U.sat (aV)))
theorem BI [s:Src W F p l.length (ar l)][r:Room W F p l.length c](h:4≤l.length)(x:iq):Spec Tryz.prog 191 [.agg (bR x).toArray,.slice p l.length c] W F (fun _:Unit=> .agg (bR {x with sp:=w2 l 0,dp:=w2 l 2}).toArray) (fun _=>F):=by
 refine Spec.of Tryz.func191 rfl Tryz.ntmps191 rfl ?_
 refine aa ?_;intros
 rename_i x2 x4
 refine ay 8 (iS x2 112*F) rfl rfl rfl ?_
 refine ah ?_
 refine aw rfl rfl rfl rfl rfl (Lk (l:=l) (by omega)) (fun _=>aV) ?_
 intro _
 refine ah ?_
 refine aw rfl rfl rfl rfl rfl (uU (l:=l) 2 inferInstance inferInstance (by omega) _) (fun _=>aV) ?_
 intro _
 refine ah ?_
 refine bD ?_;intros
 refine aa ?_;intros
 exact ae (lQ (rv:= .cell 4 112) rfl ⟨_,rfl,aX.agg rfl⟩ () rfl (U.sat (aV)))
abbrev tq (x:iq)(e:Nat):Value:= .tuple #[.agg (bR x).toArray,.int .i64 (e:Int)]
theorem Y3 [s:Src W F p l.length (ar l)][r:Room W F p l.length c](hd:fL)(h1:hd.src<4294967296)(h2:hd.dst<4294967296)(hl:l.length≤65535):Spec Tryz.prog 152 [.agg (cT hd).toArray,.slice p l.length c] W F (fun _:Unit=>tq (if sb hd.src hd.dst l=0 then qN l else bG) (sb hd.src hd.dst l)) (fun _=>F):=by
 refine Spec.of Tryz.func152 rfl Tryz.ntmps152 rfl ?_
 have e0:sb hd.src hd.dst l=_:=rfl
 conv at e0=>rhs;unfold sb
 by_cases g1:l.length<8
 ·rw[if_pos g1]at e0
  rw[e0]
  refine aa ?_;intros
  exact ae (bu (rs:=[.cell 4 112,.tmp 5]) (v:= .agg (bR bG).toArray) (u:= .int .i64 ((2:Nat):Int)) (vs:=[]) rfl ⟨⟨_,rfl,aX.agg rfl⟩,rfl,trivial⟩ () rfl (U.sat (aV)))
 rw[if_neg g1]at e0
 refine aa ?_;intros
 refine af rfl (uU (l:=l) 4 inferInstance inferInstance (by omega) _) ?_
 intro _
 have w4':=dZ l 4
 have w6:=dZ l 6
 by_cases g2:w2 l 4=l.length
 ·rw[if_neg (fun g=>g g2)]at e0
  refine aa ?_;intros
  refine af rfl (uU (l:=l) 6 inferInstance inferInstance (by omega) _) ?_
  intro _
  by_cases g3:w2 l 6=0
  ·rw[if_neg (fun g=>g.1 g3)]at e0
   rw[e0,if_pos rfl,show qN l={bG with proto:=17,sp:=w2 l 0,dp:=w2 l 2,bare:=true}by unfold qN;rw[decide_eq_true g3]]
   refine aa ?_;intros
   refine af rfl (BI (l:=l) (by omega) {bG with proto:=17,bare:=true}) ?_
   intro _
   refine aa ?_;intros
   exact ae (bu (rs:=[.cell 4 112,.tmp 5]) (v:= .agg (bR {bG with proto:=17,sp:=w2 l 0,dp:=w2 l 2,bare:=true}).toArray) (u:= .int .i64 ((0:Nat):Int)) (vs:=[]) rfl ⟨⟨_,rfl,aX.agg rfl⟩,rfl,trivial⟩ () rfl (U.sat (aV)))
  ·have hp:=tj hd.src hd.dst 17 l
   refine aa ?_;intros
   refine af rfl (Lo (l:=l) hd.src hd.dst 17 h1 h2 (by decide) hl) ?_
   intro _
   by_cases g4:iy hd.src hd.dst 17 l=0
   ·rw[if_neg (fun g=>g.2 g4)]at e0
    rw[e0,if_pos rfl,show qN l={bG with proto:=17,sp:=w2 l 0,dp:=w2 l 2,bare:=false}by unfold qN;rw[decide_eq_false g3]]
    refine aa ?_;intros
    refine af rfl (BI (l:=l) (by omega) {bG with proto:=17,bare:=false}) ?_
    intro _
    refine aa ?_;intros
    exact ae (bu (rs:=[.cell 4 112,.tmp 5]) (v:= .agg (bR {bG with proto:=17,sp:=w2 l 0,dp:=w2 l 2,bare:=false}).toArray) (u:= .int .i64 ((0:Nat):Int)) (vs:=[]) rfl ⟨⟨_,rfl,aX.agg rfl⟩,rfl,trivial⟩ () rfl (U.sat (aV)))
   ·rw[if_pos ⟨g3,g4⟩]at e0
    rw[e0]
    refine aa ?_;intros
    exact ae (bu (rs:=[.cell 4 112,.tmp 5]) (v:= .agg (bR bG).toArray) (u:= .int .i64 ((4:Nat):Int)) (vs:=[]) rfl ⟨⟨_,rfl,aX.agg rfl⟩,rfl,trivial⟩ () rfl (U.sat (aV)))
 ·rw[if_pos g2]at e0
  rw[e0]
  refine aa ?_;intros
  exact ae (bu (rs:=[.cell 4 112,.tmp 5]) (v:= .agg (bR bG).toArray) (u:= .int .i64 ((3:Nat):Int)) (vs:=[]) rfl ⟨⟨_,rfl,aX.agg rfl⟩,rfl,trivial⟩ () rfl (U.sat (aV)))
theorem YF [s:Src W F p l.length (ar l)][r:Room W F p l.length c](hd:fL)(h1:hd.src<4294967296)(h2:hd.dst<4294967296)(hl:l.length≤65535):Spec Tryz.prog 153 [.agg (cT hd).toArray,.slice p l.length c] W F (fun _:Unit=>tq (if rY hd.src hd.dst l=0 then B8 l else bG) (rY hd.src hd.dst l)) (fun _=>F):=by
 refine Spec.of Tryz.func153 rfl Tryz.ntmps153 rfl ?_
 have e0:rY hd.src hd.dst l=_:=rfl
 conv at e0=>rhs;unfold rY
 by_cases g1:l.length<20
 ·rw[if_pos g1]at e0
  rw[e0]
  refine aa ?_;intros
  exact ae (bu (rs:=[.cell 4 112,.tmp 5]) (v:= .agg (bR bG).toArray) (u:= .int .i64 ((2:Nat):Int)) (vs:=[]) rfl ⟨⟨_,rfl,aX.agg rfl⟩,rfl,trivial⟩ () rfl (U.sat (aV)))
 rw[if_neg g1]at e0
 have Az:=dM l 12
 have e4:IntKind.i64.wrap (4*IntKind.i64.wrap ((b1 l 12:Int)/2^Int.toNat 4))=((b1 l 12/16*4:Nat):Int):=by
  rw[show(b1 l 12:Int)/2^Int.toNat 4=((b1 l 12/16:Nat):Int)from gO _ 4,cG.wrap (k:= .i64) (z:=((b1 l 12/16:Nat):Int)) (by simp only[cG];omega),cG.wrap (k:= .i64) (by simp only[cG];omega)]
  omega
 refine aa ?_;intros
 rw[e4]
 by_cases g2:b1 l 12/16*4<20
 ·rw[if_pos (Or.inl g2)]at e0
  rw[e0,decide_eq_true (show((b1 l 12/16*4:Nat):Int)<20 by omega)]
  refine aa ?_;intros
  exact ae (bu (rs:=[.cell 4 112,.tmp 5]) (v:= .agg (bR bG).toArray) (u:= .int .i64 ((3:Nat):Int)) (vs:=[]) rfl ⟨⟨_,rfl,aX.agg rfl⟩,rfl,trivial⟩ () rfl (U.sat (aV)))
 rw[decide_eq_false (show ¬((b1 l 12/16*4:Nat):Int)<20 by omega)]
 by_cases g3:b1 l 12/16*4>l.length
 ·rw[if_pos (Or.inr g3)]at e0
  rw[e0]
  refine aa ?_;intros
  exact ae (bu (rs:=[.cell 4 112,.tmp 5]) (v:= .agg (bR bG).toArray) (u:= .int .i64 ((3:Nat):Int)) (vs:=[]) rfl ⟨⟨_,rfl,aX.agg rfl⟩,rfl,trivial⟩ () rfl (U.sat (aV)))
 rw[if_neg (fun g=>g.elim g2 g3)]at e0
 have hp:=tj hd.src hd.dst 6 l
 refine aa ?_;intros
 refine af rfl (Lo (l:=l) hd.src hd.dst 6 h1 h2 (by decide) hl) ?_
 intro _
 by_cases g4:iy hd.src hd.dst 6 l=0
 ·rw[if_neg (fun g=>g g4)]at e0
  rw[e0,if_pos rfl]
  have sU:=dM l 13
  refine aa ?_;intros
  refine af rfl (BI (l:=l) (by omega) {bG with proto:=6,flags:=b1 l 13}) ?_
  intro _
  refine aa ?_;intros
  exact ae (bu (rs:=[.cell 4 112,.tmp 5]) (v:= .agg (bR (B8 l)).toArray) (u:= .int .i64 ((0:Nat):Int)) (vs:=[]) rfl ⟨⟨_,rfl,aX.agg rfl⟩,rfl,trivial⟩ () rfl (U.sat (aV)))
 ·rw[if_pos g4]at e0
  rw[e0]
  refine aa ?_;intros
  exact ae (bu (rs:=[.cell 4 112,.tmp 5]) (v:= .agg (bR bG).toArray) (u:= .int .i64 ((4:Nat):Int)) (vs:=[]) rfl ⟨⟨_,rfl,aX.agg rfl⟩,rfl,trivial⟩ () rfl (U.sat (aV)))
abbrev UK (k c:Nat):List Value:=[.int .i64 1,.int .u16 0,.int .u16 0,.int .i64 0,.int .i64 (k:Int),.int .i64 (c:Int),.bool false,.int .i64 0,.int .i64 0,.int .i64 0,.int .i64 0,.int .u32 0,.int .u32 0,.int .i64 0,.bool false]
def Kb (kind code:Nat):iq:={bG with proto:=1,kind:=kind,code:=code}
set_option maxHeartbeats 1000000 in
theorem Se [s:Src W F p l.length (ar l)][r:Room W F p l.length c](hd:fL)(kind code:Nat)(hs:hd.size≤60)(hl:l.length≤65535):Spec Tryz.prog 192 [.agg (bR (Kb kind code)).toArray,.agg (cT hd).toArray,.slice p l.length c] W F (fun _:Unit=>tq (if qk l=0 then rn kind code hd.size l else bG) (qk l)) (fun _=>F):=by
 refine Spec.of Tryz.func192 rfl Tryz.ntmps192 rfl ?_
 have e0:qk l=_:=rfl
 conv at e0=>rhs;unfold qk
 refine aa ?_;intros
 refine af rfl (Th (by omega)) ?_
 intro _
 by_cases Ar:dP true l≠0
 ·rw[if_pos Ar]at e0
  rw[e0,if_neg Ar,mQ (rfl:dP true l=_),if_neg Ar]
  refine aa ?_;intros
  exact ae (bu (rs:=[.cell 6 112,.tmp 7]) (v:= .agg (bR bG).toArray) (u:= .int .i64 ((dP true l:Nat):Int)) (vs:=[]) rfl ⟨⟨_,rfl,aX.agg rfl⟩,rfl,trivial⟩ () rfl (U.sat (aV)))
 rw[if_neg Ar]at e0
 have g1:dP true l=0:=by omega
 obtain⟨k1,k2,k3,k4,_,k6⟩:=yb g1
 rw[k6,g1]
 have eF:rn kind code hd.size l={bG with proto:=1,kind:=kind,code:=code,err:=true,inner:=bo l,pos:=hd.size+8,sp:=if(bo l).proto=1 then w2 l ((bo l).size+4)else w2 l (bo l).size,dp:=if(bo l).proto=1 then w2 l ((bo l).size+4)else w2 l ((bo l).size+2)}:=rfl
 obtain⟨hi,f0⟩:∃x,bo l=x:=⟨_,rfl⟩
 have JV:hi.proto<256:=by rw[←f0];exact dM l 9
 have hlen:hi.len<65536:=by rw[←f0];exact dZ l 2
 rw[f0]at e0 eF k1 k2 k3 k4 ⊢
 refine aa ?_;intros
 rename_i x3 x4 x6 _ _ x8
 have ey:l.length-hi.size=(l.drop hi.size).length:=by rw[List.length_drop]
 have y0:=xv l hi.size 0
 have y1:=qO l hi.size 0
 have y2:=qO l hi.size 2
 have y4:=qO l hi.size 4
 haveI sy:=Src.low s r k3
 haveI ry:=Room.low (i:=hi.size) r
 obtain⟨y,hy⟩:∃y,l.drop hi.size=y:=⟨_,rfl⟩
 rw[hy]at ey y0 y1 y2 y4 sy ry
 rw[Nat.add_zero]at y0 y1
 rw[←y1,←y2,←y4]at eF
 rw[ey,←y0]at e0
 rw[ey]
 obtain⟨q,hq⟩:∃q,cZ p hi.size c 1=q:=⟨_,rfl⟩
 obtain⟨cc,pg⟩:∃cc,c-hi.size=cc:=⟨_,rfl⟩
 rw[hq,pg]at ry
 rw[hq]at sy
 rw[hq,pg]
 haveI:=sy
 haveI:=ry
 by_cases g2:y.length<8
 ·rw[if_pos (Or.inl g2)]at e0
  rw[e0,decide_eq_true (show((y.length:Nat):Int)<8 by omega)]
  refine aa ?_;intros
  exact ae (bu (rs:=[.cell 6 112,.tmp 7]) (v:= .agg (bR bG).toArray) (u:= .int .i64 ((3:Nat):Int)) (vs:=[]) rfl ⟨⟨_,rfl,aX.agg rfl⟩,rfl,trivial⟩ () rfl (U.sat (aV)))
 rw[decide_eq_false (show ¬((y.length:Nat):Int)<8 by omega)]
 by_cases g3:hi.len<hi.size+8
 ·rw[if_pos (Or.inr g3)]at e0
  rw[e0]
  refine aa ?_;intros
  exact ae (bu (rs:=[.cell 6 112,.tmp 7]) (v:= .agg (bR bG).toArray) (u:= .int .i64 ((3:Nat):Int)) (vs:=[]) rfl ⟨⟨_,rfl,aX.agg rfl⟩,rfl,trivial⟩ () rfl (U.sat (aV)))
 rw[if_neg (fun g=>g.elim g2 g3)]at e0
 have DM:=dM y 0
 have Bb:=dZ y 4
 refine aa ?_;intros
 refine ay 9 (Obj x8 110 (cT hi)*(Obj x4 110 (cT hd)*(iS x3 112*F))) rfl rfl rfl ?_
 refine ah ?_
 refine bD ?_;intros
 by_cases g4:hi.proto=17∨hi.proto=6
 ·rw[if_pos g4]at e0
  rw[e0,if_pos rfl,eF,if_neg (by omega),if_neg (by omega)]
  rcases g4 with g4|g4
  all_goals
   refine aa ?_;intros
   refine af rfl (BI (l:=y) (by omega) {bG with proto:=1,kind:=kind,code:=code,err:=true,inner:=hi,pos:=hd.size+8,sp:=0,dp:=0}) ?_
   intro _
   refine aa ?_;intros
   exact ae (bu (rs:=[.cell 6 112,.tmp 7]) (v:= .agg (bR {bG with proto:=1,kind:=kind,code:=code,err:=true,inner:=hi,pos:=hd.size+8,sp:=w2 y 0,dp:=w2 y 2}).toArray) (u:= .int .i64 ((0:Nat):Int)) (vs:=[]) rfl ⟨⟨_,rfl,aX.agg rfl⟩,rfl,trivial⟩ () rfl (U.sat (aV)))
 rw[if_neg g4]at e0
 by_cases g5:¬(hi.proto=1)
 ·rw[if_neg (fun g=>g5 g.1)]at e0
  rw[e0]
  refine aa ?_;intros
  exact ae (bu (rs:=[.cell 6 112,.tmp 7]) (v:= .agg (bR bG).toArray) (u:= .int .i64 ((6:Nat):Int)) (vs:=[]) rfl ⟨⟨_,rfl,aX.agg rfl⟩,rfl,trivial⟩ () rfl (U.sat (aV)))
 have g5:=Decidable.not_not.1 g5
 by_cases g6:¬(b1 y 0=0∨b1 y 0=8)
 ·rw[if_neg (fun g=>g6 g.2)]at e0
  rw[e0]
  refine aa ?_;intros
  exact ae (bu (rs:=[.cell 6 112,.tmp 7]) (v:= .agg (bR bG).toArray) (u:= .int .i64 ((6:Nat):Int)) (vs:=[]) rfl ⟨⟨_,rfl,aX.agg rfl⟩,rfl,trivial⟩ () rfl (U.sat (aV)))
 have g6:=Decidable.not_not.1 g6
 rw[if_pos ⟨g5,g6⟩]at e0
 rw[e0,if_pos rfl,eF,if_pos g5,if_pos g5]
 rcases g6 with g6|g6
 all_goals
  refine aa ?_;intros
  refine ay 9 (iS x3 112*F) rfl rfl rfl ?_
  refine ah ?_
  refine aw rfl rfl rfl rfl rfl (uU (l:=y) 4 inferInstance inferInstance (by omega) _) (fun _=>aV) ?_
  intro _
  refine ah ?_
  refine aw rfl rfl rfl rfl rfl (uU (l:=y) 4 inferInstance inferInstance (by omega) _) (fun _=>aV) ?_
  intro _
  refine ah ?_
  refine bD ?_;intros
  refine aa ?_;intros
  exact ae (bu (rs:=[.cell 6 112,.tmp 7]) (v:= .agg (bR {bG with proto:=1,kind:=kind,code:=code,err:=true,inner:=hi,pos:=hd.size+8,sp:=w2 y 4,dp:=w2 y 4}).toArray) (u:= .int .i64 ((0:Nat):Int)) (vs:=[]) rfl ⟨⟨_,rfl,aX.agg rfl⟩,rfl,trivial⟩ () rfl (U.sat (aV)))
theorem Sd (i:Nat)(s:Src W F p l.length (ar l))(r:Room W F p l.length c)(hi:i≤l.length)(hd:fL)(kind code:Nat)(hs:hd.size≤60)(hl:l.length≤65535):Spec Tryz.prog 192 [.agg (bR (Kb kind code)).toArray,.agg (cT hd).toArray,.slice (cZ p i c 1) (l.length-i) (c-i)] W F (fun _:Unit=>tq (if qk (l.drop i)=0 then rn kind code hd.size (l.drop i)else bG) (qk (l.drop i))) (fun _=>F):=by
 haveI:=Src.low s r hi
 haveI:=Room.low (i:=i) r
 have h:=Se (W:=W) (F:=F) (p:=cZ p i c 1) (c:=c-i) (l:=l.drop i) hd kind code hs (by rw[List.length_drop];omega)
 rwa[List.length_drop]at h
theorem Ix {k:Nat}(h:¬vH k):k≠3∧k≠11∧k≠12:=⟨fun g=>h (.inl g),fun g=>h (.inr (.inl g)),fun g=>h (.inr (.inr g))⟩
set_option maxHeartbeats 1000000 in
theorem UL [s:Src W F p l.length (ar l)][r:Room W F p l.length c](hd:fL)(hs:hd.size≤60)(hl:l.length≤65535):Spec Tryz.prog 154 [.agg (cT hd).toArray,.slice p l.length c] W F (fun _:Unit=>tq (if oG l=0 then rM hd.size l else bG) (oG l)) (fun _=>F):=by
 refine Spec.of Tryz.func154 rfl Tryz.ntmps154 rfl ?_
 have e0:oG l=_:=rfl
 conv at e0=>rhs;unfold oG
 by_cases g1:l.length<8
 ·rw[if_pos g1]at e0
  rw[e0]
  refine aa ?_;intros
  exact ae (bu (rs:=[.cell 4 112,.tmp 5]) (v:= .agg (bR bG).toArray) (u:= .int .i64 ((2:Nat):Int)) (vs:=[]) rfl ⟨⟨_,rfl,aX.agg rfl⟩,rfl,trivial⟩ () rfl (U.sat (aV)))
 rw[if_neg g1]at e0
 have hc:=qf l
 refine aa ?_;intros
 refine af rfl (CP p c l (by omega)) ?_
 intro _
 by_cases g2:cY l≠0
 ·rw[if_pos g2]at e0
  rw[e0]
  refine aa ?_;intros
  exact ae (bu (rs:=[.cell 4 112,.tmp 5]) (v:= .agg (bR bG).toArray) (u:= .int .i64 ((4:Nat):Int)) (vs:=[]) rfl ⟨⟨_,rfl,aX.agg rfl⟩,rfl,trivial⟩ () rfl (U.sat (aV)))
 rw[if_neg g2]at e0
 have DM:=dM l 0
 have iV:=dM l 1
 refine aa ?_;intros
 rename_i x2 x4 _
 refine ay 10 F rfl rfl rfl ?_
 refine ah ?_
 refine bD ?_;intros
 rename_i x6
 by_cases g3:b1 l 0=0∨b1 l 0=8
 ·rw[if_pos g3]at e0
  by_cases g4:b1 l 1≠0
  ·rw[if_pos g4]at e0
   rw[e0]
   rcases g3 with g3|g3
   all_goals
    refine aa ?_;intros
    exact ae (bu (rs:=[.cell 4 112,.tmp 5]) (v:= .agg (bR bG).toArray) (u:= .int .i64 ((3:Nat):Int)) (vs:=[]) rfl ⟨⟨_,rfl,aX.agg rfl⟩,rfl,trivial⟩ () rfl (U.sat (aV)))
  rw[if_neg g4]at e0
  have DC:b1 l 1=0:=by omega
  rw[e0,if_pos rfl,show rM hd.size l={bG with proto:=1,kind:=b1 l 0,code:=0,sp:=w2 l 4,dp:=w2 l 4}from if_pos g3,DC]
  have Bb:=dZ l 4
  rcases g3 with g3|g3
  all_goals
   refine aa ?_;intros
   refine ay 9 (iS x6 112*F) rfl rfl rfl ?_
   refine ah ?_
   refine aw rfl rfl rfl rfl rfl (uU (l:=l) 4 inferInstance inferInstance (by omega) _) (fun _=>aV) ?_
   intro _
   refine ah ?_
   refine aw rfl rfl rfl rfl rfl (uU (l:=l) 4 inferInstance inferInstance (by omega) _) (fun _=>aV) ?_
   intro _
   refine ah ?_
   refine bD ?_;intros
   refine aa ?_;intros
   exact ae (bu (rs:=[.cell 4 112,.tmp 5]) (v:= .agg (bR {bG with proto:=1,kind:=b1 l 0,code:=0,sp:=w2 l 4,dp:=w2 l 4}).toArray) (u:= .int .i64 ((0:Nat):Int)) (vs:=[]) rfl ⟨⟨_,rfl,aX.agg rfl⟩,rfl,trivial⟩ () rfl (U.sat (aV)))
 rw[if_neg g3]at e0
 have SI:b1 l 0≠0:=fun g=>g3 (.inl g)
 have SJ:b1 l 0≠8:=fun g=>g3 (.inr g)
 by_cases g5:vH (b1 l 0)
 ·rw[if_pos g5]at e0
  rw[e0,show rM hd.size l=rn (b1 l 0) (b1 l 1) hd.size (l.drop 8)from if_neg g3]
  rcases g5 with g5|g5|g5
  all_goals
   refine aa ?_;intros
   refine ay 7 (Obj x6 112 (UK (b1 l 0) (b1 l 1))*(Obj x2 110 (cT hd)*F)) rfl rfl rfl ?_
   refine ah ?_
   refine aw rfl rfl rfl rfl rfl (Sd (l:=l) 8 inferInstance inferInstance (by omega) hd (b1 l 0) (b1 l 1) hs hl) (fun _=>aV) ?_
   intro _
   refine ah ?_
   refine bD ?_;intros
   refine aa ?_;intros
   exact ae (bu (rs:=[.cell 4 112,.tmp 5]) (v:= .agg (bR _).toArray) (u:= .int .i64 ((qk (l.drop 8):Nat):Int)) (vs:=[]) rfl ⟨⟨_,rfl,aX.agg rfl⟩,rfl,trivial⟩ () rfl (U.sat (aV)))
 obtain⟨g6,g7,g8⟩:=Ix g5
 rw[if_neg g5]at e0
 rw[e0]
 refine aa ?_;intros
 exact ae (bu (rs:=[.cell 4 112,.tmp 5]) (v:= .agg (bR bG).toArray) (u:= .int .i64 ((6:Nat):Int)) (vs:=[]) rfl ⟨⟨_,rfl,aX.agg rfl⟩,rfl,trivial⟩ () rfl (U.sat (aV)))
def pV (hd:fL)(n:Nat):Prop:=20≤hd.size∧hd.size≤60∧hd.size≤hd.len∧hd.len≤n∧hd.len≤1500∧hd.src<4294967296∧hd.dst<4294967296∧hd.proto<256
theorem pV.of {l:List UInt8}(h:dP false l=0):pV (bo l) l.length:=by
 obtain⟨h1,h2,h3,h4,h5,_⟩:=yb h
 obtain⟨h6,h7⟩:=h5 rfl
 exact⟨h1,h2,h4,h7,h6,oR l 12,oR l 16,dM l 9⟩
theorem xA (hd:fL)(l:List UInt8):o6 hd l=gu l hd.size hd.len:=rfl
set_option maxHeartbeats 1000000 in
theorem Fv [s:Src W F p l.length (ar l)][r:Room W F p l.length c](hd:fL)(h:pV hd l.length):Spec Tryz.prog 104 [.agg (cT hd).toArray,.slice p l.length c] W F (fun _:Unit=>tq (pH hd l) (j9 hd l)) (fun _=>F):=by
 refine Spec.of Tryz.func104 rfl Tryz.ntmps104 rfl ?_
 obtain⟨h1,h2,h3,h4,h5,h6,h7,h8⟩:=h
 have e0:j9 hd l=_:=rfl
 conv at e0=>rhs;unfold j9
 haveI sy:=Src.cut s r h3 h4
 haveI ry:=Room.cut (i:=hd.size) r h4
 have ey:=jj l (i:=hd.size) h4
 rw[xA]at e0
 have eP:nT hd l=_:=rfl
 conv at eP=>rhs;unfold nT
 rw[xA]at eP
 obtain⟨y,hy⟩:∃y,gu l hd.size hd.len=y:=⟨_,rfl⟩
 rw[hy]at sy ry ey e0 eP
 unfold pH
 by_cases g1:hd.proto=17
 ·rw[if_pos g1]at e0 eP
  rw[e0,eP]
  refine aa ?_;intros
  rw[←ey]
  refine af rfl (Y3 (l:=y) hd h6 h7 (by omega)) ?_
  intro _
  refine aa ?_;intros
  exact ae (bu (rs:=[.cell 4 112,.tmp 5]) (v:= .agg (bR _).toArray) (u:= .int .i64 (sb hd.src hd.dst y:Int)) (vs:=[]) rfl ⟨⟨_,rfl,aX.agg rfl⟩,rfl,trivial⟩ () rfl (U.sat (aV)))
 rw[if_neg g1]at e0 eP
 by_cases g2:hd.proto=6
 ·rw[if_pos g2]at e0 eP
  rw[e0,eP]
  refine aa ?_;intros
  rw[←ey]
  refine af rfl (YF (l:=y) hd h6 h7 (by omega)) ?_
  intro _
  refine aa ?_;intros
  exact ae (bu (rs:=[.cell 4 112,.tmp 5]) (v:= .agg (bR _).toArray) (u:= .int .i64 (rY hd.src hd.dst y:Int)) (vs:=[]) rfl ⟨⟨_,rfl,aX.agg rfl⟩,rfl,trivial⟩ () rfl (U.sat (aV)))
 rw[if_neg g2]at e0 eP
 by_cases g3:hd.proto=1
 ·rw[if_pos g3]at e0
  rw[e0,eP]
  refine aa ?_;intros
  rw[←ey]
  refine af rfl (UL (l:=y) hd h2 (by omega)) ?_
  intro _
  refine aa ?_;intros
  exact ae (bu (rs:=[.cell 4 112,.tmp 5]) (v:= .agg (bR _).toArray) (u:= .int .i64 (oG y:Int)) (vs:=[]) rfl ⟨⟨_,rfl,aX.agg rfl⟩,rfl,trivial⟩ () rfl (U.sat (aV)))
 rw[if_neg g3]at e0
 rw[e0]
 refine aa ?_;intros
 exact ae (bu (rs:=[.cell 4 112,.tmp 5]) (v:= .agg (bR bG).toArray) (u:= .int .i64 ((6:Nat):Int)) (vs:=[]) rfl ⟨⟨_,rfl,aX.agg rfl⟩,rfl,trivial⟩ () rfl (U.sat (aV)))
end
end
section
open Go.RowKit
set_option maxRecDepth 10000
attribute [local irreducible] EK EX ER EN EL ES EG an aR aU
variable {W:World} {F:SL} {X:Cx} {k:List KI} {σ:Env}
theorem vz (n:Nat):(mI n).length=4:=rfl
theorem vy (n:Nat):(ji n).length=2:=rfl
attribute [local simp] mJ vz vy
section
variable {p:Option Addr} {c i j:Nat} {l:List UInt8}
theorem yY (s:Src W F p l.length (ar l))(h:2≤l.length)(m:Nat):Spec Tryz.prog 63 [.slice p 2 m] W F (fun _:Unit=> .int .i64 (w2 l 0:Int)) (fun _=>F):=by
 haveI:=Src.pre s h
 have hl:(l.take 2).length=2:=by rw[List.length_take,Nat.min_eq_left h]
 have:=FE (W:=W) (F:=F) p m (l.take 2) (by omega)
 rw[hl,Fk]at this
 have e:w2 (l.take 2) 0=w2 l 0:=by
  have:=zl l (i:=0) (j:=2) (k:=0) (by decide)
  simpa[gu]using this
 rwa[e]at this
theorem dG (n:Nat):IntKind.u8.wrap (n:Int)=(((u8 n).toNat:Nat):Int):=by
 rw[r9,IntKind.wrap_u8]
 omega
theorem MC (n:Nat):Spec Tryz.prog 96 [.int .u32 (n:Int)] W F (fun q:Option Addr=> .slice q 4 4) (fun q=>ad 5 1 q 4 4 (ar (mI n))*F):=by
 refine Spec.of Tryz.func96 rfl Tryz.ntmps96 rfl ?_
 refine aa ?_;intros
 rename_i q
 refine ae (aj rfl rfl q rfl (U.sat ?_))
 rw[show(n:Int)/2^Int.toNat 24=((n/16777216:Nat):Int)from gO n 24,show(n:Int)/2^Int.toNat 16=((n/65536:Nat):Int)from gO n 16,show(n:Int)/2^Int.toNat 8=((n/256:Nat):Int)from gO n 8,dG,dG,dG,dG]
 exact U.refl _
theorem wK (n:Nat):Spec Tryz.prog 97 [.int .i64 (n:Int)] W F (fun q:Option Addr=> .slice q 2 2) (fun q=>ad 5 1 q 2 2 (ar (ji n))*F):=by
 refine Spec.of Tryz.func97 rfl Tryz.ntmps97 rfl ?_
 refine aa ?_;intros
 rename_i q
 refine ae (aj rfl rfl q rfl (U.sat ?_))
 rw[show(n:Int)/2^Int.toNat 8=((n/256:Nat):Int)from gO n 8,dG,dG]
 exact U.refl _
theorem rT [s:Src W F p l.length (ar l)](src dst proto:Nat)(h3:proto<256)(hl:l.length≤65535):Spec Tryz.prog 65 [.int .u32 (src:Int),.int .u32 (dst:Int),.int .i64 (proto:Int),.slice p l.length c] W F (fun _:Unit=> .int .u16 (iy src dst proto l:Int)) (fun _=>F):=by
 refine Spec.of Tryz.func65 rfl Tryz.ntmps65 rfl ?_
 refine aa ?_;intros
 refine af rfl (MC src) ?_
 intro q1
 refine aa ?_;intros
 refine af rfl (MC dst) ?_
 intro q2
 refine aa ?_;intros
 refine af rfl (wK l.length) ?_
 intro q3
 refine aa ?_;intros
 rename_i z
 have e3:4+4+2+2+l.length=(mI src++mI dst++[0,u8 proto]++ji l.length++l).length:=by simp;omega
 have e4:ar (mI src)++ar (mI dst)++[Value.int IntKind.u8 0,Value.int IntKind.u8 (proto:Int)]++ar (ji l.length)++ar l=ar (mI src++mI dst++[0,u8 proto]++ji l.length++l):=by
  have:(u8 proto).toNat=proto:=by rw[r9];omega
  simp[ar,this]
 rw[e3,e4]
 refine af rfl (yZ z.1 z.2 _ (by simp;omega)) ?_
 intro _
 refine aa ?_;intros
 exact ae (aj rfl rfl () rfl (U.sat (aV)))
theorem Xp (i:Nat)(part:Bool)(hl:l.length≤140737488355328)(s:Src W F p l.length (ar l))(r:Room W F p l.length c)(hi:i≤l.length):Spec Tryz.prog 30 [.slice (cZ p i c 1) (l.length-i) (c-i),.bool part] W F (fun _:Unit=>tn (mj part (l.drop i)) (dP part (l.drop i))) (fun _=>F):=by
 haveI:=Src.low s r hi
 haveI:=Room.low (i:=i) r
 have h:=FC (W:=W) (F:=F) (p:=cZ p i c 1) (c:=c-i) (l:=l.drop i) part (by rw[List.length_drop];omega)
 rwa[List.length_drop]at h
set_option maxHeartbeats 1000000 in
theorem Xz [s:Src W F p l.length (ar l)][r:Room W F p l.length c](pr:Int)(Ue:pr=1)(hd:fL)(hs:hd.size≤60)(hl:l.length≤65535):Spec Tryz.prog 66 [.agg #[.int .i64 pr,.int .u16 0,.int .u16 0,.int .i64 0,.int .i64 0,.int .i64 0,.bool false,.int .i64 0,.int .i64 0,.int .i64 0,.int .i64 0,.int .u32 0,.int .u32 0,.int .i64 0,.bool false],.agg (cT hd).toArray,.slice p l.length c] W F (fun _:Unit=>tq (if oG l=0 then rM hd.size l else bG) (oG l)) (fun _=>F):=by
 refine Spec.of Tryz.func66 rfl Tryz.ntmps66 rfl ?_
 subst Ue
 have e0:oG l=_:=rfl
 conv at e0=>rhs;unfold oG
 by_cases g1:l.length<8
 ·rw[if_pos g1]at e0
  rw[e0]
  refine aa ?_;intros
  exact ae (bu (rs:=[.cell 6 93,.tmp 7]) (v:= .agg (bR bG).toArray) (u:= .int .i64 ((2:Nat):Int)) (vs:=[]) rfl ⟨⟨_,rfl,aX.agg rfl⟩,rfl,trivial⟩ () rfl (U.sat (aV)))
 rw[if_neg g1]at e0
 have hc:=qf l
 refine aa ?_;intros
 refine af rfl (yZ p c l (by omega)) ?_
 intro _
 by_cases g2:cY l≠0
 ·rw[if_pos g2]at e0
  rw[e0]
  refine aa ?_;intros
  exact ae (bu (rs:=[.cell 6 93,.tmp 7]) (v:= .agg (bR bG).toArray) (u:= .int .i64 ((4:Nat):Int)) (vs:=[]) rfl ⟨⟨_,rfl,aX.agg rfl⟩,rfl,trivial⟩ () rfl (U.sat (aV)))
 rw[if_neg g2]at e0
 have DM:=dM l 0
 have iV:=dM l 1
 have Bb:=dZ l 4
 refine aa ?_;intros
 rename_i x3 x4 x6 _
 refine ay 11 (iS x3 93*F) rfl rfl rfl ?_
 refine ah ?_
 refine bD ?_;intros
 refine aa ?_;intros
 refine af rfl (pI (j:=6) inferInstance inferInstance rfl (by omega) _ _ rfl) ?_
 intro _
 by_cases g3:b1 l 0=0∨b1 l 0=8
 ·rw[if_pos g3]at e0
  by_cases g4:b1 l 1≠0
  ·rw[if_pos g4]at e0
   rw[e0]
   rcases g3 with g3|g3
   all_goals
    refine aa ?_;intros
    exact ae (bu (rs:=[.cell 6 93,.tmp 7]) (v:= .agg (bR bG).toArray) (u:= .int .i64 ((3:Nat):Int)) (vs:=[]) rfl ⟨⟨_,rfl,aX.agg rfl⟩,rfl,trivial⟩ () rfl (U.sat (aV)))
  rw[if_neg g4]at e0
  have DC:b1 l 1=0:=by omega
  rw[e0,if_pos rfl,show rM hd.size l={bG with proto:=1,kind:=b1 l 0,code:=0,sp:=w2 l 4,dp:=w2 l 4}from if_pos g3,DC]
  rcases g3 with g3|g3
  all_goals
   refine aa ?_;intros
   exact ae (bu (rs:=[.cell 6 93,.tmp 7]) (v:= .agg (bR {bG with proto:=1,kind:=b1 l 0,code:=0,sp:=w2 l 4,dp:=w2 l 4}).toArray) (u:= .int .i64 ((0:Nat):Int)) (vs:=[]) rfl ⟨⟨_,rfl,aX.agg rfl⟩,rfl,trivial⟩ () rfl (U.sat (aV)))
 rw[if_neg g3]at e0
 have SI:b1 l 0≠0:=fun g=>g3 (.inl g)
 have SJ:b1 l 0≠8:=fun g=>g3 (.inr g)
 by_cases g5:vH (b1 l 0)
 ·rw[if_pos g5]at e0
  have eI:rM hd.size l=rn (b1 l 0) (b1 l 1) hd.size (l.drop 8):=if_neg g3
  conv at e0=>rhs;unfold qk
  rcases g5 with g5|g5|g5
  all_goals
   refine aa ?_;intros
   refine af rfl (Xp 8 true (by omega) inferInstance inferInstance (by omega)) ?_
   intro _
   by_cases k0:dP true (l.drop 8)≠0
   ·rw[if_pos k0]at e0
    rw[e0,if_neg k0,mQ (rfl:dP true (l.drop 8)=_),if_neg k0]
    refine aa ?_;intros
    exact ae (bu (rs:=[.cell 6 93,.tmp 7]) (v:= .agg (bR bG).toArray) (u:= .int .i64 ((dP true (l.drop 8):Nat):Int)) (vs:=[]) rfl ⟨⟨_,rfl,aX.agg rfl⟩,rfl,trivial⟩ () rfl (U.sat (aV)))
   rw[if_neg k0]at e0
   have Kg:dP true (l.drop 8)=0:=by omega
   obtain⟨k1,k2,k3,k4,k5,k6⟩:=yb Kg
   rw[k6,Kg]
   have eF:rn (b1 l 0) (b1 l 1) hd.size (l.drop 8)={bG with proto:=1,kind:=b1 l 0,code:=b1 l 1,err:=true,inner:=bo (l.drop 8),pos:=hd.size+8,sp:=if(bo (l.drop 8)).proto=1 then w2 (l.drop 8) ((bo (l.drop 8)).size+4)else w2 (l.drop 8) (bo (l.drop 8)).size,dp:=if(bo (l.drop 8)).proto=1 then w2 (l.drop 8) ((bo (l.drop 8)).size+4)else w2 (l.drop 8) ((bo (l.drop 8)).size+2)}:=rfl
   have JV:(bo (l.drop 8)).proto<256:=dM (l.drop 8) 9
   have hlen:(bo (l.drop 8)).len<65536:=dZ (l.drop 8) 2
   obtain⟨hi,f0⟩:∃x,bo (l.drop 8)=x:=⟨_,rfl⟩
   rw[f0]at e0 eF k1 k2 k3 k4 JV hlen ⊢
   have ld:(l.drop 8).length=l.length-8:=by rw[List.length_drop]
   rw[ld]at k3 e0
   have kk:8+hi.size≤l.length:=by omega
   have ey:l.length-(8+hi.size)=(l.drop (8+hi.size)).length:=by rw[List.length_drop]
   have y0:b1 (l.drop 8) hi.size=b1 (l.drop (8+hi.size)) 0:=by rw[xv,xv,Nat.add_zero]
   have y1:w2 (l.drop 8) hi.size=w2 (l.drop (8+hi.size)) 0:=by rw[qO,qO,Nat.add_zero]
   have y2:w2 (l.drop 8) (hi.size+2)=w2 (l.drop (8+hi.size)) 2:=by rw[qO,qO,Nat.add_assoc]
   have y4:w2 (l.drop 8) (hi.size+4)=w2 (l.drop (8+hi.size)) 4:=by rw[qO,qO,Nat.add_assoc]
   haveI sy:=Src.low s r kk
   haveI ry:=Room.low (i:=8+hi.size) r
   obtain⟨y,hy⟩:∃y,l.drop (8+hi.size)=y:=⟨_,rfl⟩
   rw[hy]at ey y0 y1 y2 y4 sy ry
   rw[y1,y2,y4]at eF
   rw[y0]at e0
   refine aa ?_;intros
   rename_i x9
   rw[ey]
   obtain⟨q,hq⟩:∃q,cZ p (8+hi.size) c 1=q:=⟨_,rfl⟩
   obtain⟨cc,pg⟩:∃cc,c-(8+hi.size)=cc:=⟨_,rfl⟩
   rw[hq,pg]at ry
   rw[hq]at sy
   rw[hq,pg]
   haveI:=sy
   haveI:=ry
   by_cases g2:y.length<8
   ·rw[if_pos (Or.inl (by omega))]at e0
    rw[e0,decide_eq_true (show((y.length:Nat):Int)<8 by omega)]
    refine aa ?_;intros
    exact ae (bu (rs:=[.cell 6 93,.tmp 7]) (v:= .agg (bR bG).toArray) (u:= .int .i64 ((3:Nat):Int)) (vs:=[]) rfl ⟨⟨_,rfl,aX.agg rfl⟩,rfl,trivial⟩ () rfl (U.sat (aV)))
   rw[decide_eq_false (show ¬((y.length:Nat):Int)<8 by omega)]
   by_cases g3:hi.len<hi.size+8
   ·rw[if_pos (Or.inr g3)]at e0
    rw[e0]
    refine aa ?_;intros
    exact ae (bu (rs:=[.cell 6 93,.tmp 7]) (v:= .agg (bR bG).toArray) (u:= .int .i64 ((3:Nat):Int)) (vs:=[]) rfl ⟨⟨_,rfl,aX.agg rfl⟩,rfl,trivial⟩ () rfl (U.sat (aV)))
   rw[if_neg (fun g=>g.elim (fun g=>g2 (by omega)) g3)]at e0
   have DM:=dM y 0
   have s7:=dZ y 0
   have oF:=dZ y 2
   have Bb:=dZ y 4
   refine aa ?_;intros
   refine ay 9 (Obj x9 87 (cT hi)*(Obj x4 87 (cT hd)*(iS x3 93*F))) rfl rfl rfl ?_
   refine ah ?_
   refine bD ?_;intros
   by_cases g4:hi.proto=17∨hi.proto=6
   ·rw[if_pos g4]at e0
    rw[e0,if_pos rfl,eI,eF,if_neg (by omega),if_neg (by omega)]
    rcases g4 with g4|g4
    all_goals
     refine aa ?_;intros
     refine ay 11 (iS x3 93*F) rfl rfl rfl ?_
     refine ah ?_
     refine aw rfl rfl rfl rfl rfl (yY (l:=y) inferInstance (by omega) _) (fun _=>aV) ?_
     intro _
     refine ah ?_
     refine aw rfl rfl rfl rfl rfl (pI (l:=y) (j:=4) inferInstance inferInstance rfl (by omega) _ _ rfl) (fun _=>aV) ?_
     intro _
     refine ah ?_
     refine bD ?_;intros
     refine aa ?_;intros
     exact ae (bu (rs:=[.cell 6 93,.tmp 7]) (v:= .agg (bR {bG with proto:=1,kind:=b1 l 0,code:=b1 l 1,err:=true,inner:=hi,pos:=hd.size+8,sp:=w2 y 0,dp:=w2 y 2}).toArray) (u:= .int .i64 ((0:Nat):Int)) (vs:=[]) rfl ⟨⟨_,rfl,aX.agg rfl⟩,rfl,trivial⟩ () rfl (U.sat (aV)))
   rw[if_neg g4]at e0
   by_cases SK:hi.proto≠1
   ·rw[if_neg (fun g=>SK g.1)]at e0
    rw[e0]
    refine aa ?_;intros
    exact ae (bu (rs:=[.cell 6 93,.tmp 7]) (v:= .agg (bR bG).toArray) (u:= .int .i64 ((6:Nat):Int)) (vs:=[]) rfl ⟨⟨_,rfl,aX.agg rfl⟩,rfl,trivial⟩ () rfl (U.sat (aV)))
   have DD:hi.proto=1:=by omega
   by_cases g6:b1 y 0=0∨b1 y 0=8
   ·rw[if_pos ⟨DD,g6⟩]at e0
    rw[e0,if_pos rfl,eI,eF,if_pos DD,if_pos DD]
    rcases g6 with g6|g6
    all_goals
     refine aa ?_;intros
     refine ay 11 (iS x3 93*F) rfl rfl rfl ?_
     refine ah ?_
     refine aw rfl rfl rfl rfl rfl (pI (l:=y) (j:=6) inferInstance inferInstance rfl (by omega) _ _ rfl) (fun _=>aV) ?_
     intro _
     refine ah ?_
     refine aw rfl rfl rfl rfl rfl (pI (l:=y) (j:=6) inferInstance inferInstance rfl (by omega) _ _ rfl) (fun _=>aV) ?_
     intro _
     refine ah ?_
     refine bD ?_;intros
     refine aa ?_;intros
     exact ae (bu (rs:=[.cell 6 93,.tmp 7]) (v:= .agg (bR {bG with proto:=1,kind:=b1 l 0,code:=b1 l 1,err:=true,inner:=hi,pos:=hd.size+8,sp:=w2 y 4,dp:=w2 y 4}).toArray) (u:= .int .i64 ((0:Nat):Int)) (vs:=[]) rfl ⟨⟨_,rfl,aX.agg rfl⟩,rfl,trivial⟩ () rfl (U.sat (aV)))
   rw[if_neg (fun g=>g6 g.2)]at e0
   rw[e0]
   have g61:b1 y 0≠0:=fun g=>g6 (.inl g)
   have g62:b1 y 0≠8:=fun g=>g6 (.inr g)
   refine aa ?_;intros
   exact ae (bu (rs:=[.cell 6 93,.tmp 7]) (v:= .agg (bR bG).toArray) (u:= .int .i64 ((6:Nat):Int)) (vs:=[]) rfl ⟨⟨_,rfl,aX.agg rfl⟩,rfl,trivial⟩ () rfl (U.sat (aV)))
 obtain⟨g6,g7,g8⟩:=Ix g5
 rw[if_neg g5]at e0
 rw[e0]
 refine aa ?_;intros
 exact ae (bu (rs:=[.cell 6 93,.tmp 7]) (v:= .agg (bR bG).toArray) (u:= .int .i64 ((6:Nat):Int)) (vs:=[]) rfl ⟨⟨_,rfl,aX.agg rfl⟩,rfl,trivial⟩ () rfl (U.sat (aV)))
end
end
end Go.Proofs.YtfkngchldmfpfaaGreatDoor
