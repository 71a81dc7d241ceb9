/-
  A part of a proof, joined by a program (wip/bundle3.py).
-/
import Derived.Laws.BitsAllLaws
import Derived.Test.YtakbmjoijcpdmaaGreatDoorG2
import Derived.Test.YtakbmjoijcpdmaaGreatDoorG3
import Derived.Test.YtakbmjoijcpdmaaGreatDoorG4
import Derived.Test.YtakbmjoijcpdmaaGreatDoorG5
set_option linter.unusedVariables false
set_option linter.unusedSimpArgs false
namespace Go.Proofs.YtakbmjoijcpdmaaGreatDoor
section
open Go.RowKit
set_option maxRecDepth 10000
attribute [local irreducible] EK EX ER EN EL ES EG az ba bf
variable {W:World} {F:SL} {X:Cx} {k:List KI} {σ:Env}
theorem Cp {a:Nat}(k:Nat):a&&& (2^k-1)=a%2^k:=Nat.and_two_pow_sub_one_eq_mod a k
theorem YE {m:Nat}(h:m<18446744073709551616):bits .and .u64 (m:Int) 65535=((m%65536:Nat):Int):=by
 rw[show(65535:Int)=((65535:Nat):Int)from rfl,u64_and_nat m 65535 h (by decide)]
 exact congrArg _ (Cp 16)
theorem iK (m k:Nat):(m:Int)/2^Int.toNat (k:Int)=((m/2^k:Nat):Int):=by
 rw[Int.toNat_natCast]
 simp
theorem FC {a:Nat}(h:a<65536):IntKind.u16.wrap (a:Int)=(a:Int):=bF.wrap (by simp only[bF];omega)
theorem FD (a:Nat):IntKind.u16.wrap (a:Int)=((a%65536:Nat):Int):=by
 rw[IntKind.wrap_u16]
 omega
theorem E3 {l:List UInt8}{i:Nat}(hi:i<l.length):bY true (l.take (i+1))=bY true (l.take i)+b1 l i*(if i%2=0 then 256 else 1):=by
 rw[List.take_succ_eq_append_getElem hi,Xe,List.length_take,Nat.min_eq_left (Nat.le_of_lt hi)]
 congr 2
 unfold b1
 rw[List.getD_eq_getElem?_getD,List.getElem?_eq_getElem hi,Option.getD_some]
theorem Xg {l:List UInt8}{i n:Nat}(hi:i<l.length)(hl:l.length≤1000000)(hn:n<4294967296):IntKind.u64.wrap (((n+bY true (l.take i):Nat):Int)+IntKind.u64.wrap ((b1 l i:Int)*2^(8*(1-(i:Int)%2)).toNat))=((n+bY true (l.take (i+1)):Nat):Int):=by
 have hb:=dH l i
 have hr:=Ao true (l.take i)
 have rM:65280*(l.take i).length≤65280*1000000:=Nat.mul_le_mul_left _ (by rw[List.length_take];omega)
 rw[E3 hi]
 by_cases h:i%2=0
 ·rw[if_pos h,show(8*(1-(i:Int)%2)).toNat=8 by omega,bF.wrap (k:= .u64) (z:=(b1 l i:Int)*2^8) (by simp only[bF];omega),bF.wrap (k:= .u64) (by simp only[bF];omega)]
  omega
 ·rw[if_neg h,show(8*(1-(i:Int)%2)).toNat=0 by omega,bF.wrap (k:= .u64) (z:=(b1 l i:Int)*2^0) (by simp only[bF];omega),bF.wrap (k:= .u64) (by simp only[bF];omega)]
  omega
theorem Il {n:Nat}(hn:n<18446744073709551616):Spec Tryz.prog 229 [.int .u64 (n:Int)] W F (fun _:Unit=> .int .u32 (db n:Int)) (fun _=>F):=by
 refine Spec.of Tryz.func229 rfl Tryz.ntmps229 rfl ?_
 repeat first|refine aa ?_ |intro
 refine ff (γ:=Nat) (fun m=>m<18446744073709551616∧db m=db n) (fun m=>[(0,.int .u64 (m:Int))]) (fun _=>F) (fun m=>m) n ⟨hn,rfl⟩ ⟨rfl,trivial⟩ (U.sat (U.refl _)) ?_
 intro m ⟨h1,h2⟩
 by_cases h:m≤65535
 ·rw[y7 h]at h2
  repeat first|refine aa ?_ |intro
  exact ae (aw rfl rfl () (by rw[h2]) (U.sat (ad)))
 ·repeat first|refine aa ?_ |intro
  rw[YE h1,show(m:Int)/2^Int.toNat 16=((m/65536:Nat):Int)from iK m 16,bF.wrap (k:= .u64) (z:=((m/65536:Nat):Int)+((m%65536:Nat):Int)) (by simp only[bF];omega)]
  exact cT (m/65536+m%65536) ⟨by omega,by rw[Ik (by omega),h2]⟩ (by omega) ⟨rfl,trivial⟩ (U.sat (ad))
theorem CI {n:Nat}(hn:n<4294967296):Spec Tryz.prog 181 [.int .u32 (n:Int)] W F (fun _:Unit=> .int .u16 ((65535-db n:Nat):Int)) (fun _=>F):=by
 refine Spec.of Tryz.func181 rfl Tryz.ntmps181 rfl ?_
 repeat first|refine aa ?_ |intro
 refine ag rfl (Il (by omega)) ?_
 intro _
 have hf:=rp n
 repeat first|refine aa ?_ |intro
 exact ae (aw rfl rfl () (by rw[show(65535:Int)-(db n:Int)=((65535-db n:Nat):Int)by omega]) (U.sat (ad)))
theorem sD {s bH now:Nat}(h1:s<65536)(h2:bH<65536)(h3:now<65536):Spec Tryz.prog 245 [.int .u16 (s:Int),.int .u16 (bH:Int),.int .u16 (now:Int)] W F (fun _:Unit=> .int .u16 (ob s bH now:Int)) (fun _=>F):=by
 refine Spec.of Tryz.func245 rfl Tryz.ntmps245 rfl ?_
 repeat first|refine aa ?_ |intro
 rw[show(65535:Int)-(s:Int)+(65535-(bH:Int))+(now:Int)=((65535-s+(65535-bH)+now:Nat):Int)by omega]
 refine ag rfl (CI (n:=65535-s+(65535-bH)+now) (by omega)) ?_
 intro _
 repeat first|refine aa ?_ |intro
 exact ae (aw rfl rfl () rfl (U.sat (ad)))
theorem OC {s bH now:Nat}(h1:s<65536)(h2:bH<4294967296)(h3:now<4294967296):Spec Tryz.prog 266 [.int .u16 (s:Int),.int .u32 (bH:Int),.int .u32 (now:Int)] W F (fun _:Unit=> .int .u16 (iB s bH now:Int)) (fun _=>F):=by
 refine Spec.of Tryz.func266 rfl Tryz.ntmps266 rfl ?_
 repeat first|refine aa ?_ |intro
 rw[show(bH:Int)/2^Int.toNat 16=((bH/65536:Nat):Int)from iK bH 16,show(now:Int)/2^Int.toNat 16=((now/65536:Nat):Int)from iK now 16]
 rw[FC (a:=bH/65536) (by omega),FC (a:=now/65536) (by omega)]
 refine ag rfl (sD h1 (by omega) (by omega)) ?_
 intro _
 have hf:=sW s (bH/65536) (now/65536)
 repeat first|refine aa ?_ |intro
 rw[FD bH,FD now]
 refine ag rfl (sD hf (by omega) (by omega)) ?_
 intro _
 repeat first|refine aa ?_ |intro
 exact ae (aw rfl rfl () rfl (U.sat (ad)))
theorem Bi {n:Nat}(hn:n<4294967296)(p:Option Addr)(c:Nat)(l:List UInt8)(hl:l.length≤1000000)[Src W F p l.length (aA l)]:Spec Tryz.prog 182 [.int .u32 (n:Int),.slice p l.length c] W F (fun _:Unit=> .int .u32 (db (n+bY true l):Int)) (fun _=>F):=by
 refine Spec.of Tryz.func182 rfl Tryz.ntmps182 rfl ?_
 repeat first|refine aa ?_ |intro
 refine ff (γ:=Nat) (fun i=>i≤l.length) (fun i=>[(0,.int .u32 (n:Int)),(5,.int .u64 ((n+bY true (l.take i):Nat):Int)),(11,.slice p l.length c),(12,.int .i64 (l.length:Int)),(13,.int .i64 (i:Int))]) (fun _=>F) (fun i=>l.length-i) 0 (Nat.zero_le _) ⟨rfl,rfl,rfl,rfl,rfl,trivial⟩ (U.sat (U.refl _)) ?_
 intro i h1
 by_cases hi:i<l.length
 ·have hb:(l.getD i 0).toNat<256:=dH l i
  repeat first|refine aa ?_ |intro
  refine cT (i+1) hi (by omega) ⟨rfl,?_,rfl,rfl,rfl,trivial⟩ (U.sat (ad))
  rw[←Xg hi hl hn]
  rfl
 ·have e:i=l.length:=by omega
  subst e
  rw[List.take_length]
  have hr:=Ao true l
  have rM:65280*l.length≤65280*1000000:=Nat.mul_le_mul_left _ hl
  repeat first|refine aa ?_ |intro
  refine ag rfl (Il (by omega)) ?_
  intro _
  repeat first|refine aa ?_ |intro
  exact ae (aw rfl rfl () rfl (U.sat (ad)))
theorem Bl (p:Option Addr)(c:Nat)(l:List UInt8)(hl:l.length≤1000000)[Src W F p l.length (aA l)]:Spec Tryz.prog 139 [.slice p l.length c] W F (fun _:Unit=> .int .u16 (cI l:Int)) (fun _=>F):=by
 refine Spec.of Tryz.func139 rfl Tryz.ntmps139 rfl ?_
 repeat first|refine aa ?_ |intro
 refine ag rfl (Bi (n:=0) (by decide) p c l hl) ?_
 intro _
 have hf:=rp (0+bY true l)
 refine ag rfl (CI (n:=db (0+bY true l)) (by omega)) ?_
 intro _
 repeat first|refine aa ?_ |intro
 refine ae (aw rfl rfl () ?_ (U.sat (ad)))
 rw[y7 hf,Nat.zero_add]
 rfl
theorem E0 {n:Nat}(hn:n<9223372036854775808):Spec Tryz.prog 179 [.int .i64 (n:Int)] W F (fun _:Unit=> .int .i64 (db n:Int)) (fun _=>F):=by
 refine Spec.of Tryz.func179 rfl Tryz.ntmps179 rfl ?_
 repeat first|refine aa ?_ |intro
 refine ff (γ:=Nat) (fun m=>m<9223372036854775808∧db m=db n) (fun m=>[(0,.int .i64 (m:Int))]) (fun _=>F) (fun m=>m) n ⟨hn,rfl⟩ ⟨rfl,trivial⟩ (U.sat (U.refl _)) ?_
 intro m ⟨h1,h2⟩
 by_cases h:m≤65535
 ·rw[y7 h]at h2
  repeat first|refine aa ?_ |intro
  exact ae (aw rfl rfl () (by rw[h2]) (U.sat (ad)))
 ·repeat first|refine aa ?_ |intro
  exact cT (m/65536+m%65536) ⟨by omega,by rw[Ik (by omega),h2]⟩ (by omega) ⟨rfl,trivial⟩ (U.sat (ad))
theorem Xb {n:Nat}(hn:n≤65535)(p:Option Addr)(c:Nat)(l:List UInt8)(hl:l.length≤1000000)[Src W F p l.length (aA l)]:Spec Tryz.prog 131 [.int .i64 (n:Int),.slice p l.length c] W F (fun _:Unit=> .int .i64 (db (n+bY true l):Int)) (fun _=>F):=by
 refine Spec.of Tryz.func131 rfl Tryz.ntmps131 rfl ?_
 repeat first|refine aa ?_ |intro
 refine ag rfl (E0 (n:=n) (by omega)) ?_
 intro _
 repeat first|refine aa ?_ |intro
 refine ff (γ:=Nat) (fun i=>i%2=0∧i≤l.length+1) (fun i=>[(0,.int .i64 (db (n+bY true (l.take i)):Int)),(1,.slice p l.length c),(5,.int .i64 (i:Int))]) (fun _=>F) (fun i=>l.length-i) 0 ⟨rfl,Nat.zero_le _⟩ ⟨rfl,rfl,rfl,trivial⟩ (U.sat (U.refl _)) ?_
 intro i ⟨h0,h1⟩
 have hf:=rp (n+bY true (l.take i))
 by_cases hi:i<l.length
 ·have hb:(l.getD i 0).toNat<256:=dH l i
  have r1:=E3 hi
  rw[if_pos h0]at r1
  by_cases h2:i+1<l.length
  ·have lU:(l.getD (i+1) 0).toNat<256:=dH l (i+1)
   have r2:=E3 h2
   rw[if_neg (by omega),r1]at r2
   repeat first|refine aa ?_ |intro
   refine ag rfl (E0 (n:=db (n+bY true (l.take i))+((l.getD i 0).toNat*256+(l.getD (i+1) 0).toNat)) (by omega)) ?_
   intro _
   rw[CY]
   repeat first|refine aa ?_ |intro
   refine cT (i+2) ⟨by omega,by omega⟩ (by omega) ⟨?_,rfl,rfl,trivial⟩ (U.sat (ad))
   rw[r2,show n+(bY true (l.take i)+b1 l i*256+b1 l (i+1)*1)=n+bY true (l.take i)+((l.getD i 0).toNat*256+(l.getD (i+1) 0).toNat)by unfold b1;omega]
   rfl
  ·have e:l.take (i+2)=l.take (i+1):=by rw[List.take_of_length_le (by omega),List.take_of_length_le (by omega)]
   repeat first|refine aa ?_ |intro
   refine ag rfl (E0 (n:=db (n+bY true (l.take i))+(l.getD i 0).toNat*256) (by omega)) ?_
   intro _
   rw[CY]
   repeat first|refine aa ?_ |intro
   refine cT (i+2) ⟨by omega,by omega⟩ (by omega) ⟨?_,rfl,rfl,trivial⟩ (U.sat (ad))
   rw[e,r1,show n+(bY true (l.take i)+b1 l i*256)=n+bY true (l.take i)+(l.getD i 0).toNat*256 by unfold b1;omega]
   rfl
 ·rw[List.take_of_length_le (by omega)]
  repeat first|refine aa ?_ |intro
  exact ae (aw rfl rfl () rfl (U.sat (ad)))
theorem Am (p:Option Addr)(c:Nat)(l:List UInt8)(hl:l.length≤1000000)[Src W F p l.length (aA l)]:Spec Tryz.prog 76 [.slice p l.length c] W F (fun _:Unit=> .int .u16 (cI l:Int)) (fun _=>F):=by
 refine Spec.of Tryz.func76 rfl Tryz.ntmps76 rfl ?_
 repeat first|refine aa ?_ |intro
 refine ag rfl (Xb (n:=0) (by decide) p c l hl) ?_
 intro _
 have hf:=rp (0+bY true l)
 repeat first|refine aa ?_ |intro
 refine ae (aw rfl rfl () ?_ (U.sat (ad)))
 unfold cI
 rw[Nat.zero_add]at hf ⊢
 congr 1
 omega
end
section
open Go.RowKit
def iW (l:List UInt8)(i j:Nat):List UInt8:=(l.take j).drop i
theorem oR (l:List UInt8){i j:Nat}(h:j≤l.length):(iW l i j).length=j-i:=by
 unfold iW
 rw[List.length_drop,List.length_take,Nat.min_eq_left h]
theorem Hc (l:List UInt8){i j k:Nat}(h:i+k<j):b1 (iW l i j) k=b1 l (i+k):=by
 unfold b1 iW
 rw[List.getD_eq_getElem?_getD,List.getD_eq_getElem?_getD,List.getElem?_drop,List.getElem?_take,if_pos h]
theorem xV (l:List UInt8){i j k:Nat}(h:i+k+1<j):w2 (iW l i j) k=w2 l (i+k):=by
 unfold w2
 rw[Hc l (by omega),Hc l (by omega),Nat.add_assoc]
theorem Mk (l:List UInt8){i j k:Nat}(h:i+k+3<j):w4 (iW l i j) k=w4 l (i+k):=by
 unfold w4
 rw[xV l (by omega),xV l (by omega),Nat.add_assoc]
section
variable {W:World} {H:SL} {p:Option Addr} {c i j:Nat} {l:List UInt8}
theorem Src.cut (s:Src W H p l.length (aA l))(r:Room W H p l.length c)(h:i≤j)(hj:j≤l.length):Src W H (dO p i c 1) (iW l i j).length (aA (iW l i j)) where
 cells:=fun w hs k v hv=>by
  have hl:=r.le w hs
  have hk:k<j-i:=by
   have:=(List.getElem?_eq_some_iff.1 hv).1
   rwa[mM,oR l hj]at this
  unfold dO
  rw[if_neg (by omega),Wr,Nat.mul_one]
  refine s.cells w hs (i+k) v ?_
  rw[←hv]
  unfold aA iW
  rw[List.getElem?_map,List.getElem?_map,List.getElem?_drop,List.getElem?_take,if_pos (by omega)]
 nn:=fun w hs h0=>by
  have hl:=r.le w hs
  rw[oR l hj]at h0
  have:=s.nn w hs (by omega)
  unfold dO
  rw[if_neg (by omega)]
  cases p with
  |none=>exact absurd rfl this
  |some a=>simp[off]
theorem Room.cut (r:Room W H p l.length c)(hj:j≤l.length):Room W H (dO p i c 1) (iW l i j).length (c-i):=⟨fun w hs=>by
 have:=r.le w hs
 rw[oR l hj]
 omega⟩
theorem Src.pre (s:Src W H p l.length (aA l))(hj:j≤l.length):Src W H p (l.take j).length (aA (l.take j)) where
 cells:=fun w hs k v hv=>by
  have hk:k<j:=by
   have:=(List.getElem?_eq_some_iff.1 hv).1
   rw[mM,List.length_take]at this
   omega
  refine s.cells w hs k v ?_
  rw[←hv]
  unfold aA
  rw[List.getElem?_map,List.getElem?_map,List.getElem?_take,if_pos hk]
 nn:=fun w hs h0=>s.nn w hs (by rw[List.length_take]at h0;omega)
theorem Room.pre (r:Room W H p l.length c):Room W H p (l.take j).length c:=⟨fun w hs=>by
 have:=r.le w hs
 rw[List.length_take]
 omega⟩
end
instance (priority:=300) Room.there (W:World)(Q R:SL)(p:Option Addr)(n c:Nat)[r:Room W R p n c]:Room W (Q*R) p n c:=⟨fun w hs=>r.le w hs.drop⟩
instance (priority:=3000) eK.b1 (l:List UInt8)(i:Nat):eK (aA l) i 1 0 (.int .u8 ((Go.Proofs.YtakbmjoijcpdmaaGreatDoor.b1 l i:Nat):Int)) (i<l.length):=⟨(eK.bytes l i).get⟩
def nL:List UInt8→Nat→Nat
 |_,0=>0
 |l,n+1=>nL l n*256+b1 l n
theorem EC (l:List UInt8):∀n,nL l n<256^n
 |0=>by simp[nL]
 |n+1=>by
  have h1:=EC l n
  have h2:=dH l n
  rw[nL,Nat.pow_succ]
  omega
theorem EB (l:List UInt8):nL l 2=w2 l 0:=by simp[nL,w2]
theorem KJ (l:List UInt8):nL l 4=w4 l 0:=by
 simp only[nL,w4,w2,Nat.zero_add,Nat.reduceAdd]
 omega
end
section
open Go.RowKit
theorem HK (l:List UInt8)(i:Nat):iW l i l.length=l.drop i:=by unfold iW;rw[List.take_length]
theorem vJ (l:List UInt8)(i k:Nat):b1 (l.drop i) k=b1 l (i+k):=by
 unfold b1
 rw[List.getD_eq_getElem?_getD,List.getD_eq_getElem?_getD,List.getElem?_drop]
theorem pD (l:List UInt8)(i k:Nat):w2 (l.drop i) k=w2 l (i+k):=by
 unfold w2
 rw[vJ,vJ,Nat.add_assoc]
section
variable {W:World} {H:SL} {p:Option Addr} {c i:Nat} {l:List UInt8}
theorem Src.low (s:Src W H p l.length (aA l))(r:Room W H p l.length c)(h:i≤l.length):Src W H (dO p i c 1) (l.drop i).length (aA (l.drop i)):=by
 have:=Src.cut s r h (Nat.le_refl _)
 rwa[HK]at this
theorem Room.low (r:Room W H p l.length c):Room W H (dO p i c 1) (l.drop i).length (c-i):=by
 have:=Room.cut (i:=i) r (Nat.le_refl _)
 rwa[HK]at this
end
def dT (n:Nat):Nat→List UInt8
 |0=>[]
 |k+1=>u8 (n/256^k)::dT n k
theorem pU (n:Nat):∀k,(dT n k).length=k
 |0=>rfl
 |k+1=>by rw[dT,List.length_cons,pU n k]
theorem P2 (n:Nat):dT n 2=ij n:=by simp[dT,ij]
theorem Hn (n:Nat):dT n 4=km n:=by simp[dT,km]
theorem YH {n i:Nat}:IntKind.u8.wrap ((n:Int)/2^(8*(i:Int)).toNat)=(((u8 (n/256^i)).toNat:Nat):Int):=by
 rw[show(8*(i:Int)).toNat=8*i by omega,kf,IntKind.wrap_u8]
 have:(n:Int)/2^(8*i)=((n/256^i:Nat):Int):=by
  rw[show(256:Nat)^i=2^(8*i)by rw[Nat.pow_mul]]
  simp
 rw[this]
 omega
theorem Qk (l:List UInt8)(b:UInt8):aA (l++[b])=aA l++[.int .u8 ((b.toNat:Nat):Int)]:=by simp[aA]
theorem Qj (l m:List UInt8):aA (l++m)=aA l++aA m:=by simp[aA]
theorem KT {a b:Nat}(ha:a<256)(hb:b<256):bits .or .u16 (IntKind.u16.wrap ((a:Int)*2^Int.toNat 8)) (b:Int)=((a*256+b:Nat):Int):=by
 rw[show(a:Int)*2^Int.toNat 8=((a*2^8:Nat):Int)by rw[show Int.toNat 8=8 from rfl];omega,bF.wrap (k:= .u16) (z:=((a*2^8:Nat):Int)) (by simp only[bF];omega),u16_or_nat _ _ (by omega) (by omega)]
 rw[Nat.mul_comm,←Nat.two_pow_add_eq_or_of_lt (show b<2^8 by omega) a]
def ahead (src dst proto n:Nat):List UInt8:=dT src 4++dT dst 4++[0,u8 proto]++dT n 2
theorem G5 (src dst proto n:Nat):(ahead src dst proto n).length=12:=by simp[ahead,pU]
theorem WY (src dst proto:Nat)(l:List UInt8):fP src dst proto l=65535-db (db (db (0+bY true (ahead src dst proto l.length))+bY true l)):=by
 unfold fP cI
 rw[←Hn,←Hn,←P2,Nat.zero_add]
 show 65535-db (bY true (ahead src dst proto l.length++l))=_
 rw[An,G5,if_pos (by decide),CY,y7 (rp _)]
theorem uV (src dst proto:Nat)(l:List UInt8):fP src dst proto l<65536:=nB _
end
section
open Go.RowKit
theorem Af (a:Nat)(ha:a<18446744073709551616):(BitVec.ofInt 64 (a:Int)).toNat=a:=by
 rw[BitVec.ofInt_natCast,BitVec.toNat_ofNat];exact Nat.mod_eq_of_lt (by omega)
theorem D8 (a b:Nat)(ha:a<9223372036854775808)(hb:b<9223372036854775808):bits .and .i64 (a:Int) (b:Int)=((a&&& b:Nat):Int):=by
 have hx:a&&& b<2^63:=Nat.and_lt_two_pow _ (by omega)
 show IntKind.i64.wrap ((BitVec.ofInt 64 (a:Int)&&& BitVec.ofInt 64 (b:Int)).toNat:Int)=_
 rw[BitVec.toNat_and,Af a (by omega),Af b (by omega)]
 exact bF.wrap (by simp only[bF];omega)
theorem T5 (a b:Nat)(ha:a<9223372036854775808)(hb:b<9223372036854775808):bits .xor .i64 (a:Int) (b:Int)=((a^^^b:Nat):Int):=by
 have hx:a^^^b<2^63:=Nat.xor_lt_two_pow (by omega) (by omega)
 show IntKind.i64.wrap ((BitVec.ofInt 64 (a:Int)^^^BitVec.ofInt 64 (b:Int)).toNat:Int)=_
 rw[BitVec.toNat_xor,Af a (by omega),Af b (by omega)]
 exact bF.wrap (by simp only[bF];omega)
theorem D9 (a n:Nat)(ha:a<9223372036854775808)(hn:n≤62):bits .and .i64 (a:Int) (((2^n-1:Nat)):Int)=((a%2^n:Nat):Int):=by
 have h:2^n-1<9223372036854775808:=by
  have:2^n≤2^62:=Nat.pow_le_pow_right (by decide) hn
  omega
 rw[D8 a _ ha h,Nat.and_two_pow_sub_one_eq_mod]
theorem mj (a b:Nat):((a:Int)/2^((b:Int)).toNat)=((a/2^b:Nat):Int):=by
 rw[Int.toNat_natCast,Int.natCast_ediv];simp
end
section
open Go.RowKit
set_option maxRecDepth 10000
attribute [local irreducible] EK EX ER EN EL ES EG az ba bf
variable {W:World} {F:SL} {X:Cx} {k:List KI} {σ:Env}
theorem XV {a n:Nat}(ha:a<16777216)(hn:n<256):bits BinOp.or IntKind.u32 (IntKind.u32.wrap ((a:Int)*2^Int.toNat 8)) (n:Int)=((a*256+n:Nat):Int):=by
 rw[show(a:Int)*2^Int.toNat 8=((a*2^8:Nat):Int)by rw[show Int.toNat 8=8 from rfl];omega,bF.wrap (k:= .u32) (z:=((a*2^8:Nat):Int)) (by simp only[bF];omega),u32_or_nat _ _ (by omega) (by omega)]
 rw[Nat.mul_comm,←Nat.two_pow_add_eq_or_of_lt (show n<2^8 by omega) a]
theorem Jg (p:Option Addr)(c:Nat)(l:List UInt8)(hl:l.length≤4)[Src W F p l.length (aA l)]:Spec Tryz.prog 180 [.slice p l.length c] W F (fun _:Unit=> .int .u32 (nL l l.length:Int)) (fun _=>F):=by
 refine Spec.of Tryz.func180 rfl Tryz.ntmps180 rfl ?_
 repeat first|refine aa ?_ |intro
 refine ff (γ:=Nat) (fun i=>i≤l.length) (fun i=>[(3,.int .u32 (nL l i:Int)),(6,.slice p l.length c),(7,.int .i64 (l.length:Int)),(8,.int .i64 (i:Int))]) (fun _=>F) (fun i=>l.length-i) 0 (Nat.zero_le _) ⟨rfl,rfl,rfl,rfl,trivial⟩ (U.sat (U.refl _)) ?_
 intro i h1
 have hn:=EC l i
 by_cases hi:i<l.length
 ·have hb:=dH l i
  have h3:256^i≤256^3:=Nat.pow_le_pow_right (by decide) (by omega)
  repeat first|refine aa ?_ |intro
  rw[XV (by omega) hb]
  exact cT (i+1) hi (by omega) ⟨rfl,rfl,rfl,rfl,trivial⟩ (U.sat (aZ))
 ·have e:i=l.length:=by omega
  subst e
  repeat first|refine aa ?_ |intro
  exact ae (aw rfl rfl () rfl (U.sat (aZ)))
theorem E1 (p:Option Addr)(c:Nat)(l:List UInt8)(hl:l.length≤4)[Src W F p l.length (aA l)]:Spec Tryz.prog 75 [.slice p l.length c] W F (fun _:Unit=> .int .i64 (nL l l.length:Int)) (fun _=>F):=by
 refine Spec.of Tryz.func75 rfl Tryz.ntmps75 rfl ?_
 repeat first|refine aa ?_ |intro
 refine ff (γ:=Nat) (fun i=>i≤l.length) (fun i=>[(3,.int .i64 (nL l i:Int)),(0,.slice p l.length c),(4,.int .i64 (i:Int))]) (fun _=>F) (fun i=>l.length-i) 0 (Nat.zero_le _) ⟨rfl,rfl,rfl,trivial⟩ (U.sat (U.refl _)) ?_
 intro i h1
 have hn:=EC l i
 by_cases hi:i<l.length
 ·have hb:=dH l i
  have h3:256^i≤256^3:=Nat.pow_le_pow_right (by decide) (by omega)
  repeat first|refine aa ?_ |intro
  exact cT (i+1) hi (by omega) ⟨rfl,rfl,rfl,trivial⟩ (U.sat (aZ))
 ·have e:i=l.length:=by omega
  subst e
  repeat first|refine aa ?_ |intro
  exact ae (aw rfl rfl () rfl (U.sat (aZ)))
section
variable {p:Option Addr} {c i j:Nat} {l:List UInt8}
theorem DP (s:Src W F p l.length (aA l))(r:Room W F p l.length c)(hj:j=i+2)(h:j≤l.length)(n m:Nat)(hn:n=j-i):Spec Tryz.prog 180 [.slice (dO p i c 1) n m] W F (fun _:Unit=> .int .u32 (w2 l i:Int)) (fun _=>F):=by
 haveI:=Src.cut s r (i:=i) (by omega) h
 have hl:=oR l (i:=i) h
 have:=Jg (W:=W) (F:=F) (dO p i c 1) m (iW l i j) (by omega)
 rw[hl,show j-i=2 by omega,EB,xV l (by omega)]at this
 rw[show n=2 by omega]
 exact this
theorem Jf (s:Src W F p l.length (aA l))(r:Room W F p l.length c)(hj:j=i+4)(h:j≤l.length)(n m:Nat)(hn:n=j-i):Spec Tryz.prog 180 [.slice (dO p i c 1) n m] W F (fun _:Unit=> .int .u32 (w4 l i:Int)) (fun _=>F):=by
 haveI:=Src.cut s r (i:=i) (by omega) h
 have hl:=oR l (i:=i) h
 have:=Jg (W:=W) (F:=F) (dO p i c 1) m (iW l i j) (by omega)
 rw[hl,show j-i=4 by omega,KJ,Mk l (by omega)]at this
 rw[show n=4 by omega]
 exact this
theorem oB (s:Src W F p l.length (aA l))(r:Room W F p l.length c)(hj:j=i+2)(h:j≤l.length)(n m:Nat)(hn:n=j-i):Spec Tryz.prog 75 [.slice (dO p i c 1) n m] W F (fun _:Unit=> .int .i64 (w2 l i:Int)) (fun _=>F):=by
 haveI:=Src.cut s r (i:=i) (by omega) h
 have hl:=oR l (i:=i) h
 have:=E1 (W:=W) (F:=F) (dO p i c 1) m (iW l i j) (by omega)
 rw[hl,show j-i=2 by omega,EB,xV l (by omega)]at this
 rw[show n=2 by omega]
 exact this
theorem Lo (s:Src W F p l.length (aA l))(r:Room W F p l.length c)(hj:j=i+4)(h:j≤l.length)(n m:Nat)(hn:n=j-i):Spec Tryz.prog 75 [.slice (dO p i c 1) n m] W F (fun _:Unit=> .int .i64 (w4 l i:Int)) (fun _=>F):=by
 haveI:=Src.cut s r (i:=i) (by omega) h
 have hl:=oR l (i:=i) h
 have:=E1 (W:=W) (F:=F) (dO p i c 1) m (iW l i j) (by omega)
 rw[hl,show j-i=4 by omega,KJ,Mk l (by omega)]at this
 rw[show n=4 by omega]
 exact this
theorem YD {n:Nat}(h:n<4294967296):bits .and .u32 (n:Int) 16383=((n%16384:Nat):Int):=by
 rw[show(16383:Int)=((16383:Nat):Int)from rfl,u32_and_nat n 16383 h (by decide)]
 exact congrArg _ (Cp 14)
theorem T4 {n:Nat}(h:n<4294967296):bits .and .i64 (n:Int) 16383=((n%16384:Nat):Int):=D9 n 14 (by omega) (by decide)
theorem YG {n:Nat}(h:n<256):bits .and .u8 (n:Int) 15=((n%16:Nat):Int):=by
 rw[show(15:Int)=((15:Nat):Int)from rfl,u8_and_nat n 15 h (by decide)]
 exact congrArg _ (Cp 4)
def pE (l:List UInt8):Nat:=if w2 l 6%16384≠0 then 5 else 0
abbrev rU (h:fh)(e:Nat):Value:= .tuple #[.agg (cN h).toArray,.int .i64 (e:Int)]
theorem O3 (s:Src W F p l.length (aA l))(hj:j≤l.length)(h6:j≤1000000):Spec Tryz.prog 139 [.slice p j c] W F (fun _:Unit=> .int .u16 (cI (l.take j):Int)) (fun _=>F):=by
 haveI:=Src.pre s hj
 have jb:(l.take j).length=j:=by rw[List.length_take,Nat.min_eq_left hj]
 have:=Bl (W:=W) (F:=F) p c (l.take j) (by omega)
 rwa[jb]at this
theorem W9 (s:Src W F p l.length (aA l))(hj:j≤l.length)(h6:j≤1000000):Spec Tryz.prog 76 [.slice p j c] W F (fun _:Unit=> .int .u16 (cI (l.take j):Int)) (fun _=>F):=by
 haveI:=Src.pre s hj
 have jb:(l.take j).length=j:=by rw[List.length_take,Nat.min_eq_left hj]
 have:=Am (W:=W) (F:=F) p c (l.take j) (by omega)
 rwa[jb]at this
theorem Mu [s:Src W F p l.length (aA l)][r:Room W F p l.length c](h:20≤l.length)(hd:fh):Spec Tryz.prog 140 [.agg (cN hd).toArray,.slice p l.length c] W F (fun _:Unit=>rU (if pE l=0 then hd else eY) (pE l)) (fun _=>F):=by
 refine Spec.of Tryz.func140 rfl Tryz.ntmps140 rfl ?_
 have hw:=dK l 6
 repeat first|refine aa ?_ |intro
 refine ag rfl (DP (j:=8) inferInstance inferInstance rfl (by omega) _ _ rfl) ?_
 intro _
 repeat first|refine aa ?_ |intro
 rw[YD (by omega)]
 by_cases h6:w2 l 6%16384=0
 ·rw[show pE l=0 from if_neg (by omega),if_pos rfl,decide_eq_true (show((w2 l 6%16384:Nat):Int)=0 by omega)]
  repeat first|refine aa ?_ |intro
  exact ae (bq (rs:=[.cell 4 71,.tmp 5]) (v:= .agg (cN hd).toArray) (u:= .int .i64 ((0:Nat):Int)) (vs:=[]) rfl ⟨⟨_,rfl,bc.agg rfl⟩,rfl,trivial⟩ () rfl (U.sat (aZ)))
 ·rw[show pE l=5 from if_pos h6,if_neg (by decide),decide_eq_false (show ¬((w2 l 6%16384:Nat):Int)=0 by omega)]
  repeat first|refine aa ?_ |intro
  exact ae (bq (rs:=[.cell 4 71,.tmp 5]) (v:= .agg (cN eY).toArray) (u:= .int .i64 ((5:Nat):Int)) (vs:=[]) rfl ⟨⟨_,rfl,bc.agg rfl⟩,rfl,trivial⟩ () rfl (U.sat (aZ)))
def gM (most:Nat)(l:List UInt8):Nat:=
 if l.length<20 then 2
 else if b1 l 0/16≠4∨b1 l 0%16*4<20 then 3
 else if l.length<b1 l 0%16*4 then 2
 else if w2 l 2<b1 l 0%16*4∨w2 l 2>most then 3
 else 0
theorem LS (most:Nat)(hm:most≤65535)(hl:l.length≤140737488355328)[s:Src W F p l.length (aA l)][r:Room W F p l.length c]:Spec Tryz.prog 138 [.slice p l.length c,.int .i64 (most:Int)] W F (fun _:Unit=>rU (if gM most l=0 then bd l else eY) (gM most l)) (fun _=>F):=by
 refine Spec.of Tryz.func138 rfl Tryz.ntmps138 rfl ?_
 by_cases h1:l.length<20
 ·rw[show gM most l=2 from if_pos h1,if_neg (by decide)]
  repeat first|refine aa ?_ |intro
  exact ae (bq (rs:=[.cell 4 71,.tmp 5]) (v:= .agg (cN eY).toArray) (u:= .int .i64 ((2:Nat):Int)) (vs:=[]) rfl ⟨⟨_,rfl,bc.agg rfl⟩,rfl,trivial⟩ () rfl (U.sat (aZ)))
 have hb:=dH l 0
 have hw:=dK l 2
 have e4:IntKind.i64.wrap (4*IntKind.i64.wrap (bits BinOp.and IntKind.u8 (b1 l 0:Int) 15))=((b1 l 0%16*4:Nat):Int):=by
  rw[YG hb,bF.wrap (k:= .i64) (z:=((b1 l 0%16:Nat):Int)) (by simp only[bF];omega),bF.wrap (k:= .i64) (by simp only[bF];omega)]
  omega
 repeat first|refine aa ?_ |intro
 refine kN (γ:=Option Addr×Option Addr) (fun _=>True) (fun x=>[(0,.slice p l.length c),(1,.int .i64 (most:Int)),(4,.pointer x.1),(6,.pointer x.2),(5,.int .i64 0)])
  (fun x=>Obj x.2 71 [.int .i64 ((b1 l 0%16*4:Nat):Int),.int .i64 (w2 l 2:Int),.int .i64 0,.int .i64 0,.int .u32 0,.int .u32 0]*(Obj x.1 71 (cN eY)*F)) ?_ ?_
 ·rename_i x4
  refine aL 12 F rfl rfl rfl ?_
  repeat(first|refine aq ?_ |refine eD ?_)
  refine qP (i:=8) (j:=11) (sx rfl rfl rfl rfl (DP (j:=4) inferInstance inferInstance rfl (by omega) _ _ rfl) (fun _=>aZ) ?_) (sA rfl rfl (pO rfl) rfl (fun _=>aZ) ?_)
  ·intro _
   repeat(first|refine aq ?_ |refine eD ?_)
   repeat(first|refine bQ ?_ |(refine bU ?_;intro)|refine bR ?_ |refine bS ?_ |refine bT ?_ |refine eD ?_)
   rename_i x
   rw[e4]
   exact ei (x4,x) trivial ⟨rfl,rfl,rfl,rfl,rfl,trivial⟩ (U.sat (aZ))
  ·intro x
   refine aI rfl rfl rfl rfl rfl (DP (j:=4) inferInstance inferInstance rfl (by omega) _ _ rfl) (fun _=>aZ) ?_
   intro _
   repeat(first|refine aq ?_ |refine eD ?_)
   repeat(first|refine bQ ?_ |(refine bU ?_;intro)|refine bR ?_ |refine bS ?_ |refine bT ?_ |refine eD ?_)
   rw[e4]
   exact ei (x4,x) trivial ⟨rfl,rfl,rfl,rfl,rfl,trivial⟩ (U.sat (aZ))
 intro ⟨x4,x⟩ _;dsimp only
 repeat first|refine aa ?_ |intro
 rw[show(b1 l 0:Int)/2^Int.toNat 4=((b1 l 0/16:Nat):Int)from iK _ 4]
 by_cases h2:b1 l 0/16≠4∨b1 l 0%16*4<20
 ·rw[show gM most l=3 by unfold gM;rw[if_neg h1,if_pos h2],if_neg (by decide)]
  refine Ot (U.sat (U.refl _)) ?_
  by_cases IA:b1 l 0/16=4
  ·rw[decide_eq_true (show((b1 l 0/16:Nat):Int)=4 by omega)]
   repeat first|refine aa ?_ |intro
   exact ae (bq (rs:=[.cell 4 71,.tmp 5]) (v:= .agg (cN eY).toArray) (u:= .int .i64 ((3:Nat):Int)) (vs:=[]) rfl ⟨⟨_,rfl,bc.agg rfl⟩,rfl,trivial⟩ () rfl (U.sat (aZ)))
  ·rw[decide_eq_false (show ¬((b1 l 0/16:Nat):Int)=4 by omega)]
   repeat first|refine aa ?_ |intro
   exact ae (bq (rs:=[.cell 4 71,.tmp 5]) (v:= .agg (cN eY).toArray) (u:= .int .i64 ((3:Nat):Int)) (vs:=[]) rfl ⟨⟨_,rfl,bc.agg rfl⟩,rfl,trivial⟩ () rfl (U.sat (aZ)))
 rw[decide_eq_true (show((b1 l 0/16:Nat):Int)=4 by omega)]
 by_cases h3:l.length<b1 l 0%16*4
 ·rw[show gM most l=2 by unfold gM;rw[if_neg h1,if_neg h2,if_pos h3],if_neg (by decide)]
  repeat first|refine aa ?_ |intro
  exact ae (bq (rs:=[.cell 4 71,.tmp 5]) (v:= .agg (cN eY).toArray) (u:= .int .i64 ((2:Nat):Int)) (vs:=[]) rfl ⟨⟨_,rfl,bc.agg rfl⟩,rfl,trivial⟩ () rfl (U.sat (aZ)))
 by_cases h4:w2 l 2<b1 l 0%16*4
 ·rw[show gM most l=3 by unfold gM;rw[if_neg h1,if_neg h2,if_neg h3,if_pos (.inl h4)],if_neg (by decide)]
  repeat first|refine aa ?_ |intro
  exact ae (bq (rs:=[.cell 4 71,.tmp 5]) (v:= .agg (cN eY).toArray) (u:= .int .i64 ((3:Nat):Int)) (vs:=[]) rfl ⟨⟨_,rfl,bc.agg rfl⟩,rfl,trivial⟩ () rfl (U.sat (aZ)))
 by_cases h5:w2 l 2>most
 ·rw[show gM most l=3 by unfold gM;rw[if_neg h1,if_neg h2,if_neg h3,if_pos (.inr h5)],if_neg (by decide)]
  repeat first|refine aa ?_ |intro
  exact ae (bq (rs:=[.cell 4 71,.tmp 5]) (v:= .agg (cN eY).toArray) (u:= .int .i64 ((3:Nat):Int)) (vs:=[]) rfl ⟨⟨_,rfl,bc.agg rfl⟩,rfl,trivial⟩ () rfl (U.sat (aZ)))
 rw[show gM most l=0 by unfold gM;rw[if_neg h1,if_neg h2,if_neg h3,if_neg (by omega)],if_pos rfl]
 have SB:=dH l 8
 have SC:=dH l 9
 repeat first|refine aa ?_ |intro
 refine aL 11 (iw x 71*F) rfl rfl rfl ?_
 repeat(first|refine aq ?_ |refine eD ?_)
 repeat(first|refine bQ ?_ |(refine bU ?_;intro)|refine bR ?_ |refine bS ?_ |refine bT ?_ |refine eD ?_)
 repeat first|refine aa ?_ |intro
 refine aL 9 (iw x 71*F) rfl rfl rfl ?_
 repeat(first|refine aq ?_ |refine eD ?_)
 refine aI rfl rfl rfl rfl rfl (Jf (j:=16) inferInstance inferInstance rfl (by omega) _ _ rfl) (fun _=>aZ) ?_
 intro _
 repeat(first|refine aq ?_ |refine eD ?_)
 refine aI rfl rfl rfl rfl rfl (Jf (j:=20) inferInstance inferInstance rfl (by omega) _ _ rfl) (fun _=>aZ) ?_
 intro _
 repeat(first|refine aq ?_ |refine eD ?_)
 repeat(first|refine bQ ?_ |(refine bU ?_;intro)|refine bR ?_ |refine bS ?_ |refine bT ?_ |refine eD ?_)
 repeat first|refine aa ?_ |intro
 exact ae (bq (rs:=[.cell 4 71,.tmp 5]) (v:= .agg (cN (bd l)).toArray) (u:= .int .i64 ((0:Nat):Int)) (vs:=[]) rfl ⟨⟨_,rfl,bc.agg rfl⟩,rfl,trivial⟩ () rfl (U.sat (aZ)))
theorem SM (l:List UInt8):dw true l=if gM 65535 l≠0 then gM 65535 l else pE l:=by
 have hw:=dK l 2
 unfold dw gM pE
 by_cases h1:l.length<20
 ·rw[if_pos h1,if_pos h1,if_pos (by decide)]
 by_cases h2:b1 l 0/16≠4∨b1 l 0%16*4<20
 ·rw[if_neg h1,if_pos h2,if_neg h1,if_pos h2,if_pos (by decide)]
 by_cases h3:l.length<b1 l 0%16*4
 ·rw[if_neg h1,if_neg h2,if_pos h3,if_neg h1,if_neg h2,if_pos h3,if_pos (by decide)]
 by_cases h4:w2 l 2<b1 l 0%16*4
 ·rw[if_neg h1,if_neg h2,if_neg h3,if_pos (Or.inl h4),if_neg h1,if_neg h2,if_neg h3,if_pos (Or.inl h4),if_pos (by decide)]
 have g4:¬(w2 l 2<b1 l 0%16*4∨w2 l 2>1500∧true=false):=fun g=>g.elim h4 fun g=>by cases g.2
 have g5:¬(w2 l 2<b1 l 0%16*4∨w2 l 2>65535):=by omega
 rw[if_neg h1,if_neg h2,if_neg h3,if_neg g4,if_neg (fun g=>by cases g.2),if_neg (fun g=>by cases g.1),if_neg h1,if_neg h2,if_neg h3,if_neg g5,if_neg (show ¬(0:Nat)≠0 by decide)]
theorem SK (l:List UInt8):dw false l=if gM 1500 l≠0 then gM 1500 l else if l.length<w2 l 2 then 2 else if cI (l.take (b1 l 0%16*4))≠0 then 4 else pE l:=by
 unfold dw gM pE
 by_cases h1:l.length<20
 ·rw[if_pos h1,if_pos h1,if_pos (by decide)]
 by_cases h2:b1 l 0/16≠4∨b1 l 0%16*4<20
 ·rw[if_neg h1,if_pos h2,if_neg h1,if_pos h2,if_pos (by decide)]
 by_cases h3:l.length<b1 l 0%16*4
 ·rw[if_neg h1,if_neg h2,if_pos h3,if_neg h1,if_neg h2,if_pos h3,if_pos (by decide)]
 by_cases h4:w2 l 2<b1 l 0%16*4∨w2 l 2>1500
 ·rw[if_neg h1,if_neg h2,if_neg h3,if_pos (h4.imp id fun g=>⟨g,rfl⟩),if_neg h1,if_neg h2,if_neg h3,if_pos h4,if_pos (by decide)]
 rw[if_neg h1,if_neg h2,if_neg h3,if_neg (fun g=>h4 (g.imp id fun g=>g.1)),if_neg h1,if_neg h2,if_neg h3,if_neg h4,if_neg (show ¬(0:Nat)≠0 by decide)]
 by_cases h5:l.length<w2 l 2
 ·rw[if_pos ⟨h5,rfl⟩,if_pos h5]
 rw[if_neg (fun g=>h5 g.1),if_neg h5]
 by_cases h6:cI (l.take (b1 l 0%16*4))≠0
 ·rw[if_pos ⟨rfl,h6⟩,if_pos h6]
 rw[if_neg (fun g=>h6 g.2),if_neg h6]
theorem LR {most:Nat}{l:List UInt8}(h:gM most l=0):20≤l.length∧20≤b1 l 0%16*4∧b1 l 0%16*4≤l.length∧b1 l 0%16*4≤w2 l 2∧w2 l 2≤most:=by
 unfold gM at h
 repeat' split at h
 all_goals first|(exact absurd h (by decide))|skip
 refine⟨by omega,by omega,by omega,by omega,by omega⟩
theorem lV {part:Bool}{l:List UInt8}{e:Nat}(h:dw part l=e):mX part l=if e=0 then bd l else eY:=by
 unfold mX;rw[h]
theorem Su (hl:l.length≤140737488355328)[s:Src W F p l.length (aA l)][r:Room W F p l.length c]:Spec Tryz.prog 231 [.slice p l.length c] W F (fun _:Unit=>rU (mX true l) (dw true l)) (fun _=>F):=by
 refine Spec.of Tryz.func231 rfl Tryz.ntmps231 rfl ?_
 repeat first|refine aa ?_ |intro
 refine ag rfl (LS 65535 (Nat.le_refl _) hl) ?_
 intro _
 have e0:=SM l
 by_cases h:gM 65535 l=0
 ·rw[h]at e0 ⊢
  rw[if_pos rfl]
  obtain⟨h1,_⟩:=LR h
  repeat first|refine aa ?_ |intro
  refine ag rfl (Mu h1 (bd l)) ?_
  intro _
  rw[if_neg (by decide)]at e0
  rw[e0,lV e0]
  repeat first|refine aa ?_ |intro
  exact ae (bq (rs:=[.cell 2 71,.tmp 3]) (v:= .agg (cN _).toArray) (u:= .int .i64 (pE l:Int)) (vs:=[]) rfl ⟨⟨_,rfl,bc.agg rfl⟩,rfl,trivial⟩ () rfl (U.sat (aZ)))
 ·rw[if_pos h]at e0
  rw[if_neg h,lV e0,e0,if_neg h]
  repeat first|refine aa ?_ |intro
  exact ae (bq (rs:=[.cell 2 71,.tmp 3]) (v:= .agg (cN eY).toArray) (u:= .int .i64 (gM 65535 l:Int)) (vs:=[]) rfl ⟨⟨_,rfl,bc.agg rfl⟩,rfl,trivial⟩ () rfl (U.sat (aZ)))
theorem Dc (hl:l.length≤140737488355328)[s:Src W F p l.length (aA l)][r:Room W F p l.length c]:Spec Tryz.prog 81 [.slice p l.length c] W F (fun _:Unit=>rU (mX false l) (dw false l)) (fun _=>F):=by
 refine Spec.of Tryz.func81 rfl Tryz.ntmps81 rfl ?_
 repeat first|refine aa ?_ |intro
 refine ag rfl (LS 1500 (by decide) hl) ?_
 intro _
 have e0:=SK l
 by_cases h:gM 1500 l=0
 ·rw[h]at e0 ⊢
  rw[if_pos rfl]
  rw[if_neg (by decide)]at e0
  obtain⟨h1,h2,h3,h4,h5⟩:=LR h
  have f1:(bd l).size=b1 l 0%16*4:=rfl
  have f2:(bd l).len=w2 l 2:=rfl
  rw[←f2]at h4 h5 e0
  rw[←f1]at h2 h3 h4 e0
  obtain⟨hd,f0⟩:∃x,bd l=x:=⟨_,rfl⟩
  rw[f0]at h2 h3 h4 h5 e0 f1 f2 ⊢
  by_cases h6:l.length<hd.len
  ·rw[if_pos h6]at e0
   unfold mX
   rw[e0]
   repeat first|refine aa ?_ |intro
   exact ae (bq (rs:=[.cell 2 71,.tmp 3]) (v:= .agg (cN eY).toArray) (u:= .int .i64 ((2:Nat):Int)) (vs:=[]) rfl ⟨⟨_,rfl,bc.agg rfl⟩,rfl,trivial⟩ () rfl (U.sat (aZ)))
  rw[if_neg h6]at e0
  have hc:=nB (l.take hd.size)
  repeat first|refine aa ?_ |intro
  refine ag rfl (O3 inferInstance h3 (by omega)) ?_
  intro _
  by_cases h7:cI (l.take hd.size)=0
  ·rw[if_neg (show ¬cI (l.take hd.size)≠0 by omega)]at e0
   repeat first|refine aa ?_ |intro
   refine ag rfl (Mu h1 hd) ?_
   intro _
   unfold mX
   rw[e0,f0]
   repeat first|refine aa ?_ |intro
   exact ae (bq (rs:=[.cell 2 71,.tmp 3]) (v:= .agg (cN _).toArray) (u:= .int .i64 (pE l:Int)) (vs:=[]) rfl ⟨⟨_,rfl,bc.agg rfl⟩,rfl,trivial⟩ () rfl (U.sat (aZ)))
  ·rw[if_pos h7]at e0
   unfold mX
   rw[e0]
   repeat first|refine aa ?_ |intro
   exact ae (bq (rs:=[.cell 2 71,.tmp 3]) (v:= .agg (cN eY).toArray) (u:= .int .i64 ((4:Nat):Int)) (vs:=[]) rfl ⟨⟨_,rfl,bc.agg rfl⟩,rfl,trivial⟩ () rfl (U.sat (aZ)))
 ·rw[if_pos h]at e0
  rw[if_neg h,lV e0,e0,if_neg h]
  repeat first|refine aa ?_ |intro
  exact ae (bq (rs:=[.cell 2 71,.tmp 3]) (v:= .agg (cN eY).toArray) (u:= .int .i64 (gM 1500 l:Int)) (vs:=[]) rfl ⟨⟨_,rfl,bc.agg rfl⟩,rfl,trivial⟩ () rfl (U.sat (aZ)))
theorem qh {part:Bool}{l:List UInt8}{e:Nat}(h:dw part l=e)(h0:e≠0):rU (mX part l) (dw part l)=rU eY e:=by
 rw[lV h,h,if_neg h0]
set_option maxHeartbeats 1000000 in
theorem Ln (part:Bool)(hl:l.length≤140737488355328)[s:Src W F p l.length (aA l)][r:Room W F p l.length c]:Spec Tryz.prog 42 [.slice p l.length c,.bool part] W F (fun _:Unit=>rU (mX part l) (dw part l)) (fun _=>F):=by
 refine Spec.of Tryz.func42 rfl Tryz.ntmps42 rfl ?_
 have e0:dw part l=_:=rfl
 conv at e0=>rhs;unfold dw
 by_cases h1:l.length<20
 ·rw[if_pos h1]at e0
  rw[qh e0 (by decide)]
  repeat first|refine aa ?_ |intro
  exact ae (bq (rs:=[.cell 4 124,.tmp 5]) (v:= .agg (cN eY).toArray) (u:= .int .i64 ((2:Nat):Int)) (vs:=[]) rfl ⟨⟨_,rfl,bc.agg rfl⟩,rfl,trivial⟩ () rfl (U.sat (aZ)))
 rw[if_neg h1]at e0
 have hb:=dH l 0
 have hw:=dK l 2
 have TZ:=dK l 6
 repeat first|refine aa ?_ |intro
 refine aL 99 F rfl rfl rfl ?_
 repeat(first|refine aq ?_ |refine eD ?_)
 refine aI rfl rfl rfl rfl rfl (oB (j:=4) inferInstance inferInstance rfl (by omega) _ _ rfl) (fun _=>aZ) ?_
 intro _
 repeat(first|refine aq ?_ |refine eD ?_)
 repeat first|refine aa ?_ |intro
 by_cases h2:¬b1 l 0/16=4
 ·rw[if_pos (Or.inl h2)]at e0
  rw[qh e0 (by decide),decide_eq_false (show ¬(b1 l 0:Int)/16=4 by omega)]
  repeat first|refine aa ?_ |intro
  exact ae (bq (rs:=[.cell 4 124,.tmp 5]) (v:= .agg (cN eY).toArray) (u:= .int .i64 ((3:Nat):Int)) (vs:=[]) rfl ⟨⟨_,rfl,bc.agg rfl⟩,rfl,trivial⟩ () rfl (U.sat (aZ)))
 rw[decide_eq_true (show(b1 l 0:Int)/16=4 by omega)]
 by_cases h3:b1 l 0%16*4<20
 ·rw[if_pos (Or.inr h3)]at e0
  rw[qh e0 (by decide)]
  repeat first|refine aa ?_ |intro
  exact ae (bq (rs:=[.cell 4 124,.tmp 5]) (v:= .agg (cN eY).toArray) (u:= .int .i64 ((3:Nat):Int)) (vs:=[]) rfl ⟨⟨_,rfl,bc.agg rfl⟩,rfl,trivial⟩ () rfl (U.sat (aZ)))
 rw[if_neg (fun g=>g.elim h2 h3)]at e0
 by_cases h4:l.length<b1 l 0%16*4
 ·rw[if_pos h4]at e0
  rw[qh e0 (by decide)]
  repeat first|refine aa ?_ |intro
  exact ae (bq (rs:=[.cell 4 124,.tmp 5]) (v:= .agg (cN eY).toArray) (u:= .int .i64 ((2:Nat):Int)) (vs:=[]) rfl ⟨⟨_,rfl,bc.agg rfl⟩,rfl,trivial⟩ () rfl (U.sat (aZ)))
 rw[if_neg h4]at e0
 by_cases h5:w2 l 2<b1 l 0%16*4
 ·rw[if_pos (Or.inl h5)]at e0
  rw[qh e0 (by decide)]
  repeat first|refine aa ?_ |intro
  exact ae (bq (rs:=[.cell 4 124,.tmp 5]) (v:= .agg (cN eY).toArray) (u:= .int .i64 ((3:Nat):Int)) (vs:=[]) rfl ⟨⟨_,rfl,bc.agg rfl⟩,rfl,trivial⟩ () rfl (U.sat (aZ)))
 cases hp:part
 case' true=>
  subst hp
  rw[if_neg (fun g=>g.elim h5 fun g=>by cases g.2),if_neg (fun g=>by cases g.2),if_neg (fun g=>by cases g.1)]at e0
  by_cases h6:w2 l 2>1500<;>by_cases h7:l.length<w2 l 2
  all_goals repeat(first|refine go ?_ |(refine C6 ?_;intro))
 case' false=>
  subst hp
  by_cases h6:w2 l 2>1500
  ·rw[if_pos (Or.inr ⟨h6,rfl⟩)]at e0
   rw[qh e0 (by decide)]
   repeat first|refine aa ?_ |intro
   exact ae (bq (rs:=[.cell 4 124,.tmp 5]) (v:= .agg (cN eY).toArray) (u:= .int .i64 ((3:Nat):Int)) (vs:=[]) rfl ⟨⟨_,rfl,bc.agg rfl⟩,rfl,trivial⟩ () rfl (U.sat (aZ)))
  rw[if_neg (fun g=>g.elim h5 fun g=>h6 g.1)]at e0
  by_cases h7:l.length<w2 l 2
  ·rw[if_pos ⟨h7,rfl⟩]at e0
   rw[qh e0 (by decide)]
   repeat first|refine aa ?_ |intro
   exact ae (bq (rs:=[.cell 4 124,.tmp 5]) (v:= .agg (cN eY).toArray) (u:= .int .i64 ((2:Nat):Int)) (vs:=[]) rfl ⟨⟨_,rfl,bc.agg rfl⟩,rfl,trivial⟩ () rfl (U.sat (aZ)))
  rw[if_neg (fun g=>h7 g.1)]at e0
  have hc:=nB (l.take (b1 l 0%16*4))
  repeat first|refine aa ?_ |intro
  refine ag rfl (W9 inferInstance (by omega) (by omega)) ?_
  intro _
  by_cases h8:¬cI (l.take (b1 l 0%16*4))=0
  ·rw[if_pos ⟨rfl,h8⟩]at e0
   rw[qh e0 (by decide)]
   repeat first|refine aa ?_ |intro
   exact ae (bq (rs:=[.cell 4 124,.tmp 5]) (v:= .agg (cN eY).toArray) (u:= .int .i64 ((4:Nat):Int)) (vs:=[]) rfl ⟨⟨_,rfl,bc.agg rfl⟩,rfl,trivial⟩ () rfl (U.sat (aZ)))
  rw[if_neg (fun g=>h8 g.2)]at e0
  repeat first|refine aa ?_ |intro
 all_goals
  refine ag rfl (oB (j:=8) inferInstance inferInstance rfl (by omega) _ _ rfl) ?_
  intro _
  repeat first|refine aa ?_ |intro
  rw[T4 (by omega)]
  by_cases h9:¬w2 l 6%16384=0
  ·rw[if_pos h9]at e0
   rw[qh e0 (by decide),decide_eq_false (show ¬((w2 l 6%16384:Nat):Int)=0 by omega)]
   repeat first|refine aa ?_ |intro
   exact ae (bq (rs:=[.cell 4 124,.tmp 5]) (v:= .agg (cN eY).toArray) (u:= .int .i64 ((5:Nat):Int)) (vs:=[]) rfl ⟨⟨_,rfl,bc.agg rfl⟩,rfl,trivial⟩ () rfl (U.sat (aZ)))
  rw[if_neg (by omega)]at e0
  rw[lV e0,e0,if_pos rfl,decide_eq_true (show((w2 l 6%16384:Nat):Int)=0 by omega)]
  have SB:=dH l 8
  have SC:=dH l 9
  have adZ:=nS l 12
  have ad0:=nS l 16
  repeat first|refine aa ?_ |intro
  refine aL 19 F rfl rfl rfl ?_
  repeat(first|refine aq ?_ |refine eD ?_)
  refine aI rfl rfl rfl rfl rfl (Lo (j:=16) inferInstance inferInstance rfl (by omega) _ _ rfl) (fun _=>aZ) ?_
  intro _
  repeat(first|refine aq ?_ |refine eD ?_)
  refine aI rfl rfl rfl rfl rfl (Lo (j:=20) inferInstance inferInstance rfl (by omega) _ _ rfl) (fun _=>aZ) ?_
  intro _
  repeat(first|refine aq ?_ |refine eD ?_)
  repeat(first|refine bQ ?_ |(refine bU ?_;intro)|refine bR ?_ |refine bS ?_ |refine bT ?_ |refine eD ?_)
  repeat first|refine aa ?_ |intro
  exact ae (bq (rs:=[.cell 4 124,.tmp 5]) (v:= .agg (cN (bd l)).toArray) (u:= .int .i64 ((0:Nat):Int)) (vs:=[]) rfl ⟨⟨_,rfl,bc.agg rfl⟩,rfl,trivial⟩ () rfl (U.sat (aZ)))
end
end
section
open Go.RowKit
set_option maxRecDepth 10000
attribute [local irreducible] EK EX ER EN EL ES EG az ba bf
variable {W:World} {F:SL} {X:Cx} {k:List KI} {σ:Env}
section
variable {p:Option Addr} {c i j:Nat} {l:List UInt8}
theorem La [s:Src W F p l.length (aA l)](h:2≤l.length):Spec Tryz.prog 183 [.slice p l.length c] W F (fun _:Unit=> .int .u16 (w2 l 0:Int)) (fun _=>F):=by
 refine Spec.of Tryz.func183 rfl Tryz.ntmps183 rfl ?_
 have h0:=dH l 0
 have h1:=dH l 1
 repeat first|refine aa ?_ |intro
 refine aL 99 F rfl rfl rfl ?_
 repeat(first|refine aq ?_ |refine eD ?_)
 repeat first|refine aa ?_ |intro
 exact ae (aw rfl rfl () (by rw[KT h0 h1];rfl) (U.sat (aZ)))
theorem tG (i:Nat)(s:Src W F p l.length (aA l))(r:Room W F p l.length c)(h:i+2≤l.length)(m:Nat):Spec Tryz.prog 183 [.slice (dO p i c 1) (l.length-i) m] W F (fun _:Unit=> .int .u16 (w2 l i:Int)) (fun _=>F):=by
 haveI:=Src.low s r (i:=i) (by omega)
 have h1:=La (W:=W) (F:=F) (c:=m) (l:=l.drop i) (p:=dO p i c 1) (by rw[List.length_drop];omega)
 rw[pD,List.length_drop,Nat.add_zero]at h1
 exact h1
theorem EY (q:Option Addr)(cc:Nat)(l:List UInt8)(n m:Nat)(hl:l.length≤100)(hm:m≤4)(hn:n<4294967296):Spec Tryz.prog 230 [.slice q l.length cc,.int .u32 (n:Int),.int .i64 (m:Int)] W (ao 5 1 q l.length cc (aA l)*F)
  (fun z:aP=> .slice z.1 (l++dT n m).length z.2) (fun z=>ao 5 1 z.1 (l++dT n m).length z.2 (aA (l++dT n m))*F):=by
 refine Spec.of Tryz.func230 rfl Tryz.ntmps230 rfl ?_
 repeat first|refine aa ?_ |intro
 refine ff (γ:=Nat×aP×List UInt8) (fun a=>a.1≤m∧a.2.2++dT n a.1=l++dT n m∧a.2.2.length≤104) (fun a=>[(0,.slice a.2.1.1 a.2.2.length a.2.1.2),(1,.int .u32 (n:Int)),(7,.int .i64 ((a.1:Int)-1))]) (fun a=>ao 5 1 a.2.1.1 a.2.2.length a.2.1.2 (aA a.2.2)*F) (fun a=>a.1)
  (m,(q,cc),l) ⟨Nat.le_refl _,rfl,by dsimp only;omega⟩ ⟨rfl,rfl,rfl,trivial⟩ (U.sat (U.refl _)) ?_
 intro ⟨t,z,o⟩ ⟨h1,h2,h3⟩;dsimp only at h1 h2 h3 ⊢
 match t,h1,h2 with
 |0,_,h2=>
  have e:o=l++dT n m:=by simpa[dT]using h2
  subst e
  repeat first|refine aa ?_ |intro
  exact ae (aw rfl rfl z rfl (U.sat (aZ)))
 |t+1,h1,h2=>
  rw[show((t+1:Nat):Int)-1=(t:Int)by omega]
  repeat first|refine aa ?_ |intro
  rename_i z2
  refine cT (t,z2,o++[u8 (n/256^t)]) ⟨by dsimp only;omega,by rw[List.append_assoc];exact h2,?_⟩ (by dsimp only;omega) ⟨by rw[List.length_append];rfl,rfl,rfl,trivial⟩ (U.sat ?_)
  ·have:=congrArg List.length h2
   rw[List.length_append,List.length_append,pU,pU]at this
   rw[List.length_append,List.length_singleton]
   omega
  dsimp only
  rw[List.length_append,List.length_singleton,Qk,←YH]
  exact aZ
theorem W4 (n m:Nat)(hm:m≤4)(hn:n<4294967296):Spec Tryz.prog 230 [.slice none 0 0,.int .u32 (n:Int),.int .i64 (m:Int)] W F
  (fun z:aP=> .slice z.1 (dT n m).length z.2) (fun z=>ao 5 1 z.1 (dT n m).length z.2 (aA (dT n m))*F):=fun w hs=>
 EY none 0 [] n m (by decide) hm hn w (ao.Wc _ _ hs)
theorem Lf [s:Src W F p l.length (aA l)](src dst proto:Nat)(h1:src<4294967296)(h2:dst<4294967296)(h3:proto<256)(hl:l.length≤65535):Spec Tryz.prog 184 [.int .u32 (src:Int),.int .u32 (dst:Int),.int .i64 (proto:Int),.slice p l.length c] W F (fun _:Unit=> .int .u16 (fP src dst proto l:Int)) (fun _=>F):=by
 refine Spec.of Tryz.func184 rfl Tryz.ntmps184 rfl ?_
 repeat first|refine aa ?_ |intro
 refine ag rfl (W4 src 4 (by decide) h1) ?_
 intro z1
 repeat first|refine aa ?_ |intro
 refine ag rfl (EY z1.1 z1.2 (dT src 4) dst 4 (by rw[pU];decide) (by decide) h2) ?_
 intro z2
 have l2:(dT src 4++dT dst 4).length=8:=by rw[List.length_append,pU,pU]
 repeat first|refine aa ?_ |intro
 rename_i z3
 have e3:(dT src 4++dT dst 4).length+2=(dT src 4++dT dst 4++[0,u8 proto]).length:=by simp[pU]
 have e4:aA (dT src 4++dT dst 4)++[Value.int IntKind.u8 0,Value.int IntKind.u8 (proto:Int)]=aA (dT src 4++dT dst 4++[0,u8 proto]):=by
  rw[Qj (dT src 4++dT dst 4)]
  have:(u8 proto).toNat=proto:=by rw[kf];omega
  simp[aA,this]
 rw[e3,e4]
 refine ag rfl (EY z3.1 z3.2 (dT src 4++dT dst 4++[0,u8 proto]) l.length 2 (by simp[pU]) (by decide) (by omega)) ?_
 intro z4
 have ea:dT src 4++dT dst 4++[0,u8 proto]++dT l.length 2=ahead src dst proto l.length:=rfl
 rw[ea]
 have hal:=G5 src dst proto l.length
 repeat first|refine aa ?_ |intro
 refine ag rfl (Bi (n:=0) (by decide) z4.1 z4.2 (ahead src dst proto l.length) (by omega)) ?_
 intro _
 have hf:=rp (0+bY true (ahead src dst proto l.length))
 repeat first|refine aa ?_ |intro
 refine ag rfl (Bi (n:=db (0+bY true (ahead src dst proto l.length))) (by omega) p c l (by omega)) ?_
 intro _
 have o5:=rp (db (0+bY true (ahead src dst proto l.length))+bY true l)
 repeat first|refine aa ?_ |intro
 refine ag rfl (CI (n:=db (db (0+bY true (ahead src dst proto l.length))+bY true l)) (by omega)) ?_
 intro _
 repeat first|refine aa ?_ |intro
 exact ae (aw rfl rfl () (by rw[WY]) (U.sat (aZ)))
theorem Al [s:Src W F p l.length (aA l)][r:Room W F p l.length c](h:4≤l.length)(x:gQ):Spec Tryz.prog 185 [.agg (bV x).toArray,.slice p l.length c] W F (fun _:Unit=> .agg (bV {x with sp:=w2 l 0,dp:=w2 l 2}).toArray) (fun _=>F):=by
 refine Spec.of Tryz.func185 rfl Tryz.ntmps185 rfl ?_
 repeat first|refine aa ?_ |intro
 rename_i x2 x4
 refine aL 8 (iw x2 73*F) rfl rfl rfl ?_
 repeat(first|refine aq ?_ |refine eD ?_)
 refine aI rfl rfl rfl rfl rfl (La (l:=l) (by omega)) (fun _=>aZ) ?_
 intro _
 repeat(first|refine aq ?_ |refine eD ?_)
 refine aI rfl rfl rfl rfl rfl (tG (l:=l) 2 inferInstance inferInstance (by omega) _) (fun _=>aZ) ?_
 intro _
 repeat(first|refine aq ?_ |refine eD ?_)
 repeat(first|refine bQ ?_ |(refine bU ?_;intro)|refine bR ?_ |refine bS ?_ |refine bT ?_ |refine eD ?_)
 repeat first|refine aa ?_ |intro
 exact ae (kO (rv:= .cell 4 73) rfl ⟨_,rfl,bc.agg rfl⟩ () rfl (U.sat (aZ)))
abbrev rV (x:gQ)(e:Nat):Value:= .tuple #[.agg (bV x).toArray,.int .i64 (e:Int)]
theorem YL [s:Src W F p l.length (aA l)][r:Room W F p l.length c](hd:fh)(h1:hd.src<4294967296)(h2:hd.dst<4294967296)(hl:l.length≤65535):Spec Tryz.prog 141 [.agg (cN hd).toArray,.slice p l.length c] W F (fun _:Unit=>rV (if pC hd.src hd.dst l=0 then nk l else bz) (pC hd.src hd.dst l)) (fun _=>F):=by
 refine Spec.of Tryz.func141 rfl Tryz.ntmps141 rfl ?_
 have e0:pC hd.src hd.dst l=_:=rfl
 conv at e0=>rhs;unfold pC
 by_cases g1:l.length<8
 ·rw[if_pos g1]at e0
  rw[e0]
  repeat first|refine aa ?_ |intro
  exact ae (bq (rs:=[.cell 4 73,.tmp 5]) (v:= .agg (bV bz).toArray) (u:= .int .i64 ((2:Nat):Int)) (vs:=[]) rfl ⟨⟨_,rfl,bc.agg rfl⟩,rfl,trivial⟩ () rfl (U.sat (aZ)))
 rw[if_neg g1]at e0
 repeat first|refine aa ?_ |intro
 refine ag rfl (tG (l:=l) 4 inferInstance inferInstance (by omega) _) ?_
 intro _
 have w4':=dK l 4
 have w6:=dK l 6
 by_cases g2:w2 l 4=l.length
 ·rw[if_neg (fun g=>g g2)]at e0
  repeat first|refine aa ?_ |intro
  refine ag rfl (tG (l:=l) 6 inferInstance inferInstance (by omega) _) ?_
  intro _
  by_cases g3:w2 l 6=0
  ·rw[if_neg (fun g=>g.1 g3)]at e0
   rw[e0,if_pos rfl,show nk l={bz with proto:=17,sp:=w2 l 0,dp:=w2 l 2,bare:=true}by unfold nk;rw[decide_eq_true g3]]
   repeat first|refine aa ?_ |intro
   refine ag rfl (Al (l:=l) (by omega) {bz with proto:=17,bare:=true}) ?_
   intro _
   repeat first|refine aa ?_ |intro
   exact ae (bq (rs:=[.cell 4 73,.tmp 5]) (v:= .agg (bV {bz with proto:=17,sp:=w2 l 0,dp:=w2 l 2,bare:=true}).toArray) (u:= .int .i64 ((0:Nat):Int)) (vs:=[]) rfl ⟨⟨_,rfl,bc.agg rfl⟩,rfl,trivial⟩ () rfl (U.sat (aZ)))
  ·have hp:=uV hd.src hd.dst 17 l
   repeat first|refine aa ?_ |intro
   refine ag rfl (Lf (l:=l) hd.src hd.dst 17 h1 h2 (by decide) hl) ?_
   intro _
   by_cases g4:fP hd.src hd.dst 17 l=0
   ·rw[if_neg (fun g=>g.2 g4)]at e0
    rw[e0,if_pos rfl,show nk l={bz with proto:=17,sp:=w2 l 0,dp:=w2 l 2,bare:=false}by unfold nk;rw[decide_eq_false g3]]
    repeat first|refine aa ?_ |intro
    refine ag rfl (Al (l:=l) (by omega) {bz with proto:=17,bare:=false}) ?_
    intro _
    repeat first|refine aa ?_ |intro
    exact ae (bq (rs:=[.cell 4 73,.tmp 5]) (v:= .agg (bV {bz with proto:=17,sp:=w2 l 0,dp:=w2 l 2,bare:=false}).toArray) (u:= .int .i64 ((0:Nat):Int)) (vs:=[]) rfl ⟨⟨_,rfl,bc.agg rfl⟩,rfl,trivial⟩ () rfl (U.sat (aZ)))
   ·rw[if_pos ⟨g3,g4⟩]at e0
    rw[e0]
    repeat first|refine aa ?_ |intro
    exact ae (bq (rs:=[.cell 4 73,.tmp 5]) (v:= .agg (bV bz).toArray) (u:= .int .i64 ((4:Nat):Int)) (vs:=[]) rfl ⟨⟨_,rfl,bc.agg rfl⟩,rfl,trivial⟩ () rfl (U.sat (aZ)))
 ·rw[if_pos g2]at e0
  rw[e0]
  repeat first|refine aa ?_ |intro
  exact ae (bq (rs:=[.cell 4 73,.tmp 5]) (v:= .agg (bV bz).toArray) (u:= .int .i64 ((3:Nat):Int)) (vs:=[]) rfl ⟨⟨_,rfl,bc.agg rfl⟩,rfl,trivial⟩ () rfl (U.sat (aZ)))
theorem Yu [s:Src W F p l.length (aA l)][r:Room W F p l.length c](hd:fh)(h1:hd.src<4294967296)(h2:hd.dst<4294967296)(hl:l.length≤65535):Spec Tryz.prog 142 [.agg (cN hd).toArray,.slice p l.length c] W F (fun _:Unit=>rV (if pz hd.src hd.dst l=0 then r9 l else bz) (pz hd.src hd.dst l)) (fun _=>F):=by
 refine Spec.of Tryz.func142 rfl Tryz.ntmps142 rfl ?_
 have e0:pz hd.src hd.dst l=_:=rfl
 conv at e0=>rhs;unfold pz
 by_cases g1:l.length<20
 ·rw[if_pos g1]at e0
  rw[e0]
  repeat first|refine aa ?_ |intro
  exact ae (bq (rs:=[.cell 4 73,.tmp 5]) (v:= .agg (bV bz).toArray) (u:= .int .i64 ((2:Nat):Int)) (vs:=[]) rfl ⟨⟨_,rfl,bc.agg rfl⟩,rfl,trivial⟩ () rfl (U.sat (aZ)))
 rw[if_neg g1]at e0
 have qe:=dH l 12
 have e4:IntKind.i64.wrap (4*IntKind.i64.wrap ((b1 l 12:Int)/2^Int.toNat 4))=((b1 l 12/16*4:Nat):Int):=by
  rw[show(b1 l 12:Int)/2^Int.toNat 4=((b1 l 12/16:Nat):Int)from iK _ 4,bF.wrap (k:= .i64) (z:=((b1 l 12/16:Nat):Int)) (by simp only[bF];omega),bF.wrap (k:= .i64) (by simp only[bF];omega)]
  omega
 repeat first|refine aa ?_ |intro
 rw[e4]
 by_cases g2:b1 l 12/16*4<20
 ·rw[if_pos (Or.inl g2)]at e0
  rw[e0,decide_eq_true (show((b1 l 12/16*4:Nat):Int)<20 by omega)]
  repeat first|refine aa ?_ |intro
  exact ae (bq (rs:=[.cell 4 73,.tmp 5]) (v:= .agg (bV bz).toArray) (u:= .int .i64 ((3:Nat):Int)) (vs:=[]) rfl ⟨⟨_,rfl,bc.agg rfl⟩,rfl,trivial⟩ () rfl (U.sat (aZ)))
 rw[decide_eq_false (show ¬((b1 l 12/16*4:Nat):Int)<20 by omega)]
 by_cases g3:b1 l 12/16*4>l.length
 ·rw[if_pos (Or.inr g3)]at e0
  rw[e0]
  repeat first|refine aa ?_ |intro
  exact ae (bq (rs:=[.cell 4 73,.tmp 5]) (v:= .agg (bV bz).toArray) (u:= .int .i64 ((3:Nat):Int)) (vs:=[]) rfl ⟨⟨_,rfl,bc.agg rfl⟩,rfl,trivial⟩ () rfl (U.sat (aZ)))
 rw[if_neg (fun g=>g.elim g2 g3)]at e0
 have hp:=uV hd.src hd.dst 6 l
 repeat first|refine aa ?_ |intro
 refine ag rfl (Lf (l:=l) hd.src hd.dst 6 h1 h2 (by decide) hl) ?_
 intro _
 by_cases g4:fP hd.src hd.dst 6 l=0
 ·rw[if_neg (fun g=>g g4)]at e0
  rw[e0,if_pos rfl]
  have oX:=dH l 13
  repeat first|refine aa ?_ |intro
  refine ag rfl (Al (l:=l) (by omega) {bz with proto:=6,flags:=b1 l 13}) ?_
  intro _
  repeat first|refine aa ?_ |intro
  exact ae (bq (rs:=[.cell 4 73,.tmp 5]) (v:= .agg (bV (r9 l)).toArray) (u:= .int .i64 ((0:Nat):Int)) (vs:=[]) rfl ⟨⟨_,rfl,bc.agg rfl⟩,rfl,trivial⟩ () rfl (U.sat (aZ)))
 ·rw[if_pos g4]at e0
  rw[e0]
  repeat first|refine aa ?_ |intro
  exact ae (bq (rs:=[.cell 4 73,.tmp 5]) (v:= .agg (bV bz).toArray) (u:= .int .i64 ((4:Nat):Int)) (vs:=[]) rfl ⟨⟨_,rfl,bc.agg rfl⟩,rfl,trivial⟩ () rfl (U.sat (aZ)))
abbrev T6 (k c:Nat):List Value:=[.int .i64 1,.int .u16 0,.int .u16 0,.int .i64 0,.int .i64 (k:Int),.int .i64 (c:Int),.bool false,.int .i64 0,.int .i64 0,.int .i64 0,.int .i64 0,.int .u32 0,.int .u32 0,.int .i64 0,.bool false]
def JA (kind code:Nat):gQ:={bz with proto:=1,kind:=kind,code:=code}
set_option maxHeartbeats 1000000 in
theorem RJ [s:Src W F p l.length (aA l)][r:Room W F p l.length c](hd:fh)(kind code:Nat)(hs:hd.size≤60)(hl:l.length≤65535):Spec Tryz.prog 186 [.agg (bV (JA kind code)).toArray,.agg (cN hd).toArray,.slice p l.length c] W F (fun _:Unit=>rV (if oV l=0 then p9 kind code hd.size l else bz) (oV l)) (fun _=>F):=by
 refine Spec.of Tryz.func186 rfl Tryz.ntmps186 rfl ?_
 have e0:oV l=_:=rfl
 conv at e0=>rhs;unfold oV
 repeat first|refine aa ?_ |intro
 refine ag rfl (Su (by omega)) ?_
 intro _
 by_cases zb:dw true l≠0
 ·rw[if_pos zb]at e0
  rw[e0,if_neg zb,lV (rfl:dw true l=_),if_neg zb]
  repeat first|refine aa ?_ |intro
  exact ae (bq (rs:=[.cell 6 73,.tmp 7]) (v:= .agg (bV bz).toArray) (u:= .int .i64 ((dw true l:Nat):Int)) (vs:=[]) rfl ⟨⟨_,rfl,bc.agg rfl⟩,rfl,trivial⟩ () rfl (U.sat (aZ)))
 rw[if_neg zb]at e0
 have g1:dw true l=0:=by omega
 obtain⟨k1,k2,k3,k4,_,k6⟩:=zn g1
 rw[k6,g1]
 have eF:p9 kind code hd.size l={bz with proto:=1,kind:=kind,code:=code,err:=true,inner:=bd l,pos:=hd.size+8,sp:=if(bd l).proto=1 then w2 l ((bd l).size+4)else w2 l (bd l).size,dp:=if(bd l).proto=1 then w2 l ((bd l).size+4)else w2 l ((bd l).size+2)}:=rfl
 obtain⟨hi,f0⟩:∃x,bd l=x:=⟨_,rfl⟩
 have Jk:hi.proto<256:=by rw[←f0];exact dH l 9
 have hlen:hi.len<65536:=by rw[←f0];exact dK l 2
 rw[f0]at e0 eF k1 k2 k3 k4 ⊢
 repeat first|refine aa ?_ |intro
 rename_i x3 x4 x6 _ _ x8
 have ey:l.length-hi.size=(l.drop hi.size).length:=by rw[List.length_drop]
 have y0:=vJ l hi.size 0
 have y1:=pD l hi.size 0
 have y2:=pD l hi.size 2
 have y4:=pD l hi.size 4
 haveI sy:=Src.low s r k3
 haveI ry:=Room.low (i:=hi.size) r
 obtain⟨y,hy⟩:∃y,l.drop hi.size=y:=⟨_,rfl⟩
 rw[hy]at ey y0 y1 y2 y4 sy ry
 rw[Nat.add_zero]at y0 y1
 rw[←y1,←y2,←y4]at eF
 rw[ey,←y0]at e0
 rw[ey]
 obtain⟨q,hq⟩:∃q,dO p hi.size c 1=q:=⟨_,rfl⟩
 obtain⟨cc,mT⟩:∃cc,c-hi.size=cc:=⟨_,rfl⟩
 rw[hq,mT]at ry
 rw[hq]at sy
 rw[hq,mT]
 haveI:=sy
 haveI:=ry
 by_cases g2:y.length<8
 ·rw[if_pos (Or.inl g2)]at e0
  rw[e0,decide_eq_true (show((y.length:Nat):Int)<8 by omega)]
  repeat first|refine aa ?_ |intro
  exact ae (bq (rs:=[.cell 6 73,.tmp 7]) (v:= .agg (bV bz).toArray) (u:= .int .i64 ((3:Nat):Int)) (vs:=[]) rfl ⟨⟨_,rfl,bc.agg rfl⟩,rfl,trivial⟩ () rfl (U.sat (aZ)))
 rw[decide_eq_false (show ¬((y.length:Nat):Int)<8 by omega)]
 by_cases g3:hi.len<hi.size+8
 ·rw[if_pos (Or.inr g3)]at e0
  rw[e0]
  repeat first|refine aa ?_ |intro
  exact ae (bq (rs:=[.cell 6 73,.tmp 7]) (v:= .agg (bV bz).toArray) (u:= .int .i64 ((3:Nat):Int)) (vs:=[]) rfl ⟨⟨_,rfl,bc.agg rfl⟩,rfl,trivial⟩ () rfl (U.sat (aZ)))
 rw[if_neg (fun g=>g.elim g2 g3)]at e0
 have Df:=dH y 0
 have tv:=dK y 4
 repeat first|refine aa ?_ |intro
 refine aL 9 (Obj x8 71 (cN hi)*(Obj x4 71 (cN hd)*(iw x3 73*F))) rfl rfl rfl ?_
 repeat(first|refine aq ?_ |refine eD ?_)
 repeat(first|refine bQ ?_ |(refine bU ?_;intro)|refine bR ?_ |refine bS ?_ |refine bT ?_ |refine eD ?_)
 by_cases g4:hi.proto=17∨hi.proto=6
 ·rw[if_pos g4]at e0
  rw[e0,if_pos rfl,eF,if_neg (by omega),if_neg (by omega)]
  rcases g4 with g4|g4
  all_goals
   repeat first|refine aa ?_ |intro
   refine ag rfl (Al (l:=y) (by omega) {bz with proto:=1,kind:=kind,code:=code,err:=true,inner:=hi,pos:=hd.size+8,sp:=0,dp:=0}) ?_
   intro _
   repeat first|refine aa ?_ |intro
   exact ae (bq (rs:=[.cell 6 73,.tmp 7]) (v:= .agg (bV {bz with proto:=1,kind:=kind,code:=code,err:=true,inner:=hi,pos:=hd.size+8,sp:=w2 y 0,dp:=w2 y 2}).toArray) (u:= .int .i64 ((0:Nat):Int)) (vs:=[]) rfl ⟨⟨_,rfl,bc.agg rfl⟩,rfl,trivial⟩ () rfl (U.sat (aZ)))
 rw[if_neg g4]at e0
 by_cases g5:¬(hi.proto=1)
 ·rw[if_neg (fun g=>g5 g.1)]at e0
  rw[e0]
  repeat first|refine aa ?_ |intro
  exact ae (bq (rs:=[.cell 6 73,.tmp 7]) (v:= .agg (bV bz).toArray) (u:= .int .i64 ((6:Nat):Int)) (vs:=[]) rfl ⟨⟨_,rfl,bc.agg rfl⟩,rfl,trivial⟩ () rfl (U.sat (aZ)))
 have g5:=Decidable.not_not.1 g5
 by_cases g6:¬(b1 y 0=0∨b1 y 0=8)
 ·rw[if_neg (fun g=>g6 g.2)]at e0
  rw[e0]
  repeat first|refine aa ?_ |intro
  exact ae (bq (rs:=[.cell 6 73,.tmp 7]) (v:= .agg (bV bz).toArray) (u:= .int .i64 ((6:Nat):Int)) (vs:=[]) rfl ⟨⟨_,rfl,bc.agg rfl⟩,rfl,trivial⟩ () rfl (U.sat (aZ)))
 have g6:=Decidable.not_not.1 g6
 rw[if_pos ⟨g5,g6⟩]at e0
 rw[e0,if_pos rfl,eF,if_pos g5,if_pos g5]
 rcases g6 with g6|g6
 all_goals
  repeat first|refine aa ?_ |intro
  refine aL 9 (iw x3 73*F) rfl rfl rfl ?_
  repeat(first|refine aq ?_ |refine eD ?_)
  refine aI rfl rfl rfl rfl rfl (tG (l:=y) 4 inferInstance inferInstance (by omega) _) (fun _=>aZ) ?_
  intro _
  repeat(first|refine aq ?_ |refine eD ?_)
  refine aI rfl rfl rfl rfl rfl (tG (l:=y) 4 inferInstance inferInstance (by omega) _) (fun _=>aZ) ?_
  intro _
  repeat(first|refine aq ?_ |refine eD ?_)
  repeat(first|refine bQ ?_ |(refine bU ?_;intro)|refine bR ?_ |refine bS ?_ |refine bT ?_ |refine eD ?_)
  repeat first|refine aa ?_ |intro
  exact ae (bq (rs:=[.cell 6 73,.tmp 7]) (v:= .agg (bV {bz with proto:=1,kind:=kind,code:=code,err:=true,inner:=hi,pos:=hd.size+8,sp:=w2 y 4,dp:=w2 y 4}).toArray) (u:= .int .i64 ((0:Nat):Int)) (vs:=[]) rfl ⟨⟨_,rfl,bc.agg rfl⟩,rfl,trivial⟩ () rfl (U.sat (aZ)))
theorem RI (i:Nat)(s:Src W F p l.length (aA l))(r:Room W F p l.length c)(hi:i≤l.length)(hd:fh)(kind code:Nat)(hs:hd.size≤60)(hl:l.length≤65535):Spec Tryz.prog 186 [.agg (bV (JA kind code)).toArray,.agg (cN hd).toArray,.slice (dO p i c 1) (l.length-i) (c-i)] W F (fun _:Unit=>rV (if oV (l.drop i)=0 then p9 kind code hd.size (l.drop i)else bz) (oV (l.drop i))) (fun _=>F):=by
 haveI:=Src.low s r hi
 haveI:=Room.low (i:=i) r
 have h:=RJ (W:=W) (F:=F) (p:=dO p i c 1) (c:=c-i) (l:=l.drop i) hd kind code hs (by rw[List.length_drop];omega)
 rwa[List.length_drop]at h
theorem HX {k:Nat}(h:¬ur k):k≠3∧k≠11∧k≠12:=⟨fun g=>h (.inl g),fun g=>h (.inr (.inl g)),fun g=>h (.inr (.inr g))⟩
set_option maxHeartbeats 1000000 in
theorem T7 [s:Src W F p l.length (aA l)][r:Room W F p l.length c](hd:fh)(hs:hd.size≤60)(hl:l.length≤65535):Spec Tryz.prog 143 [.agg (cN hd).toArray,.slice p l.length c] W F (fun _:Unit=>rV (if nI l=0 then qp hd.size l else bz) (nI l)) (fun _=>F):=by
 refine Spec.of Tryz.func143 rfl Tryz.ntmps143 rfl ?_
 have e0:nI l=_:=rfl
 conv at e0=>rhs;unfold nI
 by_cases g1:l.length<8
 ·rw[if_pos g1]at e0
  rw[e0]
  repeat first|refine aa ?_ |intro
  exact ae (bq (rs:=[.cell 4 73,.tmp 5]) (v:= .agg (bV bz).toArray) (u:= .int .i64 ((2:Nat):Int)) (vs:=[]) rfl ⟨⟨_,rfl,bc.agg rfl⟩,rfl,trivial⟩ () rfl (U.sat (aZ)))
 rw[if_neg g1]at e0
 have hc:=nB l
 repeat first|refine aa ?_ |intro
 refine ag rfl (Bl p c l (by omega)) ?_
 intro _
 by_cases g2:cI l≠0
 ·rw[if_pos g2]at e0
  rw[e0]
  repeat first|refine aa ?_ |intro
  exact ae (bq (rs:=[.cell 4 73,.tmp 5]) (v:= .agg (bV bz).toArray) (u:= .int .i64 ((4:Nat):Int)) (vs:=[]) rfl ⟨⟨_,rfl,bc.agg rfl⟩,rfl,trivial⟩ () rfl (U.sat (aZ)))
 rw[if_neg g2]at e0
 have Df:=dH l 0
 have hU:=dH l 1
 repeat first|refine aa ?_ |intro
 rename_i x2 x4 _
 refine aL 10 F rfl rfl rfl ?_
 repeat(first|refine aq ?_ |refine eD ?_)
 repeat(first|refine bQ ?_ |(refine bU ?_;intro)|refine bR ?_ |refine bS ?_ |refine bT ?_ |refine eD ?_)
 rename_i x6
 by_cases g3:b1 l 0=0∨b1 l 0=8
 ·rw[if_pos g3]at e0
  by_cases g4:b1 l 1≠0
  ·rw[if_pos g4]at e0
   rw[e0]
   rcases g3 with g3|g3
   all_goals
    repeat first|refine aa ?_ |intro
    exact ae (bq (rs:=[.cell 4 73,.tmp 5]) (v:= .agg (bV bz).toArray) (u:= .int .i64 ((3:Nat):Int)) (vs:=[]) rfl ⟨⟨_,rfl,bc.agg rfl⟩,rfl,trivial⟩ () rfl (U.sat (aZ)))
  rw[if_neg g4]at e0
  have C0:b1 l 1=0:=by omega
  rw[e0,if_pos rfl,show qp hd.size l={bz with proto:=1,kind:=b1 l 0,code:=0,sp:=w2 l 4,dp:=w2 l 4}from if_pos g3,C0]
  have tv:=dK l 4
  rcases g3 with g3|g3
  all_goals
   repeat first|refine aa ?_ |intro
   refine aL 9 (iw x6 73*F) rfl rfl rfl ?_
   repeat(first|refine aq ?_ |refine eD ?_)
   refine aI rfl rfl rfl rfl rfl (tG (l:=l) 4 inferInstance inferInstance (by omega) _) (fun _=>aZ) ?_
   intro _
   repeat(first|refine aq ?_ |refine eD ?_)
   refine aI rfl rfl rfl rfl rfl (tG (l:=l) 4 inferInstance inferInstance (by omega) _) (fun _=>aZ) ?_
   intro _
   repeat(first|refine aq ?_ |refine eD ?_)
   repeat(first|refine bQ ?_ |(refine bU ?_;intro)|refine bR ?_ |refine bS ?_ |refine bT ?_ |refine eD ?_)
   repeat first|refine aa ?_ |intro
   exact ae (bq (rs:=[.cell 4 73,.tmp 5]) (v:= .agg (bV {bz with proto:=1,kind:=b1 l 0,code:=0,sp:=w2 l 4,dp:=w2 l 4}).toArray) (u:= .int .i64 ((0:Nat):Int)) (vs:=[]) rfl ⟨⟨_,rfl,bc.agg rfl⟩,rfl,trivial⟩ () rfl (U.sat (aZ)))
 rw[if_neg g3]at e0
 have Sb:b1 l 0≠0:=fun g=>g3 (.inl g)
 have Sc:b1 l 0≠8:=fun g=>g3 (.inr g)
 by_cases g5:ur (b1 l 0)
 ·rw[if_pos g5]at e0
  rw[e0,show qp hd.size l=p9 (b1 l 0) (b1 l 1) hd.size (l.drop 8)from if_neg g3]
  rcases g5 with g5|g5|g5
  all_goals
   repeat first|refine aa ?_ |intro
   refine aL 7 (Obj x6 73 (T6 (b1 l 0) (b1 l 1))*(Obj x2 71 (cN hd)*F)) rfl rfl rfl ?_
   repeat(first|refine aq ?_ |refine eD ?_)
   refine aI rfl rfl rfl rfl rfl (RI (l:=l) 8 inferInstance inferInstance (by omega) hd (b1 l 0) (b1 l 1) hs hl) (fun _=>aZ) ?_
   intro _
   repeat(first|refine aq ?_ |refine eD ?_)
   repeat(first|refine bQ ?_ |(refine bU ?_;intro)|refine bR ?_ |refine bS ?_ |refine bT ?_ |refine eD ?_)
   repeat first|refine aa ?_ |intro
   exact ae (bq (rs:=[.cell 4 73,.tmp 5]) (v:= .agg (bV _).toArray) (u:= .int .i64 ((oV (l.drop 8):Nat):Int)) (vs:=[]) rfl ⟨⟨_,rfl,bc.agg rfl⟩,rfl,trivial⟩ () rfl (U.sat (aZ)))
 obtain⟨g6,g7,g8⟩:=HX g5
 rw[if_neg g5]at e0
 rw[e0]
 repeat first|refine aa ?_ |intro
 exact ae (bq (rs:=[.cell 4 73,.tmp 5]) (v:= .agg (bV bz).toArray) (u:= .int .i64 ((6:Nat):Int)) (vs:=[]) rfl ⟨⟨_,rfl,bc.agg rfl⟩,rfl,trivial⟩ () rfl (U.sat (aZ)))
def pK (hd:fh)(n:Nat):Prop:=20≤hd.size∧hd.size≤60∧hd.size≤hd.len∧hd.len≤n∧hd.len≤1500∧hd.src<4294967296∧hd.dst<4294967296∧hd.proto<256
theorem pK.of {l:List UInt8}(h:dw false l=0):pK (bd l) l.length:=by
 obtain⟨h1,h2,h3,h4,h5,_⟩:=zn h
 obtain⟨h6,h7⟩:=h5 rfl
 exact⟨h1,h2,h4,h7,h6,nS l 12,nS l 16,dH l 9⟩
theorem vN (hd:fh)(l:List UInt8):mK hd l=iW l hd.size hd.len:=rfl
set_option maxHeartbeats 1000000 in
theorem EJ [s:Src W F p l.length (aA l)][r:Room W F p l.length c](hd:fh)(h:pK hd l.length):Spec Tryz.prog 82 [.agg (cN hd).toArray,.slice p l.length c] W F (fun _:Unit=>rV (oy hd l) (iG hd l)) (fun _=>F):=by
 refine Spec.of Tryz.func82 rfl Tryz.ntmps82 rfl ?_
 obtain⟨h1,h2,h3,h4,h5,h6,h7,h8⟩:=h
 have e0:iG hd l=_:=rfl
 conv at e0=>rhs;unfold iG
 haveI sy:=Src.cut s r h3 h4
 haveI ry:=Room.cut (i:=hd.size) r h4
 have ey:=oR l (i:=hd.size) h4
 rw[vN]at e0
 have eP:ll hd l=_:=rfl
 conv at eP=>rhs;unfold ll
 rw[vN]at eP
 obtain⟨y,hy⟩:∃y,iW l hd.size hd.len=y:=⟨_,rfl⟩
 rw[hy]at sy ry ey e0 eP
 unfold oy
 by_cases g1:hd.proto=17
 ·rw[if_pos g1]at e0 eP
  rw[e0,eP]
  repeat first|refine aa ?_ |intro
  rw[←ey]
  refine ag rfl (YL (l:=y) hd h6 h7 (by omega)) ?_
  intro _
  repeat first|refine aa ?_ |intro
  exact ae (bq (rs:=[.cell 4 73,.tmp 5]) (v:= .agg (bV _).toArray) (u:= .int .i64 (pC hd.src hd.dst y:Int)) (vs:=[]) rfl ⟨⟨_,rfl,bc.agg rfl⟩,rfl,trivial⟩ () rfl (U.sat (aZ)))
 rw[if_neg g1]at e0 eP
 by_cases g2:hd.proto=6
 ·rw[if_pos g2]at e0 eP
  rw[e0,eP]
  repeat first|refine aa ?_ |intro
  rw[←ey]
  refine ag rfl (Yu (l:=y) hd h6 h7 (by omega)) ?_
  intro _
  repeat first|refine aa ?_ |intro
  exact ae (bq (rs:=[.cell 4 73,.tmp 5]) (v:= .agg (bV _).toArray) (u:= .int .i64 (pz hd.src hd.dst y:Int)) (vs:=[]) rfl ⟨⟨_,rfl,bc.agg rfl⟩,rfl,trivial⟩ () rfl (U.sat (aZ)))
 rw[if_neg g2]at e0 eP
 by_cases g3:hd.proto=1
 ·rw[if_pos g3]at e0
  rw[e0,eP]
  repeat first|refine aa ?_ |intro
  rw[←ey]
  refine ag rfl (T7 (l:=y) hd h2 (by omega)) ?_
  intro _
  repeat first|refine aa ?_ |intro
  exact ae (bq (rs:=[.cell 4 73,.tmp 5]) (v:= .agg (bV _).toArray) (u:= .int .i64 (nI y:Int)) (vs:=[]) rfl ⟨⟨_,rfl,bc.agg rfl⟩,rfl,trivial⟩ () rfl (U.sat (aZ)))
 rw[if_neg g3]at e0
 rw[e0]
 repeat first|refine aa ?_ |intro
 exact ae (bq (rs:=[.cell 4 73,.tmp 5]) (v:= .agg (bV bz).toArray) (u:= .int .i64 ((6:Nat):Int)) (vs:=[]) rfl ⟨⟨_,rfl,bc.agg rfl⟩,rfl,trivial⟩ () rfl (U.sat (aZ)))
end
end
end Go.Proofs.YtakbmjoijcpdmaaGreatDoor
