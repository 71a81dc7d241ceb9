/-
  A part of a proof, joined by a program (wip/bundle3.py).
-/
import Derived.Test.YtakbmjoijcpdmaaGreatDoorRows
import Derived.ProofKit
import Derived.OpenShut
import Derived.Deep.DeepHandedRow
import Derived.Deep.Slices
import Derived.Deep.Fields
import Derived.Carry
import Derived.Test.YtakbmjoijcpdmaaGreatDoorG1
import Derived.Test.YtakbmjoijcpdmaaGreatDoorG4
import Derived.Test.YtakbmjoijcpdmaaGreatDoorG5
import Derived.Test.YtakbmjoijcpdmaaGreatDoorG7
import Derived.Test.YtakbmjoijcpdmaaGreatDoorG8
import Derived.Test.YtakbmjoijcpdmaaGreatDoorG12
import Derived.Test.YtakbmjoijcpdmaaGreatDoorG13
set_option linter.unusedVariables false
set_option linter.unusedSimpArgs false
namespace Go.Proofs.YtakbmjoijcpdmaaGreatDoor
section
open Go.RowKit Go.Sort Go.Lib
variable {W:World} {F:SL}
theorem Ly {w:World}{e g o c n:Nat}{cur:List Value}{zs ys:List Int}(hs:Sat W w (SL.cH g (.cells cur.toArray e (0,0))*F))(hc:n≤c)(hm:c≤maxLen)(h2:o+c*1≤cur.length)(hl:ys.length=n)
  (m:Nat) (os:Array Go.Obj):Sat W (grow (putRow (Value.int .i64) (Sort.ahead w m) g o ys.toArray) os) (ao e 1 (some ⟨g,o,none⟩) n c (im .i64 ys)*F):=by
 have hg:=hs.get
 have hw:Sat W (grow (putRow (Value.int .i64) (Sort.ahead w m) g o ys.toArray) os) (SL.cH g (.cells (putCells (Value.int .i64) o ys.toArray cur.toArray).toList.toArray e (0,0))*F):=by
  refine hs.write ?_ rfl rfl rfl ?_ ?_
  ·simp[Go.Sort.grow,putRow,mapBlock,Go.Sort.ahead]
  ·intro k hk S7
   simp only[Go.Sort.grow,putRow,mapBlock]
   rw[Array.getElem?_append_left (by simpa[Go.Sort.ahead]using hk),Array.getElem?_modify,if_neg (Ne.symm S7)]
   rfl
  ·simp only[Go.Sort.grow,putRow,mapBlock]
   rw[Array.getElem?_append_left (by simpa[Go.Sort.ahead]using hs.lt),Array.getElem?_modify,if_pos rfl]
   have:(Go.Sort.ahead w m).heap=w.heap:=rfl
   rw[this,hg]
   rfl
 refine ao.shut (o:=o) hc hm ?_ ?_ hw
 ·simpa[putCells]using h2
 ·apply List.ext_getElem?
  intro j
  rw[List.getElem?_take,List.getElem?_drop]
  split
  ·rename_i hj
   simp only[putCells,Array.getElem?_toList,Array.getElem?_mapIdx,List.getElem?_toArray]
   have ck:o+j<cur.length:=by omega
   have I4:j<ys.length:=by omega
   rw[List.getElem?_eq_getElem ck]
   simp only[Option.map_some]
   rw[if_pos ⟨by omega,by simp;omega⟩]
   unfold im
   rw[List.getElem?_map,List.getElem?_eq_getElem I4]
   simp only[Option.map_some]
   congr 2
   rw[show o+j-o=j by omega,getElem!_pos _ j (by simpa using I4)]
   simp
  ·rw[List.getElem?_eq_none (by simp[im];omega)]
theorem Lx {w:World}{e g o c n:Nat}{cur:List Value}{zs:List Int}(hs:Sat W w (SL.cH g (.cells cur.toArray e (0,0))*F))(h3:(cur.drop o).take (n*1)=im .i64 zs)(hl:zs.length=n):Holds (Value.int .i64) w g o zs.toArray:=by
 intro j hj
 have rL:j<zs.length:=by simpa using hj
 refine⟨?_,hs.free _⟩
 rw[hs.cell]
 have e1:((cur.drop o).take (n*1))[j]? =(im .i64 zs)[j]? :=by rw[h3]
 rw[List.getElem?_take,if_pos (by omega),List.getElem?_drop]at e1
 rw[List.getElem?_toArray,e1]
 unfold im
 rw[List.getElem?_map,List.getElem?_eq_getElem rL,getElem!_pos _ j (by simpa using rL)]
 simp
def xP (zs:List Int):List Int:=zs.mergeSort fun x y=>decide (x≤y)
theorem LX (zs:List Int):(xP zs).length=zs.length:=List.length_mergeSort zs
theorem Pq (p:Option Addr)(n c:Nat)(zs:List Int)(hl:zs.length=n)(TO:n≤1000000):
  Spec Tryz.prog 175 [.slice p n c] W (ao 3 1 p n c (im .i64 zs)*F) (fun _:Unit=> .tuple #[]) (fun _=>ao 3 1 p n c (im .i64 (xP zs))*F):=by
 intro w h
 obtain⟨⟨_,hc,hm⟩,⟨_,Dg,hs⟩|⟨g,o,cur,rfl,h2,h3,hs⟩⟩:=ao.open h
 ·have hn:n=0:=by omega
  subst hn
  obtain rfl:=List.eq_nil_of_length_eq_zero hl
  refine(Tryz.slices_Sort_int_none p c w).mono ?_
  rintro e w' ⟨rfl,rfl⟩
  exact⟨(),rfl,by simpa[xP]using h⟩
 ·subst hl
  refine(Tryz.slices_Sort_int g o c zs w (Lx (c:=c) hs h3 rfl) hs.lt (by omega)).mono ?_
  rintro e w' ⟨rfl,m,os,rfl⟩
  exact⟨(),rfl,Ly (zs:=zs) hs hc hm h2 (LX zs) m os⟩
theorem Sj (w:World):grow w #[]=w:=by
 unfold grow
 simp
theorem Pk (p:Option Addr)(n c:Nat)(zs:List Int)(hl:zs.length=n)(TO:n≤1000000):
  Spec Tryz.prog 213 [.slice p n c] W (ao 3 1 p n c (im .i64 zs)*F) (fun _:Unit=> .tuple #[]) (fun _=>ao 3 1 p n c (im .i64 zs.reverse)*F):=by
 intro w h
 obtain⟨⟨_,hc,hm⟩,⟨_,Dg,hs⟩|⟨g,o,cur,rfl,h2,h3,hs⟩⟩:=ao.open h
 ·have hn:n=0:=by omega
  subst hn
  obtain rfl:=List.eq_nil_of_length_eq_zero hl
  refine(Tryz.slices_Reverse_int_empty p c w).mono ?_
  rintro e w' ⟨rfl,rfl⟩
  exact⟨(),rfl,by simpa using h⟩
 ·subst hl
  refine(Tryz.slices_Reverse_int g o c zs w (Lx (c:=c) hs h3 rfl) (by omega)).mono ?_
  rintro e w' ⟨rfl,m,rfl⟩
  have:=Ly (zs:=zs) hs hc hm h2 (show zs.reverse.length=zs.length by simp) m #[]
  rw[Sj]at this
  exact⟨(),rfl,this⟩
end
section
open Go.RowKit
theorem xj {α:Type}(l:List α)(a:α):(l++[a]).length=l.length+1:=by simp
def gK (x:Nat×Nat)(c:Nat):List Nat:=((List.range c).filter fun i=>x.2.testBit i).map (x.1*32+ ·)
def fm (l:List (Nat×Nat)):List Nat:=l.flatMap fun x=>gK x 32
theorem WR (x:Nat×Nat)(c:Nat):gK x (c+1)=gK x c++if x.2.testBit c then [x.1*32+c]else []:=by
 unfold gK
 rw[List.range_succ,List.filter_append,List.map_append]
 congr 1
 by_cases h:x.2.testBit c<;>simp[h]
theorem K5 (x:Nat×Nat)(c:Nat):(gK x c).length≤c:=by
 have:=List.length_filter_le (fun i=>x.2.testBit i) (List.range c)
 simpa[gK]using this
theorem UT (l:List (Nat×Nat)){i:Nat}(h:i<l.length):fm (l.take (i+1))=fm (l.take i)++gK (l.getD i (0,0)) 32:=by
 have:=tQ (l:=l) (d:=(0,0)) h
 rw[←this]
 simp[fm]
theorem El (l:List (Nat×Nat)):(fm l).length≤l.length*32:=by
 induction l with
 |nil=>simp[fm]
 |cons x l ih=>
  have:=K5 x 32
  simp only[fm,List.flatMap_cons,List.length_append,List.length_cons]at ih ⊢
  omega
end
section
open Go.RowKit
set_option maxRecDepth 10000
attribute [local irreducible] EK EX ER EN EL ES EG az ba bf
variable {W:World} {F:SL} {X:Cx} {k:List KI} {σ:Env} {p sp:Option Addr} {n m:Nat} {ws:List Nat} {s:bL}
def pb (l:List (Nat×Nat)):List Int:=xP ((fm l).map fun(i:Nat)=>(i:Int))
theorem Ek (l:List (Nat×Nat)):(pb l).length=(fm l).length:=by simp[pb,LX]
theorem Eu (l:List Nat)(k:IntKind):bB k l=im k (l.map fun(i:Nat)=>(i:Int)):=by simp[bB,im]
theorem OQ:Spec Tryz.prog 123 [.pointer none] W F (fun _:Unit=> .slice none 0 0) (fun _=>F):=by
 refine Spec.of Tryz.func123 rfl Tryz.ntmps123 rfl ?_
 repeat first|refine aa ?_ |intro
 exact ae (aw rfl rfl () rfl (U.sat U.last))
theorem OR (hp:s.parts.length≤1000)(hm:∀x∈s.parts,x.1<1000000∧x.2<18446744073709551616):Spec Tryz.prog 123 [.pointer sp] W (bn sp s*F) (fun g:aP=> .slice g.1 (pb s.parts).length g.2) (fun g=>ao 3 1 g.1 (pb s.parts).length g.2 (im .i64 (pb s.parts))*(bn sp s*F)):=by
 refine Spec.of Tryz.func123 rfl Tryz.ntmps123 rfl ?_
 refine bn.open fun q=> ?_
 simp only[fV,fx]
 repeat first|refine aa ?_ |intro
 refine ff (γ:=Nat×aP) (fun g=>g.1≤s.parts.length) (fun g=>[(3,.slice g.2.1 (fm (s.parts.take g.1)).length g.2.2),(12,.slice q.2.1.1 s.parts.length q.2.1.2),(13,.int .i64 (s.parts.length:Int)),(14,.int .i64 (g.1:Int))])
  (fun g=>ao 3 1 g.2.1 (fm (s.parts.take g.1)).length g.2.2 (bB .i64 (fm (s.parts.take g.1)))*fV sp s q F) (fun g=>s.parts.length-g.1) (0,(none,0)) (Nat.zero_le _) ⟨rfl,rfl,rfl,rfl,trivial⟩ (U.sat (U.none ?_)) ?_
 ·refine U.obj sp rfl ?_
  repeat(first|exact U.last|refine U.cons ?_ |refine U.assoc ?_)
 ·intro ⟨i,o⟩ hi;dsimp only at hi ⊢
  simp only[fV,fx]
  by_cases zp:i<s.parts.length
  ·have DE:=El (s.parts.take i)
   rw[List.length_take,Nat.min_eq_left hi]at DE
   have Tk:s.parts.getD i (0,0)∈s.parts:=by
    rw[List.getD_eq_getElem?_getD,List.getElem?_eq_getElem zp]
    exact List.getElem_mem zp
   obtain⟨hx1,o8⟩:=hm _ Tk
   have tu:=UT s.parts zp
   repeat first|refine aa ?_ |intro
   rename_i px
   generalize s.parts.getD i (0,0)=x at*
   generalize fm (s.parts.take i)=L at*
   refine ff (γ:=Nat×aP) (fun g=>g.1≤32) (fun g=>[(3,.slice g.2.1 (L++gK x g.1).length g.2.2),(12,.slice q.2.1.1 s.parts.length q.2.1.2),(13,.int .i64 (s.parts.length:Int)),(14,.int .i64 (i:Int)),(5,.pointer px),(18,.int .i64 (g.1:Int))])
    (fun g=>ao 3 1 g.2.1 (L++gK x g.1).length g.2.2 (bB .i64 (L++gK x g.1))*(Obj px 297 [.int .i64 (x.1:Int),.int .u64 (x.2:Int)]*fV sp s q F)) (fun g=>32-g.1) (0,o) (Nat.zero_le _) ⟨by simp[gK];rfl,rfl,rfl,rfl,rfl,rfl,trivial⟩ (U.sat (U.row o.1 (by simp[gK]) (by simp[gK]) ?_)) ?_
   ·refine U.obj px rfl (U.obj sp rfl ?_)
    repeat(first|exact U.last|refine U.cons ?_ |refine U.assoc ?_)
   ·intro ⟨b,o2⟩ hb;dsimp only at hb ⊢
    simp only[fV,fx]
    by_cases oc:b<32
    ·have hk:=LU (u:=x.2) (i:=b) o8
     have hf:=WR x b
     have rI:=K5 x b
     have lU:((b:Nat):Int).toNat<64:=by omega
     have hlen:(L++gK x b).length≤1000000:=by simp;omega
     cases ht:x.2.testBit b with
     |true=>
      rw[ht,if_pos rfl]at hk
      rw[ht,if_pos rfl]at hf
      repeat first|refine aa ?_ |intro
      rename_i y o3
      have kz:L++gK x (b+1)=(L++gK x b)++[x.1*32+b]:=by rw[hf];simp
      refine cT (b+1,o3) (by dsimp only;omega) (by dsimp only;omega) ⟨?_,rfl,rfl,rfl,rfl,rfl,trivial⟩ (U.sat ?_)
      ·show _=some (Value.slice o3.1 (L++gK x (b+1)).length o3.2)
       rw[kz,xj];rfl
      ·show U _ (ao _ 1 o3.1 (L++gK x (b+1)).length o3.2 (bB _ (L++gK x (b+1)))*_)
       rw[kz]
       refine U.row o3.1 (by rw[xj]) (by simp[bB]) (U.refl _)
     |false=>
      rw[ht,if_neg (by decide)]at hk
      rw[ht,if_neg (by decide),List.append_nil]at hf
      repeat first|refine aa ?_ |intro
      refine cT (b+1,o2) (by dsimp only;omega) (by dsimp only;omega) ⟨?_,rfl,rfl,rfl,rfl,rfl,trivial⟩ (U.sat ?_)
      ·show _=some (Value.slice o2.1 (L++gK x (b+1)).length o2.2)
       rw[hf];rfl
      ·show U _ (ao _ 1 o2.1 (L++gK x (b+1)).length o2.2 (bB _ (L++gK x (b+1)))*_)
       rw[hf]
       exact U.refl _
    ·have uC:b=32:=by omega
     repeat first|refine aa ?_ |intro
     refine cT (i+1,o2) (by dsimp only;omega) (by dsimp only;omega) ⟨?_,rfl,rfl,rfl,trivial⟩ (U.sat ?_)
     ·show _=some (Value.slice o2.1 (fm (s.parts.take (i+1))).length o2.2)
      rw[tu,←uC];rfl
     ·dsimp only
      rw[tu,←uC]
      refine U.row o2.1 rfl rfl (U.trans U.drop ?_)
      exact U.refl _
  ·have Dx:i=s.parts.length:=by omega
   repeat first|refine aa ?_ |intro
   rw[Dx,List.take_length,Eu]
   refine ag rfl (Pq o.1 (fm s.parts).length o.2 _ (by simp) (by have:=El s.parts;omega)) ?_
   intro _
   repeat first|refine aa ?_ |intro
   refine ae (aw rfl rfl o (by rw[Ek]) (U.sat (U.row o.1 (by rw[Ek]) rfl (U.trans ?_ (bn.shut (q:=q))))))
   exact U.refl _
end
section
open Go.RowKit
set_option maxRecDepth 10000
attribute [local irreducible] EK EX ER EN EL ES EG az ba bf
variable {W:World} {F:SL} {X:Cx} {k:List KI} {σ:Env} {p sp:Option Addr} {n m:Nat} {ws:List Nat} {s:bL}
theorem Bj (h1:1≤n)(h2:n≤1024):Spec Tryz.prog 38 [.int .i64 (n:Int)] W F (fun p:Option Addr=> .tuple #[.pointer p,.int .i64 0]) (fun p=>bD p n (dy n)*F):=by
 refine Spec.of Tryz.func38 rfl Tryz.ntmps38 rfl ?_
 have e1:((n:Int)+32-1)/32=(((n+31)/32:Nat):Int):=by omega
 repeat first|refine aa ?_ |intro
 rw[e1]
 refine ag rfl (yj ((n+31)/32) (by omega) (by omega)) ?_
 intro c
 by_cases hr:n%32=0
 ·have zI:(n:Int)%32=0:=by omega
  repeat first|refine aa ?_ |intro
  rename_i g
  refine ae (eU rfl rfl rfl g rfl (U.sat (U.trans ?_ (bD.shut (c:=c)))))
  unfold dy
  rw[if_pos hr]
  repeat(first|exact U.last|refine U.cons ?_ |refine U.assoc ?_)
 ·have zI:¬(n:Int)%32=0:=by omega
  have e2:IntKind.u64.wrap (1*2^((n:Int)%32).toNat)=((2^(n%32):Nat):Int):=by
   rw[show((n:Int)%32).toNat=n%32 by omega,Int.one_mul]
   exact MG (Nat.mod_lt _ (by decide))
  have e3:2^(n%32)<4294967296:=xH (Nat.mod_lt _ (by decide))
  have e4:1≤2^(n%32):=Nat.one_le_two_pow
  have e5:=u64_andNot_nat 4294967295 (2^(n%32)-1) (by decide) (by omega)
  have e6:((2^(n%32):Nat):Int)-1=((2^(n%32)-1:Nat):Int):=by omega
  have e7:IntKind.i64.wrap ((((n+31)/32:Nat):Int)-1)=(((n+31)/32-1:Nat):Int):=by
   rw[IntKind.wrap_i64];omega
  have e8:4294967295&&& (18446744073709551615-(2^(n%32)-1))<18446744073709551616:=Nat.lt_of_le_of_lt Nat.and_le_left (by decide)
  repeat first|refine aa ?_ |intro
  refine jD 8 rfl (by kernel_rfl) rfl rfl ?_
  repeat(refine cV ?_)
  refine nr rfl (yB c _) ?_
  repeat(refine cV ?_)
  rw[List.length_replicate,e2,e6]
  rw[show(4294967295:Int)=((4294967295:Nat):Int)from rfl,e5,e7]
  refine ag rfl (yC c _ ((n+31)/32-1) _ (by rw[List.length_replicate];omega) (by rw[List.length_replicate];omega)) ?_
  intro _
  repeat first|refine aa ?_ |intro
  rename_i g
  refine ae (eU rfl rfl rfl g rfl (U.sat (U.trans ?_ (bD.shut (c:=c)))))
  unfold dy
  rw[if_neg hr]
  repeat(first|exact U.last|refine U.cons ?_ |refine U.assoc ?_)
end
section
open Go.RowKit
variable {m n k:Nat} {ws:List Nat} {s:bL}
theorem JC {i u x:Nat}(hi:i<ws.length):fk (ws.set i u) x=if x/32=i then !u.testBit (x%32)else fk ws x:=by
 unfold fk
 rw[List.getD_eq_getElem?_getD,List.getElem?_set]
 by_cases h:x/32=i
 ·subst h
  simp[hi]
 ·rw[if_neg (fun e=>h e.symm),if_neg h,←List.getD_eq_getElem?_getD]
theorem Qq {u low j:Nat}(hl:low<4294967296)(hj:j<32):(lO u low).testBit j=low.testBit j:=by
 have h1:=Nat.testBit_mod_two_pow (lO u low) 32 j
 rw[show(2:Nat)^32=4294967296 from rfl,Qr hl]at h1
 rw[h1];simp[hj]
theorem U1 {u j:Nat}(hj:j<32):(u%4294967296).testBit j=u.testBit j:=by
 have h1:=Nat.testBit_mod_two_pow u 32 j
 rw[show(2:Nat)^32=4294967296 from rfl]at h1
 rw[h1];simp[hj]
theorem Wd {mask j:Nat}(hm:mask<4294967296)(hj:j<32):(18446744073709551615-mask).testBit j= !mask.testBit j:=by
 have h2:=Nat.testBit_two_pow_sub_succ (n:=64) (x:=mask) (by omega) j
 rw[show(2:Nat)^64-(mask+1)=18446744073709551615-mask by omega]at h2
 rw[h2]
 have:j<64:=by omega
 simp[this]
theorem VR {x:Nat×Nat}{c y:Nat}:y∈gK x c↔∃i,i<c∧x.2.testBit i=true∧y=x.1*32+i:=by
 unfold gK
 simp only[List.mem_map,List.mem_filter,List.mem_range]
 constructor
 ·rintro ⟨i,⟨h1,h2⟩,rfl⟩;exact⟨i,h1,h2,rfl⟩
 ·rintro ⟨i,h1,h2,rfl⟩;exact⟨i,⟨h1,h2⟩,rfl⟩
theorem VS {x:Nat×Nat}{y:Nat}:y∈gK x 32↔y/32=x.1∧x.2.testBit (y%32)=true:=by
 rw[VR]
 constructor
 ·rintro ⟨i,h1,h2,rfl⟩
  rw[show(x.1*32+i)%32=i by omega]
  exact⟨by omega,h2⟩
 ·rintro ⟨h1,h2⟩
  exact⟨y%32,Nat.mod_lt _ (by decide),h2,by omega⟩
theorem qt {l:List (Nat×Nat)}{y:Nat}:y∈fm l↔∃x∈l,y/32=x.1∧x.2.testBit (y%32)=true:=by
 unfold fm
 rw[List.mem_flatMap]
 simp only[VS]
structure GY (ws:List Nat)(s:bL)(gB:List Nat)(s':bL):Prop where
 kind:s'.kind=0
 parts:s'.parts=s.parts
 none:s'.done=false→s'.ports=[]
 free:∀g∈s'.ports,fk ws g=true
 nodup:s'.ports.Nodup
 small:∀g∈s'.ports,g<ws.length*32
 after:∀x,fk gB x=true↔fk ws x=true∧x∉s'.ports
 len:gB.length=ws.length
theorem L4 (hw:hJ m ws)(hs:s.Ok m)(hk:s.kind=0)(hd:s.done=false)(hp:s.ports=[]):GY ws s (bh ws s).1 (bh ws s).2:=by
 obtain⟨t1,t2,t3,t4,t5,t6⟩:=hs.lu hk
 have hl:=hw.len
 have e:bh ws s=ji ws s:=by unfold bh;rw[if_neg (by simp[hd]),if_pos hk]
 rw[e]
 have tq:∀(s':bL),s'.kind=0→s'.parts=s.parts→s'.ports=[]→GY ws s ws s':=fun s' h1 h2 h3=>
  ⟨h1,h2,fun _=>h3,by simp[h3],by simp[h3],by simp[h3],by simp[h3],rfl⟩
 unfold ji
 by_cases hr:s.read=true
 ·rw[if_pos hr]
  by_cases he:ws.getD s.word 0=s.seen
  ·rw[if_pos he]
   have TJ:(eA s.seen s.most).Nodup:=by
    have:yA (eA s.seen s.most):=List.Pairwise.take (It _)
    exact this.imp (fun h=>Nat.ne_of_lt h)
   have wJ:∀i∈eA s.seen s.most,i<32∧s.seen.testBit i=false:=fun i hi=>ow.1 (List.mem_of_mem_take hi)
   have c5:∀i,i<32→fk ws (s.word*32+i)= !s.seen.testBit i:=fun i hi=>by
    unfold fk
    rw[show(s.word*32+i)/32=s.word by omega,show(s.word*32+i)%32=i by omega,he]
   have wF:s.seen%4294967296|||ofBits (eA s.seen s.most)<4294967296:=xC (Nat.mod_lt _ (by decide)) (K9 _ _)
   refine⟨hk,rfl,fun h=>by simp at h,?_,?_,?_,?_,by simp⟩
   ·intro g hg
    obtain⟨i,hi,rfl⟩:=List.mem_map.1 hg
    rw[c5 i (wJ i hi).1,(wJ i hi).2];rfl
   ·exact List.Pairwise.map _ (fun a b (h:a≠b)=>by omega) TJ
   ·intro g hg
    obtain⟨i,hi,rfl⟩:=List.mem_map.1 hg
    have:=(wJ i hi).1
    omega
   ·intro x
    dsimp only
    rw[JC (by omega)]
    by_cases hx:x/32=s.word
    ·have o8:x%32<32:=Nat.mod_lt _ (by decide)
     rw[if_pos hx,Qq wF o8,Nat.testBit_or,U1 o8,sa]
     have zR:x=s.word*32+x%32:=by omega
     have h1:=c5 (x%32) o8
     rw[←zR]at h1
     rw[h1]
     have h2:x∈(eA s.seen s.most).map (s.word*32+ ·)↔x%32∈eA s.seen s.most:=by
      rw[List.mem_map]
      constructor
      ·rintro ⟨i,hi,rfl⟩
       have:=(wJ i hi).1
       rwa[show(s.word*32+i)%32=i by omega]
      ·exact fun h=>⟨_,h,zR.symm⟩
     rw[h2]
     simp
    ·rw[if_neg hx]
     constructor
     ·refine fun h=>⟨h,fun hm=>hx ?_⟩
      obtain⟨i,hi,rfl⟩:=List.mem_map.1 hm
      have:=(wJ i hi).1
      omega
     ·exact fun h=>h.1
  ·rw[if_neg he]
   exact tq _ hk rfl hp
 ·rw[if_neg hr]
  split
  ·exact tq _ hk rfl hp
  ·exact tq _ hk rfl hp
structure ue (l:List (Nat×Nat)):Prop where
 nd:(l.map (·.1)).Nodup
 ne:∀x∈l,x.2≠0
theorem KZ {ps:List (Nat×Nat)}{c i:Nat}(h:partAt ps c=some i):(ps.getD i (0,0)).1=c:=by
 unfold partAt at h
 obtain⟨h',h2,_⟩:=List.findIdx?_eq_some_iff_getElem.1 h
 rw[List.getD_eq_getElem?_getD,List.getElem?_eq_getElem h']
 simpa using h2
theorem WQ {ps:List (Nat×Nat)}{c:Nat}(h:partAt ps c=none):∀x∈ps,x.1≠c:=by
 unfold partAt at h
 rw[List.findIdx?_eq_none_iff]at h
 intro x hx
 simpa using h x hx
theorem WM {a b:Nat}(h:b≠0):a|||b≠0:=fun e=>h (Nat.or_eq_zero_iff.1 e).2
theorem PI {ps:List (Nat×Nat)}(h:ue ps)(z:Nat):ue (addPart ps z)∧∀y∈fm (addPart ps z),y∈fm ps∨y=z:=by
 have Ji:(2:Nat)^(z%32)≠0:=Nat.ne_of_gt (Nat.two_pow_pos _)
 have IQ:∀y,y/32=z/32→((2:Nat)^(z%32)).testBit (y%32)=true→y=z:=fun y h1 h2=>by
  rw[Nat.testBit_two_pow]at h2
  have:=of_decide_eq_true h2
  omega
 unfold addPart
 split
 ·rename_i i hi
  have ck:=K0 hi
  have Ds:=KZ hi
  have Ti:ps.getD i (0,0)∈ps:=by
   rw[List.getD_eq_getElem?_getD,List.getElem?_eq_getElem ck];exact List.getElem_mem ck
  refine⟨⟨?_,fun x hx=> ?_⟩,fun y hy=> ?_⟩
  ·rw[List.map_set]
   have:(ps.map (·.1)).set i (ps.getD i (0,0)).1=ps.map (·.1):=by
    apply List.ext_getElem?
    intro j
    rw[List.getElem?_set]
    split
    ·rename_i e;subst e
     simp[List.getElem?_eq_getElem ck,ck]
    ·rfl
   rw[this];exact h.nd
  ·rcases List.mem_or_eq_of_mem_set hx with hx|rfl
   ·exact h.ne x hx
   ·exact WM Ji
  ·obtain⟨x,hx,h1,h2⟩:=qt.1 hy
   rcases List.mem_or_eq_of_mem_set hx with hx|rfl
   ·exact .inl (qt.2 ⟨x,hx,h1,h2⟩)
   ·dsimp only at h1 h2
    rw[Nat.testBit_or,Bool.or_eq_true]at h2
    rcases h2 with h2|h2
    ·exact .inl (qt.2 ⟨_,Ti,h1,h2⟩)
    ·exact .inr (IQ y (by rw[h1,Ds]) h2)
 ·rename_i hi
  have hY:=WQ hi
  refine⟨⟨?_,fun x hx=> ?_⟩,fun y hy=> ?_⟩
  ·rw[List.map_append,List.nodup_append]
   refine⟨h.nd,by simp,fun a ha b hb=> ?_⟩
   simp at hb
   subst hb
   obtain⟨x,hx,rfl⟩:=List.mem_map.1 ha
   exact hY x hx
  ·rcases List.mem_append.1 hx with hx|hx
   ·exact h.ne x hx
   ·simp at hx;subst hx;exact Ji
  ·obtain⟨x,hx,h1,h2⟩:=qt.1 hy
   rcases List.mem_append.1 hx with hx|hx
   ·exact .inl (qt.2 ⟨x,hx,h1,h2⟩)
   ·simp at hx;subst hx;exact .inr (IQ y h1 h2)
theorem Ip (n:Nat):∀(l:List Int) (ps:List (Nat×Nat)),ue ps→ue (l.foldl (lI n) ps)∧∀y∈fm (l.foldl (lI n) ps),y∈fm ps∨((y:Int)∈l∧y<n)
 |[],ps,h=>⟨h,fun y hy=> .inl hy⟩
 |z::l,ps,h=>by
  have h1:ue (lI n ps z)∧∀y∈fm (lI n ps z),y∈fm ps∨((y:Int)=z∧y<n):=by
   unfold lI
   split
   ·rename_i hz
    obtain⟨a,b⟩:=PI h z.toNat
    refine⟨a,fun y hy=>(b y hy).imp id fun e=> ?_⟩
    omega
   ·exact⟨h,fun y hy=> .inl hy⟩
  obtain⟨a,b⟩:=Ip n l _ h1.1
  refine⟨a,fun y hy=> ?_⟩
  rcases b y hy with h2|⟨h2,h3⟩
  ·rcases h1.2 y h2 with h4|⟨h4,h5⟩
   ·exact .inl h4
   ·exact .inr ⟨by rw[h4];exact List.mem_cons_self,h5⟩
  ·exact .inr ⟨List.mem_cons_of_mem _ h2,h3⟩
theorem Hh (n:Nat)(l:List Int):ue (rh n l)∧∀y∈fm (rh n l),(y:Int)∈l∧y<n:=by
 obtain⟨a,b⟩:=Ip n l [] ⟨by simp,by simp⟩
 exact⟨a,fun y hy=>(b y hy).resolve_left (by simp[fm])⟩
end
section
open Go.RowKit
variable {m n k:Nat} {ws:List Nat} {s:bL}
def mc (l:List (Nat×Nat)):List Nat:=(pb l).map Int.toNat
theorem VQ {l:List (Nat×Nat)}{z:Int}:z∈pb l↔∃y∈fm l,z=(y:Int):=by
 unfold pb xP
 rw[List.mem_mergeSort,List.mem_map]
 exact⟨fun⟨a,b,c⟩=>⟨a,b,c.symm⟩,fun⟨a,b,c⟩=>⟨a,b,c.symm⟩⟩
theorem JI (l:List (Nat×Nat)):(mc l).length=(pb l).length:=by simp[mc]
theorem UU (l:List (Nat×Nat))(k:IntKind):bB k (mc l)=im k (pb l):=by
 unfold bB im mc
 rw[List.map_map]
 apply List.map_congr_left
 intro z hz
 obtain⟨y,_,rfl⟩:=VQ.1 hz
 simp
end
section
open Go.ChangeShapes Go.WideShapes Go.ChangeAt Go.RowKit Go.Deep
section
variable {H:Type} {enc:TypeId×Value→H} {P:Program}
theorem Lb {f:Func}{s:ChangeSpec}{apart fresh handsOn again:Bool}{W W':World}{args:Array Value}{v:Value}{ds:List (DataW H)}{before:List MemPlace}(hs:s.vars=[])(hl:laidOutB P=true)
  (hr:∀t∈f.params.toList,P.readableRec t=true∧t<P.types.size)
  (hW:DataW.Whole enc P f.params.toList s.vars apart W args.toList ds [] before)
  (Jm:∀(b:Nat) (sp:Nat→Bool) (hd:Bool),DataW.TrodAll enc P W' b sp hd f.resultTypes.toList (v.resultList f.resultTypes.size) (s.fn H (ds++[])).results [])
  (tq:(s.fn H (ds++[])).args=ds) (D1:(s.fn H (ds++[])).vars=[]) (hb:Below W.heap.size W W')
  (lb:∀(j:Nat) (t:TypeId) (r:Value),f.resultTypes[j]? =some t→(v.resultList f.resultTypes.size)[j]? =some r→Value.okWide P W' .any 0 t r):
  s.post enc P f apart fresh handsOn again W args v W':=by
 have ck:∀p∈before,p.block<W.heap.size:=hW.lt
 obtain⟨p,q,hA,hV,he,hz,hn⟩:=id hW
 rw[hs]at hV
 obtain⟨_,rfl⟩:=trodVars_none hV
 obtain rfl:before=p:=by rw[he];simp
 have stay:∀(sp:Nat→Bool) (ts:List TypeId) (vs:List Value) (vT:List (DataW H)) (ps:List MemPlace),(∀t∈ts,P.readableRec t=true∧t<P.types.size)→(∀x∈ps,x.block<W.heap.size)→(∀x∈ps,sp x.block=true)→
   DataW.TrodAll enc P W 0 (fun _=>true) true ts vs vT ps→DataW.TrodAll enc P W' 0 sp true ts vs vT ps:=by
  intro sp ts
  induction ts with
  |nil=>
   intro vs vT ps _ _ _ h
   obtain⟨rfl,rfl,rfl⟩:=trodAll_nil h
   exact trodAll_mk0
  |cons t ts ih=>
   intro vs vT ps h1 h2 h3 h
   obtain⟨v,vs,d,vT,a,b,rfl,rfl,rfl,hd,TH⟩:=trodAll_cons h
   obtain⟨r1,r2⟩:=h1 t (by simp)
   refine trodAll_cons_mk (WideElems.Trod_stays hl r1 r2 hd (fun x hx=>hb.same (h2 x (by simp[hx]))) (fun x hx=>h3 x (by simp[hx]))) (ih _ _ _ (fun t ht=>h1 t (by simp[ht])) (fun x hx=>h2 x (by simp[hx])) (fun x hx=>h3 x (by simp[hx])) TH)
 have kx:∀sp:Nat→Bool,(∀p∈before,sp p.block=true)→DataW.TrodAll enc P W' 0 sp true f.params.toList args.toList (s.fn H (ds++[])).args before:=fun sp rO=>by
  rw[tq]
  exact stay sp _ _ _ _ hr ck rO hA
 have hold:∀p∈before,(fun b=>decide (b<W.heap.size)) p.block=true:=fun p hp=>by simpa using ck p hp
 have Jv:∀sp:Nat→Bool,DataW.TrodVars enc P W' sp s.vars (s.fn H (ds++[])).vars []:=fun sp=>by rw[hs,D1];exact rfl
 refine⟨ds,[],before,[],before,[],hW,Jm _ _ _,kx _ hold,Jv _,hb.frame _,fun _=> ?_⟩
 refine⟨lb,_,_,([]++before)++[],⟨[]++before,[],trodAll_append (kx _ (fun _ _=>rfl)) (Jm _ _ _),Jv _,rfl,?_,?_⟩,?_⟩
 ·intro b off hp
  have zG:MemPlace.cell b off∈before:=by simpa using hp
  rw[hb.frozen (p:=⟨b,off,none⟩) (ck _ zG)]
  exact hz b off (by rw[he];simpa using zG)
 ·intro ha
  have:=hn ha
  rw[he]at this
  simpa using this
 ·intro p hp _
  simpa using hp
end
section
variable {H:Type} {enc:TypeId×Value→H} {P:Program} {W:World} {base:Nat} {held:Bool}
theorem Uf {t e:TypeId}{fuel:Nat}{v:Value}{x:DataW H×List MemPlace}(ht:P.underlying t=some (.slice e))(he:P.underlying e=some (.int .i64))(hc:P.cellsOf e=1)
  (h:DataW.trod enc P W base (fun _=>true) held fuel t [v]=some x):∃(p:Option Addr) (cap:Nat) (xs:List Int),v= .slice p xs.length cap∧Ro W p xs.length (im .i64 xs):=by
 rcases open_ints ht he hc h with ⟨h0,_⟩|⟨a,len,cap,zs,h0,_,hl,hm,hz,_,sZ,Jw⟩
 ·simp only[List.cons.injEq,and_true]at h0
  exact⟨none,0,[],h0,⟨fun i v hv=>by simp[im]at hv,fun h=>by simp at h⟩⟩
 ·simp only[List.cons.injEq,and_true]at h0
  simp only[if_true]at hz
  have hlen:(zs.take len).length=len:=by rw[List.length_take];omega
  refine⟨some a,cap,zs.take len,by rw[hlen];exact h0,⟨fun i v hv=> ?_,fun _=>by simp⟩⟩
  unfold im at hv
  rw[List.getElem?_map,List.getElem?_take]at hv
  split at hv
  ·rename_i hi
   have ck:i<zs.length:=by omega
   rw[List.getElem?_eq_getElem ck]at hv
   simp only[Option.map_some,Option.some.injEq]at hv
   subst hv
   have:=sZ i ck
   rw[List.getD_eq_getElem?_getD,List.getElem?_eq_getElem ck]at this
   exact⟨a.add i,rfl,World.block_lt_of_cell? _ _ this,this⟩
  ·simp at hv
end
end
section
open Go.RowKit
set_option maxRecDepth 10000
attribute [local irreducible] EK EX ER EN EL ES EG az ba bf
variable {W:World} {F:SL} {X:Cx} {k:List KI} {σ:Env} {p sp:Option Addr} {n m:Nat} {ws o:List Nat} {s:bL} {ss:List (Option bL)} {bs:List Bool}
theorem Ey {x:Nat}(h1:1≤n):(x<n→fk (dy n) x=true)∧(n≤x→x<(n+31)/32*32→fk (dy n) x=false):=by
 have h0:∀i,(List.replicate ((n+31)/32) (0:Nat)).getD i 0=0:=fun i=>by
  rw[List.getD_eq_getElem?_getD,List.getElem?_replicate];split<;>rfl
 unfold dy
 split
 ·rename_i h
  refine⟨fun _=>by unfold fk;rw[h0];simp,fun h2 h3=>by omega⟩
 ·rename_i h
  have o8:x%32<32:=Nat.mod_lt _ (by decide)
  have hp:=xH (i:=n%32) (Nat.mod_lt _ (by decide))
  have hp1:=Nat.one_le_two_pow (n:=n%32)
  rw[JC (by simp;omega)]
  by_cases hx:x/32=(n+31)/32-1
  ·rw[if_pos hx,Nat.testBit_and,Wd (by omega) o8,show(4294967295:Nat)=2^32-1 from rfl,Nat.testBit_two_pow_sub_one,Nat.testBit_two_pow_sub_one]
   simp only[o8,decide_true,Bool.true_and,Bool.not_not,decide_eq_true_eq,decide_eq_false_iff_not]
   omega
  ·rw[if_neg hx]
   refine⟨fun _=>by unfold fk;rw[h0];simp,fun h2 h3=>by omega⟩
theorem OS (hp:s.parts.length≤1000)(hm:∀x∈s.parts,x.1<1000000∧x.2<18446744073709551616):Spec Tryz.prog 123 [.pointer sp] W (bn sp s*F) (fun g:aP=> .slice g.1 (mc s.parts).length g.2) (fun g=>ao 3 1 g.1 (mc s.parts).length g.2 (bB .i64 (mc s.parts))*(bn sp s*F)):=by
 rw[UU,JI]
 exact OR hp hm
theorem UW {l:List (Nat×Nat)}(h:l.length≤40):(mc l).length≤1280:=by
 have:=El l
 rw[JI,Ek]
 omega
end
section
open Go.RowKit
set_option maxRecDepth 10000
attribute [local irreducible] EK EX ER EN EL ES EG az ba bf
variable {W:World} {F:SL} {X:Cx} {k:List KI} {σ:Env} {pp pc ps sp qo:Option Addr} {n m h:Nat} {ws l:List Nat} {s:bL}
abbrev jC (pc pp:Option Addr)(h:Nat)(l:List Nat)(qo:Option Addr)(q:aP)(F:SL):SL:=Obj pc 172 [.pointer pp,.int .i64 (h:Int),.slice q.1 l.length q.2,.pointer qo]*(ao 3 1 q.1 l.length q.2 (bB .i64 l)*F)
def qK (pc pp:Option Addr)(h:Nat)(l:List Nat)(qo:Option Addr)(q:aP):SL:=Obj pc 172 [.pointer pp,.int .i64 (h:Int),.slice q.1 l.length q.2,.pointer qo]*ao 3 1 q.1 l.length q.2 (bB .i64 l)
def bj (pc pp:Option Addr)(h:Nat)(l:List Nat)(qo:Option Addr):SL:=SL.ex (qK pc pp h l qo)
theorem qK.eq (pc pp:Option Addr)(h:Nat)(l:List Nat)(qo:Option Addr)(q:aP)(F:SL):qK pc pp h l qo q*F=jC pc pp h l qo q F:=by
 unfold qK jC
 rw[SL.cb]
theorem bj.open (H:∀q,EK X k σ (jC pc pp h l qo q F)):EK X k σ (bj pc pp h l qo*F):=nT fun q=>by
 rw[qK.eq];exact H q
theorem bj.jx {ops o:List Oper}(H:∀q,EL X k ops o σ (jC pc pp h l qo q F)):EL X k ops o σ (bj pc pp h l qo*F):=F1 fun q=>by
 rw[qK.eq];exact H q
theorem bj.shut {q:aP}:U (jC pc pp h l qo q F) (bj pc pp h l qo*F):=U.ex q (by rw[qK.eq];exact U.refl _)
instance (priority:=2000)(pc pp:Option Addr)(h:Nat)(l:List Nat)(qo:Option Addr)(F:SL):bO (bj pc pp h l qo*F) pc (bj pc pp h l qo) F:=⟨rfl⟩
instance (pc pp:Option Addr)(h:Nat)(l:List Nat)(qo:Option Addr):kR (bj pc pp h l qo) pc:=⟨fun W w F H=>by
 obtain⟨q,H⟩:=H.iX
 rw[qK.eq]at H
 exact(Obj.root pc _ _).nn W w _ H⟩
abbrev fe (ps:Option Addr)(kd:Nat)(q:Option Addr)(d:Bool):SL:=Obj ps 272 [.int .i64 (kd:Int),.pointer q,.bool d]
theorem AY (h:Nat):Spec Tryz.prog 40 [.pointer pp,.int .i64 (h:Int)] W (bD pp n ws*F) (fun p:Option Addr=> .tuple #[.pointer p,.int .i64 0]) (fun p=>bj p pp h [] none*(bD pp n ws*F)):=by
 refine Spec.of Tryz.func40 rfl Tryz.ntmps40 rfl ?_
 repeat first|refine aa ?_ |intro
 rename_i g
 refine ae (eU rfl rfl rfl g rfl (U.sat (U.trans ?_ (bj.shut (q:=(none,0))))))
 exact U.obj g rfl (U.none (U.refl _))
def u6 (l:List Nat):Value:= .tuple #[.int .i64 ((l.getD (l.length-1) 0:Nat):Int),.bool (decide (0<l.length))]
theorem G0 (hb:l.length≤100000):Spec Tryz.prog 102 [.pointer pc] W (bj pc pp h l qo*F) (fun _:Unit=>u6 l) (fun _=>bj pc pp h l qo*F):=by
 refine Spec.of Tryz.func102 rfl Tryz.ntmps102 rfl ?_
 refine bj.open fun q=> ?_
 simp only[jC]
 by_cases hl:l.length=0
 ·repeat first|refine aa ?_ |intro
  refine ae (eU rfl rfl rfl () ?_ (U.sat (bj.shut (q:=q))))
  unfold u6
  rw[List.eq_nil_of_length_eq_zero hl];rfl
 ·haveI:Pos l.length:=⟨by omega⟩
  obtain⟨d,hd⟩:∃d,l.length=d+1:=⟨l.length-1,by omega⟩
  repeat first|refine aa ?_ |intro
  refine lB rfl (by kernel_rfl) ?_
  repeat(refine cV ?_)
  rw[show((l.length:Int)-1)=(d:Int)by omega]
  repeat(refine cV ?_)
  repeat first|refine aa ?_ |intro
  refine ae (eU rfl rfl rfl () ?_ (U.sat (bj.shut (q:=q))))
  unfold u6
  rw[hd,decide_eq_true (by omega)]
  rfl
theorem NO (hl:l.length≤100000):Spec Tryz.prog 67 [.pointer pc] W (bj pc pp h l qo*F) (fun g:aP=> .slice g.1 l.length g.2) (fun g=>ao 3 1 g.1 l.length g.2 (bB .i64 l)*(bj pc pp h l qo*F)):=by
 refine Spec.of Tryz.func67 rfl Tryz.ntmps67 rfl ?_
 refine bj.open fun q=> ?_
 simp only[jC]
 repeat first|refine aa ?_ |intro
 refine ag rfl (Spec.aV q.1 (FU q.1 l.length q.2 (bB .i64 l) (pe _ _) (by omega))) ?_
 intro g
 repeat first|refine aa ?_ |intro
 refine ae (aw rfl rfl g rfl (U.sat (U.row g.1 rfl rfl (U.trans ?_ (bj.shut (q:=q))))))
 exact ad
theorem OO:Spec Tryz.prog 68 [.pointer pc] W (bj pc pp h l none*F) (fun _:Unit=> .slice none 0 0) (fun _=>bj pc pp h l none*F):=by
 refine Spec.of Tryz.func68 rfl Tryz.ntmps68 rfl ?_
 refine bj.open fun q=> ?_
 simp only[jC]
 repeat first|refine aa ?_ |intro
 refine ag rfl OQ ?_
 intro _
 repeat first|refine aa ?_ |intro
 exact ae (aw rfl rfl () rfl (U.sat (bj.shut (q:=q))))
theorem OP (hp:s.parts.length≤1000)(hm:∀x∈s.parts,x.1<1000000∧x.2<18446744073709551616):Spec Tryz.prog 68 [.pointer pc] W (bj pc pp h l qo*(bn qo s*F)) (fun g:aP=> .slice g.1 (mc s.parts).length g.2)
  (fun g=>ao 3 1 g.1 (mc s.parts).length g.2 (bB .i64 (mc s.parts))*(bj pc pp h l qo*(bn qo s*F))):=by
 refine Spec.of Tryz.func68 rfl Tryz.ntmps68 rfl ?_
 refine bj.open fun q=> ?_
 simp only[jC]
 repeat first|refine aa ?_ |intro
 refine ag rfl (Spec.aV qo (OS hp hm)) ?_
 intro g
 repeat first|refine aa ?_ |intro
 refine ae (aw rfl rfl g rfl (U.sat (U.row g.1 rfl rfl (U.trans ?_ (bj.shut (q:=q))))))
 exact ad
end
section
open Go.RowKit
set_option maxRecDepth 10000
attribute [local irreducible] EK EX ER EN EL ES EG az ba bf
variable {W:World} {F:SL} {X:Cx} {k:List KI} {σ:Env} {pp pc ps sp qo:Option Addr} {n m h:Nat} {ws l:List Nat} {s:bL}
theorem Pe (hs:l.length≤100000):Spec Tryz.prog 162 [.pointer pc] W (bj pc pp h l qo*F) (fun _:Unit=>u6 l) (fun _=>bj pc pp h (l.take (l.length-1)) qo*F):=by
 refine Spec.of Tryz.func162 rfl Tryz.ntmps162 rfl ?_
 repeat first|refine aa ?_ |intro
 refine ag rfl (G0 hs) ?_
 intro _
 unfold u6
 by_cases hl:0<l.length
 ·rw[decide_eq_true hl]
  obtain⟨d,hd⟩:∃d,l.length=d+1:=⟨l.length-1,by omega⟩
  repeat first|refine aa ?_ |intro
  refine bj.open fun q=> ?_
  simp only[jC]
  refine jD 14 rfl (by kernel_rfl) rfl rfl ?_
  repeat(refine cV ?_)
  rw[show((l.length:Int)-1)=(d:Int)by omega]
  repeat(refine cV ?_)
  repeat first|refine aa ?_ |intro
  refine ae (eU rfl rfl rfl () rfl (U.sat (U.trans ?_ (bj.shut (q:=q)))))
  have e1:(l.take (l.length-1)).length=d:=by rw[List.length_take];omega
  refine U.obj pc (by rw[e1]) (U.Xq q.1 d (by omega) (U.row q.1 (by rw[e1]) ?_ (U.refl _)))
  rw[hd];simp[bB]
 ·rw[decide_eq_false hl]
  repeat first|refine aa ?_ |intro
  refine ae (eU rfl rfl rfl () rfl (U.sat ?_))
  rw[List.take_of_length_le (by omega)]
  exact U.refl _
theorem OA (hl:0<l.length):Spec Tryz.prog 151 [.pointer pc] W (bj pc pp h l qo*F) (fun g:Option Addr=> .pointer g) (fun g=>fe g 3 none false*(bj pc pp h l qo*F)):=by
 refine Spec.of Tryz.func151 rfl Tryz.ntmps151 rfl ?_
 refine bj.open fun q=> ?_
 simp only[jC]
 repeat first|refine aa ?_ |intro
 rename_i g
 refine ae (aw rfl rfl g rfl (U.sat (U.obj g rfl (U.trans ?_ (bj.shut (q:=q))))))
 exact ad
theorem OB (hw:hJ m ws):Spec Tryz.prog 151 [.pointer pc] W (bj pc pp h [] none*(bD pp n ws*F)) (fun g:Option Addr×Option Addr=> .pointer g.1)
  (fun g=>fe g.1 0 g.2 false*(bn g.2 (iL (h:Int) 8 m)*(bj pc pp h [] none*(bD pp n ws*F)))):=by
 refine Spec.of Tryz.func151 rfl Tryz.ntmps151 rfl ?_
 refine bj.open fun q=> ?_
 simp only[jC,List.length_nil]
 repeat first|refine aa ?_ |intro
 rw[show(!decide ((none:Option Addr)=none))=false from rfl]
 repeat first|refine aa ?_ |intro
 refine jD 8 rfl (by kernel_rfl) rfl rfl ?_
 repeat(refine cV ?_)
 refine ag rfl (Spec.aV pp (Pt (h:Int) 8 hw)) ?_
 intro g
 repeat first|refine aa ?_ |intro
 rename_i x
 refine ae (aw rfl rfl (x,g) rfl (U.sat (U.obj x rfl (U.at g rfl (U.trans ?_ (bj.shut (q:=q)))))))
 refine U.obj pc rfl (U.row q.1 rfl rfl ?_)
 exact ad
theorem Pg (x:Nat)(hl:l.length<16):Spec Tryz.prog 107 [.pointer pc,.int .i64 (x:Int)] W (bj pc pp h l qo*F) (fun g:Option Addr=> .pointer g) (fun g=>fe g 3 none false*(bj pc pp h (l++[x]) qo*F)):=by
 refine Spec.of Tryz.func107 rfl Tryz.ntmps107 rfl ?_
 refine bj.open fun q=> ?_
 simp only[jC]
 repeat first|refine aa ?_ |intro
 rename_i y o g
 refine ae (aw rfl rfl g rfl (U.sat (U.obj g rfl (U.trans ?_ (bj.shut (q:=o))))))
 refine U.obj pc (by rw[xj]) (U.row o.1 (by rw[xj]) (by simp[bB]) (U.refl _))
end
section
open Go.RowKit
set_option maxRecDepth 10000
attribute [local irreducible] EK EX ER EN EL ES EG az ba bf
variable {W:World} {F:SL} {X:Cx} {k:List KI} {σ:Env} {pp pc ps sp qo:Option Addr} {n m h:Nat} {ws l:List Nat} {s:bL}
attribute [local simp] pe
def nA (h:Nat)(s:bL):Nat:=if s.ports=[]then h else s.word
theorem Qp (hp:s.ports.length≤32)(hl:l.length≤1000):Spec Tryz.prog 156 [.pointer pc,.pointer sp] W (bj pc pp h l qo*(bn sp s*F)) (fun _:Unit=> .tuple #[]) (fun _=>bj pc pp (nA h s) (l++s.ports.reverse) qo*(bn sp s*F)):=by
 refine Spec.of Tryz.func156 rfl Tryz.ntmps156 rfl ?_
 repeat first|refine aa ?_ |intro
 refine ag rfl (Spec.aV sp (OJ sp s (by omega))) ?_
 intro g
 by_cases h0:s.ports=[]
 ·have v7:s.ports.length=0:=by rw[h0];rfl
  repeat first|refine aa ?_ |intro
  refine ae (dB rfl () rfl (U.sat ?_))
  unfold nA
  rw[if_pos h0,h0,List.reverse_nil,List.append_nil,←h0]
  refine U.trans U.drop ?_
  exact ad
 ·have v7:¬s.ports.length=0:=fun e=>h0 (List.eq_nil_of_length_eq_zero e)
  repeat first|refine aa ?_ |intro
  rw[Eu]
  refine ag rfl (Pk g.1 s.ports.length g.2 _ (by simp) (by omega)) ?_
  intro _
  rw[show im .i64 (s.ports.map fun(i:Nat)=>(i:Int)).reverse=bB .i64 s.ports.reverse by rw[Eu,List.map_reverse]]
  have TI:(bB .i64 s.ports.reverse).length=s.ports.length:=by rw[pe,List.length_reverse]
  haveI:Ce (bB .i64 s.ports.reverse) s.ports.length:=⟨TI⟩
  refine Oj pc (bj.jx fun q=> ?_)
  simp only[jC]
  repeat first|refine aa ?_ |intro
  rename_i o
  refine ag rfl (Spec.aV sp (Pz sp s)) ?_
  intro _
  rw[if_neg h0]
  repeat first|refine aa ?_ |intro
  refine aN (aO rfl () rfl (U.sat (U.trans ?_ (bj.shut (q:=o)))))
  unfold nA
  rw[if_neg h0]
  refine U.obj pc (by simp) (U.row o.1 (by simp) (by simp[bB]) ?_)
  exact ad
theorem N6:Spec Tryz.prog 98 [.pointer pc,.pointer ps] W (bj pc pp h l qo*(fe ps 3 none false*F)) (fun _:Unit=> .bool true) (fun _=>bj pc pp h l qo*(fe ps 3 none true*F)):=by
 refine Spec.of Tryz.func98 rfl Tryz.ntmps98 rfl ?_
 refine bj.open fun q=> ?_
 simp only[jC,fe]
 repeat first|refine aa ?_ |intro
 refine ae (aw rfl rfl () rfl (U.sat (U.trans ?_ (bj.shut (q:=q)))))
 refine U.obj pc rfl (U.row q.1 rfl rfl ?_)
 exact ad
theorem N4 (hT:gE W)(hw:hJ m ws)(hs:s.Ok m)(hl:l.length≤1000):Spec Tryz.prog 98 [.pointer pc,.pointer ps] W (fe ps 0 sp false*(bn sp s*(bj pc pp h l qo*(bD pp n ws*F)))) (fun _:Unit=> .bool (bh ws s).2.done)
  (fun _=>fe ps 0 sp (bh ws s).2.done*(bn sp (bh ws s).2*((if(bh ws s).2.done=true then bj pc pp (nA h (bh ws s).2) (l++(bh ws s).2.ports.reverse) qo else bj pc pp h l qo)*(bD pp n (bh ws s).1*F)))):=by
 refine Spec.of Tryz.func98 rfl Tryz.ntmps98 rfl ?_
 obtain⟨_,rN⟩:=yO hw hs
 refine cW pc (bj.open fun q=> ?_)
 simp only[jC,fe]
 repeat first|refine aa ?_ |intro
 refine aL 12 (Obj pc 172 [.pointer pp,.int .i64 (h:Int),.slice q.1 l.length q.2,.pointer qo]*(Obj ps 272 [.int .i64 ((0:Nat):Int),.pointer sp,.bool false]*1)) rfl rfl rfl ?_
 repeat(first|refine aq ?_ |refine eD ?_)
 refine aI rfl rfl rfl rfl rfl (Spec.pre (FV hT hw hs (p:=pp) (sp:=sp) (n:=n) (F:=Obj pc 172 [.pointer pp,.int .i64 (h:Int),.slice q.1 l.length q.2,.pointer qo]*(Obj ps 272 [.int .i64 ((0:Nat):Int),.pointer sp,.bool false]*(ao 3 1 q.1 l.length q.2 (bB .i64 l)*F)))) (U.at pp rfl (U.at sp rfl (ad)))) (fun _=>ad) ?_
 intro _
 repeat(first|refine aq ?_ |refine eD ?_)
 repeat(first|refine bQ ?_ |(refine bU ?_;intro)|refine bR ?_ |refine bS ?_ |refine bT ?_ |refine eD ?_)
 cases hd:(bh ws s).2.done with
 |true=>
  repeat first|refine aa ?_ |intro
  refine ag rfl (Spec.pre (Qp (pp:=pp) (h:=h) (l:=l) (qo:=qo) (F:=Obj ps 272 [.int .i64 ((0:Nat):Int),.pointer sp,.bool true]*(bD pp n (bh ws s).1*F)) rN.ports hl) (U.trans ?_ (bj.shut (q:=q)))) ?_
  ·refine U.obj pc rfl (U.row q.1 rfl rfl (U.at sp rfl ?_))
   exact ad
  intro _
  repeat first|refine aa ?_ |intro
  refine ae (aw rfl rfl () rfl (U.sat ?_))
  rw[if_pos rfl]
  refine U.obj ps rfl (U.at sp rfl ?_)
  exact ad
 |false=>
  repeat first|refine aa ?_ |intro
  refine ae (aw rfl rfl () rfl (U.sat ?_))
  rw[if_neg (by decide)]
  refine U.obj ps rfl (U.at sp rfl (U.trans ?_ (bj.shut (q:=q))))
  refine U.obj pc rfl (U.row q.1 rfl rfl (U.at pp rfl ?_))
  exact ad
end
section
open Go.RowKit
set_option maxRecDepth 10000
attribute [local irreducible] EK EX ER EN EL ES EG az ba bf
variable {W:World} {F:SL} {X:Cx} {k:List KI} {σ:Env} {pp pc ps sp qo q:Option Addr} {n m h:Nat} {ws l:List Nat} {s t:bL}
theorem FP:Spec Tryz.prog 99 [.pointer ps] W (fe ps 0 q true*(bn q t*F)) (fun _:Unit=> .bool (jd t)) (fun _=>fe ps 0 q true*(bn q t*F)):=by
 refine Spec.of Tryz.func99 rfl Tryz.ntmps99 rfl ?_
 repeat first|refine aa ?_ |intro
 refine ag rfl (Spec.aV q (GB q t)) ?_
 intro _
 repeat first|refine aa ?_ |intro
 exact ae (aw rfl rfl () rfl (U.sat (ad)))
theorem NV {d:Bool}:Spec Tryz.prog 101 [.pointer ps] W (fe ps 1 q d*(bn q s*F)) (fun _:Unit=> .bool s.alike) (fun _=>fe ps 1 q d*(bn q s*F)):=by
 refine Spec.of Tryz.func101 rfl Tryz.ntmps101 rfl ?_
 repeat first|refine aa ?_ |intro
 refine ag rfl (Spec.aV q (Pl q s)) ?_
 intro _
 repeat first|refine aa ?_ |intro
 exact ae (aw rfl rfl () rfl (U.sat (ad)))
theorem NM (hn:jd t=true)(ht:t.words.length≤1000):Spec Tryz.prog 100 [.pointer pc,.pointer ps] W (fe ps 0 q true*(bn q t*(bj pc pp h l qo*(bD pp n ws*F)))) (fun g:Option Addr×Option Addr=> .pointer g.1)
  (fun g=>fe g.1 1 g.2 false*(bn g.2 (oC t)*(fe ps 0 q true*(bn q t*(bj pc pp h l qo*(bD pp n ws*F)))))):=by
 refine Spec.of Tryz.func100 rfl Tryz.ntmps100 rfl ?_
 refine cW pc (bj.open fun z=> ?_)
 simp only[jC]
 repeat first|refine aa ?_ |intro
 refine ag rfl (Spec.fE ps q FP) ?_
 intro _
 rw[hn]
 repeat first|refine aa ?_ |intro
 refine jD 8 rfl (by kernel_rfl) rfl rfl ?_
 repeat(refine cV ?_)
 refine ag rfl (Spec.fE pp q (Pm hn ht)) ?_
 intro g
 repeat first|refine aa ?_ |intro
 rename_i x
 refine ae (aw rfl rfl (x,g) rfl (U.sat (U.obj x rfl (U.at g rfl (U.obj ps rfl (U.at q rfl (U.trans ?_ (bj.shut (q:=z)))))))))
 refine U.obj pc rfl (U.row z.1 rfl rfl ?_)
 exact ad
theorem N3 (hT:gE W)(hw:hJ m ws)(hs:s.Ok m):Spec Tryz.prog 98 [.pointer pc,.pointer ps] W (fe ps 1 sp false*(bn sp s*(bj pc pp h l qo*(bD pp n ws*F)))) (fun _:Unit=> .bool (bh ws s).2.done)
  (fun _=>fe ps 1 sp (bh ws s).2.done*(bn sp (bh ws s).2*(bj pc pp h l qo*(bD pp n (bh ws s).1*F)))):=by
 refine Spec.of Tryz.func98 rfl Tryz.ntmps98 rfl ?_
 refine cW pc (bj.open fun q=> ?_)
 simp only[jC,fe]
 repeat first|refine aa ?_ |intro
 refine aL 12 (Obj pc 172 [.pointer pp,.int .i64 (h:Int),.slice q.1 l.length q.2,.pointer qo]*(Obj ps 272 [.int .i64 ((1:Nat):Int),.pointer sp,.bool false]*1)) rfl rfl rfl ?_
 repeat(first|refine aq ?_ |refine eD ?_)
 refine aI rfl rfl rfl rfl rfl (Spec.pre (FV hT hw hs (p:=pp) (sp:=sp) (n:=n) (F:=Obj pc 172 [.pointer pp,.int .i64 (h:Int),.slice q.1 l.length q.2,.pointer qo]*(Obj ps 272 [.int .i64 ((1:Nat):Int),.pointer sp,.bool false]*(ao 3 1 q.1 l.length q.2 (bB .i64 l)*F)))) (U.at pp rfl (U.at sp rfl (ad)))) (fun _=>ad) ?_
 intro _
 repeat(first|refine aq ?_ |refine eD ?_)
 repeat(first|refine bQ ?_ |(refine bU ?_;intro)|refine bR ?_ |refine bS ?_ |refine bT ?_ |refine eD ?_)
 cases hd:(bh ws s).2.done with
 |true=>
  repeat first|refine aa ?_ |intro
  refine ae (aw rfl rfl () rfl (U.sat ?_))
  refine U.obj ps rfl (U.at sp rfl (U.trans ?_ (bj.shut (q:=q))))
  refine U.obj pc rfl (U.row q.1 rfl rfl (U.at pp rfl ?_))
  exact ad
 |false=>
  repeat first|refine aa ?_ |intro
  refine ae (aw rfl rfl () rfl (U.sat ?_))
  refine U.obj ps rfl (U.at sp rfl (U.trans ?_ (bj.shut (q:=q))))
  refine U.obj pc rfl (U.row q.1 rfl rfl (U.at pp rfl ?_))
  exact ad
end
section
open Go.RowKit
set_option maxRecDepth 10000
attribute [local irreducible] EK EX ER EN EL ES EG az ba bf
variable {W:World} {F:SL} {X:Cx} {k:List KI} {σ:Env}
attribute [local simp] mM
theorem uh (l:List UInt8)(a b c:Nat):(oL l a b c).length=l.length:=by simp[oL,dJ]
theorem Rm (l:List UInt8)(a b:Nat):(sR l a b).length=l.length:=by simp[sR,dJ]
theorem Hw (l:List UInt8)(a b:Nat)(s:Bool)(c d e:Nat):(oQ l a b s c d e).length=l.length:=by
 unfold oQ uo
 split
 ·rw[dJ]
 ·rw[dJ,dJ]
theorem Cv (l:List UInt8)(a b:Nat)(s:Bool)(c d e:Nat):(mL l a b s c d e).length=l.length:=by
 unfold mL
 split
 ·exact Rm _ _ _
 ·exact Hw _ _ _ _ _ _ _
theorem Xy (h:fh)(p:gQ)(l:List UInt8)(out:Bool)(addr port:Nat):(Au h p l out addr port).length=(l.take h.len).length:=by
 unfold Au
 dsimp only
 split
 ·rw[dJ,dJ,Cv,uh,uh]
 ·rw[Cv,uh]
structure Cd (h:fh)(p:gQ):Prop where
 room:h.size+8≤h.len
 plain:p.err=false→p.proto=h.proto∧(h.proto=1∨h.proto=6∨h.proto=17)
 inner:p.err=true→p.pos=h.size+8∧20≤p.inner.size∧p.inner.size≤60∧p.pos+p.inner.size+8≤h.len∧p.inner.proto<256
theorem Cd.of {h:fh}{l:List UInt8}(hh:pK h l.length)(he:iG h l=0):Cd h (ll h l):=by
 obtain⟨h1,h2,h3,h4,h5,h6,h7,h8⟩:=id hh
 have hb:(mK h l).length=h.len-h.size:=by rw[vN];exact oR l h4
 unfold iG at he
 unfold ll
 by_cases g1:h.proto=17
 ·rw[if_pos g1]at he ⊢
  unfold pC at he
  have:¬(mK h l).length<8:=fun g=>by rw[if_pos g]at he;cases he
  exact⟨by omega,fun _=>⟨g1.symm,.inr (.inr g1)⟩,fun e=>by cases e⟩
 rw[if_neg g1]at he ⊢
 by_cases g2:h.proto=6
 ·rw[if_pos g2]at he ⊢
  unfold pz at he
  have:¬(mK h l).length<20:=fun g=>by rw[if_pos g]at he;cases he
  exact⟨by omega,fun _=>⟨g2.symm,.inr (.inl g2)⟩,fun e=>by cases e⟩
 rw[if_neg g2]at he ⊢
 by_cases g3:¬(h.proto=1)
 ·rw[if_neg g3]at he;cases he
 have g3:=Decidable.not_not.1 g3
 rw[if_pos g3]at he
 generalize mK h l=x at hb he ⊢
 unfold nI at he
 have a1:¬x.length<8:=fun g=>by rw[if_pos g]at he;cases he
 rw[if_neg a1]at he
 have a2:¬cI x≠0:=fun g=>by rw[if_pos g]at he;cases he
 rw[if_neg a2]at he
 unfold qp
 by_cases a3:b1 x 0=0∨b1 x 0=8
 ·rw[if_pos a3]
  exact⟨by omega,fun _=>⟨g3.symm,.inl g3⟩,fun e=>by cases e⟩
 rw[if_neg a3]at he ⊢
 have a4:ur (b1 x 0):=Decidable.byContradiction fun g=>by rw[if_neg g]at he;cases he
 rw[if_pos a4]at he
 unfold oV at he
 have a5:dw true (x.drop 8)=0:=Decidable.byContradiction fun g=>by rw[if_pos g]at he;exact g he
 rw[if_neg (by omega)]at he
 obtain⟨k1,k2,k3,k4,_,_⟩:=zn a5
 have a6:¬((x.drop 8).length-(bd (x.drop 8)).size<8∨(bd (x.drop 8)).len<(bd (x.drop 8)).size+8):=fun g=>by rw[if_pos g]at he;cases he
 have a7:(x.drop 8).length=x.length-8:=List.length_drop
 refine⟨by omega,(fun e=>by cases e),fun _=>⟨rfl,k1,k2,?_,dH _ 9⟩⟩
 show h.size+8+(bd (x.drop 8)).size+8≤h.len
 omega
section
variable {p:Option Addr} {c i j:Nat} {l:List UInt8}
theorem PV [s:Src W F p l.length (aA l)](h0:0<l.length)(hl:l.length≤1000000):Spec Tryz.prog 218 [.slice p l.length c] W F (fun q:aP=> .slice q.1 l.length q.2) (fun q=>ao 5 1 q.1 l.length q.2 (aA l)*F):=by
 by_cases hp:p=none
 ·exact fun w hs=>absurd hp (s.nn w hs h0)
 refine Spec.of Tryz.func218 rfl Tryz.ntmps218 rfl ?_
 repeat first|refine aa ?_ |intro
 refine cg (yv rfl rfl) rfl ?_
 rw[decide_eq_false hp]
 repeat first|refine aa ?_ |intro
 rename_i q
 refine ae (aw rfl rfl q (by simp) (U.sat ?_))
 rw[Nat.zero_add,List.nil_append]
 exact av
end
section
variable {w:Option Addr} {q:aP} {out:Bool} {l:List UInt8}
theorem Mn (pos proto port bH addr:Nat)(src:Bool)(h:pos+3<l.length)(hi:pos≤100000)(hp:port<65536)(ho:bH<4294967296)(ha:addr<4294967296):Spec Tryz.prog 222 [.pointer w,.int .i64 (pos:Int),.int .i64 (proto:Int),.bool src,.int .u16 (port:Int),.int .u32 (bH:Int),.int .u32 (addr:Int)] W (dG w q out l F) (fun _:Unit=> .tuple #[]) (fun _=>dG w q out (oQ l pos proto src port bH addr) F):=by
 refine Spec.of Tryz.func222 rfl Tryz.ntmps222 rfl ?_
 by_cases g1:proto=17
 ·cases src with
  |false=>
   have eP:uT pos false=(pos+2):=rfl
   have eS:qA pos proto=(pos+6):=if_pos g1
   unfold oQ uo
   rw[eP,eS]
   have wP:=dK l (pos+2)
   obtain⟨l1,h1⟩:∃l1,st2 l (pos+2) port=l1:=⟨_,rfl⟩
   have n1:l1.length=l.length:=by rw[←h1,dJ]
   repeat first|refine aa ?_ |intro
   refine ag rfl (ly (pos+2) (by omega) (by omega)) ?_
   intro _
   repeat first|refine aa ?_ |intro
   refine ag rfl (j1 (pos+2) port (by omega) (by omega)) ?_
   intro _
   rw[h1]
   repeat first|refine aa ?_ |intro
   refine ag rfl (AW (pos+6) (by omega)) ?_
   intro _
   by_cases g2:l1.length<(pos+6)+2
   ·rw[if_pos (Or.inl g2),decide_eq_false (by omega)]
    repeat first|refine aa ?_ |intro
    exact ae (dB rfl () rfl (U.sat (av)))
   rw[decide_eq_true (by omega)]
   have wS:=dK l1 (pos+6)
   have e2:w2 (st2 l1 (pos+6) (iB (w2 l1 (pos+6)) bH addr)) (pos+6)=iB (w2 l1 (pos+6)) bH addr:=xW l1 (rl _ _ _) (by omega)
   have lW:=rl (w2 l1 (pos+6)) bH addr
   have lF:=sW (iB (w2 l1 (pos+6)) bH addr) (w2 l (pos+2)) port
   repeat first|refine aa ?_ |intro
   refine ag rfl (ly (pos+6) (by omega) (by omega)) ?_
   intro _
   by_cases g3:w2 l1 (pos+6)=0
   ·rw[if_pos (Or.inr ⟨g1,g3⟩)]
    repeat first|refine aa ?_ |intro
    exact ae (dB rfl () rfl (U.sat (av)))
   rw[if_neg (fun g=>g.elim g2 fun g=>g3 g.2),if_pos g1]
   repeat first|refine aa ?_ |intro
   refine ag rfl (vd (pos+6) bH addr (by omega) (by omega) ho ha) ?_
   intro _
   repeat first|refine aa ?_ |intro
   refine ag rfl (ly (pos+6) (by rw[dJ];omega) (by omega)) ?_
   intro _
   rw[e2]
   repeat first|refine aa ?_ |intro
   refine ag rfl (sD lW wP hp) ?_
   intro _
   unfold xv
   by_cases g4:ob (iB (w2 l1 (pos+6)) bH addr) (w2 l (pos+2)) port=0
   ·rw[if_pos g4]
    repeat first|refine aa ?_ |intro
    refine ag rfl (j1 (pos+6) 65535 (by rw[dJ];omega) (by omega)) ?_
    intro _
    rw[u5]
    repeat first|refine aa ?_ |intro
    exact aN (aO rfl () rfl (U.sat (av)))
   ·rw[if_neg g4]
    repeat first|refine aa ?_ |intro
    refine ag rfl (j1 (pos+6) _ (by rw[dJ];omega) (by omega)) ?_
    intro _
    rw[u5]
    repeat first|refine aa ?_ |intro
    exact aN (aO rfl () rfl (U.sat (av)))
  |true=>
   have eP:uT pos true=(pos+0):=rfl
   have eS:qA pos proto=(pos+6):=if_pos g1
   unfold oQ uo
   rw[eP,eS]
   have wP:=dK l (pos+0)
   obtain⟨l1,h1⟩:∃l1,st2 l (pos+0) port=l1:=⟨_,rfl⟩
   have n1:l1.length=l.length:=by rw[←h1,dJ]
   repeat first|refine aa ?_ |intro
   refine ag rfl (ly (pos+0) (by omega) (by omega)) ?_
   intro _
   repeat first|refine aa ?_ |intro
   refine ag rfl (j1 (pos+0) port (by omega) (by omega)) ?_
   intro _
   rw[h1]
   repeat first|refine aa ?_ |intro
   refine ag rfl (AW (pos+6) (by omega)) ?_
   intro _
   by_cases g2:l1.length<(pos+6)+2
   ·rw[if_pos (Or.inl g2),decide_eq_false (by omega)]
    repeat first|refine aa ?_ |intro
    exact ae (dB rfl () rfl (U.sat (av)))
   rw[decide_eq_true (by omega)]
   have wS:=dK l1 (pos+6)
   have e2:w2 (st2 l1 (pos+6) (iB (w2 l1 (pos+6)) bH addr)) (pos+6)=iB (w2 l1 (pos+6)) bH addr:=xW l1 (rl _ _ _) (by omega)
   have lW:=rl (w2 l1 (pos+6)) bH addr
   have lF:=sW (iB (w2 l1 (pos+6)) bH addr) (w2 l (pos+0)) port
   repeat first|refine aa ?_ |intro
   refine ag rfl (ly (pos+6) (by omega) (by omega)) ?_
   intro _
   by_cases g3:w2 l1 (pos+6)=0
   ·rw[if_pos (Or.inr ⟨g1,g3⟩)]
    repeat first|refine aa ?_ |intro
    exact ae (dB rfl () rfl (U.sat (av)))
   rw[if_neg (fun g=>g.elim g2 fun g=>g3 g.2),if_pos g1]
   repeat first|refine aa ?_ |intro
   refine ag rfl (vd (pos+6) bH addr (by omega) (by omega) ho ha) ?_
   intro _
   repeat first|refine aa ?_ |intro
   refine ag rfl (ly (pos+6) (by rw[dJ];omega) (by omega)) ?_
   intro _
   rw[e2]
   repeat first|refine aa ?_ |intro
   refine ag rfl (sD lW wP hp) ?_
   intro _
   unfold xv
   by_cases g4:ob (iB (w2 l1 (pos+6)) bH addr) (w2 l (pos+0)) port=0
   ·rw[if_pos g4]
    repeat first|refine aa ?_ |intro
    refine ag rfl (j1 (pos+6) 65535 (by rw[dJ];omega) (by omega)) ?_
    intro _
    rw[u5]
    repeat first|refine aa ?_ |intro
    exact aN (aO rfl () rfl (U.sat (av)))
   ·rw[if_neg g4]
    repeat first|refine aa ?_ |intro
    refine ag rfl (j1 (pos+6) _ (by rw[dJ];omega) (by omega)) ?_
    intro _
    rw[u5]
    repeat first|refine aa ?_ |intro
    exact aN (aO rfl () rfl (U.sat (av)))
 ·cases src with
  |false=>
   have eP:uT pos false=(pos+2):=rfl
   have eS:qA pos proto=(pos+16):=if_neg g1
   unfold oQ uo
   rw[eP,eS]
   have wP:=dK l (pos+2)
   obtain⟨l1,h1⟩:∃l1,st2 l (pos+2) port=l1:=⟨_,rfl⟩
   have n1:l1.length=l.length:=by rw[←h1,dJ]
   repeat first|refine aa ?_ |intro
   refine ag rfl (ly (pos+2) (by omega) (by omega)) ?_
   intro _
   repeat first|refine aa ?_ |intro
   refine ag rfl (j1 (pos+2) port (by omega) (by omega)) ?_
   intro _
   rw[h1]
   repeat first|refine aa ?_ |intro
   refine ag rfl (AW (pos+16) (by omega)) ?_
   intro _
   by_cases g2:l1.length<(pos+16)+2
   ·rw[if_pos (Or.inl g2),decide_eq_false (by omega)]
    repeat first|refine aa ?_ |intro
    exact ae (dB rfl () rfl (U.sat (av)))
   rw[decide_eq_true (by omega)]
   have wS:=dK l1 (pos+16)
   have e2:w2 (st2 l1 (pos+16) (iB (w2 l1 (pos+16)) bH addr)) (pos+16)=iB (w2 l1 (pos+16)) bH addr:=xW l1 (rl _ _ _) (by omega)
   have lW:=rl (w2 l1 (pos+16)) bH addr
   have lF:=sW (iB (w2 l1 (pos+16)) bH addr) (w2 l (pos+2)) port
   rw[if_neg (fun g=>g.elim g2 fun g=>g1 g.1),if_neg g1]
   repeat first|refine aa ?_ |intro
   refine ag rfl (vd (pos+16) bH addr (by omega) (by omega) ho ha) ?_
   intro _
   repeat first|refine aa ?_ |intro
   refine ag rfl (ly (pos+16) (by rw[dJ];omega) (by omega)) ?_
   intro _
   rw[e2]
   repeat first|refine aa ?_ |intro
   refine ag rfl (sD lW wP hp) ?_
   intro _
   repeat first|refine aa ?_ |intro
   refine ag rfl (j1 (pos+16) _ (by rw[dJ];omega) (by omega)) ?_
   intro _
   rw[u5]
   repeat first|refine aa ?_ |intro
   exact aN (aO rfl () rfl (U.sat (av)))
  |true=>
   have eP:uT pos true=(pos+0):=rfl
   have eS:qA pos proto=(pos+16):=if_neg g1
   unfold oQ uo
   rw[eP,eS]
   have wP:=dK l (pos+0)
   obtain⟨l1,h1⟩:∃l1,st2 l (pos+0) port=l1:=⟨_,rfl⟩
   have n1:l1.length=l.length:=by rw[←h1,dJ]
   repeat first|refine aa ?_ |intro
   refine ag rfl (ly (pos+0) (by omega) (by omega)) ?_
   intro _
   repeat first|refine aa ?_ |intro
   refine ag rfl (j1 (pos+0) port (by omega) (by omega)) ?_
   intro _
   rw[h1]
   repeat first|refine aa ?_ |intro
   refine ag rfl (AW (pos+16) (by omega)) ?_
   intro _
   by_cases g2:l1.length<(pos+16)+2
   ·rw[if_pos (Or.inl g2),decide_eq_false (by omega)]
    repeat first|refine aa ?_ |intro
    exact ae (dB rfl () rfl (U.sat (av)))
   rw[decide_eq_true (by omega)]
   have wS:=dK l1 (pos+16)
   have e2:w2 (st2 l1 (pos+16) (iB (w2 l1 (pos+16)) bH addr)) (pos+16)=iB (w2 l1 (pos+16)) bH addr:=xW l1 (rl _ _ _) (by omega)
   have lW:=rl (w2 l1 (pos+16)) bH addr
   have lF:=sW (iB (w2 l1 (pos+16)) bH addr) (w2 l (pos+0)) port
   rw[if_neg (fun g=>g.elim g2 fun g=>g1 g.1),if_neg g1]
   repeat first|refine aa ?_ |intro
   refine ag rfl (vd (pos+16) bH addr (by omega) (by omega) ho ha) ?_
   intro _
   repeat first|refine aa ?_ |intro
   refine ag rfl (ly (pos+16) (by rw[dJ];omega) (by omega)) ?_
   intro _
   rw[e2]
   repeat first|refine aa ?_ |intro
   refine ag rfl (sD lW wP hp) ?_
   intro _
   repeat first|refine aa ?_ |intro
   refine ag rfl (j1 (pos+16) _ (by rw[dJ];omega) (by omega)) ?_
   intro _
   rw[u5]
   repeat first|refine aa ?_ |intro
   exact aN (aO rfl () rfl (U.sat (av)))
end
end
section
open Go.RowKit
set_option maxRecDepth 10000
attribute [local irreducible] EK EX ER EN EL ES EG az ba bf
variable {W:World} {F:SL} {X:Cx} {k:List KI} {σ:Env}
attribute [local simp] mM
def Ed (l:List UInt8)(hs pos Ui zU:Nat)(out:Bool)(addr port:Nat):List UInt8:=
 let b2:=mL (oL l pos (pos+iU (!out)) addr) (pos+Ui) zU (!out) port (w4 l (pos+iU (!out))) addr
 let b3:=st2 b2 (hs+2) 0
 st2 b3 (hs+2) (cI (b3.drop hs))
section
variable {w:Option Addr} {q:aP} {out:Bool} {l:List UInt8}
theorem O4 (hs:Nat)(h:hs≤l.length)(hl:l.length≤100000):Spec Tryz.prog 139 [.slice (dO q.1 hs q.2 1) (l.length-hs) (q.2-hs)] W (dG w q out l F) (fun _:Unit=> .int .u16 (cI (l.drop hs):Int)) (fun _=>dG w q out l F):=by
 have s:Src W (dG w q out l F) q.1 l.length (aA l):=inferInstance
 have r:Room W (dG w q out l F) q.1 l.length q.2:=inferInstance
 haveI:=Src.low s r h
 have:=Bl (W:=W) (F:=dG w q out l F) (dO q.1 hs q.2 1) (q.2-hs) (l.drop hs) (by rw[List.length_drop];omega)
 rwa[List.length_drop]at this
set_option maxHeartbeats 1000000 in
theorem Zz (x:gQ)(hs addr port:Nat)(h1:x.pos=hs+8)(h2:20≤x.inner.size)(h3:x.inner.size≤60)(h4:x.pos+x.inner.size+8≤l.length)(h5:hs≤60)(hl:l.length≤1500)(ha:addr<4294967296)(hp:port<65536):
  Spec Tryz.prog 220 [.pointer w,.agg (bV x).toArray,.int .i64 (hs:Int),.int .u32 (addr:Int),.int .u16 (port:Int)] W (dG w q out l F) (fun _:Unit=> .tuple #[]) (fun _=>dG w q out (Ed l hs x.pos x.inner.size x.inner.proto out addr port) F):=by
 refine Spec.of Tryz.func220 rfl Tryz.ntmps220 rfl ?_
 have hw:=nS l (x.pos+iU (!out))
 repeat first|refine aa ?_ |intro
 rename_i x6
 refine aL 99 (Obj w 322 [.slice q.1 l.length q.2,.bool out]*(Obj x6 73 (bV x)*1)) rfl rfl rfl ?_
 repeat(first|refine aq ?_ |refine eD ?_)
 refine aI rfl rfl rfl rfl rfl (Spec.fE w q.1 (Ml x.pos addr (!out) (by omega) (by omega) ha)) (fun _=>by simp only[dG,uh];exact av) ?_
 intro _
 unfold Ed
 dsimp only
 obtain⟨l2,e2⟩:∃y,oL l x.pos (x.pos+iU (!out)) addr=y:=⟨_,rfl⟩
 have n2:l2.length=l.length:=by rw[←e2,uh]
 rw[e2]
 obtain⟨od,eo⟩:∃y,w4 l (x.pos+iU (!out))=y:=⟨_,rfl⟩
 rw[eo]at hw ⊢
 simp only[dG]
 rw[n2]
 repeat(first|refine aq ?_ |refine eD ?_)
 rw[←n2]
 repeat first|refine aa ?_ |intro
 refine kN (γ:=Unit) (fun _=>True) (fun _=>[(0,.pointer w),(2,.int .i64 (hs:Int))]) (fun _=>dG w q out (mL l2 (x.pos+x.inner.size) x.inner.proto (!out) port od addr) F) ?_ ?_
 ·by_cases g1:x.inner.proto=1
  ·rw[show mL l2 (x.pos+x.inner.size) x.inner.proto (!out) port od addr=sR l2 (x.pos+x.inner.size) port from if_pos g1,decide_eq_true (show(x.inner.proto:Int)=1 by omega)]
   repeat first|refine aa ?_ |intro
   refine ag rfl (Mp (x.pos+x.inner.size) port (by omega) (by omega) hp) ?_
   intro _
   repeat first|refine aa ?_ |intro
   exact ei () trivial ⟨rfl,rfl,trivial⟩ (U.sat (by simp only[dG];exact av))
  ·rw[show mL l2 (x.pos+x.inner.size) x.inner.proto (!out) port od addr=oQ l2 (x.pos+x.inner.size) x.inner.proto (!out) port od addr from if_neg g1,decide_eq_false (show ¬(x.inner.proto:Int)=1 by omega)]
   repeat first|refine aa ?_ |intro
   refine aL 99 (Obj w 322 [.slice q.1 l2.length q.2,.bool out]*(Obj x6 73 (bV x)*1)) rfl rfl rfl ?_
   repeat(first|refine aq ?_ |refine eD ?_)
   refine aI rfl rfl rfl rfl rfl (Mn (x.pos+x.inner.size) x.inner.proto port od addr (!out) (by omega) (by omega) hp hw ha) (fun _=>by simp only[dG,Hw];exact av) ?_
   intro _
   repeat(first|refine aq ?_ |refine eD ?_)
   repeat first|refine aa ?_ |intro
   exact ei () trivial ⟨rfl,rfl,trivial⟩ (U.sat (by simp only[dG];exact av))
 ·intro _ _
  have n3:(mL l2 (x.pos+x.inner.size) x.inner.proto (!out) port od addr).length=l.length:=by rw[Cv,n2]
  obtain⟨l3,e3⟩:∃y,mL l2 (x.pos+x.inner.size) x.inner.proto (!out) port od addr=y:=⟨_,rfl⟩
  rw[e3]at n3 ⊢
  have n4:(st2 l3 (hs+2) 0).length=l.length:=by rw[dJ,n3]
  have hc:=nB ((st2 l3 (hs+2) 0).drop hs)
  repeat first|refine aa ?_ |intro
  refine ag rfl (j1 (hs+2) 0 (by omega) (by omega)) ?_
  intro _
  obtain⟨l4,e4⟩:∃y,st2 l3 (hs+2) 0=y:=⟨_,rfl⟩
  rw[e4]at n4 hc ⊢
  simp only[dG]
  repeat first|refine aa ?_ |intro
  refine ag rfl (O4 hs (by omega) (by omega)) ?_
  intro _
  simp only[dG]
  repeat first|refine aa ?_ |intro
  refine ag rfl (j1 (hs+2) _ (by omega) (by omega)) ?_
  intro _
  repeat first|refine aa ?_ |intro
  exact aN (aO rfl () rfl (U.sat (by simp only[dG];exact av)))
abbrev Fe (q:aP)(l:List UInt8)(e:Nat):Value:= .tuple #[.slice q.1 l.length q.2,.int .i64 (e:Int)]
theorem PU {p:Option Addr}{c j:Nat}(s:Src W F p l.length (aA l))(hj:j≤l.length)(h0:0<j)(h1:j≤1000000):Spec Tryz.prog 218 [.slice p j c] W F (fun q:aP=> .slice q.1 (l.take j).length q.2) (fun q=>ao 5 1 q.1 (l.take j).length q.2 (aA (l.take j))*F):=by
 haveI:=Src.pre s hj
 have jb:(l.take j).length=j:=by rw[List.length_take,Nat.min_eq_left hj]
 have:=PV (W:=W) (F:=F) (p:=p) (c:=c) (l:=l.take j) (by omega) (by omega)
 rw[show([Value.slice p (l.take j).length c]:List Value)=[.slice p j c]by rw[jb]]at this
 exact this
set_option maxHeartbeats 1000000 in
theorem Hx {p:Option Addr}{c:Nat}(hl:l.length≤140737488355328)[s:Src W F p l.length (aA l)][r:Room W F p l.length c](addr port:Nat)(ha:addr<4294967296)(hp:port<65536):Spec Tryz.prog 168 [.slice p l.length c,.bool out,.int .u32 (addr:Int),.int .u16 (port:Int)] W F (fun z:aP=>Fe z (jf l out addr port) (dz l)) (fun z=>ao 5 1 z.1 (jf l out addr port).length z.2 (aA (jf l out addr port))*F):=by
 refine Spec.of Tryz.func168 rfl Tryz.ntmps168 rfl ?_
 unfold jf dz
 repeat first|refine aa ?_ |intro
 refine ag rfl (Dc hl) ?_
 intro _
 by_cases g1:dw false l=0
 ·have g0:=pK.of g1
  rw[lV g1,g1,if_pos rfl,if_pos rfl]
  obtain⟨hd,f0⟩:∃x,bd l=x:=⟨_,rfl⟩
  rw[f0]at g0 ⊢
  obtain⟨h1,h2,h3,h4,h5,h6,h7,h8⟩:=id g0
  repeat first|refine aa ?_ |intro
  refine ag rfl (EJ hd g0) ?_
  intro _
  by_cases g2:iG hd l=0
  ·have k0:=Cd.of g0 g2
   have k1:=k0.room
   have k2:=k0.plain
   have k3:=k0.inner
   rw[show oy hd l=ll hd l from if_pos g2,g2,if_pos rfl]
   obtain⟨x,f1⟩:∃x,ll hd l=x:=⟨_,rfl⟩
   rw[f1]at k2 k3 ⊢
   obtain⟨xp,xs,xd,xf,xk,xc,xe,xi,xo,xb⟩:=x
   dsimp only at k2 k3
   have hlen:(l.take hd.len).length=hd.len:=by rw[List.length_take,Nat.min_eq_left h4]
   repeat first|refine aa ?_ |intro
   refine ag rfl (PU inferInstance h4 (by omega) (by omega)) ?_
   intro z
   rw[show Au hd ⟨xp,xs,xd,xf,xk,xc,xe,xi,xo,xb⟩ l out addr port=(if xe then Ed (oL (l.take hd.len) 0 (iU out) addr) hd.size xo xi.size xi.proto out addr port else mL (oL (l.take hd.len) 0 (iU out) addr) hd.size hd.proto out port (w4 (l.take hd.len) (iU out)) addr)from rfl]
   obtain⟨b,hb⟩:∃b,l.take hd.len=b:=⟨_,rfl⟩
   rw[hb]at hlen ⊢
   have hw:=nS b (iU out)
   have e0:=Nat.zero_add (iU out)
   repeat first|refine aa ?_ |intro
   rename_i xw
   refine ag rfl (Spec.fE xw z.1 (Ml 0 addr out (by omega) (by decide) ha)) ?_
   intro _
   rw[e0]
   obtain⟨b2,e2⟩:∃y,oL b 0 (iU out) addr=y:=⟨_,rfl⟩
   have n2:b2.length=hd.len:=by rw[←e2,uh,hlen]
   rw[e2]
   obtain⟨od,eo⟩:∃y,w4 b (iU out)=y:=⟨_,rfl⟩
   rw[eo]at hw ⊢
   simp only[dG]
   cases xe with
   |true=>
    obtain⟨m1,m2,m3,m4,m5⟩:=k3 rfl
    rw[if_pos rfl]
    repeat first|refine aa ?_ |intro
    refine ag rfl (Zz ⟨xp,xs,xd,xf,xk,xc,true,xi,xo,xb⟩ hd.size addr port m1 m2 m3 (by dsimp only;omega) h2 (by omega) ha hp) ?_
    intro _
    simp only[dG]
    repeat first|refine aa ?_ |intro
    exact ae (eU rfl rfl rfl z rfl (U.sat (av)))
   |false=>
    obtain⟨m1,m2⟩:=k2 rfl
    rw[if_neg (by decide)]
    by_cases g4:hd.proto=1
    ·rw[show mL b2 hd.size hd.proto out port od addr=sR b2 hd.size port from if_pos g4]
     repeat first|refine aa ?_ |intro
     refine ag rfl (Mp hd.size port (by omega) (by omega) hp) ?_
     intro _
     simp only[dG]
     repeat first|refine aa ?_ |intro
     exact ae (eU rfl rfl rfl z rfl (U.sat (av)))
    ·rw[show mL b2 hd.size hd.proto out port od addr=oQ b2 hd.size hd.proto out port od addr from if_neg g4]
     rw[←m1]
     repeat first|refine aa ?_ |intro
     refine ag rfl (Mn hd.size xp port od addr out (by omega) (by omega) hp hw ha) ?_
     intro _
     simp only[dG]
     repeat first|refine aa ?_ |intro
     exact ae (eU rfl rfl rfl z rfl (U.sat (av)))
  ·rw[show oy hd l=bz from if_neg g2,if_neg g2]
   repeat first|refine aa ?_ |intro
   exact ae (eU rfl rfl rfl (none,0) rfl (U.sat (U.none (av))))
 ·rw[lV (rfl:dw false l=_),if_neg g1,if_neg g1,if_neg g1]
  repeat first|refine aa ?_ |intro
  exact ae (eU rfl rfl rfl (none,0) rfl (U.sat (U.none (av))))
end
end
section
open Go.RowKit
set_option maxRecDepth 10000
attribute [local irreducible] EK EX ER EN EL ES EG az ba bf
variable {W:World} {F:SL} {X:Cx} {k:List KI} {σ:Env}
section
variable {p:Option Addr} {c i j:Nat} {l:List UInt8}
theorem Zw {l:List UInt8}{i:Nat}:w2 l i=0↔b1 l i=0∧b1 l (i+1)=0:=by
 unfold w2
 omega
set_option maxHeartbeats 2000000 in
theorem W8 [s:Src W F p l.length (aA l)][r:Room W F p l.length c](hd:fh)(h:pK hd l.length):Spec Tryz.prog 78 [.agg (cN hd).toArray,.slice p l.length c] W F (fun _:Unit=>rV (oy hd l) (iG hd l)) (fun _=>F):=by
 refine Spec.of Tryz.func78 rfl Tryz.ntmps78 rfl ?_
 obtain⟨h1,h2,h3,h4,h5,h6,h7,h8⟩:=h
 have e0:iG hd l=_:=rfl
 conv at e0=>rhs;unfold iG
 have sy:=Src.cut s r h3 h4
 have ry:=Room.cut (i:=hd.size) r h4
 have ey:=oR l (i:=hd.size) h4
 rw[vN]at e0
 have eP:ll hd l=_:=rfl
 conv at eP=>rhs;unfold ll
 rw[vN]at eP
 obtain⟨y,hy⟩:∃y,iW l hd.size hd.len=y:=⟨_,rfl⟩
 rw[hy]at sy ry ey e0 eP
 have ey:=ey.symm
 unfold oy
 have kC:=dK y 0
 have qn:=dK y 2
 have tv:=dK y 4
 have hb6:=dH y 6
 have hb7:=dH y 7
 by_cases g1:hd.proto=17
 ·have gI:(hd.proto:Int)=17:=by omega
  rw[if_pos g1]at e0 eP
  rw[e0,eP]
  have e1:pC hd.src hd.dst y=_:=rfl
  conv at e1=>rhs;unfold pC
  repeat first|refine aa ?_ |intro
  rename_i x2 x4 x7
  rw[ey,gI]
  obtain⟨q,hq⟩:∃q,dO p hd.size c 1=q:=⟨_,rfl⟩
  obtain⟨cc,mT⟩:∃cc,c-hd.size=cc:=⟨_,rfl⟩
  rw[hq,mT]at ry
  rw[hq]at sy
  rw[hq,mT]
  haveI:=sy
  haveI:=ry
  by_cases k1:y.length<8
  ·rw[if_pos k1]at e1
   rw[e1,decide_eq_true (show((y.length:Nat):Int)<8 by omega)]
   repeat first|refine aa ?_ |intro
   exact ae (bq (rs:=[.cell 4 129,.tmp 5]) (v:= .agg (bV bz).toArray) (u:= .int .i64 ((2:Nat):Int)) (vs:=[]) rfl ⟨⟨_,rfl,bc.agg rfl⟩,rfl,trivial⟩ () rfl (U.sat (aZ)))
  rw[if_neg k1]at e1
  rw[decide_eq_false (show ¬((y.length:Nat):Int)<8 by omega)]
  repeat first|refine aa ?_ |intro
  refine ag rfl (oB (l:=y) (j:=6) inferInstance inferInstance rfl (by omega) _ _ rfl) ?_
  intro _
  by_cases k2:w2 y 4≠y.length
  ·rw[if_pos k2]at e1
   rw[e1]
   repeat first|refine aa ?_ |intro
   exact ae (bq (rs:=[.cell 4 129,.tmp 5]) (v:= .agg (bV bz).toArray) (u:= .int .i64 ((3:Nat):Int)) (vs:=[]) rfl ⟨⟨_,rfl,bc.agg rfl⟩,rfl,trivial⟩ () rfl (U.sat (aZ)))
  rw[if_neg k2]at e1
  have hz:=Zw (l:=y) (i:=6)
  have hp:=uV hd.src hd.dst 17 y
  by_cases k3:w2 y 6=0
  ·rw[if_neg (fun g=>g.1 k3)]at e1
   rw[e1,if_pos rfl,show nk y={bz with proto:=17,sp:=w2 y 0,dp:=w2 y 2,bare:=true}by unfold nk;rw[decide_eq_true k3]]
   obtain⟨k4,Uk⟩:=hz.1 k3
   have k5:b1 y 7=0:=Uk
   repeat first|refine aa ?_ |intro
   refine aL 11 (iw x7 129*F) rfl rfl rfl ?_
   repeat(first|refine aq ?_ |refine eD ?_)
   refine aI rfl rfl rfl rfl rfl (xI (l:=y) inferInstance (by omega) _) (fun _=>aZ) ?_
   intro _
   repeat(first|refine aq ?_ |refine eD ?_)
   refine aI rfl rfl rfl rfl rfl (oB (l:=y) (j:=4) inferInstance inferInstance rfl (by omega) _ _ rfl) (fun _=>aZ) ?_
   intro _
   repeat(first|refine aq ?_ |refine eD ?_)
   repeat(first|refine bQ ?_ |(refine bU ?_;intro)|refine bR ?_ |refine bS ?_ |refine bT ?_ |refine eD ?_)
   repeat first|refine aa ?_ |intro
   exact ae (bq (rs:=[.cell 4 129,.tmp 5]) (v:= .agg (bV {bz with proto:=17,sp:=w2 y 0,dp:=w2 y 2,bare:=true}).toArray) (u:= .int .i64 ((0:Nat):Int)) (vs:=[]) rfl ⟨⟨_,rfl,bc.agg rfl⟩,rfl,trivial⟩ () rfl (U.sat (aZ)))
  have eB:nk y={bz with proto:=17,sp:=w2 y 0,dp:=w2 y 2,bare:=false}:=by unfold nk;rw[decide_eq_false k3]
  by_cases k6:fP hd.src hd.dst 17 y=0
  ·rw[if_neg (fun g=>g.2 k6)]at e1
   rw[e1,if_pos rfl,eB]
   by_cases k4:b1 y 6=0
   ·have k5:b1 y 7≠0:=fun g=>k3 (hz.2 ⟨k4,g⟩)
    repeat first|refine aa ?_ |intro
    refine ag rfl (tL (l:=y) hd.src hd.dst 17 (by decide) (by omega)) ?_
    intro _
    repeat first|refine aa ?_ |intro
    refine aL 11 (iw x7 129*F) rfl rfl rfl ?_
    repeat(first|refine aq ?_ |refine eD ?_)
    refine aI rfl rfl rfl rfl rfl (xI (l:=y) inferInstance (by omega) _) (fun _=>aZ) ?_
    intro _
    repeat(first|refine aq ?_ |refine eD ?_)
    refine aI rfl rfl rfl rfl rfl (oB (l:=y) (j:=4) inferInstance inferInstance rfl (by omega) _ _ rfl) (fun _=>aZ) ?_
    intro _
    repeat(first|refine aq ?_ |refine eD ?_)
    repeat(first|refine bQ ?_ |(refine bU ?_;intro)|refine bR ?_ |refine bS ?_ |refine bT ?_ |refine eD ?_)
    repeat first|refine aa ?_ |intro
    exact ae (bq (rs:=[.cell 4 129,.tmp 5]) (v:= .agg (bV {bz with proto:=17,sp:=w2 y 0,dp:=w2 y 2,bare:=false}).toArray) (u:= .int .i64 ((0:Nat):Int)) (vs:=[]) rfl ⟨⟨_,rfl,bc.agg rfl⟩,rfl,trivial⟩ () rfl (U.sat (aZ)))
   ·repeat first|refine aa ?_ |intro
    refine ag rfl (tL (l:=y) hd.src hd.dst 17 (by decide) (by omega)) ?_
    intro _
    repeat first|refine aa ?_ |intro
    refine aL 11 (iw x7 129*F) rfl rfl rfl ?_
    repeat(first|refine aq ?_ |refine eD ?_)
    refine aI rfl rfl rfl rfl rfl (xI (l:=y) inferInstance (by omega) _) (fun _=>aZ) ?_
    intro _
    repeat(first|refine aq ?_ |refine eD ?_)
    refine aI rfl rfl rfl rfl rfl (oB (l:=y) (j:=4) inferInstance inferInstance rfl (by omega) _ _ rfl) (fun _=>aZ) ?_
    intro _
    repeat(first|refine aq ?_ |refine eD ?_)
    repeat(first|refine bQ ?_ |(refine bU ?_;intro)|refine bR ?_ |refine bS ?_ |refine bT ?_ |refine eD ?_)
    repeat first|refine aa ?_ |intro
    exact ae (bq (rs:=[.cell 4 129,.tmp 5]) (v:= .agg (bV {bz with proto:=17,sp:=w2 y 0,dp:=w2 y 2,bare:=false}).toArray) (u:= .int .i64 ((0:Nat):Int)) (vs:=[]) rfl ⟨⟨_,rfl,bc.agg rfl⟩,rfl,trivial⟩ () rfl (U.sat (aZ)))
  ·rw[if_pos ⟨k3,k6⟩]at e1
   rw[e1]
   by_cases k4:b1 y 6=0
   ·have k5:b1 y 7≠0:=fun g=>k3 (hz.2 ⟨k4,g⟩)
    repeat first|refine aa ?_ |intro
    refine ag rfl (tL (l:=y) hd.src hd.dst 17 (by decide) (by omega)) ?_
    intro _
    repeat first|refine aa ?_ |intro
    exact ae (bq (rs:=[.cell 4 129,.tmp 5]) (v:= .agg (bV bz).toArray) (u:= .int .i64 ((4:Nat):Int)) (vs:=[]) rfl ⟨⟨_,rfl,bc.agg rfl⟩,rfl,trivial⟩ () rfl (U.sat (aZ)))
   ·repeat first|refine aa ?_ |intro
    refine ag rfl (tL (l:=y) hd.src hd.dst 17 (by decide) (by omega)) ?_
    intro _
    repeat first|refine aa ?_ |intro
    exact ae (bq (rs:=[.cell 4 129,.tmp 5]) (v:= .agg (bV bz).toArray) (u:= .int .i64 ((4:Nat):Int)) (vs:=[]) rfl ⟨⟨_,rfl,bc.agg rfl⟩,rfl,trivial⟩ () rfl (U.sat (aZ)))
 rw[if_neg g1]at e0 eP
 by_cases g2:hd.proto=6
 ·have gI:(hd.proto:Int)=6:=by omega
  rw[if_pos g2]at e0 eP
  rw[e0,eP]
  have e1:pz hd.src hd.dst y=_:=rfl
  conv at e1=>rhs;unfold pz
  have adJ:=dH y 12
  have adK:=dH y 13
  have hp:=uV hd.src hd.dst 6 y
  repeat first|refine aa ?_ |intro
  rename_i x2 x4 x7
  rw[ey,gI]
  obtain⟨q,hq⟩:∃q,dO p hd.size c 1=q:=⟨_,rfl⟩
  obtain⟨cc,mT⟩:∃cc,c-hd.size=cc:=⟨_,rfl⟩
  rw[hq,mT]at ry
  rw[hq]at sy
  rw[hq,mT]
  haveI:=sy
  haveI:=ry
  by_cases k1:y.length<20
  ·rw[if_pos k1]at e1
   rw[e1,decide_eq_true (show((y.length:Nat):Int)<20 by omega)]
   repeat first|refine aa ?_ |intro
   exact ae (bq (rs:=[.cell 4 129,.tmp 5]) (v:= .agg (bV bz).toArray) (u:= .int .i64 ((2:Nat):Int)) (vs:=[]) rfl ⟨⟨_,rfl,bc.agg rfl⟩,rfl,trivial⟩ () rfl (U.sat (aZ)))
  rw[if_neg k1]at e1
  rw[decide_eq_false (show ¬((y.length:Nat):Int)<20 by omega)]
  by_cases k2:b1 y 12/16*4<20
  ·rw[if_pos (Or.inl k2)]at e1
   rw[e1]
   repeat first|refine aa ?_ |intro
   exact ae (bq (rs:=[.cell 4 129,.tmp 5]) (v:= .agg (bV bz).toArray) (u:= .int .i64 ((3:Nat):Int)) (vs:=[]) rfl ⟨⟨_,rfl,bc.agg rfl⟩,rfl,trivial⟩ () rfl (U.sat (aZ)))
  by_cases k3:b1 y 12/16*4>y.length
  ·rw[if_pos (Or.inr k3)]at e1
   rw[e1]
   repeat first|refine aa ?_ |intro
   exact ae (bq (rs:=[.cell 4 129,.tmp 5]) (v:= .agg (bV bz).toArray) (u:= .int .i64 ((3:Nat):Int)) (vs:=[]) rfl ⟨⟨_,rfl,bc.agg rfl⟩,rfl,trivial⟩ () rfl (U.sat (aZ)))
  rw[if_neg (fun g=>g.elim k2 k3)]at e1
  repeat first|refine aa ?_ |intro
  refine ag rfl (tL (l:=y) hd.src hd.dst 6 (by decide) (by omega)) ?_
  intro _
  by_cases k4:fP hd.src hd.dst 6 y≠0
  ·rw[if_pos k4]at e1
   rw[e1]
   repeat first|refine aa ?_ |intro
   exact ae (bq (rs:=[.cell 4 129,.tmp 5]) (v:= .agg (bV bz).toArray) (u:= .int .i64 ((4:Nat):Int)) (vs:=[]) rfl ⟨⟨_,rfl,bc.agg rfl⟩,rfl,trivial⟩ () rfl (U.sat (aZ)))
  rw[if_neg k4]at e1
  rw[e1,if_pos rfl]
  repeat first|refine aa ?_ |intro
  refine aL 11 (iw x7 129*F) rfl rfl rfl ?_
  repeat(first|refine aq ?_ |refine eD ?_)
  refine aI rfl rfl rfl rfl rfl (xI (l:=y) inferInstance (by omega) _) (fun _=>aZ) ?_
  intro _
  repeat(first|refine aq ?_ |refine eD ?_)
  refine aI rfl rfl rfl rfl rfl (oB (l:=y) (j:=4) inferInstance inferInstance rfl (by omega) _ _ rfl) (fun _=>aZ) ?_
  intro _
  repeat(first|refine aq ?_ |refine eD ?_)
  repeat(first|refine bQ ?_ |(refine bU ?_;intro)|refine bR ?_ |refine bS ?_ |refine bT ?_ |refine eD ?_)
  repeat first|refine aa ?_ |intro
  exact ae (bq (rs:=[.cell 4 129,.tmp 5]) (v:= .agg (bV (r9 y)).toArray) (u:= .int .i64 ((0:Nat):Int)) (vs:=[]) rfl ⟨⟨_,rfl,bc.agg rfl⟩,rfl,trivial⟩ () rfl (U.sat (aZ)))
 rw[if_neg g2]at e0 eP
 by_cases g3:hd.proto=1
 ·rw[if_pos g3]at e0
  rw[e0,eP]
  repeat first|refine aa ?_ |intro
  rw[ey]
  haveI:=sy
  haveI:=ry
  refine ag rfl (Xn (l:=y) (hd.proto:Int) (by omega) hd h2 (by omega)) ?_
  intro _
  repeat first|refine aa ?_ |intro
  exact ae (bq (rs:=[.cell 4 129,.tmp 5]) (v:= .agg (bV _).toArray) (u:= .int .i64 ((nI y:Nat):Int)) (vs:=[]) rfl ⟨⟨_,rfl,bc.agg rfl⟩,rfl,trivial⟩ () rfl (U.sat (aZ)))
 rw[if_neg g3]at e0
 rw[e0]
 repeat first|refine aa ?_ |intro
 exact ae (bq (rs:=[.cell 4 129,.tmp 5]) (v:= .agg (bV bz).toArray) (u:= .int .i64 ((6:Nat):Int)) (vs:=[]) rfl ⟨⟨_,rfl,bc.agg rfl⟩,rfl,trivial⟩ () rfl (U.sat (aZ)))
end
end
end Go.Proofs.YtakbmjoijcpdmaaGreatDoor
