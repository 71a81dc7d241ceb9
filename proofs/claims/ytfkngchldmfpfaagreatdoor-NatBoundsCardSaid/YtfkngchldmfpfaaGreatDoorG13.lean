/-
  A part of a proof, joined by a program (wip/bundle3.py).
-/
import Derived.Test.YtfkngchldmfpfaaGreatDoorRows
import Derived.ProofKit
import Derived.OpenShut
import Derived.Deep.DeepHandedRow
import Derived.Deep.Slices
import Derived.Deep.Fields
import Derived.Carry
import Derived.Test.YtfkngchldmfpfaaGreatDoorG1
import Derived.Test.YtfkngchldmfpfaaGreatDoorG3
import Derived.Test.YtfkngchldmfpfaaGreatDoorG4
import Derived.Test.YtfkngchldmfpfaaGreatDoorG6
import Derived.Test.YtfkngchldmfpfaaGreatDoorG7
import Derived.Test.YtfkngchldmfpfaaGreatDoorG11
import Derived.Test.YtfkngchldmfpfaaGreatDoorG12
set_option linter.unusedVariables false
set_option linter.unusedSimpArgs false
namespace Go.Proofs.YtfkngchldmfpfaaGreatDoor
section
open Go.RowKit Go.Sort Go.Lib
variable {W:World} {F:SL}
theorem LI {w:World}{e g o c n:Nat}{cur:List Value}{zs ys:List Int}(hs:Sat W w (SL.cO g (.cells cur.toArray e (0,0))*F))(hc:n≤c)(hm:c≤maxLen)(h2:o+c*1≤cur.length)(hl:ys.length=n)
  (m:Nat) (os:Array Go.Obj):Sat W (grow (putRow (Value.int .i64) (Sort.ahead w m) g o ys.toArray) os) (ad e 1 (some ⟨g,o,none⟩) n c (aJ .i64 ys)*F):=by
 have hg:=hs.get
 have hw:Sat W (grow (putRow (Value.int .i64) (Sort.ahead w m) g o ys.toArray) os) (SL.cO g (.cells (putCells (Value.int .i64) o ys.toArray cur.toArray).toList.toArray e (0,0))*F):=by
  refine hs.write ?_ rfl rfl rfl ?_ ?_
  ·simp[Go.Sort.grow,putRow,mapBlock,Go.Sort.ahead]
  ·intro k hk D7
   simp only[Go.Sort.grow,putRow,mapBlock]
   rw[Array.getElem?_append_left (by simpa[Go.Sort.ahead]using hk),Array.getElem?_modify,if_neg (Ne.symm D7)]
   rfl
  ·simp only[Go.Sort.grow,putRow,mapBlock]
   rw[Array.getElem?_append_left (by simpa[Go.Sort.ahead]using hs.lt),Array.getElem?_modify,if_pos rfl]
   have:(Go.Sort.ahead w m).heap=w.heap:=rfl
   rw[this,hg]
   rfl
 refine ad.shut (o:=o) hc hm ?_ ?_ hw
 ·simpa[putCells]using h2
 ·apply List.ext_getElem?
  intro j
  rw[List.getElem?_take,List.getElem?_drop]
  split
  ·rename_i hj
   simp only[putCells,Array.getElem?_toList,Array.getElem?_mapIdx,List.getElem?_toArray]
   have bY:o+j<cur.length:=by omega
   have JA:j<ys.length:=by omega
   rw[List.getElem?_eq_getElem bY]
   simp only[Option.map_some]
   rw[if_pos ⟨by omega,by simp;omega⟩]
   unfold aJ
   rw[List.getElem?_map,List.getElem?_eq_getElem JA]
   simp only[Option.map_some]
   congr 2
   rw[show o+j-o=j by omega,getElem!_pos _ j (by simpa using JA)]
   simp
  ·rw[List.getElem?_eq_none (by simp[aJ];omega)]
theorem LH {w:World}{e g o c n:Nat}{cur:List Value}{zs:List Int}(hs:Sat W w (SL.cO g (.cells cur.toArray e (0,0))*F))(h3:(cur.drop o).take (n*1)=aJ .i64 zs)(hl:zs.length=n):Holds (Value.int .i64) w g o zs.toArray:=by
 intro j hj
 have oD:j<zs.length:=by simpa using hj
 refine⟨?_,hs.free _⟩
 rw[hs.cell]
 have e1:((cur.drop o).take (n*1))[j]? =(aJ .i64 zs)[j]? :=by rw[h3]
 rw[List.getElem?_take,if_pos (by omega),List.getElem?_drop]at e1
 rw[List.getElem?_toArray,e1]
 unfold aJ
 rw[List.getElem?_map,List.getElem?_eq_getElem oD,getElem!_pos _ j (by simpa using oD)]
 simp
def zb (zs:List Int):List Int:=zs.mergeSort fun x y=>decide (x≤y)
theorem L4 (zs:List Int):(zb zs).length=zs.length:=List.length_mergeSort zs
theorem PU (p:Option Addr)(n c:Nat)(zs:List Int)(hl:zs.length=n)(Ez:n≤1000000):
  Spec Tryz.prog 235 [.slice p n c] W (ad 3 1 p n c (aJ .i64 zs)*F) (fun _:Unit=> .tuple #[]) (fun _=>ad 3 1 p n c (aJ .i64 (zb zs))*F):=by
 intro w h
 obtain⟨⟨_,hc,hm⟩,⟨_,AH,hs⟩|⟨g,o,cur,rfl,h2,h3,hs⟩⟩:=ad.open h
 ·have hn:n=0:=by omega
  subst hn
  obtain rfl:=List.eq_nil_of_length_eq_zero hl
  refine(Tryz.slices_Sort_int_none p c w).mono ?_
  rintro e w' ⟨rfl,rfl⟩
  exact⟨(),rfl,by simpa[zb]using h⟩
 ·subst hl
  refine(Tryz.slices_Sort_int g o c zs w (LH (c:=c) hs h3 rfl) hs.lt (by omega)).mono ?_
  rintro e w' ⟨rfl,m,os,rfl⟩
  exact⟨(),rfl,LI (zs:=zs) hs hc hm h2 (L4 zs) m os⟩
theorem S7 (w:World):grow w #[]=w:=by
 unfold grow
 simp
theorem PJ (p:Option Addr)(n c:Nat)(zs:List Int)(hl:zs.length=n)(Ez:n≤1000000):
  Spec Tryz.prog 219 [.slice p n c] W (ad 3 1 p n c (aJ .i64 zs)*F) (fun _:Unit=> .tuple #[]) (fun _=>ad 3 1 p n c (aJ .i64 zs.reverse)*F):=by
 intro w h
 obtain⟨⟨_,hc,hm⟩,⟨_,AH,hs⟩|⟨g,o,cur,rfl,h2,h3,hs⟩⟩:=ad.open h
 ·have hn:n=0:=by omega
  subst hn
  obtain rfl:=List.eq_nil_of_length_eq_zero hl
  refine(Tryz.slices_Reverse_int_empty p c w).mono ?_
  rintro e w' ⟨rfl,rfl⟩
  exact⟨(),rfl,by simpa using h⟩
 ·subst hl
  refine(Tryz.slices_Reverse_int g o c zs w (LH (c:=c) hs h3 rfl) (by omega)).mono ?_
  rintro e w' ⟨rfl,m,rfl⟩
  have:=LI (zs:=zs) hs hc hm h2 (show zs.reverse.length=zs.length by simp) m #[]
  rw[S7]at this
  exact⟨(),rfl,this⟩
end
section
open Go.RowKit
theorem la {α:Type}(l:List α)(a:α):(l++[a]).length=l.length+1:=by simp
def gL (x:Nat×Nat)(c:Nat):List Nat:=((List.range c).filter fun i=>x.2.testBit i).map (x.1*32+ ·)
def fC (l:List (Nat×Nat)):List Nat:=l.flatMap fun x=>gL x 32
theorem W5 (x:Nat×Nat)(c:Nat):gL x (c+1)=gL x c++if x.2.testBit c then [x.1*32+c]else []:=by
 unfold gL
 rw[List.range_succ,List.filter_append,List.map_append]
 congr 1
 by_cases h:x.2.testBit c<;>simp[h]
theorem Le (x:Nat×Nat)(c:Nat):(gL x c).length≤c:=by
 have:=List.length_filter_le (fun i=>x.2.testBit i) (List.range c)
 simpa[gL]using this
theorem VD (l:List (Nat×Nat)){i:Nat}(h:i<l.length):fC (l.take (i+1))=fC (l.take i)++gL (l.getD i (0,0)) 32:=by
 have:=tv (l:=l) (d:=(0,0)) h
 rw[←this]
 simp[fC]
theorem Ko (l:List (Nat×Nat)):(fC l).length≤l.length*32:=by
 induction l with
 |nil=>simp[fC]
 |cons x l ih=>
  have:=Le x 32
  simp only[fC,List.flatMap_cons,List.length_append,List.length_cons]at ih ⊢
  omega
end
section
open Go.RowKit
set_option maxRecDepth 10000
attribute [local irreducible] EK EX ER EN EL ES EG an aR aU
variable {W:World} {F:SL} {X:Cx} {k:List KI} {σ:Env} {p sp:Option Addr} {n m:Nat} {ws:List Nat} {s:bM}
def qD (l:List (Nat×Nat)):List Int:=zb ((fC l).map fun(i:Nat)=>(i:Int))
theorem Fa (l:List (Nat×Nat)):(qD l).length=(fC l).length:=by simp[qD,L4]
theorem yQ (l:List Nat)(k:IntKind):ba k l=aJ k (l.map fun(i:Nat)=>(i:Int)):=by simp[ba,aJ]
theorem Oi:Spec Tryz.prog 185 [.pointer none] W F (fun _:Unit=> .slice none 0 0) (fun _=>F):=by
 refine Spec.of Tryz.func185 rfl Tryz.ntmps185 rfl ?_
 refine aa ?_;intros
 exact ae (aj rfl rfl () rfl (U.sat U.last))
theorem Oj (hp:s.parts.length≤1000)(hm:∀x∈s.parts,x.1<1000000∧x.2<18446744073709551616):Spec Tryz.prog 185 [.pointer sp] W (bc sp s*F) (fun g:az=> .slice g.1 (qD s.parts).length g.2) (fun g=>ad 3 1 g.1 (qD s.parts).length g.2 (aJ .i64 (qD s.parts))*(bc sp s*F)):=by
 refine Spec.of Tryz.func185 rfl Tryz.ntmps185 rfl ?_
 refine bc.open fun q=> ?_
 simp only[gB,fT]
 refine aa ?_;intros
 refine fy (γ:=Nat×az) (fun g=>g.1≤s.parts.length) (fun g=>[(3,.slice g.2.1 (fC (s.parts.take g.1)).length g.2.2),(12,.slice q.2.1.1 s.parts.length q.2.1.2),(13,.int .i64 (s.parts.length:Int)),(14,.int .i64 (g.1:Int))])
  (fun g=>ad 3 1 g.2.1 (fC (s.parts.take g.1)).length g.2.2 (ba .i64 (fC (s.parts.take g.1)))*gB sp s q F) (fun g=>s.parts.length-g.1) (0,(none,0)) (Nat.zero_le _) ⟨rfl,rfl,rfl,rfl,trivial⟩ (U.sat (U.none ?_)) ?_
 ·refine U.obj sp rfl ?_
  repeat(first|exact U.last|refine U.cons ?_ |refine U.assoc ?_)
 ·intro ⟨i,o⟩ hi;dsimp only at hi ⊢
  simp only[gB,fT]
  by_cases vR:i<s.parts.length
  ·have sZ:=Ko (s.parts.take i)
   rw[List.length_take,Nat.min_eq_left hi]at sZ
   have AW:s.parts.getD i (0,0)∈s.parts:=by
    rw[List.getD_eq_getElem?_getD,List.getElem?_eq_getElem vR]
    exact List.getElem_mem vR
   obtain⟨hx1,mZ⟩:=hm _ AW
   have rJ:=VD s.parts vR
   refine aa ?_;intros
   rename_i px
   generalize s.parts.getD i (0,0)=x at*
   generalize fC (s.parts.take i)=L at*
   refine fy (γ:=Nat×az) (fun g=>g.1≤32) (fun g=>[(3,.slice g.2.1 (L++gL x g.1).length g.2.2),(12,.slice q.2.1.1 s.parts.length q.2.1.2),(13,.int .i64 (s.parts.length:Int)),(14,.int .i64 (i:Int)),(5,.pointer px),(18,.int .i64 (g.1:Int))])
    (fun g=>ad 3 1 g.2.1 (L++gL x g.1).length g.2.2 (ba .i64 (L++gL x g.1))*(Obj px 339 [.int .i64 (x.1:Int),.int .u64 (x.2:Int)]*gB sp s q F)) (fun g=>32-g.1) (0,o) (Nat.zero_le _) ⟨by simp[gL];rfl,rfl,rfl,rfl,rfl,rfl,trivial⟩ (U.sat (U.row o.1 (by simp[gL]) (by simp[gL]) ?_)) ?_
   ·refine U.obj px rfl (U.obj sp rfl ?_)
    repeat(first|exact U.last|refine U.cons ?_ |refine U.assoc ?_)
   ·intro ⟨b,o2⟩ hb;dsimp only at hb ⊢
    simp only[gB,fT]
    by_cases oB:b<32
    ·have hk:=X3 (u:=x.2) (i:=b) mZ
     have hf:=W5 x b
     have pk:=Le x b
     have ig:((b:Nat):Int).toNat<64:=by omega
     have hlen:(L++gL x b).length≤1000000:=by simp;omega
     cases ht:x.2.testBit b with
     |true=>
      rw[ht,if_pos rfl]at hk
      rw[ht,if_pos rfl]at hf
      refine aa ?_;intros
      rename_i y o3
      have nL:L++gL x (b+1)=(L++gL x b)++[x.1*32+b]:=by rw[hf];simp
      refine cJ (b+1,o3) (by dsimp only;omega) (by dsimp only;omega) ⟨?_,rfl,rfl,rfl,rfl,rfl,trivial⟩ (U.sat ?_)
      ·show _=some (Value.slice o3.1 (L++gL x (b+1)).length o3.2)
       rw[nL,la];rfl
      ·show U _ (ad _ 1 o3.1 (L++gL x (b+1)).length o3.2 (ba _ (L++gL x (b+1)))*_)
       rw[nL]
       refine U.row o3.1 (by rw[la]) (by simp[ba]) (U.refl _)
     |false=>
      rw[ht,if_neg (by decide)]at hk
      rw[ht,if_neg (by decide),List.append_nil]at hf
      refine aa ?_;intros
      refine cJ (b+1,o2) (by dsimp only;omega) (by dsimp only;omega) ⟨?_,rfl,rfl,rfl,rfl,rfl,trivial⟩ (U.sat ?_)
      ·show _=some (Value.slice o2.1 (L++gL x (b+1)).length o2.2)
       rw[hf];rfl
      ·show U _ (ad _ 1 o2.1 (L++gL x (b+1)).length o2.2 (ba _ (L++gL x (b+1)))*_)
       rw[hf]
       exact U.refl _
    ·have AF:b=32:=by omega
     refine aa ?_;intros
     refine cJ (i+1,o2) (by dsimp only;omega) (by dsimp only;omega) ⟨?_,rfl,rfl,rfl,trivial⟩ (U.sat ?_)
     ·show _=some (Value.slice o2.1 (fC (s.parts.take (i+1))).length o2.2)
      rw[rJ,←AF];rfl
     ·dsimp only
      rw[rJ,←AF]
      refine U.row o2.1 rfl rfl (U.trans U.drop ?_)
      exact U.refl _
  ·have D2:i=s.parts.length:=by omega
   refine aa ?_;intros
   rw[D2,List.take_length,yQ]
   refine af rfl (PU o.1 (fC s.parts).length o.2 _ (by simp) (by have:=Ko s.parts;omega)) ?_
   intro _
   refine aa ?_;intros
   refine ae (aj rfl rfl o (by rw[Fa]) (U.sat (U.row o.1 (by rw[Fa]) rfl (U.trans ?_ (bc.shut (q:=q))))))
   exact U.refl _
end
section
open Go.RowKit
set_option maxRecDepth 10000
attribute [local irreducible] EK EX ER EN EL ES EG an aR aU
variable {W:World} {F:SL} {X:Cx} {k:List KI} {σ:Env} {p sp:Option Addr} {n m:Nat} {ws:List Nat} {s:bM}
theorem CL (h1:1≤n)(h2:n≤1024):Spec Tryz.prog 50 [.int .i64 (n:Int)] W F (fun p:Option Addr=> .tuple #[.pointer p,.int .i64 0]) (fun p=>bC p n (eM n)*F):=by
 refine Spec.of Tryz.func50 rfl Tryz.ntmps50 rfl ?_
 have e1:((n:Int)+32-1)/32=(((n+31)/32:Nat):Int):=by omega
 refine aa ?_;intros
 rw[e1]
 refine af rfl (zy ((n+31)/32) (by omega) (by omega)) ?_
 intro c
 by_cases hr:n%32=0
 ·have A4:(n:Int)%32=0:=by omega
  refine aa ?_;intros
  rename_i g
  refine ae (fz rfl rfl rfl g rfl (U.sat (U.trans ?_ (bC.shut (c:=c)))))
  unfold eM
  rw[if_pos hr]
  repeat(first|exact U.last|refine U.cons ?_ |refine U.assoc ?_)
 ·have A4:¬(n:Int)%32=0:=by omega
  have e2:IntKind.u64.wrap (1*2^((n:Int)%32).toNat)=((2^(n%32):Nat):Int):=by
   rw[show((n:Int)%32).toNat=n%32 by omega,Int.one_mul]
   exact Gj (Nat.mod_lt _ (by decide))
  have e3:2^(n%32)<4294967296:=yX (Nat.mod_lt _ (by decide))
  have e4:1≤2^(n%32):=Nat.one_le_two_pow
  have e5:=u64_andNot_nat 4294967295 (2^(n%32)-1) (by decide) (by omega)
  have e6:((2^(n%32):Nat):Int)-1=((2^(n%32)-1:Nat):Int):=by omega
  have e7:IntKind.i64.wrap ((((n+31)/32:Nat):Int)-1)=(((n+31)/32-1:Nat):Int):=by
   rw[IntKind.wrap_i64];omega
  have e8:4294967295&&& (18446744073709551615-(2^(n%32)-1))<18446744073709551616:=Nat.lt_of_le_of_lt Nat.and_le_left (by decide)
  refine aa ?_;intros
  refine kM 8 rfl (by kernel_rfl) rfl rfl ?_
  repeat(refine cD ?_)
  refine ob rfl (zO c _) ?_
  repeat(refine cD ?_)
  rw[List.length_replicate,e2,e6]
  rw[show(4294967295:Int)=((4294967295:Nat):Int)from rfl,e5,e7]
  refine af rfl (zP c _ ((n+31)/32-1) _ (by rw[List.length_replicate];omega) (by rw[List.length_replicate];omega)) ?_
  intro _
  refine aa ?_;intros
  rename_i g
  refine ae (fz rfl rfl rfl g rfl (U.sat (U.trans ?_ (bC.shut (c:=c)))))
  unfold eM
  rw[if_neg hr]
  repeat(first|exact U.last|refine U.cons ?_ |refine U.assoc ?_)
end
section
open Go.RowKit
set_option maxRecDepth 10000
variable {W:World} {F:SL} {X:Cx} {k:List KI} {σ:Env} {p sp:Option Addr} {n m:Nat} {ws:List Nat} {s:bM}
section
variable {H:SL} {ops l:List Oper}
theorem XH {f:FuncId}[ak X.P f]{x:Operand}{args:Array Operand}{ats:Array TypeId}{vs us:List Value}{d:Option Nat}{ty:TypeId}{pos:String}{aft:Array Edge}{a:Act}{w:World}(ha:Fits X.N a σ)(hx:ev σ x=some (.func (.func f) #[] us.toArray))(iH:bW σ args.toList=some vs):
  (execOp a.eval ⟨d,.call {callee:= .value x,args:=args,argTypes:=ats},ty,pos,aft,none⟩).run X.P w= .ok (.enter f (vs++us).toArray) w:=by
 have e1:args.map a.eval=vs.toArray:=by
  have:=ha.xL iH
  rw[←this,←List.map_toArray,Array.toArray_toList]
 simp only[execOp,resolve,e1,ha.eval hx,Deferred.ofValue,Sem.run_bind,Sem.run_pure,Result.andThen_ok,invoke,Array.empty_append,←List.append_toArray]
 exact ak.runs _ _
theorem NG {α:Type}{r:α→Value}{H':α→SL}{f:FuncId}[ak X.P f]{x:Operand}{args:Array Operand}{ats:Array TypeId}{vs us:List Value}{d:Nat}{ty:TypeId}{pos:String}{aft:Array Edge}
  (hx:ev σ x=some (.func (.func f) #[] us.toArray)) (iH:bW σ args.toList=some vs) (hc:Spec X.P f (vs++us) X.W H r H') (h:∀x,EL X k ops l ((d,r x)::σ) (H' x)) (hd:Nat.blt d X.N=true:=by rfl):
  EL X k ops (⟨some d,.call {callee:= .value x,args:=args,argTypes:=ats},ty,pos,aft,none⟩::l) σ H:=by
 intro a w ha hs
 refine wpList_plain rfl fun K hK=> ?_
 unfold Oper.wp
 rw[XH ha hx iH,Oper.upon_enter]
 refine(hc w hs).mono ?_
 rintro e w' ⟨x,rfl,fH⟩
 exact hK _ _ (h x _ _ (ha.put hd _) fH)
end
attribute [local irreducible] EK EX ER EN EL ES EG an aR aU
theorem M0 (pz:Option Addr)(x:Nat×Nat)(z:Nat)(hz:z<1000000):Spec Tryz.prog 246 [.agg #[.int .i64 (x.1:Int),.int .u64 (x.2:Int)],.pointer pz] W (Obj pz 3 [.int .i64 (z:Int)]*F) (fun _:Unit=> .bool (decide (x.1=z/32))) (fun _=>Obj pz 3 [.int .i64 (z:Int)]*F):=by
 refine Spec.of Tryz.func246 rfl Tryz.ntmps246 rfl ?_
 refine aa ?_;intros
 refine ae (aj rfl rfl () ?_ (U.sat U.drop))
 show Value.bool _=Value.bool _
 congr 1
 exact decide_eq_decide.2 (by omega)
theorem N5 (q pz:Option Addr)(n c:Nat)(l:List (Nat×Nat))(z:Nat)(hl:l.length=n)(hn:n≤1000000)(hz:z<1000000):
  Spec Tryz.prog 245 [.slice q n c,.func (.func 246) #[] #[.pointer pz]] W
   (ad 339 2 q n c (gZ l)*(Obj pz 3 [.int .i64 (z:Int)]*F)) (fun _:Unit=> .int .i64 (E2 (partAt l (z/32))))
   (fun _=>ad 339 2 q n c (gZ l)*(Obj pz 3 [.int .i64 (z:Int)]*F)):=by
 subst hl
 refine Spec.of Tryz.func245 rfl Tryz.ntmps245 rfl ?_
 refine aa ?_;intros
 refine fy (γ:=Nat) (fun i=>i≤l.length∧∀j,j<i→(l.getD j (0,0)).1≠z/32) (fun i=>[(0,.slice q l.length c),(1,.func (.func 246) #[] #[.pointer pz]),(7,.int .i64 (l.length:Int)),(8,.int .i64 (i:Int))])
  (fun _=>ad 339 2 q l.length c (gZ l)*(Obj pz 3 [.int .i64 (z:Int)]*F)) (fun i=>l.length-i) 0 ⟨Nat.zero_le _,fun j hj=>by omega⟩ ⟨rfl,rfl,rfl,rfl,trivial⟩ (U.sat (U.refl _)) ?_
 intro i ⟨hi,nP⟩
 by_cases vR:i<l.length
 ·refine aa ?_;intros
  refine NG rfl rfl (Spec.aL pz (M0 pz (l.getD i (0,0)) z hz)) ?_
  intro _
  by_cases he:(l.getD i (0,0)).1=z/32
  ·rw[decide_eq_true he]
   refine aa ?_;intros
   refine ae (aj rfl rfl () ?_ (U.sat ?_))
   ·rw[W4 nP vR he];rfl
   ·repeat(first|exact U.last|refine U.cons ?_ |refine U.assoc ?_)
  ·rw[decide_eq_false he]
   refine aa ?_;intros
   refine cJ (i+1) ⟨by omega,fun j hj=> ?_⟩ (by omega) ⟨rfl,rfl,rfl,rfl,trivial⟩ (U.sat ?_)
   ·rcases Nat.lt_succ_iff_lt_or_eq.1 hj with h|rfl
    ·exact nP j h
    ·exact he
   ·repeat(first|exact U.last|refine U.cons ?_ |refine U.assoc ?_)
 ·refine aa ?_;intros
  refine ae (aj rfl rfl () ?_ (U.sat (U.refl _)))
  rw[W3 fun j hj=>nP j (by omega)];rfl
instance kR.W1 (l:List (Nat×Nat))(i:Nat)(z:Int):kR (gZ l) i 2 1 [.int .u64 z] ((gZ l).set (i*2+1) (.int .u64 z)) (i<l.length):=⟨fun h=>by
 have hl:=W6 l
 refine⟨by simp;omega,?_⟩
 rw[List.set_eq_take_append_cons_drop,if_pos (by omega)]
 simp⟩
theorem Lh (m:Nat):∀(l:List (Nat×Nat)) (i:Nat),i<l.length→(gZ l).set (i*2+1) (.int .u64 (m:Int))=gZ (l.set i ((l.getD i (0,0)).1,m))
 |[],i,h=>by simp at h
 |x::l,0,_=>by simp[gZ,nS]
 |x::l,i+1,h=>by
  have ih:=Lh m l i (by simpa using h)
  have e:gZ (x::l)=nS x++gZ l:=by simp[gZ]
  rw[e,show(i+1)*2+1=(i*2+1)+(nS x).length by simp[nS];omega,List.set_append_right _ _ (by omega),Nat.add_sub_cancel,ih]
  simp[gZ]
abbrev zu (g:Option Addr)(ps:List (Nat×Nat))(q:az)(F:SL):SL:=Obj g 322 [.int .i64 2,.int .i64 0,.int .i64 0,.int .i64 0,.bool false,.int .u64 0,.slice none 0 0,.slice q.1 ps.length q.2,.slice none 0 0,.bool false,.bool false]*(ad 339 2 q.1 ps.length q.2 (gZ ps)*F)
theorem M1 (r:Option Addr)(nn cc:Nat)(l:List Int)(hl:nn≤l.length)(mX:nn≤1000)(hn:n≤1024):
  Spec Tryz.prog 223 [.pointer p,.slice r nn cc] W (bC p n ws*(ad 3 1 r l.length cc (aJ .i64 l)*F)) (fun g:Option Addr=> .pointer g)
   (fun g=>bc g (kU n (l.take nn))*(bC p n ws*(ad 3 1 r l.length cc (aJ .i64 l)*F))):=by
 refine Spec.of Tryz.func223 rfl Tryz.ntmps223 rfl ?_
 refine bC.open fun c=> ?_
 simp only[ki]
 refine aa ?_;intros
 rename_i g
 refine fy (γ:=Nat×az) (fun y=>y.1≤nn) (fun y=>[(0,.pointer p),(5,.pointer g),(14,.slice r nn cc),(15,.int .i64 (nn:Int)),(16,.int .i64 (y.1:Int))])
  (fun y=>zu g (lX n (l.take y.1)) y.2 (ad 3 1 r l.length cc (aJ .i64 l)*ki p n ws c F)) (fun y=>nn-y.1) (0,(none,0)) (Nat.zero_le _) ⟨rfl,rfl,rfl,rfl,rfl,trivial⟩ (U.sat ?_) ?_
 ·refine U.obj g rfl (U.none (U.row r rfl rfl ?_))
  repeat(first|exact U.last|refine U.cons ?_ |refine U.assoc ?_)
 intro ⟨i,q⟩ hi;dsimp only at hi ⊢
 simp only[zu,fT,ki]
 by_cases vR:i<nn
 ·have A2:=Qo n (l.take i) (l.getD i 0)
  have TW:i<l.length:=by omega
  rw[tv TW]at A2
  have mY:=HK n (l.take i)
  rw[List.length_take,Nat.min_eq_left (by omega)]at mY
  have s5:=C6 (n:=n) (m:=32) (by omega) (l.take i) [] (by simp)
  rw[show List.foldl (km n) [] (l.take i)=lX n (l.take i)from rfl]at s5
  generalize lX n (l.take i)=ps at*
  refine aa ?_;intros
  rename_i pz
  generalize l.getD i 0=z at*
  by_cases hz:0≤z∧z<n
  ·have rL:km n ps z=addPart ps z.toNat:=if_pos hz
   have ET:¬z<0:=by omega
   have rK:¬z≥n:=by omega
   have hz3:¬(n:Int)≤z:=by omega
   refine ay 99 (Obj pz 3 [.int .i64 z]*(Obj p 167 [.pointer c,.int .i64 (n:Int)]*1)) rfl rfl rfl ?_
   refine ah ?_
   obtain⟨z,rfl⟩:=Int.eq_ofNat_of_zero_le hz.1
   have hzz:z<1024:=by omega
   have ei:IntKind.u64.wrap (1*2^((z:Int)%32).toNat)=((2^(z%32):Nat):Int):=by
    rw[show((z:Int)%32).toNat=z%32 by omega,Int.one_mul]
    exact Gj (Nat.mod_lt _ (by decide))
   refine aa ?_;intros
   rw[ei]
   refine af rfl (Spec.eZ q.1 pz (N5 q.1 pz ps.length q.2 ps z rfl (by omega) (by omega))) ?_
   intro _
   unfold addPart at rL
   cases Ep:partAt ps (z/32)with
   |none=>
    rw[show((z:Int).toNat)=z from rfl,Ep]at rL
    dsimp only at rL
    simp only[E2]
    refine aa ?_;intros
    refine ay 13 (Obj pz 3 [.int .i64 (z:Int)]*(Obj g 322 [.int .i64 2,.int .i64 0,.int .i64 0,.int .i64 0,.bool false,.int .u64 0,.slice none 0 0,.slice q.1 ps.length q.2,.slice none 0 0,.bool false,.bool false]*1)) rfl rfl rfl ?_
    refine bD ?_;intros
    refine aa ?_;intros
    rename_i y o
    refine cJ (i+1,o) (by dsimp only;omega) (by dsimp only;omega) ⟨rfl,rfl,rfl,rfl,rfl,trivial⟩ (U.sat ?_)
    dsimp only
    rw[A2,rL]
    rw[la,←W7 ps (z/32,2^(z%32))]
    refine U.obj g rfl (U.row o.1 rfl rfl (U.trans U.drop (U.refl _)))
   |some j=>
    rw[show((z:Int).toNat)=z from rfl,Ep]at rL
    dsimp only at rL
    have hj:=Fx Ep
    haveI:Pos ps.length:=⟨by omega⟩
    simp only[E2]
    refine aa ?_;intros
    have hv:bits .or .u64 ((ps.getD j (0,0)).2:Int) ((2^(z%32):Nat):Int)=(((ps.getD j (0,0)).2|||2^(z%32):Nat):Int):=by
     have h1:=Fz z
     have h2:=s5 (ps.getD j (0,0)) (by rw[List.getD_eq_getElem?_getD,List.getElem?_eq_getElem hj];exact List.getElem_mem hj)
     exact u64_or_nat _ _ (by omega) (by omega)
    rw[hv,Lh _ _ _ hj]
    refine cJ (i+1,q) (by dsimp only;omega) (by dsimp only;omega) ⟨rfl,rfl,rfl,rfl,rfl,trivial⟩ (U.sat ?_)
    dsimp only
    rw[A2,rL]
    rw[List.length_set]
    refine U.obj g rfl (U.row q.1 rfl rfl (U.trans U.drop (U.refl _)))
  ·have rL:km n ps z=ps:=if_neg hz
   refine ay 99 (Obj pz 3 [.int .i64 z]*(Obj p 167 [.pointer c,.int .i64 (n:Int)]*1)) rfl rfl rfl ?_
   have rC:∀ {H:SL} (_:U H (zu g ps q (ad 3 1 r l.length cc (aJ .i64 l)*ki p n ws c F))),U H (zu g (lX n (l.take (i+1))) q (ad 3 1 r l.length cc (aJ .i64 l)*ki p n ws c F)):=fun h=>by
    rw[A2,rL];exact h
   by_cases ET:z<0
   ·refine ah ?_
    refine aa ?_;intros
    refine cJ (i+1,q) (by dsimp only;omega) (by dsimp only;omega) ⟨rfl,rfl,rfl,rfl,rfl,trivial⟩ (U.sat (rC (U.trans U.drop ?_)))
    repeat(first|exact U.last|refine U.cons ?_ |refine U.assoc ?_)
   ·have rK:(n:Int)≤z:=by omega
    refine ah ?_
    refine aa ?_;intros
    refine cJ (i+1,q) (by dsimp only;omega) (by dsimp only;omega) ⟨rfl,rfl,rfl,rfl,rfl,trivial⟩ (U.sat (rC (U.trans U.drop ?_)))
    repeat(first|exact U.last|refine U.cons ?_ |refine U.assoc ?_)
 ·have D2:i=nn:=by omega
  refine aa ?_;intros
  rw[D2]
  refine ae (aj rfl rfl g rfl (U.sat (U.trans ?_ (bc.shut (q:=((none,0),q,(none,0)))))))
  refine U.obj g rfl (U.none (U.row q.1 rfl rfl (U.none (U.trans ?_ (bC.shut (c:=c))))))
  refine U.at p rfl (U.at c rfl ?_)
  repeat(first|exact U.last|refine U.cons ?_ |refine U.assoc ?_)
end
section
open Go.RowKit
variable {m n k:Nat} {ws:List Nat} {s:bM}
theorem E5 {i u x:Nat}(hi:i<ws.length):kZ (ws.set i u) x=if x/32=i then !u.testBit (x%32)else kZ ws x:=by
 unfold kZ
 rw[List.getD_eq_getElem?_getD,List.getElem?_set]
 by_cases h:x/32=i
 ·subst h
  simp[hi]
 ·rw[if_neg (fun e=>h e.symm),if_neg h,←List.getD_eq_getElem?_getD]
theorem H7 {u low j:Nat}(hl:low<4294967296)(hj:j<32):(mL u low).testBit j=low.testBit j:=by
 have h1:=Nat.testBit_mod_two_pow (mL u low) 32 j
 rw[show(2:Nat)^32=4294967296 from rfl,QU hl]at h1
 rw[h1];simp[hj]
theorem Kx {u j:Nat}(hj:j<32):(u%4294967296).testBit j=u.testBit j:=by
 have h1:=Nat.testBit_mod_two_pow u 32 j
 rw[show(2:Nat)^32=4294967296 from rfl]at h1
 rw[h1];simp[hj]
theorem KR {mask j:Nat}(hm:mask<4294967296)(hj:j<32):(18446744073709551615-mask).testBit j= !mask.testBit j:=by
 have h2:=Nat.testBit_two_pow_sub_succ (n:=64) (x:=mask) (by omega) j
 rw[show(2:Nat)^64-(mask+1)=18446744073709551615-mask by omega]at h2
 rw[h2]
 have:j<64:=by omega
 simp[this]
theorem VZ {x:Nat×Nat}{c y:Nat}:y∈gL x c↔∃i,i<c∧x.2.testBit i=true∧y=x.1*32+i:=by
 unfold gL
 simp only[List.mem_map,List.mem_filter,List.mem_range]
 constructor
 ·rintro ⟨i,⟨h1,h2⟩,rfl⟩;exact⟨i,h1,h2,rfl⟩
 ·rintro ⟨i,h1,h2,rfl⟩;exact⟨i,⟨h1,h2⟩,rfl⟩
theorem V0 {x:Nat×Nat}{y:Nat}:y∈gL x 32↔y/32=x.1∧x.2.testBit (y%32)=true:=by
 rw[VZ]
 constructor
 ·rintro ⟨i,h1,h2,rfl⟩
  rw[show(x.1*32+i)%32=i by omega]
  exact⟨by omega,h2⟩
 ·rintro ⟨h1,h2⟩
  exact⟨y%32,Nat.mod_lt _ (by decide),h2,by omega⟩
theorem oJ {l:List (Nat×Nat)}{y:Nat}:y∈fC l↔∃x∈l,y/32=x.1∧x.2.testBit (y%32)=true:=by
 unfold fC
 rw[List.mem_flatMap]
 simp only[V0]
structure Ht (ws:List Nat)(s:bM)(kg:List Nat)(s':bM):Prop where
 kind:s'.kind=0
 parts:s'.parts=s.parts
 none:s'.done=false→s'.bK=[]
 free:∀g∈s'.bK,kZ ws g=true
 nodup:s'.bK.Nodup
 small:∀g∈s'.bK,g<ws.length*32
 after:∀x,kZ kg x=true↔kZ ws x=true∧x∉s'.bK
 len:kg.length=ws.length
theorem YA (hw:ic m ws)(hs:s.Ok m)(hk:s.kind=0)(hd:s.done=false)(hp:s.bK=[]):Ht ws s (bp ws s).1 (bp ws s).2:=by
 obtain⟨t1,t2,t3,t4,t5,t6⟩:=hs.nq hk
 have hl:=hw.len
 have e:bp ws s=kf ws s:=by unfold bp;rw[if_neg (by simp[hd]),if_pos hk]
 rw[e]
 have uL:∀(s':bM),s'.kind=0→s'.parts=s.parts→s'.bK=[]→Ht ws s ws s':=fun s' h1 h2 h3=>
  ⟨h1,h2,fun _=>h3,by simp[h3],by simp[h3],by simp[h3],by simp[h3],rfl⟩
 unfold kf
 by_cases hr:s.read=true
 ·rw[if_pos hr]
  by_cases he:ws.getD s.word 0=s.seen
  ·rw[if_pos he]
   have Uk:(fD s.seen s.most).Nodup:=by
    have:zN (fD s.seen s.most):=List.Pairwise.take (IX _)
    exact this.imp (fun h=>Nat.ne_of_lt h)
   have s5:∀i∈fD s.seen s.most,i<32∧s.seen.testBit i=false:=fun i hi=>qE.1 (List.mem_of_mem_take hi)
   have eh:∀i,i<32→kZ ws (s.word*32+i)= !s.seen.testBit i:=fun i hi=>by
    unfold kZ
    rw[show(s.word*32+i)/32=s.word by omega,show(s.word*32+i)%32=i by omega,he]
   have yv:s.seen%4294967296|||ofBits (fD s.seen s.most)<4294967296:=yW (Nat.mod_lt _ (by decide)) (Lj _ _)
   refine⟨hk,rfl,fun h=>by simp at h,?_,?_,?_,?_,by simp⟩
   ·intro g hg
    obtain⟨i,hi,rfl⟩:=List.mem_map.1 hg
    rw[eh i (s5 i hi).1,(s5 i hi).2];rfl
   ·exact List.Pairwise.map _ (fun a b (h:a≠b)=>by omega) Uk
   ·intro g hg
    obtain⟨i,hi,rfl⟩:=List.mem_map.1 hg
    have:=(s5 i hi).1
    omega
   ·intro x
    dsimp only
    rw[E5 (by omega)]
    by_cases hx:x/32=s.word
    ·have mZ:x%32<32:=Nat.mod_lt _ (by decide)
     rw[if_pos hx,H7 yv mZ,Nat.testBit_or,Kx mZ,tB]
     have Bf:x=s.word*32+x%32:=by omega
     have h1:=eh (x%32) mZ
     rw[←Bf]at h1
     rw[h1]
     have h2:x∈(fD s.seen s.most).map (s.word*32+ ·)↔x%32∈fD s.seen s.most:=by
      rw[List.mem_map]
      constructor
      ·rintro ⟨i,hi,rfl⟩
       have:=(s5 i hi).1
       rwa[show(s.word*32+i)%32=i by omega]
      ·exact fun h=>⟨_,h,Bf.symm⟩
     rw[h2]
     simp
    ·rw[if_neg hx]
     constructor
     ·refine fun h=>⟨h,fun hm=>hx ?_⟩
      obtain⟨i,hi,rfl⟩:=List.mem_map.1 hm
      have:=(s5 i hi).1
      omega
     ·exact fun h=>h.1
  ·rw[if_neg he]
   exact uL _ hk rfl hp
 ·rw[if_neg hr]
  split
  ·exact uL _ hk rfl hp
  ·exact uL _ hk rfl hp
structure vm (l:List (Nat×Nat)):Prop where
 nd:(l.map (·.1)).Nodup
 ne:∀x∈l,x.2≠0
theorem Ld {ps:List (Nat×Nat)}{c i:Nat}(h:partAt ps c=some i):(ps.getD i (0,0)).1=c:=by
 unfold partAt at h
 obtain⟨h',h2,_⟩:=List.findIdx?_eq_some_iff_getElem.1 h
 rw[List.getD_eq_getElem?_getD,List.getElem?_eq_getElem h']
 simpa using h2
theorem W2 {ps:List (Nat×Nat)}{c:Nat}(h:partAt ps c=none):∀x∈ps,x.1≠c:=by
 unfold partAt at h
 rw[List.findIdx?_eq_none_iff]at h
 intro x hx
 simpa using h x hx
theorem WV {a b:Nat}(h:b≠0):a|||b≠0:=fun e=>h (Nat.or_eq_zero_iff.1 e).2
theorem Qe {ps:List (Nat×Nat)}(h:vm ps)(z:Nat):vm (addPart ps z)∧∀y∈fC (addPart ps z),y∈fC ps∨y=z:=by
 have JS:(2:Nat)^(z%32)≠0:=Nat.ne_of_gt (Nat.two_pow_pos _)
 have Jf:∀y,y/32=z/32→((2:Nat)^(z%32)).testBit (y%32)=true→y=z:=fun y h1 h2=>by
  rw[Nat.testBit_two_pow]at h2
  have:=of_decide_eq_true h2
  omega
 unfold addPart
 split
 ·rename_i i hi
  have bY:=Fx hi
  have DW:=Ld hi
  have vV:ps.getD i (0,0)∈ps:=by
   rw[List.getD_eq_getElem?_getD,List.getElem?_eq_getElem bY];exact List.getElem_mem bY
  refine⟨⟨?_,fun x hx=> ?_⟩,fun y hy=> ?_⟩
  ·rw[List.map_set]
   have:(ps.map (·.1)).set i (ps.getD i (0,0)).1=ps.map (·.1):=by
    apply List.ext_getElem?
    intro j
    rw[List.getElem?_set]
    split
    ·rename_i e;subst e
     simp[List.getElem?_eq_getElem bY,bY]
    ·rfl
   rw[this];exact h.nd
  ·rcases List.mem_or_eq_of_mem_set hx with hx|rfl
   ·exact h.ne x hx
   ·exact WV JS
  ·obtain⟨x,hx,h1,h2⟩:=oJ.1 hy
   rcases List.mem_or_eq_of_mem_set hx with hx|rfl
   ·exact .inl (oJ.2 ⟨x,hx,h1,h2⟩)
   ·dsimp only at h1 h2
    rw[Nat.testBit_or,Bool.or_eq_true]at h2
    rcases h2 with h2|h2
    ·exact .inl (oJ.2 ⟨_,vV,h1,h2⟩)
    ·exact .inr (Jf y (by rw[h1,DW]) h2)
 ·rename_i hi
  have nP:=W2 hi
  refine⟨⟨?_,fun x hx=> ?_⟩,fun y hy=> ?_⟩
  ·rw[List.map_append,List.nodup_append]
   refine⟨h.nd,by simp,fun a ha b hb=> ?_⟩
   simp at hb
   subst hb
   obtain⟨x,hx,rfl⟩:=List.mem_map.1 ha
   exact nP x hx
  ·rcases List.mem_append.1 hx with hx|hx
   ·exact h.ne x hx
   ·simp at hx;subst hx;exact JS
  ·obtain⟨x,hx,h1,h2⟩:=oJ.1 hy
   rcases List.mem_append.1 hx with hx|hx
   ·exact .inl (oJ.2 ⟨x,hx,h1,h2⟩)
   ·simp at hx;subst hx;exact .inr (Jf y h1 h2)
theorem IU (n:Nat):∀(l:List Int) (ps:List (Nat×Nat)),vm ps→vm (l.foldl (km n) ps)∧∀y∈fC (l.foldl (km n) ps),y∈fC ps∨((y:Int)∈l∧y<n)
 |[],ps,h=>⟨h,fun y hy=> .inl hy⟩
 |z::l,ps,h=>by
  have h1:vm (km n ps z)∧∀y∈fC (km n ps z),y∈fC ps∨((y:Int)=z∧y<n):=by
   unfold km
   split
   ·rename_i hz
    obtain⟨a,b⟩:=Qe h z.toNat
    refine⟨a,fun y hy=>(b y hy).imp id fun e=> ?_⟩
    omega
   ·exact⟨h,fun y hy=> .inl hy⟩
  obtain⟨a,b⟩:=IU n l _ h1.1
  refine⟨a,fun y hy=> ?_⟩
  rcases b y hy with h2|⟨h2,h3⟩
  ·rcases h1.2 y h2 with h4|⟨h4,h5⟩
   ·exact .inl h4
   ·exact .inr ⟨by rw[h4];exact List.mem_cons_self,h5⟩
  ·exact .inr ⟨List.mem_cons_of_mem _ h2,h3⟩
theorem HL (n:Nat)(l:List Int):vm (lX n l)∧∀y∈fC (lX n l),(y:Int)∈l∧y<n:=by
 obtain⟨a,b⟩:=IU n l [] ⟨by simp,by simp⟩
 exact⟨a,fun y hy=>(b y hy).resolve_left (by simp[fC])⟩
end
section
open Go.RowKit
variable {m n k:Nat} {ws:List Nat} {s:bM}
def nc (l:List (Nat×Nat)):List Nat:=(qD l).map Int.toNat
theorem VY {l:List (Nat×Nat)}{z:Int}:z∈qD l↔∃y∈fC l,z=(y:Int):=by
 unfold qD zb
 rw[List.mem_mergeSort,List.mem_map]
 exact⟨fun⟨a,b,c⟩=>⟨a,b,c.symm⟩,fun⟨a,b,c⟩=>⟨a,b,c.symm⟩⟩
theorem VF (l:List (Nat×Nat)):(nc l).length=(qD l).length:=by simp[nc]
theorem VE (l:List (Nat×Nat))(k:IntKind):ba k (nc l)=aJ k (qD l):=by
 unfold ba aJ nc
 rw[List.map_map]
 apply List.map_congr_left
 intro z hz
 obtain⟨y,_,rfl⟩:=VY.1 hz
 simp
end
section
open Go.RowKit
variable {m n k w:Nat} {ws o:List Nat} {s:bM} {ss:List (Option bM)} {bs:List Bool}
theorem SQ {α:Type}(l:List α)(i x:Nat)(v d:α)(hi:i<l.length):(l.set i v).getD x d=if i=x then v else l.getD x d:=by
 simp only[List.getD_eq_getElem?_getD,List.getElem?_set]
 by_cases h:i=x
 ·subst h;simp[hi]
 ·simp[h]
end
section
open Go.ChangeShapes Go.WideShapes Go.ChangeAt Go.RowKit Go.Deep
section
variable {H:Type} {enc:TypeId×Value→H} {P:Program}
theorem Xf {f:Func}{s:ChangeSpec}{apart fresh handsOn again:Bool}{W W':World}{args:Array Value}{v:Value}{ds:List (DataW H)}{before:List MemPlace}(hs:s.vars=[])(hl:laidOutB P=true)
  (hr:∀t∈f.params.toList,P.readableRec t=true∧t<P.types.size)
  (hW:DataW.Whole enc P f.params.toList s.vars apart W args.toList ds [] before)
  (JW:∀(b:Nat) (sp:Nat→Bool) (hd:Bool),DataW.TrodAll enc P W' b sp hd f.resultTypes.toList (v.resultList f.resultTypes.size) (s.fn H (ds++[])).results [])
  (uL:(s.fn H (ds++[])).args=ds) (EC:(s.fn H (ds++[])).vars=[]) (hb:Below W.heap.size W W')
  (uH:∀(j:Nat) (t:TypeId) (r:Value),f.resultTypes[j]? =some t→(v.resultList f.resultTypes.size)[j]? =some r→Value.okWide P W' .any 0 t r):
  s.post enc P f apart fresh handsOn again W args v W':=by
 have bY:∀p∈before,p.block<W.heap.size:=hW.lt
 obtain⟨p,q,hA,hV,he,hz,hn⟩:=id hW
 rw[hs]at hV
 obtain⟨_,rfl⟩:=trodVars_none hV
 obtain rfl:before=p:=by rw[he];simp
 have stay:∀(sp:Nat→Bool) (ts:List TypeId) (vs:List Value) (xH:List (DataW H)) (ps:List MemPlace),(∀t∈ts,P.readableRec t=true∧t<P.types.size)→(∀x∈ps,x.block<W.heap.size)→(∀x∈ps,sp x.block=true)→
   DataW.TrodAll enc P W 0 (fun _=>true) true ts vs xH ps→DataW.TrodAll enc P W' 0 sp true ts vs xH ps:=by
  intro sp ts
  induction ts with
  |nil=>
   intro vs xH ps _ _ _ h
   obtain⟨rfl,rfl,rfl⟩:=trodAll_nil h
   exact trodAll_mk0
  |cons t ts ih=>
   intro vs xH ps h1 h2 h3 h
   obtain⟨v,vs,d,xH,a,b,rfl,rfl,rfl,hd,Uj⟩:=trodAll_cons h
   obtain⟨r1,r2⟩:=h1 t (by simp)
   refine trodAll_cons_mk (WideElems.Trod_stays hl r1 r2 hd (fun x hx=>hb.same (h2 x (by simp[hx]))) (fun x hx=>h3 x (by simp[hx]))) (ih _ _ _ (fun t ht=>h1 t (by simp[ht])) (fun x hx=>h2 x (by simp[hx])) (fun x hx=>h3 x (by simp[hx])) Uj)
 have iH:∀sp:Nat→Bool,(∀p∈before,sp p.block=true)→DataW.TrodAll enc P W' 0 sp true f.params.toList args.toList (s.fn H (ds++[])).args before:=fun sp qz=>by
  rw[uL]
  exact stay sp _ _ _ _ hr bY qz hA
 have hold:∀p∈before,(fun b=>decide (b<W.heap.size)) p.block=true:=fun p hp=>by simpa using bY p hp
 have J8:∀sp:Nat→Bool,DataW.TrodVars enc P W' sp s.vars (s.fn H (ds++[])).vars []:=fun sp=>by rw[hs,EC];exact rfl
 refine⟨ds,[],before,[],before,[],hW,JW _ _ _,iH _ hold,J8 _,hb.frame _,fun _=> ?_⟩
 refine⟨uH,_,_,([]++before)++[],⟨[]++before,[],trodAll_append (iH _ (fun _ _=>rfl)) (JW _ _ _),J8 _,rfl,?_,?_⟩,?_⟩
 ·intro b off hp
  have AY:MemPlace.cell b off∈before:=by simpa using hp
  rw[hb.frozen (p:=⟨b,off,none⟩) (bY _ AY)]
  exact hz b off (by rw[he];simpa using AY)
 ·intro ha
  have:=hn ha
  rw[he]at this
  simpa using this
 ·intro p hp _
  simpa using hp
end
section
variable {H:Type} {enc:TypeId×Value→H} {P:Program} {W:World} {base:Nat} {held:Bool}
theorem UR {t e:TypeId}{fuel:Nat}{v:Value}{x:DataW H×List MemPlace}(ht:P.underlying t=some (.slice e))(he:P.underlying e=some (.int .i64))(hc:P.cellsOf e=1)
  (h:DataW.trod enc P W base (fun _=>true) held fuel t [v]=some x):∃(p:Option Addr) (cap:Nat) (xs:List Int),v= .slice p xs.length cap∧Ro W p xs.length (aJ .i64 xs):=by
 rcases open_ints ht he hc h with ⟨h0,_⟩|⟨a,len,cap,zs,h0,_,hl,hm,hz,_,uv,J9⟩
 ·simp only[List.cons.injEq,and_true]at h0
  exact⟨none,0,[],h0,⟨fun i v hv=>by simp[aJ]at hv,fun h=>by simp at h⟩⟩
 ·simp only[List.cons.injEq,and_true]at h0
  simp only[if_true]at hz
  have hlen:(zs.take len).length=len:=by rw[List.length_take];omega
  refine⟨some a,cap,zs.take len,by rw[hlen];exact h0,⟨fun i v hv=> ?_,fun _=>by simp⟩⟩
  unfold aJ at hv
  rw[List.getElem?_map,List.getElem?_take]at hv
  split at hv
  ·rename_i hi
   have bY:i<zs.length:=by omega
   rw[List.getElem?_eq_getElem bY]at hv
   simp only[Option.map_some,Option.some.injEq]at hv
   subst hv
   have:=uv i bY
   rw[List.getD_eq_getElem?_getD,List.getElem?_eq_getElem bY]at this
   exact⟨a.add i,rfl,World.block_lt_of_cell? _ _ this,this⟩
  ·simp at hv
end
end
section
open Go.RowKit
set_option maxRecDepth 10000
attribute [local irreducible] EK EX ER EN EL ES EG an aR aU
variable {W:World} {F:SL} {X:Cx} {k:List KI} {σ:Env} {p sp:Option Addr} {n m:Nat} {ws o:List Nat} {s:bM} {ss:List (Option bM)} {bs:List Bool}
theorem Wf {x:Nat}(h1:1≤n):(x<n→kZ (eM n) x=true)∧(n≤x→x<(n+31)/32*32→kZ (eM n) x=false):=by
 have h0:∀i,(List.replicate ((n+31)/32) (0:Nat)).getD i 0=0:=fun i=>by
  rw[List.getD_eq_getElem?_getD,List.getElem?_replicate];split<;>rfl
 unfold eM
 split
 ·rename_i h
  refine⟨fun _=>by unfold kZ;rw[h0];simp,fun h2 h3=>by omega⟩
 ·rename_i h
  have mZ:x%32<32:=Nat.mod_lt _ (by decide)
  have hp:=yX (i:=n%32) (Nat.mod_lt _ (by decide))
  have JT:=Nat.one_le_two_pow (n:=n%32)
  rw[E5 (by simp;omega)]
  by_cases hx:x/32=(n+31)/32-1
  ·rw[if_pos hx,Nat.testBit_and,KR (by omega) mZ,show(4294967295:Nat)=2^32-1 from rfl,Nat.testBit_two_pow_sub_one,Nat.testBit_two_pow_sub_one]
   simp only[mZ,decide_true,Bool.true_and,Bool.not_not,decide_eq_true_eq,decide_eq_false_iff_not]
   omega
  ·rw[if_neg hx]
   refine⟨fun _=>by unfold kZ;rw[h0];simp,fun h2 h3=>by omega⟩
theorem Ol (hp:s.parts.length≤1000)(hm:∀x∈s.parts,x.1<1000000∧x.2<18446744073709551616):Spec Tryz.prog 185 [.pointer sp] W (bc sp s*F) (fun g:az=> .slice g.1 (nc s.parts).length g.2) (fun g=>ad 3 1 g.1 (nc s.parts).length g.2 (ba .i64 (nc s.parts))*(bc sp s*F)):=by
 rw[VE,VF]
 exact Oj hp hm
end
section
open Go.RowKit
set_option maxRecDepth 10000
attribute [local irreducible] EK EX ER EN EL ES EG an aR aU
variable {W:World} {F:SL} {X:Cx} {k:List KI} {σ:Env} {pp pc ps sp qo:Option Addr} {n m h:Nat} {ws l:List Nat} {s:bM}
abbrev jw (pc pp:Option Addr)(h:Nat)(l:List Nat)(qo:Option Addr)(q:az)(F:SL):SL:=Obj pc 183 [.pointer pp,.int .i64 (h:Int),.slice q.1 l.length q.2,.pointer qo]*(ad 3 1 q.1 l.length q.2 (ba .i64 l)*F)
def sk (pc pp:Option Addr)(h:Nat)(l:List Nat)(qo:Option Addr)(q:az):SL:=Obj pc 183 [.pointer pp,.int .i64 (h:Int),.slice q.1 l.length q.2,.pointer qo]*ad 3 1 q.1 l.length q.2 (ba .i64 l)
def aY (pc pp:Option Addr)(h:Nat)(l:List Nat)(qo:Option Addr):SL:=SL.ex (sk pc pp h l qo)
theorem sk.eq (pc pp:Option Addr)(h:Nat)(l:List Nat)(qo:Option Addr)(q:az)(F:SL):sk pc pp h l qo q*F=jw pc pp h l qo q F:=by
 unfold sk jw
 rw[SL.bP]
theorem aY.open (H:∀q,EK X k σ (jw pc pp h l qo q F)):EK X k σ (aY pc pp h l qo*F):=pR fun q=>by
 rw[sk.eq];exact H q
theorem aY.iK {ops o:List Oper}(H:∀q,EL X k ops o σ (jw pc pp h l qo q F)):EL X k ops o σ (aY pc pp h l qo*F):=Gz fun q=>by
 rw[sk.eq];exact H q
theorem aY.shut {q:az}:U (jw pc pp h l qo q F) (aY pc pp h l qo*F):=U.ex q (by rw[sk.eq];exact U.refl _)
instance (priority:=2000)(pc pp:Option Addr)(h:Nat)(l:List Nat)(qo:Option Addr)(F:SL):bZ (aY pc pp h l qo*F) pc (aY pc pp h l qo) F:=⟨rfl⟩
instance (pc pp:Option Addr)(h:Nat)(l:List Nat)(qo:Option Addr):lT (aY pc pp h l qo) pc:=⟨fun W w F H=>by
 obtain⟨q,H⟩:=H.jA
 rw[sk.eq]at H
 exact(Obj.root pc _ _).nn W w _ H⟩
abbrev db (ps:Option Addr)(kd:Nat)(q:Option Addr)(d:Bool):SL:=Obj ps 291 [.int .i64 (kd:Int),.pointer q,.bool d]
theorem Cl (h:Nat):Spec Tryz.prog 52 [.pointer pp,.int .i64 (h:Int)] W (bC pp n ws*F) (fun p:Option Addr=> .tuple #[.pointer p,.int .i64 0]) (fun p=>aY p pp h [] none*(bC pp n ws*F)):=by
 refine Spec.of Tryz.func52 rfl Tryz.ntmps52 rfl ?_
 refine aa ?_;intros
 rename_i g
 refine ae (fz rfl rfl rfl g rfl (U.sat (U.trans ?_ (aY.shut (q:=(none,0))))))
 exact U.obj g rfl (U.none (U.refl _))
def wF (l:List Nat):Value:= .tuple #[.int .i64 ((l.getD (l.length-1) 0:Nat):Int),.bool (decide (0<l.length))]
theorem Hv (hb:l.length≤100000):Spec Tryz.prog 125 [.pointer pc] W (aY pc pp h l qo*F) (fun _:Unit=>wF l) (fun _=>aY pc pp h l qo*F):=by
 refine Spec.of Tryz.func125 rfl Tryz.ntmps125 rfl ?_
 refine aY.open fun q=> ?_
 simp only[jw]
 by_cases hl:l.length=0
 ·refine aa ?_;intros
  refine ae (fz rfl rfl rfl () ?_ (U.sat (aY.shut (q:=q))))
  unfold wF
  rw[List.eq_nil_of_length_eq_zero hl];rfl
 ·haveI:Pos l.length:=⟨by omega⟩
  obtain⟨d,hd⟩:∃d,l.length=d+1:=⟨l.length-1,by omega⟩
  refine aa ?_;intros
  refine jf rfl (by kernel_rfl) ?_
  repeat(refine cD ?_)
  rw[show((l.length:Int)-1)=(d:Int)by omega]
  repeat(refine cD ?_)
  refine aa ?_;intros
  refine ae (fz rfl rfl rfl () ?_ (U.sat (aY.shut (q:=q))))
  unfold wF
  rw[hd,decide_eq_true (by omega)]
  rfl
theorem Of:Spec Tryz.prog 141 [.pointer pc] W (aY pc pp h l none*F) (fun _:Unit=> .slice none 0 0) (fun _=>aY pc pp h l none*F):=by
 refine Spec.of Tryz.func141 rfl Tryz.ntmps141 rfl ?_
 refine aY.open fun q=> ?_
 simp only[jw]
 refine aa ?_;intros
 refine af rfl Oi ?_
 intro _
 refine aa ?_;intros
 exact ae (aj rfl rfl () rfl (U.sat (aY.shut (q:=q))))
theorem Og (hp:s.parts.length≤1000)(hm:∀x∈s.parts,x.1<1000000∧x.2<18446744073709551616):Spec Tryz.prog 141 [.pointer pc] W (aY pc pp h l qo*(bc qo s*F)) (fun g:az=> .slice g.1 (nc s.parts).length g.2)
  (fun g=>ad 3 1 g.1 (nc s.parts).length g.2 (ba .i64 (nc s.parts))*(aY pc pp h l qo*(bc qo s*F))):=by
 refine Spec.of Tryz.func141 rfl Tryz.ntmps141 rfl ?_
 refine aY.open fun q=> ?_
 simp only[jw]
 refine aa ?_;intros
 refine af rfl (Spec.aL qo (Ol hp hm)) ?_
 intro g
 refine aa ?_;intros
 refine ae (aj rfl rfl g rfl (U.sat (U.row g.1 rfl rfl (U.trans ?_ (aY.shut (q:=q))))))
 exact ab
end
section
open Go.RowKit
set_option maxRecDepth 10000
attribute [local irreducible] EK EX ER EN EL ES EG an aR aU
variable {W:World} {F:SL} {X:Cx} {k:List KI} {σ:Env} {pp pc ps sp qo:Option Addr} {n m h:Nat} {ws l:List Nat} {s:bM}
theorem PG (hs:l.length≤100000):Spec Tryz.prog 173 [.pointer pc] W (aY pc pp h l qo*F) (fun _:Unit=>wF l) (fun _=>aY pc pp h (l.take (l.length-1)) qo*F):=by
 refine Spec.of Tryz.func173 rfl Tryz.ntmps173 rfl ?_
 refine aa ?_;intros
 refine af rfl (Hv hs) ?_
 intro _
 unfold wF
 by_cases hl:0<l.length
 ·rw[decide_eq_true hl]
  obtain⟨d,hd⟩:∃d,l.length=d+1:=⟨l.length-1,by omega⟩
  refine aa ?_;intros
  refine aY.open fun q=> ?_
  simp only[jw]
  refine kM 14 rfl (by kernel_rfl) rfl rfl ?_
  repeat(refine cD ?_)
  rw[show((l.length:Int)-1)=(d:Int)by omega]
  repeat(refine cD ?_)
  refine aa ?_;intros
  refine ae (fz rfl rfl rfl () rfl (U.sat (U.trans ?_ (aY.shut (q:=q)))))
  have e1:(l.take (l.length-1)).length=d:=by rw[List.length_take];omega
  refine U.obj pc (by rw[e1]) (U.XC q.1 d (by omega) (U.row q.1 (by rw[e1]) ?_ (U.refl _)))
  rw[hd];simp[ba]
 ·rw[decide_eq_false hl]
  refine aa ?_;intros
  refine ae (fz rfl rfl rfl () rfl (U.sat ?_))
  rw[List.take_of_length_le (by omega)]
  exact U.refl _
theorem NY (hl:0<l.length):Spec Tryz.prog 162 [.pointer pc] W (aY pc pp h l qo*F) (fun g:Option Addr=> .pointer g) (fun g=>db g 3 none false*(aY pc pp h l qo*F)):=by
 refine Spec.of Tryz.func162 rfl Tryz.ntmps162 rfl ?_
 refine aY.open fun q=> ?_
 simp only[jw]
 refine aa ?_;intros
 rename_i g
 refine ae (aj rfl rfl g rfl (U.sat (U.obj g rfl (U.trans ?_ (aY.shut (q:=q))))))
 exact ab
theorem NZ (hw:ic m ws):Spec Tryz.prog 162 [.pointer pc] W (aY pc pp h [] none*(bC pp n ws*F)) (fun g:Option Addr×Option Addr=> .pointer g.1)
  (fun g=>db g.1 0 g.2 false*(bc g.2 (ke (h:Int) 8 m)*(aY pc pp h [] none*(bC pp n ws*F)))):=by
 refine Spec.of Tryz.func162 rfl Tryz.ntmps162 rfl ?_
 refine aY.open fun q=> ?_
 simp only[jw,List.length_nil]
 refine aa ?_;intros
 rw[show(!decide ((none:Option Addr)=none))=false from rfl]
 refine aa ?_;intros
 refine kM 8 rfl (by kernel_rfl) rfl rfl ?_
 repeat(refine cD ?_)
 refine af rfl (Spec.aL pp (PY (h:Int) 8 hw)) ?_
 intro g
 refine aa ?_;intros
 rename_i x
 refine ae (aj rfl rfl (x,g) rfl (U.sat (U.obj x rfl (U.at g rfl (U.trans ?_ (aY.shut (q:=q)))))))
 refine U.obj pc rfl (U.row q.1 rfl rfl ?_)
 exact ab
theorem VC (w:Nat)(hw:w≤l.length)(hl:l.length≤1000)(hn:n≤1024):Spec Tryz.prog 177 [.pointer pc,.int .i64 (w:Int)] W (aY pc pp h l none*(bC pp n ws*F)) (fun g:Option Addr×Option Addr=> .pointer g.1)
  (fun g=>db g.1 2 g.2 false*(bc g.2 (kU n ((l.take w).map fun(x:Nat)=>(x:Int)))*(aY pc pp h (l.drop w) g.2*(bC pp n ws*F)))):=by
 refine Spec.of Tryz.func177 rfl Tryz.ntmps177 rfl ?_
 refine aY.open fun q=> ?_
 simp only[jw]
 refine aa ?_;intros
 have uE:(l.map fun(x:Nat)=>(x:Int)).length=l.length:=by simp
 rw[yQ]
 refine ay 14 (Obj pc 183 [.pointer pp,.int .i64 (h:Int),.slice q.1 l.length q.2,.pointer none]*(ad 3 1 q.1 l.length q.2 (aJ .i64 (l.map fun(x:Nat)=>(x:Int)))*1)) rfl rfl rfl ?_
 refine ah ?_
 refine aw rfl rfl rfl rfl rfl (Spec.pre (M1 q.1 w q.2 (l.map fun(x:Nat)=>(x:Int)) (by omega) (by omega) hn (F:=Obj pc 183 [.pointer pp,.int .i64 (h:Int),.slice q.1 l.length q.2,.pointer none]*F)) (U.at pp rfl (by rw[uE];exact ab))) (fun _=>by rw[uE];exact ab) ?_
 intro g
 rw[uE]
 refine ah ?_
 refine bD ?_;intros
 refine aa ?_;intros
 rw[←yQ]
 refine NJ (U.BP q.1 w hw (U.refl _)) ?_
 have DS:(ba .i64 l).drop (w*1)=ba .i64 (l.drop w):=by simp[ba,List.map_drop]
 have iW:(l.drop w).length=l.length-w:=List.length_drop
 rw[DS]
 refine af rfl (Spec.aL (cZ q.1 w q.2 1) (Gp _ (l.length-w) (q.2-w) (ba .i64 (l.drop w)) (by rw[qF];exact iW) (by omega))) ?_
 intro o
 refine aa ?_;intros
 rename_i x
 refine ae (aj rfl rfl (x,g) rfl (U.sat (U.obj x rfl (U.at g ?_ (U.trans ?_ (aY.shut (q:=o)))))))
 ·rw[List.map_take]
 ·refine U.obj pc (by rw[iW]) (U.row o.1 iW.symm rfl (U.at pp rfl ?_))
  exact ab
theorem zL (x:Nat)(hl:l.length<16):Spec Tryz.prog 130 [.pointer pc,.int .i64 (x:Int)] W (aY pc pp h l qo*F) (fun g:Option Addr=> .pointer g) (fun g=>db g 3 none false*(aY pc pp h (l++[x]) qo*F)):=by
 refine Spec.of Tryz.func130 rfl Tryz.ntmps130 rfl ?_
 refine aY.open fun q=> ?_
 simp only[jw]
 refine aa ?_;intros
 rename_i y o g
 refine ae (aj rfl rfl g rfl (U.sat (U.obj g rfl (U.trans ?_ (aY.shut (q:=o))))))
 refine U.obj pc (by rw[la]) (U.row o.1 (by rw[la]) (by simp[ba]) (U.refl _))
theorem CV (x:Nat)(hl:l.length=16)(hn:n≤1024):Spec Tryz.prog 130 [.pointer pc,.int .i64 (x:Int)] W (aY pc pp h l none*(bC pp n ws*F)) (fun g:Option Addr×Option Addr=> .pointer g.1)
  (fun g=>db g.1 2 g.2 false*(bc g.2 (kU n (((l++[x]).take 8).map fun(x:Nat)=>(x:Int)))*(aY pc pp h ((l++[x]).drop 8) g.2*(bC pp n ws*F)))):=by
 refine Spec.of Tryz.func130 rfl Tryz.ntmps130 rfl ?_
 refine aY.open fun q=> ?_
 simp only[jw]
 refine aa ?_;intros
 rename_i y o
 refine af rfl (Spec.pre (VC (W:=W) (F:=F) (pp:=pp) (pc:=pc) (h:=h) (ws:=ws) (l:=l++[x]) 8 (by simp;omega) (by simp;omega) hn) ?_) ?_
 ·refine U.trans ?_ (aY.shut (q:=o))
  exact U.obj pc (by rw[la]) (U.row o.1 (by rw[la]) (by simp[ba]) (U.refl _))
 intro g
 refine aa ?_;intros
 exact ae (aj rfl rfl g rfl (U.sat (U.refl _)))
end
section
open Go.RowKit
set_option maxRecDepth 10000
attribute [local irreducible] EK EX ER EN EL ES EG an aR aU
variable {W:World} {F:SL} {X:Cx} {k:List KI} {σ:Env} {pp pc ps sp qo:Option Addr} {n m h:Nat} {ws l:List Nat} {s:bM}
attribute [local simp] qF
def ov (h:Nat)(s:bM):Nat:=if s.bK=[]then h else s.word
theorem QS (hp:s.bK.length≤32)(hl:l.length≤1000):Spec Tryz.prog 167 [.pointer pc,.pointer sp] W (aY pc pp h l qo*(bc sp s*F)) (fun _:Unit=> .tuple #[]) (fun _=>aY pc pp (ov h s) (l++s.bK.reverse) qo*(bc sp s*F)):=by
 refine Spec.of Tryz.func167 rfl Tryz.ntmps167 rfl ?_
 refine aa ?_;intros
 refine af rfl (Spec.aL sp (N4 sp s (by omega))) ?_
 intro g
 by_cases h0:s.bK=[]
 ·have qq:s.bK.length=0:=by rw[h0];rfl
  refine aa ?_;intros
  refine ae (dm rfl () rfl (U.sat ?_))
  unfold ov
  rw[if_pos h0,h0,List.reverse_nil,List.append_nil,←h0]
  refine U.trans U.drop ?_
  exact ab
 ·have qq:¬s.bK.length=0:=fun e=>h0 (List.eq_nil_of_length_eq_zero e)
  refine aa ?_;intros
  rw[yQ]
  refine af rfl (PJ g.1 s.bK.length g.2 _ (by simp) (by omega)) ?_
  intro _
  rw[show aJ .i64 (s.bK.map fun(i:Nat)=>(i:Int)).reverse=ba .i64 s.bK.reverse by rw[yQ,List.map_reverse]]
  have A6:(ba .i64 s.bK.reverse).length=s.bK.length:=by rw[qF,List.length_reverse]
  haveI:vo (ba .i64 s.bK.reverse) s.bK.length:=⟨A6⟩
  refine NF pc (aY.iK fun q=> ?_)
  simp only[jw]
  refine aa ?_;intros
  rename_i o
  refine af rfl (Spec.aL sp (P5 sp s)) ?_
  intro _
  rw[if_neg h0]
  refine aa ?_;intros
  refine aE (aF rfl () rfl (U.sat (U.trans ?_ (aY.shut (q:=o)))))
  unfold ov
  rw[if_neg h0]
  refine U.obj pc (by simp) (U.row o.1 (by simp) (by simp[ba]) ?_)
  exact ab
theorem Gr:Spec Tryz.prog 121 [.pointer pc,.pointer ps] W (aY pc pp h l qo*(db ps 3 none false*F)) (fun _:Unit=> .bool true) (fun _=>aY pc pp h l qo*(db ps 3 none true*F)):=by
 refine Spec.of Tryz.func121 rfl Tryz.ntmps121 rfl ?_
 refine aY.open fun q=> ?_
 simp only[jw,db]
 refine aa ?_;intros
 refine ae (aj rfl rfl () rfl (U.sat (U.trans ?_ (aY.shut (q:=q)))))
 refine U.obj pc rfl (U.row q.1 rfl rfl ?_)
 exact ab
theorem No (hT:gC W)(hw:ic m ws)(hs:s.Ok m)(hl:l.length≤1000):Spec Tryz.prog 121 [.pointer pc,.pointer ps] W (db ps 0 sp false*(bc sp s*(aY pc pp h l qo*(bC pp n ws*F)))) (fun _:Unit=> .bool (bp ws s).2.done)
  (fun _=>db ps 0 sp (bp ws s).2.done*(bc sp (bp ws s).2*((if(bp ws s).2.done=true then aY pc pp (ov h (bp ws s).2) (l++(bp ws s).2.bK.reverse) qo else aY pc pp h l qo)*(bC pp n (bp ws s).1*F)))):=by
 refine Spec.of Tryz.func121 rfl Tryz.ntmps121 rfl ?_
 obtain⟨_,fg⟩:=xF hw hs
 refine dc pc (aY.open fun q=> ?_)
 simp only[jw,db]
 refine aa ?_;intros
 refine ay 12 (Obj pc 183 [.pointer pp,.int .i64 (h:Int),.slice q.1 l.length q.2,.pointer qo]*(Obj ps 291 [.int .i64 ((0:Nat):Int),.pointer sp,.bool false]*1)) rfl rfl rfl ?_
 refine ah ?_
 refine aw rfl rfl rfl rfl rfl (Spec.pre (Cm hT hw hs (p:=pp) (sp:=sp) (n:=n) (F:=Obj pc 183 [.pointer pp,.int .i64 (h:Int),.slice q.1 l.length q.2,.pointer qo]*(Obj ps 291 [.int .i64 ((0:Nat):Int),.pointer sp,.bool false]*(ad 3 1 q.1 l.length q.2 (ba .i64 l)*F)))) (U.at pp rfl (U.at sp rfl (ab)))) (fun _=>ab) ?_
 intro _
 refine ah ?_
 refine bD ?_;intros
 cases hd:(bp ws s).2.done with
 |true=>
  refine aa ?_;intros
  refine af rfl (Spec.pre (QS (pp:=pp) (h:=h) (l:=l) (qo:=qo) (F:=Obj ps 291 [.int .i64 ((0:Nat):Int),.pointer sp,.bool true]*(bC pp n (bp ws s).1*F)) fg.bK hl) (U.trans ?_ (aY.shut (q:=q)))) ?_
  ·refine U.obj pc rfl (U.row q.1 rfl rfl (U.at sp rfl ?_))
   exact ab
  intro _
  refine aa ?_;intros
  refine ae (aj rfl rfl () rfl (U.sat ?_))
  rw[if_pos rfl]
  refine U.obj ps rfl (U.at sp rfl ?_)
  exact ab
 |false=>
  refine aa ?_;intros
  refine ae (aj rfl rfl () rfl (U.sat ?_))
  rw[if_neg (by decide)]
  refine U.obj ps rfl (U.at sp rfl (U.trans ?_ (aY.shut (q:=q))))
  refine U.obj pc rfl (U.row q.1 rfl rfl (U.at pp rfl ?_))
  exact ab
theorem Nn (hT:gC W)(hw:ic m ws)(hs:s.Ok m):Spec Tryz.prog 121 [.pointer pc,.pointer ps] W (db ps 2 sp false*(bc sp s*(aY pc pp h l qo*(bC pp n ws*F)))) (fun _:Unit=> .bool (bp ws s).2.done)
  (fun _=>db ps 2 sp (bp ws s).2.done*(bc sp (bp ws s).2*(aY pc pp h l (if(bp ws s).2.done=true then none else qo)*(bC pp n (bp ws s).1*F)))):=by
 refine Spec.of Tryz.func121 rfl Tryz.ntmps121 rfl ?_
 refine dc pc (aY.open fun q=> ?_)
 simp only[jw,db]
 refine aa ?_;intros
 refine ay 12 (Obj pc 183 [.pointer pp,.int .i64 (h:Int),.slice q.1 l.length q.2,.pointer qo]*(Obj ps 291 [.int .i64 ((2:Nat):Int),.pointer sp,.bool false]*1)) rfl rfl rfl ?_
 refine ah ?_
 refine aw rfl rfl rfl rfl rfl (Spec.pre (Cm hT hw hs (p:=pp) (sp:=sp) (n:=n) (F:=Obj pc 183 [.pointer pp,.int .i64 (h:Int),.slice q.1 l.length q.2,.pointer qo]*(Obj ps 291 [.int .i64 ((2:Nat):Int),.pointer sp,.bool false]*(ad 3 1 q.1 l.length q.2 (ba .i64 l)*F)))) (U.at pp rfl (U.at sp rfl (ab)))) (fun _=>ab) ?_
 intro _
 refine ah ?_
 refine bD ?_;intros
 cases hd:(bp ws s).2.done with
 |true=>
  refine aa ?_;intros
  refine ae (aj rfl rfl () rfl (U.sat ?_))
  rw[if_pos rfl]
  refine U.obj ps rfl (U.at sp rfl (U.trans ?_ (aY.shut (q:=q))))
  refine U.obj pc rfl (U.row q.1 rfl rfl (U.at pp rfl ?_))
  exact ab
 |false=>
  refine aa ?_;intros
  refine ae (aj rfl rfl () rfl (U.sat ?_))
  rw[if_neg (by decide)]
  refine U.obj ps rfl (U.at sp rfl (U.trans ?_ (aY.shut (q:=q))))
  refine U.obj pc rfl (U.row q.1 rfl rfl (U.at pp rfl ?_))
  exact ab
end
section
open Go.RowKit
set_option maxRecDepth 10000
attribute [local irreducible] EK EX ER EN EL ES EG an aR aU
variable {W:World} {F:SL} {X:Cx} {k:List KI} {σ:Env} {pp pc ps sp qo q:Option Addr} {n m h:Nat} {ws l:List Nat} {s t:bM}
theorem Gm:Spec Tryz.prog 122 [.pointer ps] W (db ps 0 q true*(bc q t*F)) (fun _:Unit=> .bool (j6 t)) (fun _=>db ps 0 q true*(bc q t*F)):=by
 refine Spec.of Tryz.func122 rfl Tryz.ntmps122 rfl ?_
 refine aa ?_;intros
 refine af rfl (Spec.aL q (Hd q t)) ?_
 intro _
 refine aa ?_;intros
 exact ae (aj rfl rfl () rfl (U.sat (ab)))
theorem Na {d:Bool}:Spec Tryz.prog 124 [.pointer ps] W (db ps 1 q d*(bc q s*F)) (fun _:Unit=> .bool s.alike) (fun _=>db ps 1 q d*(bc q s*F)):=by
 refine Spec.of Tryz.func124 rfl Tryz.ntmps124 rfl ?_
 refine aa ?_;intros
 refine af rfl (Spec.aL q (PM q s)) ?_
 intro _
 refine aa ?_;intros
 exact ae (aj rfl rfl () rfl (U.sat (ab)))
theorem MZ (hn:j6 t=true)(ht:t.words.length≤1000):Spec Tryz.prog 123 [.pointer pc,.pointer ps] W (db ps 0 q true*(bc q t*(aY pc pp h l qo*(bC pp n ws*F)))) (fun g:Option Addr×Option Addr=> .pointer g.1)
  (fun g=>db g.1 1 g.2 false*(bc g.2 (pK t)*(db ps 0 q true*(bc q t*(aY pc pp h l qo*(bC pp n ws*F)))))):=by
 refine Spec.of Tryz.func123 rfl Tryz.ntmps123 rfl ?_
 refine dc pc (aY.open fun z=> ?_)
 simp only[jw]
 refine aa ?_;intros
 refine af rfl (Spec.eZ ps q Gm) ?_
 intro _
 rw[hn]
 refine aa ?_;intros
 refine kM 8 rfl (by kernel_rfl) rfl rfl ?_
 repeat(refine cD ?_)
 refine af rfl (Spec.eZ pp q (PO hn ht)) ?_
 intro g
 refine aa ?_;intros
 rename_i x
 refine ae (aj rfl rfl (x,g) rfl (U.sat (U.obj x rfl (U.at g rfl (U.obj ps rfl (U.at q rfl (U.trans ?_ (aY.shut (q:=z)))))))))
 refine U.obj pc rfl (U.row z.1 rfl rfl ?_)
 exact ab
theorem Nl (hT:gC W)(hw:ic m ws)(hs:s.Ok m):Spec Tryz.prog 121 [.pointer pc,.pointer ps] W (db ps 1 sp false*(bc sp s*(aY pc pp h l qo*(bC pp n ws*F)))) (fun _:Unit=> .bool (bp ws s).2.done)
  (fun _=>db ps 1 sp (bp ws s).2.done*(bc sp (bp ws s).2*(aY pc pp h l qo*(bC pp n (bp ws s).1*F)))):=by
 refine Spec.of Tryz.func121 rfl Tryz.ntmps121 rfl ?_
 refine dc pc (aY.open fun q=> ?_)
 simp only[jw,db]
 refine aa ?_;intros
 refine ay 12 (Obj pc 183 [.pointer pp,.int .i64 (h:Int),.slice q.1 l.length q.2,.pointer qo]*(Obj ps 291 [.int .i64 ((1:Nat):Int),.pointer sp,.bool false]*1)) rfl rfl rfl ?_
 refine ah ?_
 refine aw rfl rfl rfl rfl rfl (Spec.pre (Cm hT hw hs (p:=pp) (sp:=sp) (n:=n) (F:=Obj pc 183 [.pointer pp,.int .i64 (h:Int),.slice q.1 l.length q.2,.pointer qo]*(Obj ps 291 [.int .i64 ((1:Nat):Int),.pointer sp,.bool false]*(ad 3 1 q.1 l.length q.2 (ba .i64 l)*F)))) (U.at pp rfl (U.at sp rfl (ab)))) (fun _=>ab) ?_
 intro _
 refine ah ?_
 refine bD ?_;intros
 cases hd:(bp ws s).2.done with
 |true=>
  refine aa ?_;intros
  refine ae (aj rfl rfl () rfl (U.sat ?_))
  refine U.obj ps rfl (U.at sp rfl (U.trans ?_ (aY.shut (q:=q))))
  refine U.obj pc rfl (U.row q.1 rfl rfl (U.at pp rfl ?_))
  exact ab
 |false=>
  refine aa ?_;intros
  refine ae (aj rfl rfl () rfl (U.sat ?_))
  refine U.obj ps rfl (U.at sp rfl (U.trans ?_ (aY.shut (q:=q))))
  refine U.obj pc rfl (U.row q.1 rfl rfl (U.at pp rfl ?_))
  exact ab
end
section
open Go.RowKit
set_option maxRecDepth 10000
attribute [local irreducible] EK EX ER EN EL ES EG an aR aU
variable {W:World} {F:SL} {X:Cx} {k:List KI} {σ:Env}
attribute [local simp] mJ
theorem C1 (l:List UInt8)(a b c:Nat):(om l a b c).length=l.length:=by simp[om,dB]
theorem RQ (l:List UInt8)(a b:Nat):(sM l a b).length=l.length:=by simp[sM,dB]
theorem H4 (l:List UInt8)(a b:Nat)(s:Bool)(c d e:Nat):(o7 l a b s c d e).length=l.length:=by
 unfold o7 ua
 split
 ·rw[dB]
 ·rw[dB,dB]
theorem QG (l:List UInt8)(a b:Nat)(s:Bool)(c d e:Nat):(ma l a b s c d e).length=l.length:=by
 unfold ma
 split
 ·exact RQ _ _ _
 ·exact H4 _ _ _ _ _ _ _
structure CU (h:fL)(p:iq):Prop where
 room:h.size+8≤h.len
 plain:p.err=false→p.proto=h.proto∧(h.proto=1∨h.proto=6∨h.proto=17)
 inner:p.err=true→p.pos=h.size+8∧20≤p.inner.size∧p.inner.size≤60∧p.pos+p.inner.size+8≤h.len∧p.inner.proto<256
theorem CU.of {h:fL}{l:List UInt8}(hh:pV h l.length)(he:j9 h l=0):CU h (nT h l):=by
 obtain⟨h1,h2,h3,h4,h5,h6,h7,h8⟩:=id hh
 have hb:(o6 h l).length=h.len-h.size:=by rw[xA];exact jj l h4
 unfold j9 at he
 unfold nT
 by_cases g1:h.proto=17
 ·rw[if_pos g1]at he ⊢
  unfold sb at he
  have:¬(o6 h l).length<8:=fun g=>by rw[if_pos g]at he;cases he
  exact⟨by omega,fun _=>⟨g1.symm,.inr (.inr g1)⟩,fun e=>by cases e⟩
 rw[if_neg g1]at he ⊢
 by_cases g2:h.proto=6
 ·rw[if_pos g2]at he ⊢
  unfold rY at he
  have:¬(o6 h l).length<20:=fun g=>by rw[if_pos g]at he;cases he
  exact⟨by omega,fun _=>⟨g2.symm,.inr (.inl g2)⟩,fun e=>by cases e⟩
 rw[if_neg g2]at he ⊢
 by_cases g3:¬(h.proto=1)
 ·rw[if_neg g3]at he;cases he
 have g3:=Decidable.not_not.1 g3
 rw[if_pos g3]at he
 generalize o6 h l=x at hb he ⊢
 unfold oG at he
 have a1:¬x.length<8:=fun g=>by rw[if_pos g]at he;cases he
 rw[if_neg a1]at he
 have a2:¬cY x≠0:=fun g=>by rw[if_pos g]at he;cases he
 rw[if_neg a2]at he
 unfold rM
 by_cases a3:b1 x 0=0∨b1 x 0=8
 ·rw[if_pos a3]
  exact⟨by omega,fun _=>⟨g3.symm,.inl g3⟩,fun e=>by cases e⟩
 rw[if_neg a3]at he ⊢
 have a4:vH (b1 x 0):=Decidable.byContradiction fun g=>by rw[if_neg g]at he;cases he
 rw[if_pos a4]at he
 unfold qk at he
 have a5:dP true (x.drop 8)=0:=Decidable.byContradiction fun g=>by rw[if_pos g]at he;exact g he
 rw[if_neg (by omega)]at he
 obtain⟨k1,k2,k3,k4,_,_⟩:=yb a5
 have a6:¬((x.drop 8).length-(bo (x.drop 8)).size<8∨(bo (x.drop 8)).len<(bo (x.drop 8)).size+8):=fun g=>by rw[if_pos g]at he;cases he
 have a7:(x.drop 8).length=x.length-8:=List.length_drop
 refine⟨by omega,(fun e=>by cases e),fun _=>⟨rfl,k1,k2,?_,dM _ 9⟩⟩
 show h.size+8+(bo (x.drop 8)).size+8≤h.len
 omega
section
variable {p:Option Addr} {c i j:Nat} {l:List UInt8}
theorem Qm [s:Src W F p l.length (ar l)](h0:0<l.length)(hl:l.length≤1000000):Spec Tryz.prog 225 [.slice p l.length c] W F (fun q:az=> .slice q.1 l.length q.2) (fun q=>ad 5 1 q.1 l.length q.2 (ar l)*F):=by
 by_cases hp:p=none
 ·exact fun w hs=>absurd hp (s.nn w hs h0)
 refine Spec.of Tryz.func225 rfl Tryz.ntmps225 rfl ?_
 refine aa ?_;intros
 refine oS (wZ rfl rfl) rfl ?_
 rw[decide_eq_false hp]
 refine aa ?_;intros
 rename_i q
 refine ae (aj rfl rfl q (by simp) (U.sat ?_))
 rw[Nat.zero_add,List.nil_append]
 exact ag
end
section
variable {w:Option Addr} {q:az} {out:Bool} {l:List UInt8}
theorem Mt (pos proto port bT addr:Nat)(src:Bool)(h:pos+3<l.length)(hi:pos≤100000)(hp:port<65536)(ho:bT<4294967296)(ha:addr<4294967296):Spec Tryz.prog 229 [.pointer w,.int .i64 (pos:Int),.int .i64 (proto:Int),.bool src,.int .u16 (port:Int),.int .u32 (bT:Int),.int .u32 (addr:Int)] W (dW w q out l F) (fun _:Unit=> .tuple #[]) (fun _=>dW w q out (o7 l pos proto src port bT addr) F):=by
 refine Spec.of Tryz.func229 rfl Tryz.ntmps229 rfl ?_
 by_cases g1:proto=17
 ·cases src with
  |false=>
   have eP:wj pos false=(pos+2):=rfl
   have eS:rW pos proto=(pos+6):=if_pos g1
   unfold o7 ua
   rw[eP,eS]
   have wP:=dZ l (pos+2)
   obtain⟨l1,h1⟩:∃l1,st2 l (pos+2) port=l1:=⟨_,rfl⟩
   have n1:l1.length=l.length:=by rw[←h1,dB]
   refine aa ?_;intros
   refine af rfl (mF (pos+2) (by omega) (by omega)) ?_
   intro _
   refine aa ?_;intros
   refine af rfl (kL (pos+2) port (by omega) (by omega)) ?_
   intro _
   rw[h1]
   refine aa ?_;intros
   refine af rfl (Cj (pos+6) (by omega)) ?_
   intro _
   by_cases g2:l1.length<(pos+6)+2
   ·rw[if_pos (Or.inl g2),decide_eq_false (by omega)]
    refine aa ?_;intros
    exact ae (dm rfl () rfl (U.sat (ag)))
   rw[decide_eq_true (by omega)]
   have wS:=dZ l1 (pos+6)
   have e2:w2 (st2 l1 (pos+6) (jl (w2 l1 (pos+6)) bT addr)) (pos+6)=jl (w2 l1 (pos+6)) bT addr:=Cf l1 (sO _ _ _) (by omega)
   have lW:=sO (w2 l1 (pos+6)) bT addr
   have lF:=uh (jl (w2 l1 (pos+6)) bT addr) (w2 l (pos+2)) port
   refine aa ?_;intros
   refine af rfl (mF (pos+6) (by omega) (by omega)) ?_
   intro _
   by_cases g3:w2 l1 (pos+6)=0
   ·rw[if_pos (Or.inr ⟨g1,g3⟩)]
    refine aa ?_;intros
    exact ae (dm rfl () rfl (U.sat (ag)))
   rw[if_neg (fun g=>g.elim g2 fun g=>g3 g.2),if_pos g1]
   refine aa ?_;intros
   refine af rfl (wJ (pos+6) bT addr (by omega) (by omega) ho ha) ?_
   intro _
   refine aa ?_;intros
   refine af rfl (mF (pos+6) (by rw[dB];omega) (by omega)) ?_
   intro _
   rw[e2]
   refine aa ?_;intros
   refine af rfl (tQ lW wP hp) ?_
   intro _
   unfold yR
   by_cases g4:pd (jl (w2 l1 (pos+6)) bT addr) (w2 l (pos+2)) port=0
   ·rw[if_pos g4]
    refine aa ?_;intros
    refine af rfl (kL (pos+6) 65535 (by rw[dB];omega) (by omega)) ?_
    intro _
    rw[wz]
    refine aa ?_;intros
    exact aE (aF rfl () rfl (U.sat (ag)))
   ·rw[if_neg g4]
    refine aa ?_;intros
    refine af rfl (kL (pos+6) _ (by rw[dB];omega) (by omega)) ?_
    intro _
    rw[wz]
    refine aa ?_;intros
    exact aE (aF rfl () rfl (U.sat (ag)))
  |true=>
   have eP:wj pos true=(pos+0):=rfl
   have eS:rW pos proto=(pos+6):=if_pos g1
   unfold o7 ua
   rw[eP,eS]
   have wP:=dZ l (pos+0)
   obtain⟨l1,h1⟩:∃l1,st2 l (pos+0) port=l1:=⟨_,rfl⟩
   have n1:l1.length=l.length:=by rw[←h1,dB]
   refine aa ?_;intros
   refine af rfl (mF (pos+0) (by omega) (by omega)) ?_
   intro _
   refine aa ?_;intros
   refine af rfl (kL (pos+0) port (by omega) (by omega)) ?_
   intro _
   rw[h1]
   refine aa ?_;intros
   refine af rfl (Cj (pos+6) (by omega)) ?_
   intro _
   by_cases g2:l1.length<(pos+6)+2
   ·rw[if_pos (Or.inl g2),decide_eq_false (by omega)]
    refine aa ?_;intros
    exact ae (dm rfl () rfl (U.sat (ag)))
   rw[decide_eq_true (by omega)]
   have wS:=dZ l1 (pos+6)
   have e2:w2 (st2 l1 (pos+6) (jl (w2 l1 (pos+6)) bT addr)) (pos+6)=jl (w2 l1 (pos+6)) bT addr:=Cf l1 (sO _ _ _) (by omega)
   have lW:=sO (w2 l1 (pos+6)) bT addr
   have lF:=uh (jl (w2 l1 (pos+6)) bT addr) (w2 l (pos+0)) port
   refine aa ?_;intros
   refine af rfl (mF (pos+6) (by omega) (by omega)) ?_
   intro _
   by_cases g3:w2 l1 (pos+6)=0
   ·rw[if_pos (Or.inr ⟨g1,g3⟩)]
    refine aa ?_;intros
    exact ae (dm rfl () rfl (U.sat (ag)))
   rw[if_neg (fun g=>g.elim g2 fun g=>g3 g.2),if_pos g1]
   refine aa ?_;intros
   refine af rfl (wJ (pos+6) bT addr (by omega) (by omega) ho ha) ?_
   intro _
   refine aa ?_;intros
   refine af rfl (mF (pos+6) (by rw[dB];omega) (by omega)) ?_
   intro _
   rw[e2]
   refine aa ?_;intros
   refine af rfl (tQ lW wP hp) ?_
   intro _
   unfold yR
   by_cases g4:pd (jl (w2 l1 (pos+6)) bT addr) (w2 l (pos+0)) port=0
   ·rw[if_pos g4]
    refine aa ?_;intros
    refine af rfl (kL (pos+6) 65535 (by rw[dB];omega) (by omega)) ?_
    intro _
    rw[wz]
    refine aa ?_;intros
    exact aE (aF rfl () rfl (U.sat (ag)))
   ·rw[if_neg g4]
    refine aa ?_;intros
    refine af rfl (kL (pos+6) _ (by rw[dB];omega) (by omega)) ?_
    intro _
    rw[wz]
    refine aa ?_;intros
    exact aE (aF rfl () rfl (U.sat (ag)))
 ·cases src with
  |false=>
   have eP:wj pos false=(pos+2):=rfl
   have eS:rW pos proto=(pos+16):=if_neg g1
   unfold o7 ua
   rw[eP,eS]
   have wP:=dZ l (pos+2)
   obtain⟨l1,h1⟩:∃l1,st2 l (pos+2) port=l1:=⟨_,rfl⟩
   have n1:l1.length=l.length:=by rw[←h1,dB]
   refine aa ?_;intros
   refine af rfl (mF (pos+2) (by omega) (by omega)) ?_
   intro _
   refine aa ?_;intros
   refine af rfl (kL (pos+2) port (by omega) (by omega)) ?_
   intro _
   rw[h1]
   refine aa ?_;intros
   refine af rfl (Cj (pos+16) (by omega)) ?_
   intro _
   by_cases g2:l1.length<(pos+16)+2
   ·rw[if_pos (Or.inl g2),decide_eq_false (by omega)]
    refine aa ?_;intros
    exact ae (dm rfl () rfl (U.sat (ag)))
   rw[decide_eq_true (by omega)]
   have wS:=dZ l1 (pos+16)
   have e2:w2 (st2 l1 (pos+16) (jl (w2 l1 (pos+16)) bT addr)) (pos+16)=jl (w2 l1 (pos+16)) bT addr:=Cf l1 (sO _ _ _) (by omega)
   have lW:=sO (w2 l1 (pos+16)) bT addr
   have lF:=uh (jl (w2 l1 (pos+16)) bT addr) (w2 l (pos+2)) port
   rw[if_neg (fun g=>g.elim g2 fun g=>g1 g.1),if_neg g1]
   refine aa ?_;intros
   refine af rfl (wJ (pos+16) bT addr (by omega) (by omega) ho ha) ?_
   intro _
   refine aa ?_;intros
   refine af rfl (mF (pos+16) (by rw[dB];omega) (by omega)) ?_
   intro _
   rw[e2]
   refine aa ?_;intros
   refine af rfl (tQ lW wP hp) ?_
   intro _
   refine aa ?_;intros
   refine af rfl (kL (pos+16) _ (by rw[dB];omega) (by omega)) ?_
   intro _
   rw[wz]
   refine aa ?_;intros
   exact aE (aF rfl () rfl (U.sat (ag)))
  |true=>
   have eP:wj pos true=(pos+0):=rfl
   have eS:rW pos proto=(pos+16):=if_neg g1
   unfold o7 ua
   rw[eP,eS]
   have wP:=dZ l (pos+0)
   obtain⟨l1,h1⟩:∃l1,st2 l (pos+0) port=l1:=⟨_,rfl⟩
   have n1:l1.length=l.length:=by rw[←h1,dB]
   refine aa ?_;intros
   refine af rfl (mF (pos+0) (by omega) (by omega)) ?_
   intro _
   refine aa ?_;intros
   refine af rfl (kL (pos+0) port (by omega) (by omega)) ?_
   intro _
   rw[h1]
   refine aa ?_;intros
   refine af rfl (Cj (pos+16) (by omega)) ?_
   intro _
   by_cases g2:l1.length<(pos+16)+2
   ·rw[if_pos (Or.inl g2),decide_eq_false (by omega)]
    refine aa ?_;intros
    exact ae (dm rfl () rfl (U.sat (ag)))
   rw[decide_eq_true (by omega)]
   have wS:=dZ l1 (pos+16)
   have e2:w2 (st2 l1 (pos+16) (jl (w2 l1 (pos+16)) bT addr)) (pos+16)=jl (w2 l1 (pos+16)) bT addr:=Cf l1 (sO _ _ _) (by omega)
   have lW:=sO (w2 l1 (pos+16)) bT addr
   have lF:=uh (jl (w2 l1 (pos+16)) bT addr) (w2 l (pos+0)) port
   rw[if_neg (fun g=>g.elim g2 fun g=>g1 g.1),if_neg g1]
   refine aa ?_;intros
   refine af rfl (wJ (pos+16) bT addr (by omega) (by omega) ho ha) ?_
   intro _
   refine aa ?_;intros
   refine af rfl (mF (pos+16) (by rw[dB];omega) (by omega)) ?_
   intro _
   rw[e2]
   refine aa ?_;intros
   refine af rfl (tQ lW wP hp) ?_
   intro _
   refine aa ?_;intros
   refine af rfl (kL (pos+16) _ (by rw[dB];omega) (by omega)) ?_
   intro _
   rw[wz]
   refine aa ?_;intros
   exact aE (aF rfl () rfl (U.sat (ag)))
end
end
section
open Go.RowKit
set_option maxRecDepth 10000
attribute [local irreducible] EK EX ER EN EL ES EG an aR aU
variable {W:World} {F:SL} {X:Cx} {k:List KI} {σ:Env}
attribute [local simp] mJ
def E3 (l:List UInt8)(hs pos UW Bk:Nat)(out:Bool)(addr port:Nat):List UInt8:=
 let b2:=ma (om l pos (pos+jy (!out)) addr) (pos+UW) Bk (!out) port (w4 l (pos+jy (!out))) addr
 let b3:=st2 b2 (hs+2) 0
 st2 b3 (hs+2) (cY (b3.drop hs))
section
variable {w:Option Addr} {q:az} {out:Bool} {l:List UInt8}
theorem Ow (hs:Nat)(h:hs≤l.length)(hl:l.length≤100000):Spec Tryz.prog 150 [.slice (cZ q.1 hs q.2 1) (l.length-hs) (q.2-hs)] W (dW w q out l F) (fun _:Unit=> .int .u16 (cY (l.drop hs):Int)) (fun _=>dW w q out l F):=by
 have s:Src W (dW w q out l F) q.1 l.length (ar l):=inferInstance
 have r:Room W (dW w q out l F) q.1 l.length q.2:=inferInstance
 haveI:=Src.low s r h
 have:=CP (W:=W) (F:=dW w q out l F) (cZ q.1 hs q.2 1) (q.2-hs) (l.drop hs) (by rw[List.length_drop];omega)
 rwa[List.length_drop]at this
set_option maxHeartbeats 1000000 in
theorem ZJ (x:iq)(hs addr port:Nat)(h1:x.pos=hs+8)(h2:20≤x.inner.size)(h3:x.inner.size≤60)(h4:x.pos+x.inner.size+8≤l.length)(h5:hs≤60)(hl:l.length≤1500)(ha:addr<4294967296)(hp:port<65536):
  Spec Tryz.prog 227 [.pointer w,.agg (bR x).toArray,.int .i64 (hs:Int),.int .u32 (addr:Int),.int .u16 (port:Int)] W (dW w q out l F) (fun _:Unit=> .tuple #[]) (fun _=>dW w q out (E3 l hs x.pos x.inner.size x.inner.proto out addr port) F):=by
 refine Spec.of Tryz.func227 rfl Tryz.ntmps227 rfl ?_
 have hw:=oR l (x.pos+jy (!out))
 refine aa ?_;intros
 rename_i x6
 refine ay 99 (Obj w 330 [.slice q.1 l.length q.2,.bool out]*(Obj x6 112 (bR x)*1)) rfl rfl rfl ?_
 refine ah ?_
 refine aw rfl rfl rfl rfl rfl (Spec.eZ w q.1 (Mr x.pos addr (!out) (by omega) (by omega) ha)) (fun _=>by simp only[dW,C1];exact ag) ?_
 intro _
 unfold E3
 dsimp only
 obtain⟨l2,e2⟩:∃y,om l x.pos (x.pos+jy (!out)) addr=y:=⟨_,rfl⟩
 have n2:l2.length=l.length:=by rw[←e2,C1]
 rw[e2]
 obtain⟨od,eo⟩:∃y,w4 l (x.pos+jy (!out))=y:=⟨_,rfl⟩
 rw[eo]at hw ⊢
 simp only[dW]
 rw[n2]
 refine ah ?_
 rw[←n2]
 refine aa ?_;intros
 refine kh (γ:=Unit) (fun _=>True) (fun _=>[(0,.pointer w),(2,.int .i64 (hs:Int))]) (fun _=>dW w q out (ma l2 (x.pos+x.inner.size) x.inner.proto (!out) port od addr) F) ?_ ?_
 ·by_cases g1:x.inner.proto=1
  ·rw[show ma l2 (x.pos+x.inner.size) x.inner.proto (!out) port od addr=sM l2 (x.pos+x.inner.size) port from if_pos g1,decide_eq_true (show(x.inner.proto:Int)=1 by omega)]
   refine aa ?_;intros
   refine af rfl (Mu (x.pos+x.inner.size) port (by omega) (by omega) hp) ?_
   intro _
   refine aa ?_;intros
   exact dI () trivial ⟨rfl,rfl,trivial⟩ (U.sat (by simp only[dW];exact ag))
  ·rw[show ma l2 (x.pos+x.inner.size) x.inner.proto (!out) port od addr=o7 l2 (x.pos+x.inner.size) x.inner.proto (!out) port od addr from if_neg g1,decide_eq_false (show ¬(x.inner.proto:Int)=1 by omega)]
   refine aa ?_;intros
   refine ay 99 (Obj w 330 [.slice q.1 l2.length q.2,.bool out]*(Obj x6 112 (bR x)*1)) rfl rfl rfl ?_
   refine ah ?_
   refine aw rfl rfl rfl rfl rfl (Mt (x.pos+x.inner.size) x.inner.proto port od addr (!out) (by omega) (by omega) hp hw ha) (fun _=>by simp only[dW,H4];exact ag) ?_
   intro _
   refine ah ?_
   refine aa ?_;intros
   exact dI () trivial ⟨rfl,rfl,trivial⟩ (U.sat (by simp only[dW];exact ag))
 ·intro _ _
  have n3:(ma l2 (x.pos+x.inner.size) x.inner.proto (!out) port od addr).length=l.length:=by rw[QG,n2]
  obtain⟨l3,e3⟩:∃y,ma l2 (x.pos+x.inner.size) x.inner.proto (!out) port od addr=y:=⟨_,rfl⟩
  rw[e3]at n3 ⊢
  have n4:(st2 l3 (hs+2) 0).length=l.length:=by rw[dB,n3]
  have hc:=qf ((st2 l3 (hs+2) 0).drop hs)
  refine aa ?_;intros
  refine af rfl (kL (hs+2) 0 (by omega) (by omega)) ?_
  intro _
  obtain⟨l4,e4⟩:∃y,st2 l3 (hs+2) 0=y:=⟨_,rfl⟩
  rw[e4]at n4 hc ⊢
  simp only[dW]
  refine aa ?_;intros
  refine af rfl (Ow hs (by omega) (by omega)) ?_
  intro _
  simp only[dW]
  refine aa ?_;intros
  refine af rfl (kL (hs+2) _ (by omega) (by omega)) ?_
  intro _
  refine aa ?_;intros
  exact aE (aF rfl () rfl (U.sat (by simp only[dW];exact ag)))
abbrev FP (q:az)(l:List UInt8)(e:Nat):Value:= .tuple #[.slice q.1 l.length q.2,.int .i64 (e:Int)]
theorem Ql {p:Option Addr}{c j:Nat}(s:Src W F p l.length (ar l))(hj:j≤l.length)(h0:0<j)(h1:j≤1000000):Spec Tryz.prog 225 [.slice p j c] W F (fun q:az=> .slice q.1 (l.take j).length q.2) (fun q=>ad 5 1 q.1 (l.take j).length q.2 (ar (l.take j))*F):=by
 haveI:=Src.pre s hj
 have mY:(l.take j).length=j:=by rw[List.length_take,Nat.min_eq_left hj]
 have:=Qm (W:=W) (F:=F) (p:=p) (c:=c) (l:=l.take j) (by omega) (by omega)
 rw[show([Value.slice p (l.take j).length c]:List Value)=[.slice p j c]by rw[mY]]at this
 exact this
set_option maxHeartbeats 1000000 in
theorem H6 {p:Option Addr}{c:Nat}(hl:l.length≤140737488355328)[s:Src W F p l.length (ar l)][r:Room W F p l.length c](addr port:Nat)(ha:addr<4294967296)(hp:port<65536):Spec Tryz.prog 179 [.slice p l.length c,.bool out,.int .u32 (addr:Int),.int .u16 (port:Int)] W F (fun z:az=>FP z (kF l out addr port) (eA l)) (fun z=>ad 5 1 z.1 (kF l out addr port).length z.2 (ar (kF l out addr port))*F):=by
 refine Spec.of Tryz.func179 rfl Tryz.ntmps179 rfl ?_
 unfold kF eA
 refine aa ?_;intros
 refine af rfl (DK hl) ?_
 intro _
 by_cases g1:dP false l=0
 ·have g0:=pV.of g1
  rw[mQ g1,g1,if_pos rfl,if_pos rfl]
  obtain⟨hd,f0⟩:∃x,bo l=x:=⟨_,rfl⟩
  rw[f0]at g0 ⊢
  obtain⟨h1,h2,h3,h4,h5,h6,h7,h8⟩:=id g0
  refine aa ?_;intros
  refine af rfl (Fv hd g0) ?_
  intro _
  by_cases g2:j9 hd l=0
  ·have k0:=CU.of g0 g2
   have k1:=k0.room
   have k2:=k0.plain
   have k3:=k0.inner
   rw[show pH hd l=nT hd l from if_pos g2,g2,if_pos rfl]
   obtain⟨x,f1⟩:∃x,nT hd l=x:=⟨_,rfl⟩
   rw[f1]at k2 k3 ⊢
   obtain⟨xp,xs,xd,xf,xk,xc,xe,xi,xo,xb⟩:=x
   dsimp only at k2 k3
   have hlen:(l.take hd.len).length=hd.len:=by rw[List.length_take,Nat.min_eq_left h4]
   refine aa ?_;intros
   refine af rfl (Ql inferInstance h4 (by omega) (by omega)) ?_
   intro z
   rw[show BS hd ⟨xp,xs,xd,xf,xk,xc,xe,xi,xo,xb⟩ l out addr port=(if xe then E3 (om (l.take hd.len) 0 (jy out) addr) hd.size xo xi.size xi.proto out addr port else ma (om (l.take hd.len) 0 (jy out) addr) hd.size hd.proto out port (w4 (l.take hd.len) (jy out)) addr)from rfl]
   obtain⟨b,hb⟩:∃b,l.take hd.len=b:=⟨_,rfl⟩
   rw[hb]at hlen ⊢
   have hw:=oR b (jy out)
   have e0:=Nat.zero_add (jy out)
   refine aa ?_;intros
   rename_i xw
   refine af rfl (Spec.eZ xw z.1 (Mr 0 addr out (by omega) (by decide) ha)) ?_
   intro _
   rw[e0]
   obtain⟨b2,e2⟩:∃y,om b 0 (jy out) addr=y:=⟨_,rfl⟩
   have n2:b2.length=hd.len:=by rw[←e2,C1,hlen]
   rw[e2]
   obtain⟨od,eo⟩:∃y,w4 b (jy out)=y:=⟨_,rfl⟩
   rw[eo]at hw ⊢
   simp only[dW]
   cases xe with
   |true=>
    obtain⟨m1,m2,m3,m4,m5⟩:=k3 rfl
    rw[if_pos rfl]
    refine aa ?_;intros
    refine af rfl (ZJ ⟨xp,xs,xd,xf,xk,xc,true,xi,xo,xb⟩ hd.size addr port m1 m2 m3 (by dsimp only;omega) h2 (by omega) ha hp) ?_
    intro _
    simp only[dW]
    refine aa ?_;intros
    exact ae (fz rfl rfl rfl z rfl (U.sat (ag)))
   |false=>
    obtain⟨m1,m2⟩:=k2 rfl
    rw[if_neg (by decide)]
    by_cases g4:hd.proto=1
    ·rw[show ma b2 hd.size hd.proto out port od addr=sM b2 hd.size port from if_pos g4]
     refine aa ?_;intros
     refine af rfl (Mu hd.size port (by omega) (by omega) hp) ?_
     intro _
     simp only[dW]
     refine aa ?_;intros
     exact ae (fz rfl rfl rfl z rfl (U.sat (ag)))
    ·rw[show ma b2 hd.size hd.proto out port od addr=o7 b2 hd.size hd.proto out port od addr from if_neg g4]
     rw[←m1]
     refine aa ?_;intros
     refine af rfl (Mt hd.size xp port od addr out (by omega) (by omega) hp hw ha) ?_
     intro _
     simp only[dW]
     refine aa ?_;intros
     exact ae (fz rfl rfl rfl z rfl (U.sat (ag)))
  ·rw[show pH hd l=bG from if_neg g2,if_neg g2]
   refine aa ?_;intros
   exact ae (fz rfl rfl rfl (none,0) rfl (U.sat (U.none (ag))))
 ·rw[mQ (rfl:dP false l=_),if_neg g1,if_neg g1,if_neg g1]
  refine aa ?_;intros
  exact ae (fz rfl rfl rfl (none,0) rfl (U.sat (U.none (ag))))
end
end
end Go.Proofs.YtfkngchldmfpfaaGreatDoor
