/-
  Joined by a program (wip/bundle2.py).
-/
import Derived.Test.YtimekbpkejemoaaGreatDoorRows
import Derived.ProofKit
import Derived.OpenShut
import Derived.Deep.DeepHandedRow
import Derived.Deep.Slices
import Derived.Deep.Fields
import Derived.Carry
import Derived.Laws.BitsAllLaws
import Derived.Test.YtimekbpkejemoaaGreatDoorG1
import Derived.Test.YtimekbpkejemoaaGreatDoorG3
import Derived.Test.YtimekbpkejemoaaGreatDoorG4
import Derived.Test.YtimekbpkejemoaaGreatDoorG6
import Derived.Test.YtimekbpkejemoaaGreatDoorG7
import Derived.Test.YtimekbpkejemoaaGreatDoorG10
import Derived.Test.YtimekbpkejemoaaGreatDoorG11
set_option linter.unusedVariables false
set_option linter.unusedSimpArgs false
namespace Go.Proofs.YtimekbpkejemoaaGreatDoor
section
open Go.RowKit Go.Sort Go.Lib
variable {W:World} {F:SL}
theorem RG {w:World}{e g o c n:Nat}{cur:List Value}{zs ys:List Int}(hs:Sat W w (SL.cC g (.cells cur.toArray e (0,0))*F))(hc:n≤c)(hm:c≤maxLen)(h2:o+c*1≤cur.length)(hl:ys.length=n)
  (m:Nat) (os:Array Go.Obj):Sat W (grow (putRow (Value.int .i64) (Sort.ahead w m) g o ys.toArray) os) (an e 1 (some ⟨g,o,none⟩) n c (mf .i64 ys)*F):=by
 have hg:=hs.get
 have hw:Sat W (grow (putRow (Value.int .i64) (Sort.ahead w m) g o ys.toArray) os) (SL.cC g (.cells (putCells (Value.int .i64) o ys.toArray cur.toArray).toList.toArray e (0,0))*F):=by
  refine hs.write ?_ rfl rfl rfl ?_ ?_
  ·simp[Go.Sort.grow,putRow,mapBlock,Go.Sort.ahead]
  ·intro k hk NJ
   simp only[Go.Sort.grow,putRow,mapBlock]
   rw[Array.getElem?_append_left (by simpa[Go.Sort.ahead]using hk),Array.getElem?_modify,if_neg (Ne.symm NJ)]
   rfl
  ·simp only[Go.Sort.grow,putRow,mapBlock]
   rw[Array.getElem?_append_left (by simpa[Go.Sort.ahead]using hs.lt),Array.getElem?_modify,if_pos rfl]
   have:(Go.Sort.ahead w m).heap=w.heap:=rfl
   rw[this,hg]
   rfl
 refine an.shut (o:=o) hc hm ?_ ?_ hw
 ·simpa[putCells]using h2
 ·apply List.ext_getElem?
  intro j
  rw[List.getElem?_take,List.getElem?_drop]
  split
  ·rename_i hj
   simp only[putCells,Array.getElem?_toList,Array.getElem?_mapIdx,List.getElem?_toArray]
   have cN:o+j<cur.length:=by omega
   have Ei:j<ys.length:=by omega
   rw[List.getElem?_eq_getElem cN]
   simp only[Option.map_some]
   rw[if_pos ⟨by omega,by simp;omega⟩]
   unfold mf
   rw[List.getElem?_map,List.getElem?_eq_getElem Ei]
   simp only[Option.map_some]
   congr 2
   rw[show o+j-o=j by omega,getElem!_pos _ j (by simpa using Ei)]
   simp
  ·rw[List.getElem?_eq_none (by simp[mf];omega)]
theorem RF {w:World}{e g o c n:Nat}{cur:List Value}{zs:List Int}(hs:Sat W w (SL.cC g (.cells cur.toArray e (0,0))*F))(h3:(cur.drop o).take (n*1)=mf .i64 zs)(hl:zs.length=n):Holds (Value.int .i64) w g o zs.toArray:=by
 intro j hj
 have rE:j<zs.length:=by simpa using hj
 refine⟨?_,hs.free _⟩
 rw[hs.cell]
 have e1:((cur.drop o).take (n*1))[j]? =(mf .i64 zs)[j]? :=by rw[h3]
 rw[List.getElem?_take,if_pos (by omega),List.getElem?_drop]at e1
 rw[List.getElem?_toArray,e1]
 unfold mf
 rw[List.getElem?_map,List.getElem?_eq_getElem rE,getElem!_pos _ j (by simpa using rE)]
 simp
theorem M4 (w:World):grow w #[]=w:=by
 unfold grow
 simp
theorem Ka (p:Option Addr)(n c:Nat)(zs:List Int)(hl:zs.length=n)(YH:n≤1000000):
  Spec Tryz.prog 265 [.slice p n c] W (an 3 1 p n c (mf .i64 zs)*F) (fun _:Unit=> .tuple #[]) (fun _=>an 3 1 p n c (mf .i64 zs.reverse)*F):=by
 intro w h
 obtain⟨⟨_,hc,hm⟩,⟨_,D3,hs⟩|⟨g,o,cur,rfl,h2,h3,hs⟩⟩:=an.open h
 ·have hn:n=0:=by omega
  subst hn
  obtain rfl:=List.eq_nil_of_length_eq_zero hl
  refine(Tryz.slices_Reverse_int_empty p c w).mono ?_
  rintro e w' ⟨rfl,rfl⟩
  exact⟨(),rfl,by simpa using h⟩
 ·subst hl
  refine(Tryz.slices_Reverse_int g o c zs w (RF (c:=c) hs h3 rfl) (by omega)).mono ?_
  rintro e w' ⟨rfl,m,rfl⟩
  have:=RG (zs:=zs) hs hc hm h2 (show zs.reverse.length=zs.length by simp) m #[]
  rw[M4]at this
  exact⟨(),rfl,this⟩
end
section
open Go.RowKit
theorem AG {α:Type}(l:List α)(a:α):(l++[a]).length=l.length+1:=by simp
def wq (x:Nat×Nat)(c:Nat):List Nat:=((List.range c).filter fun i=>x.2.testBit i).map (x.1*32+ ·)
def jd (l:List (Nat×Nat)):List Nat:=l.flatMap fun x=>wq x 32
end
section
open Go.RowKit
set_option maxRecDepth 10000
attribute [local irreducible] EK EX ER EN EL ES EG av aV aY
variable {W:World} {F:SL} {X:Cx} {k:List KI} {σ:Env} {p sp:Option Addr} {n m:Nat} {ws:List Nat} {s:bG}
theorem F6 (l:List Nat)(k:IntKind):bA k l=mf k (l.map fun(i:Nat)=>(i:Int)):=by simp[bA,mf]
theorem JK:Spec Tryz.prog 97 [.pointer none] W F (fun _:Unit=> .slice none 0 0) (fun _=>F):=by
 refine Spec.of Tryz.func97 rfl Tryz.ntmps97 rfl ?_
 repeat first|refine aa ?_ |intro
 exact ae (ar rfl rfl () rfl (U.sat U.last))
end
section
open Go.RowKit
set_option maxRecDepth 10000
attribute [local irreducible] EK EX ER EN EL ES EG av aV aY
variable {W:World} {F:SL} {X:Cx} {k:List KI} {σ:Env} {p sp:Option Addr} {n m:Nat} {ws:List Nat} {s:bG}
theorem xI (h1:1≤n)(h2:n≤1024):Spec Tryz.prog 59 [.int .i64 (n:Int)] W F (fun p:Option Addr=> .tuple #[.pointer p,.int .i64 0]) (fun p=>bp p n (cJ n)*F):=by
 refine Spec.of Tryz.func59 rfl Tryz.ntmps59 rfl ?_
 have e1:((n:Int)+32-1)/32=(((n+31)/32:Nat):Int):=by omega
 repeat first|refine aa ?_ |intro
 rw[e1]
 refine af rfl (uB ((n+31)/32) (by omega) (by omega)) ?_
 intro c
 by_cases hr:n%32=0
 ·have rG:(n:Int)%32=0:=by omega
  repeat first|refine aa ?_ |intro
  rename_i g
  refine ae (eZ rfl rfl rfl g rfl (U.sat (U.trans ?_ (bp.shut (c:=c)))))
  unfold cJ
  rw[if_pos hr]
  repeat(first|exact U.last|refine U.cons ?_ |refine U.assoc ?_)
 ·have rG:¬(n:Int)%32=0:=by omega
  have e2:IntKind.u64.wrap (1*2^((n:Int)%32).toNat)=((2^(n%32):Nat):Int):=by
   rw[show((n:Int)%32).toNat=n%32 by omega,Int.one_mul]
   exact HP (Nat.mod_lt _ (by decide))
  have e3:2^(n%32)<4294967296:=ub (Nat.mod_lt _ (by decide))
  have e4:1≤2^(n%32):=Nat.one_le_two_pow
  have e5:=u64_andNot_nat 4294967295 (2^(n%32)-1) (by decide) (by omega)
  have e6:((2^(n%32):Nat):Int)-1=((2^(n%32)-1:Nat):Int):=by omega
  have e7:IntKind.i64.wrap ((((n+31)/32:Nat):Int)-1)=(((n+31)/32-1:Nat):Int):=by
   rw[IntKind.wrap_i64];omega
  have e8:4294967295&&& (18446744073709551615-(2^(n%32)-1))<18446744073709551616:=Nat.lt_of_le_of_lt Nat.and_le_left (by decide)
  repeat first|refine aa ?_ |intro
  refine iQ 8 rfl (by kernel_rfl) rfl rfl ?_
  repeat(refine cI ?_)
  refine lf rfl (uT c _) ?_
  repeat(refine cI ?_)
  rw[List.length_replicate,e2,e6]
  rw[show(4294967295:Int)=((4294967295:Nat):Int)from rfl,e5,e7]
  refine af rfl (uU c _ ((n+31)/32-1) _ (by rw[List.length_replicate];omega) (by rw[List.length_replicate];omega)) ?_
  intro _
  repeat first|refine aa ?_ |intro
  rename_i g
  refine ae (eZ rfl rfl rfl g rfl (U.sat (U.trans ?_ (bp.shut (c:=c)))))
  unfold cJ
  rw[if_neg hr]
  repeat(first|exact U.last|refine U.cons ?_ |refine U.assoc ?_)
end
section
open Go.RowKit
variable {m n k:Nat} {ws:List Nat} {s:bG}
theorem E1 {i u x:Nat}(hi:i<ws.length):gC (ws.set i u) x=if x/32=i then !u.testBit (x%32)else gC ws x:=by
 unfold gC
 rw[List.getD_eq_getElem?_getD,List.getElem?_set]
 by_cases h:x/32=i
 ·subst h
  simp[hi]
 ·rw[if_neg (fun e=>h e.symm),if_neg h,←List.getD_eq_getElem?_getD]
theorem Lh {u low j:Nat}(hl:low<4294967296)(hj:j<32):(kh u low).testBit j=low.testBit j:=by
 have h1:=Nat.testBit_mod_two_pow (kh u low) 32 j
 rw[show(2:Nat)^32=4294967296 from rfl,Li hl]at h1
 rw[h1];simp[hj]
theorem Pr {u j:Nat}(hj:j<32):(u%4294967296).testBit j=u.testBit j:=by
 have h1:=Nat.testBit_mod_two_pow u 32 j
 rw[show(2:Nat)^32=4294967296 from rfl]at h1
 rw[h1];simp[hj]
theorem QE {mask j:Nat}(hm:mask<4294967296)(hj:j<32):(18446744073709551615-mask).testBit j= !mask.testBit j:=by
 have h2:=Nat.testBit_two_pow_sub_succ (n:=64) (x:=mask) (by omega) j
 rw[show(2:Nat)^64-(mask+1)=18446744073709551615-mask by omega]at h2
 rw[h2]
 have:j<64:=by omega
 simp[this]
theorem Qh {x:Nat×Nat}{c y:Nat}:y∈wq x c↔∃i,i<c∧x.2.testBit i=true∧y=x.1*32+i:=by
 unfold wq
 simp only[List.mem_map,List.mem_filter,List.mem_range]
 constructor
 ·rintro ⟨i,⟨h1,h2⟩,rfl⟩;exact⟨i,h1,h2,rfl⟩
 ·rintro ⟨i,h1,h2,rfl⟩;exact⟨i,⟨h1,h2⟩,rfl⟩
theorem Qi {x:Nat×Nat}{y:Nat}:y∈wq x 32↔y/32=x.1∧x.2.testBit (y%32)=true:=by
 rw[Qh]
 constructor
 ·rintro ⟨i,h1,h2,rfl⟩
  rw[show(x.1*32+i)%32=i by omega]
  exact⟨by omega,h2⟩
 ·rintro ⟨h1,h2⟩
  exact⟨y%32,Nat.mod_lt _ (by decide),h2,by omega⟩
theorem nS {l:List (Nat×Nat)}{y:Nat}:y∈jd l↔∃x∈l,y/32=x.1∧x.2.testBit (y%32)=true:=by
 unfold jd
 rw[List.mem_flatMap]
 simp only[Qi]
structure Cv (ws:List Nat)(s:bG)(jN:List Nat)(s':bG):Prop where
 kind:s'.kind=0
 parts:s'.parts=s.parts
 none:s'.done=false→s'.bo=[]
 free:∀g∈s'.bo,gC ws g=true
 nodup:s'.bo.Nodup
 small:∀g∈s'.bo,g<ws.length*32
 after:∀x,gC jN x=true↔gC ws x=true∧x∉s'.bo
 len:jN.length=ws.length
theorem Sf (hw:gm m ws)(hs:s.Ok m)(hk:s.kind=0)(hd:s.done=false)(hp:s.bo=[]):Cv ws s (bz ws s).1 (bz ws s).2:=by
 obtain⟨t1,t2,t3,t4,t5,t6⟩:=hs.kB hk
 have hl:=hw.len
 have e:bz ws s=iK ws s:=by unfold bz;rw[if_neg (by simp[hd]),if_pos hk]
 rw[e]
 have qD:∀(s':bG),s'.kind=0→s'.parts=s.parts→s'.bo=[]→Cv ws s ws s':=fun s' h1 h2 h3=>
  ⟨h1,h2,fun _=>h3,by simp[h3],by simp[h3],by simp[h3],by simp[h3],rfl⟩
 unfold iK
 by_cases hr:s.read=true
 ·rw[if_pos hr]
  by_cases he:ws.getD s.word 0=s.seen
  ·rw[if_pos he]
   have Oa:(dN s.seen s.most).Nodup:=by
    have:uS (dN s.seen s.most):=List.Pairwise.take (DM _)
    exact this.imp (fun h=>Nat.ne_of_lt h)
   have tq:∀i∈dN s.seen s.most,i<32∧s.seen.testBit i=false:=fun i hi=>mV.1 (List.mem_of_mem_take hi)
   have df:∀i,i<32→gC ws (s.word*32+i)= !s.seen.testBit i:=fun i hi=>by
    unfold gC
    rw[show(s.word*32+i)/32=s.word by omega,show(s.word*32+i)%32=i by omega,he]
   have tj:s.seen%4294967296|||ofBits (dN s.seen s.most)<4294967296:=tY (Nat.mod_lt _ (by decide)) (Gs _ _)
   refine⟨hk,rfl,fun h=>by simp at h,?_,?_,?_,?_,by simp⟩
   ·intro g hg
    obtain⟨i,hi,rfl⟩:=List.mem_map.1 hg
    rw[df i (tq i hi).1,(tq i hi).2];rfl
   ·exact List.Pairwise.map _ (fun a b (h:a≠b)=>by omega) Oa
   ·intro g hg
    obtain⟨i,hi,rfl⟩:=List.mem_map.1 hg
    have:=(tq i hi).1
    omega
   ·intro x
    dsimp only
    rw[E1 (by omega)]
    by_cases hx:x/32=s.word
    ·have pq:x%32<32:=Nat.mod_lt _ (by decide)
     rw[if_pos hx,Lh tj pq,Nat.testBit_or,Pr pq,pI]
     have EW:x=s.word*32+x%32:=by omega
     have h1:=df (x%32) pq
     rw[←EW]at h1
     rw[h1]
     have h2:x∈(dN s.seen s.most).map (s.word*32+ ·)↔x%32∈dN s.seen s.most:=by
      rw[List.mem_map]
      constructor
      ·rintro ⟨i,hi,rfl⟩
       have:=(tq i hi).1
       rwa[show(s.word*32+i)%32=i by omega]
      ·exact fun h=>⟨_,h,EW.symm⟩
     rw[h2]
     simp
    ·rw[if_neg hx]
     constructor
     ·refine fun h=>⟨h,fun hm=>hx ?_⟩
      obtain⟨i,hi,rfl⟩:=List.mem_map.1 hm
      have:=(tq i hi).1
      omega
     ·exact fun h=>h.1
  ·rw[if_neg he]
   exact qD _ hk rfl hp
 ·rw[if_neg hr]
  split
  ·exact qD _ hk rfl hp
  ·exact qD _ hk rfl hp
structure ra (l:List (Nat×Nat)):Prop where
 nd:(l.map (·.1)).Nodup
 ne:∀x∈l,x.2≠0
theorem Gm {ps:List (Nat×Nat)}{c i:Nat}(h:partAt ps c=some i):(ps.getD i (0,0)).1=c:=by
 unfold partAt at h
 obtain⟨h',h2,_⟩:=List.findIdx?_eq_some_iff_getElem.1 h
 rw[List.getD_eq_getElem?_getD,List.getElem?_eq_getElem h']
 simpa using h2
theorem Q1 {ps:List (Nat×Nat)}{c:Nat}(h:partAt ps c=none):∀x∈ps,x.1≠c:=by
 unfold partAt at h
 rw[List.findIdx?_eq_none_iff]at h
 intro x hx
 simpa using h x hx
theorem QX {a b:Nat}(h:b≠0):a|||b≠0:=fun e=>h (Nat.or_eq_zero_iff.1 e).2
theorem Kx {ps:List (Nat×Nat)}(h:ra ps)(z:Nat):ra (addPart ps z)∧∀y∈jd (addPart ps z),y∈jd ps∨y=z:=by
 have Ey:(2:Nat)^(z%32)≠0:=Nat.ne_of_gt (Nat.two_pow_pos _)
 have D0:∀y,y/32=z/32→((2:Nat)^(z%32)).testBit (y%32)=true→y=z:=fun y h1 h2=>by
  rw[Nat.testBit_two_pow]at h2
  have:=of_decide_eq_true h2
  omega
 unfold addPart
 split
 ·rename_i i hi
  have cN:=Gn hi
  have zM:=Gm hi
  have NT:ps.getD i (0,0)∈ps:=by
   rw[List.getD_eq_getElem?_getD,List.getElem?_eq_getElem cN];exact List.getElem_mem cN
  refine⟨⟨?_,fun x hx=> ?_⟩,fun y hy=> ?_⟩
  ·rw[List.map_set]
   have:(ps.map (·.1)).set i (ps.getD i (0,0)).1=ps.map (·.1):=by
    apply List.ext_getElem?
    intro j
    rw[List.getElem?_set]
    split
    ·rename_i e;subst e
     simp[List.getElem?_eq_getElem cN,cN]
    ·rfl
   rw[this];exact h.nd
  ·rcases List.mem_or_eq_of_mem_set hx with hx|rfl
   ·exact h.ne x hx
   ·exact QX Ey
  ·obtain⟨x,hx,h1,h2⟩:=nS.1 hy
   rcases List.mem_or_eq_of_mem_set hx with hx|rfl
   ·exact .inl (nS.2 ⟨x,hx,h1,h2⟩)
   ·dsimp only at h1 h2
    rw[Nat.testBit_or,Bool.or_eq_true]at h2
    rcases h2 with h2|h2
    ·exact .inl (nS.2 ⟨_,NT,h1,h2⟩)
    ·exact .inr (D0 y (by rw[h1,zM]) h2)
 ·rename_i hi
  have nM:=Q1 hi
  refine⟨⟨?_,fun x hx=> ?_⟩,fun y hy=> ?_⟩
  ·rw[List.map_append,List.nodup_append]
   refine⟨h.nd,by simp,fun a ha b hb=> ?_⟩
   simp at hb
   subst hb
   obtain⟨x,hx,rfl⟩:=List.mem_map.1 ha
   exact nM x hx
  ·rcases List.mem_append.1 hx with hx|hx
   ·exact h.ne x hx
   ·simp at hx;subst hx;exact Ey
  ·obtain⟨x,hx,h1,h2⟩:=nS.1 hy
   rcases List.mem_append.1 hx with hx|hx
   ·exact .inl (nS.2 ⟨x,hx,h1,h2⟩)
   ·simp at hx;subst hx;exact .inr (D0 y h1 h2)
theorem DJ (n:Nat):∀(l:List Int) (ps:List (Nat×Nat)),ra ps→ra (l.foldl (j9 n) ps)∧∀y∈jd (l.foldl (j9 n) ps),y∈jd ps∨((y:Int)∈l∧y<n)
 |[],ps,h=>⟨h,fun y hy=> .inl hy⟩
 |z::l,ps,h=>by
  have h1:ra (j9 n ps z)∧∀y∈jd (j9 n ps z),y∈jd ps∨((y:Int)=z∧y<n):=by
   unfold j9
   split
   ·rename_i hz
    obtain⟨a,b⟩:=Kx h z.toNat
    refine⟨a,fun y hy=>(b y hy).imp id fun e=> ?_⟩
    omega
   ·exact⟨h,fun y hy=> .inl hy⟩
  obtain⟨a,b⟩:=DJ n l _ h1.1
  refine⟨a,fun y hy=> ?_⟩
  rcases b y hy with h2|⟨h2,h3⟩
  ·rcases h1.2 y h2 with h4|⟨h4,h5⟩
   ·exact .inl h4
   ·exact .inr ⟨by rw[h4];exact List.mem_cons_self,h5⟩
  ·exact .inr ⟨List.mem_cons_of_mem _ h2,h3⟩
theorem CJ (n:Nat)(l:List Int):ra (oU n l)∧∀y∈jd (oU n l),(y:Int)∈l∧y<n:=by
 obtain⟨a,b⟩:=DJ n l [] ⟨by simp,by simp⟩
 exact⟨a,fun y hy=>(b y hy).resolve_left (by simp[jd])⟩
end
section
open Go.ChangeShapes Go.WideShapes Go.ChangeAt Go.RowKit Go.Deep
section
variable {H:Type} {enc:TypeId×Value→H} {P:Program}
theorem Q7 {f:Func}{s:ChangeSpec}{apart fresh handsOn again:Bool}{W W':World}{args:Array Value}{v:Value}{ds:List (DataW H)}{before:List MemPlace}(hs:s.vars=[])(hl:laidOutB P=true)
  (hr:∀t∈f.params.toList,P.readableRec t=true∧t<P.types.size)
  (hW:DataW.Whole enc P f.params.toList s.vars apart W args.toList ds [] before)
  (EC:∀(b:Nat) (sp:Nat→Bool) (hd:Bool),DataW.TrodAll enc P W' b sp hd f.resultTypes.toList (v.resultList f.resultTypes.size) (s.fn H (ds++[])).results [])
  (qD:(s.fn H (ds++[])).args=ds) (Am:(s.fn H (ds++[])).vars=[]) (hb:Below W.heap.size W W')
  (tl:∀(j:Nat) (t:TypeId) (r:Value),f.resultTypes[j]? =some t→(v.resultList f.resultTypes.size)[j]? =some r→Value.okWide P W' .any 0 t r):
  s.post enc P f apart fresh handsOn again W args v W':=by
 have cN:∀p∈before,p.block<W.heap.size:=hW.lt
 obtain⟨p,q,hA,hV,he,hz,hn⟩:=id hW
 rw[hs]at hV
 obtain⟨_,rfl⟩:=trodVars_none hV
 obtain rfl:before=p:=by rw[he];simp
 have stay:∀(sp:Nat→Bool) (ts:List TypeId) (vs:List Value) (sR:List (DataW H)) (ps:List MemPlace),(∀t∈ts,P.readableRec t=true∧t<P.types.size)→(∀x∈ps,x.block<W.heap.size)→(∀x∈ps,sp x.block=true)→
   DataW.TrodAll enc P W 0 (fun _=>true) true ts vs sR ps→DataW.TrodAll enc P W' 0 sp true ts vs sR ps:=by
  intro sp ts
  induction ts with
  |nil=>
   intro vs sR ps _ _ _ h
   obtain⟨rfl,rfl,rfl⟩:=trodAll_nil h
   exact trodAll_mk0
  |cons t ts ih=>
   intro vs sR ps h1 h2 h3 h
   obtain⟨v,vs,d,sR,a,b,rfl,rfl,rfl,hd,N8⟩:=trodAll_cons h
   obtain⟨r1,r2⟩:=h1 t (by simp)
   refine trodAll_cons_mk (WideElems.Trod_stays hl r1 r2 hd (fun x hx=>hb.same (h2 x (by simp[hx]))) (fun x hx=>h3 x (by simp[hx]))) (ih _ _ _ (fun t ht=>h1 t (by simp[ht])) (fun x hx=>h2 x (by simp[hx])) (fun x hx=>h3 x (by simp[hx])) N8)
 have jU:∀sp:Nat→Bool,(∀p∈before,sp p.block=true)→DataW.TrodAll enc P W' 0 sp true f.params.toList args.toList (s.fn H (ds++[])).args before:=fun sp pk=>by
  rw[qD]
  exact stay sp _ _ _ _ hr cN pk hA
 have hold:∀p∈before,(fun b=>decide (b<W.heap.size)) p.block=true:=fun p hp=>by simpa using cN p hp
 have ET:∀sp:Nat→Bool,DataW.TrodVars enc P W' sp s.vars (s.fn H (ds++[])).vars []:=fun sp=>by rw[hs,Am];exact rfl
 refine⟨ds,[],before,[],before,[],hW,EC _ _ _,jU _ hold,ET _,hb.frame _,fun _=> ?_⟩
 refine⟨tl,_,_,([]++before)++[],⟨[]++before,[],trodAll_append (jU _ (fun _ _=>rfl)) (EC _ _ _),ET _,rfl,?_,?_⟩,?_⟩
 ·intro b off hp
  have vG:MemPlace.cell b off∈before:=by simpa using hp
  rw[hb.frozen (p:=⟨b,off,none⟩) (cN _ vG)]
  exact hz b off (by rw[he];simpa using vG)
 ·intro ha
  have:=hn ha
  rw[he]at this
  simpa using this
 ·intro p hp _
  simpa using hp
end
section
variable {H:Type} {enc:TypeId×Value→H} {P:Program} {W:World} {base:Nat} {held:Bool}
end
end
section
open Go.RowKit
set_option maxRecDepth 10000
attribute [local irreducible] EK EX ER EN EL ES EG av aV aY
variable {W:World} {F:SL} {X:Cx} {k:List KI} {σ:Env} {p sp:Option Addr} {n m:Nat} {ws o:List Nat} {s:bG} {ss:List (Option bG)} {bs:List Bool}
theorem F8 {x:Nat}(h1:1≤n):(x<n→gC (cJ n) x=true)∧(n≤x→x<(n+31)/32*32→gC (cJ n) x=false):=by
 have h0:∀i,(List.replicate ((n+31)/32) (0:Nat)).getD i 0=0:=fun i=>by
  rw[List.getD_eq_getElem?_getD,List.getElem?_replicate];split<;>rfl
 unfold cJ
 split
 ·rename_i h
  refine⟨fun _=>by unfold gC;rw[h0];simp,fun h2 h3=>by omega⟩
 ·rename_i h
  have pq:x%32<32:=Nat.mod_lt _ (by decide)
  have hp:=ub (i:=n%32) (Nat.mod_lt _ (by decide))
  have YD:=Nat.one_le_two_pow (n:=n%32)
  rw[E1 (by simp;omega)]
  by_cases hx:x/32=(n+31)/32-1
  ·rw[if_pos hx,Nat.testBit_and,QE (by omega) pq,show(4294967295:Nat)=2^32-1 from rfl,Nat.testBit_two_pow_sub_one,Nat.testBit_two_pow_sub_one]
   simp only[pq,decide_true,Bool.true_and,Bool.not_not,decide_eq_true_eq,decide_eq_false_iff_not]
   omega
  ·rw[if_neg hx]
   refine⟨fun _=>by unfold gC;rw[h0];simp,fun h2 h3=>by omega⟩
end
section
open Go.RowKit
set_option maxRecDepth 10000
attribute [local irreducible] EK EX ER EN EL ES EG av aV aY
variable {W:World} {F:SL} {X:Cx} {k:List KI} {σ:Env} {pp pc ps sp qo:Option Addr} {n m h:Nat} {ws l:List Nat} {s:bG}
abbrev iP (pc pp:Option Addr)(h:Nat)(l:List Nat)(qo:Option Addr)(q:aO)(F:SL):SL:=Obj pc 208 [.pointer pp,.int .i64 (h:Int),.slice q.1 l.length q.2,.pointer qo]*(an 3 1 q.1 l.length q.2 (bA .i64 l)*F)
def oz (pc pp:Option Addr)(h:Nat)(l:List Nat)(qo:Option Addr)(q:aO):SL:=Obj pc 208 [.pointer pp,.int .i64 (h:Int),.slice q.1 l.length q.2,.pointer qo]*an 3 1 q.1 l.length q.2 (bA .i64 l)
def aX (pc pp:Option Addr)(h:Nat)(l:List Nat)(qo:Option Addr):SL:=SL.ex (oz pc pp h l qo)
theorem oz.eq (pc pp:Option Addr)(h:Nat)(l:List Nat)(qo:Option Addr)(q:aO)(F:SL):oz pc pp h l qo q*F=iP pc pp h l qo q F:=by
 unfold oz iP
 rw[SL.bU]
theorem aX.open (H:∀q,EK X k σ (iP pc pp h l qo q F)):EK X k σ (aX pc pp h l qo*F):=ng fun q=>by
 rw[oz.eq];exact H q
theorem aX.ia {ops o:List Oper}(H:∀q,EL X k ops o σ (iP pc pp h l qo q F)):EL X k ops o σ (aX pc pp h l qo*F):=BJ fun q=>by
 rw[oz.eq];exact H q
theorem aX.shut {q:aO}:U (iP pc pp h l qo q F) (aX pc pp h l qo*F):=U.ex q (by rw[oz.eq];exact U.refl _)
instance (priority:=2000)(pc pp:Option Addr)(h:Nat)(l:List Nat)(qo:Option Addr)(F:SL):bw (aX pc pp h l qo*F) pc (aX pc pp h l qo) F:=⟨rfl⟩
instance (pc pp:Option Addr)(h:Nat)(l:List Nat)(qo:Option Addr):jQ (aX pc pp h l qo) pc:=⟨fun W w F H=>by
 obtain⟨q,H⟩:=H.gQ
 rw[oz.eq]at H
 exact(Obj.root pc _ _).nn W w _ H⟩
abbrev dU (ps:Option Addr)(kd:Nat)(q:Option Addr)(d:Bool):SL:=Obj ps 332 [.int .i64 (kd:Int),.pointer q,.bool d]
theorem xj (h:Nat):Spec Tryz.prog 61 [.pointer pp,.int .i64 (h:Int)] W (bp pp n ws*F) (fun p:Option Addr=> .tuple #[.pointer p,.int .i64 0]) (fun p=>aX p pp h [] none*(bp pp n ws*F)):=by
 refine Spec.of Tryz.func61 rfl Tryz.ntmps61 rfl ?_
 repeat first|refine aa ?_ |intro
 rename_i g
 refine ae (eZ rfl rfl rfl g rfl (U.sat (U.trans ?_ (aX.shut (q:=(none,0))))))
 exact U.obj g rfl (U.none (U.refl _))
def rZ (l:List Nat):Value:= .tuple #[.int .i64 ((l.getD (l.length-1) 0:Nat):Int),.bool (decide (0<l.length))]
theorem Cy (hb:l.length≤100000):Spec Tryz.prog 163 [.pointer pc] W (aX pc pp h l qo*F) (fun _:Unit=>rZ l) (fun _=>aX pc pp h l qo*F):=by
 refine Spec.of Tryz.func163 rfl Tryz.ntmps163 rfl ?_
 refine aX.open fun q=> ?_
 simp only[iP]
 by_cases hl:l.length=0
 ·repeat first|refine aa ?_ |intro
  refine ae (eZ rfl rfl rfl () ?_ (U.sat (aX.shut (q:=q))))
  unfold rZ
  rw[List.eq_nil_of_length_eq_zero hl];rfl
 ·haveI:Pos l.length:=⟨by omega⟩
  obtain⟨d,hd⟩:∃d,l.length=d+1:=⟨l.length-1,by omega⟩
  repeat first|refine aa ?_ |intro
  refine lb rfl (by kernel_rfl) ?_
  repeat(refine cI ?_)
  rw[show((l.length:Int)-1)=(d:Int)by omega]
  repeat(refine cI ?_)
  repeat first|refine aa ?_ |intro
  refine ae (eZ rfl rfl rfl () ?_ (U.sat (aX.shut (q:=q))))
  unfold rZ
  rw[hd,decide_eq_true (by omega)]
  rfl
theorem xh (hl:l.length≤100000):Spec Tryz.prog 65 [.pointer pc] W (aX pc pp h l qo*F) (fun g:aO=> .slice g.1 l.length g.2) (fun g=>an 3 1 g.1 l.length g.2 (bA .i64 l)*(aX pc pp h l qo*F)):=by
 refine Spec.of Tryz.func65 rfl Tryz.ntmps65 rfl ?_
 refine aX.open fun q=> ?_
 simp only[iP]
 repeat first|refine aa ?_ |intro
 refine af rfl (Spec.aL q.1 (BD q.1 l.length q.2 (bA .i64 l) (pz _ _) (by omega))) ?_
 intro g
 repeat first|refine aa ?_ |intro
 refine ae (ar rfl rfl g rfl (U.sat (U.row g.1 rfl rfl (U.trans ?_ (aX.shut (q:=q))))))
 exact ab
theorem xG:Spec Tryz.prog 66 [.pointer pc] W (aX pc pp h l none*F) (fun _:Unit=> .slice none 0 0) (fun _=>aX pc pp h l none*F):=by
 refine Spec.of Tryz.func66 rfl Tryz.ntmps66 rfl ?_
 refine aX.open fun q=> ?_
 simp only[iP]
 repeat first|refine aa ?_ |intro
 refine af rfl JK ?_
 intro _
 repeat first|refine aa ?_ |intro
 exact ae (ar rfl rfl () rfl (U.sat (aX.shut (q:=q))))
end
section
open Go.RowKit
set_option maxRecDepth 10000
attribute [local irreducible] EK EX ER EN EL ES EG av aV aY
variable {W:World} {F:SL} {X:Cx} {k:List KI} {σ:Env} {pp pc ps sp qo:Option Addr} {n m h:Nat} {ws l:List Nat} {s:bG}
theorem J5 (hs:l.length≤100000):Spec Tryz.prog 210 [.pointer pc] W (aX pc pp h l qo*F) (fun _:Unit=>rZ l) (fun _=>aX pc pp h (l.take (l.length-1)) qo*F):=by
 refine Spec.of Tryz.func210 rfl Tryz.ntmps210 rfl ?_
 repeat first|refine aa ?_ |intro
 refine af rfl (Cy hs) ?_
 intro _
 unfold rZ
 by_cases hl:0<l.length
 ·rw[decide_eq_true hl]
  obtain⟨d,hd⟩:∃d,l.length=d+1:=⟨l.length-1,by omega⟩
  repeat first|refine aa ?_ |intro
  refine aX.open fun q=> ?_
  simp only[iP]
  refine iQ 14 rfl (by kernel_rfl) rfl rfl ?_
  repeat(refine cI ?_)
  rw[show((l.length:Int)-1)=(d:Int)by omega]
  repeat(refine cI ?_)
  repeat first|refine aa ?_ |intro
  refine ae (eZ rfl rfl rfl () rfl (U.sat (U.trans ?_ (aX.shut (q:=q)))))
  have e1:(l.take (l.length-1)).length=d:=by rw[List.length_take];omega
  refine U.obj pc (by rw[e1]) (U.RE q.1 d (by omega) (U.row q.1 (by rw[e1]) ?_ (U.refl _)))
  rw[hd];simp[bA]
 ·rw[decide_eq_false hl]
  repeat first|refine aa ?_ |intro
  refine ae (eZ rfl rfl rfl () rfl (U.sat ?_))
  rw[List.take_of_length_le (by omega)]
  exact U.refl _
theorem JA (hl:0<l.length):Spec Tryz.prog 199 [.pointer pc] W (aX pc pp h l qo*F) (fun g:Option Addr=> .pointer g) (fun g=>dU g 3 none false*(aX pc pp h l qo*F)):=by
 refine Spec.of Tryz.func199 rfl Tryz.ntmps199 rfl ?_
 refine aX.open fun q=> ?_
 simp only[iP]
 repeat first|refine aa ?_ |intro
 rename_i g
 refine ae (ar rfl rfl g rfl (U.sat (U.obj g rfl (U.trans ?_ (aX.shut (q:=q))))))
 exact ab
theorem JB (hw:gm m ws):Spec Tryz.prog 199 [.pointer pc] W (aX pc pp h [] none*(bp pp n ws*F)) (fun g:Option Addr×Option Addr=> .pointer g.1)
  (fun g=>dU g.1 0 g.2 false*(bd g.2 (ij (h:Int) 8 m)*(aX pc pp h [] none*(bp pp n ws*F)))):=by
 refine Spec.of Tryz.func199 rfl Tryz.ntmps199 rfl ?_
 refine aX.open fun q=> ?_
 simp only[iP,List.length_nil]
 repeat first|refine aa ?_ |intro
 rw[show(!decide ((none:Option Addr)=none))=false from rfl]
 repeat first|refine aa ?_ |intro
 refine iQ 8 rfl (by kernel_rfl) rfl rfl ?_
 repeat(refine cI ?_)
 refine af rfl (Spec.aL pp (Ki (h:Int) 8 hw)) ?_
 intro g
 repeat first|refine aa ?_ |intro
 rename_i x
 refine ae (ar rfl rfl (x,g) rfl (U.sat (U.obj x rfl (U.at g rfl (U.trans ?_ (aX.shut (q:=q)))))))
 refine U.obj pc rfl (U.row q.1 rfl rfl ?_)
 exact ab
theorem J8 (x:Nat)(hl:l.length<16):Spec Tryz.prog 167 [.pointer pc,.int .i64 (x:Int)] W (aX pc pp h l qo*F) (fun g:Option Addr=> .pointer g) (fun g=>dU g 3 none false*(aX pc pp h (l++[x]) qo*F)):=by
 refine Spec.of Tryz.func167 rfl Tryz.ntmps167 rfl ?_
 refine aX.open fun q=> ?_
 simp only[iP]
 repeat first|refine aa ?_ |intro
 rename_i y o g
 refine ae (ar rfl rfl g rfl (U.sat (U.obj g rfl (U.trans ?_ (aX.shut (q:=o))))))
 refine U.obj pc (by rw[AG]) (U.row o.1 (by rw[AG]) (by simp[bA]) (U.refl _))
end
section
open Go.RowKit
set_option maxRecDepth 10000
attribute [local irreducible] EK EX ER EN EL ES EG av aV aY
variable {W:World} {F:SL} {X:Cx} {k:List KI} {σ:Env} {pp pc ps sp qo:Option Addr} {n m h:Nat} {ws l:List Nat} {s:bG}
attribute [local simp] pz
def lp (h:Nat)(s:bG):Nat:=if s.bo=[]then h else s.word
theorem Lf (hp:s.bo.length≤32)(hl:l.length≤1000):Spec Tryz.prog 204 [.pointer pc,.pointer sp] W (aX pc pp h l qo*(bd sp s*F)) (fun _:Unit=> .tuple #[]) (fun _=>aX pc pp (lp h s) (l++s.bo.reverse) qo*(bd sp s*F)):=by
 refine Spec.of Tryz.func204 rfl Tryz.ntmps204 rfl ?_
 repeat first|refine aa ?_ |intro
 refine af rfl (Spec.aL sp (JF sp s (by omega))) ?_
 intro g
 by_cases h0:s.bo=[]
 ·have sZ:s.bo.length=0:=by rw[h0];rfl
  repeat first|refine aa ?_ |intro
  refine ae (cT rfl () rfl (U.sat ?_))
  unfold lp
  rw[if_pos h0,h0,List.reverse_nil,List.append_nil,←h0]
  refine U.trans U.drop ?_
  exact ab
 ·have sZ:¬s.bo.length=0:=fun e=>h0 (List.eq_nil_of_length_eq_zero e)
  repeat first|refine aa ?_ |intro
  rw[F6]
  refine af rfl (Ka g.1 s.bo.length g.2 _ (by simp) (by omega)) ?_
  intro _
  rw[show mf .i64 (s.bo.map fun(i:Nat)=>(i:Int)).reverse=bA .i64 s.bo.reverse by rw[F6,List.map_reverse]]
  have N9:(bA .i64 s.bo.reverse).length=s.bo.length:=by rw[pz,List.length_reverse]
  haveI:yL (bA .i64 s.bo.reverse) s.bo.length:=⟨N9⟩
  refine Jo pc (aX.ia fun q=> ?_)
  simp only[iP]
  repeat first|refine aa ?_ |intro
  rename_i o
  refine af rfl (Spec.aL sp (Kp sp s)) ?_
  intro _
  rw[if_neg h0]
  repeat first|refine aa ?_ |intro
  refine aH (aI rfl () rfl (U.sat (U.trans ?_ (aX.shut (q:=o)))))
  unfold lp
  rw[if_neg h0]
  refine U.obj pc (by simp) (U.row o.1 (by simp) (by simp[bA]) ?_)
  exact ab
theorem Jb:Spec Tryz.prog 159 [.pointer pc,.pointer ps] W (aX pc pp h l qo*(dU ps 3 none false*F)) (fun _:Unit=> .bool true) (fun _=>aX pc pp h l qo*(dU ps 3 none true*F)):=by
 refine Spec.of Tryz.func159 rfl Tryz.ntmps159 rfl ?_
 refine aX.open fun q=> ?_
 simp only[iP,dU]
 repeat first|refine aa ?_ |intro
 refine ae (ar rfl rfl () rfl (U.sat (U.trans ?_ (aX.shut (q:=q)))))
 refine U.obj pc rfl (U.row q.1 rfl rfl ?_)
 exact ab
theorem Ja (hT:fU W)(hw:gm m ws)(hs:s.Ok m)(hl:l.length≤1000):Spec Tryz.prog 159 [.pointer pc,.pointer ps] W (dU ps 0 sp false*(bd sp s*(aX pc pp h l qo*(bp pp n ws*F)))) (fun _:Unit=> .bool (bz ws s).2.done)
  (fun _=>dU ps 0 sp (bz ws s).2.done*(bd sp (bz ws s).2*((if(bz ws s).2.done=true then aX pc pp (lp h (bz ws s).2) (l++(bz ws s).2.bo.reverse) qo else aX pc pp h l qo)*(bp pp n (bz ws s).1*F)))):=by
 refine Spec.of Tryz.func159 rfl Tryz.ntmps159 rfl ?_
 obtain⟨_,pj⟩:=u6 hw hs
 refine cy pc (aX.open fun q=> ?_)
 simp only[iP,dU]
 repeat first|refine aa ?_ |intro
 refine aG 12 (Obj pc 208 [.pointer pp,.int .i64 (h:Int),.slice q.1 l.length q.2,.pointer qo]*(Obj ps 332 [.int .i64 ((0:Nat):Int),.pointer sp,.bool false]*1)) rfl rfl rfl ?_
 repeat(first|refine ak ?_ |refine eD ?_)
 refine aC rfl rfl rfl rfl rfl (Spec.pre (BE hT hw hs (p:=pp) (sp:=sp) (n:=n) (F:=Obj pc 208 [.pointer pp,.int .i64 (h:Int),.slice q.1 l.length q.2,.pointer qo]*(Obj ps 332 [.int .i64 ((0:Nat):Int),.pointer sp,.bool false]*(an 3 1 q.1 l.length q.2 (bA .i64 l)*F)))) (U.at pp rfl (U.at sp rfl (ab)))) (fun _=>ab) ?_
 intro _
 repeat(first|refine ak ?_ |refine eD ?_)
 repeat(first|refine bJ ?_ |(refine bN ?_;intro)|refine bK ?_ |refine bL ?_ |refine bM ?_ |refine eD ?_)
 cases hd:(bz ws s).2.done with
 |true=>
  repeat first|refine aa ?_ |intro
  refine af rfl (Spec.pre (Lf (pp:=pp) (h:=h) (l:=l) (qo:=qo) (F:=Obj ps 332 [.int .i64 ((0:Nat):Int),.pointer sp,.bool true]*(bp pp n (bz ws s).1*F)) pj.bo hl) (U.trans ?_ (aX.shut (q:=q)))) ?_
  ·refine U.obj pc rfl (U.row q.1 rfl rfl (U.at sp rfl ?_))
   exact ab
  intro _
  repeat first|refine aa ?_ |intro
  refine ae (ar rfl rfl () rfl (U.sat ?_))
  rw[if_pos rfl]
  refine U.obj ps rfl (U.at sp rfl ?_)
  exact ab
 |false=>
  repeat first|refine aa ?_ |intro
  refine ae (ar rfl rfl () rfl (U.sat ?_))
  rw[if_neg (by decide)]
  refine U.obj ps rfl (U.at sp rfl (U.trans ?_ (aX.shut (q:=q))))
  refine U.obj pc rfl (U.row q.1 rfl rfl (U.at pp rfl ?_))
  exact ab
end
section
open Go.RowKit
set_option maxRecDepth 10000
attribute [local irreducible] EK EX ER EN EL ES EG av aV aY
variable {W:World} {F:SL} {X:Cx} {k:List KI} {σ:Env} {pp pc ps sp qo q:Option Addr} {n m h:Nat} {ws l:List Nat} {s t:bG}
theorem BB:Spec Tryz.prog 160 [.pointer ps] W (dU ps 0 q true*(bd q t*F)) (fun _:Unit=> .bool (hY t)) (fun _=>dU ps 0 q true*(bd q t*F)):=by
 refine Spec.of Tryz.func160 rfl Tryz.ntmps160 rfl ?_
 repeat first|refine aa ?_ |intro
 refine af rfl (Spec.aL q (Ca q t)) ?_
 intro _
 repeat first|refine aa ?_ |intro
 exact ae (ar rfl rfl () rfl (U.sat (ab)))
theorem I2 {d:Bool}:Spec Tryz.prog 162 [.pointer ps] W (dU ps 1 q d*(bd q s*F)) (fun _:Unit=> .bool s.alike) (fun _=>dU ps 1 q d*(bd q s*F)):=by
 refine Spec.of Tryz.func162 rfl Tryz.ntmps162 rfl ?_
 repeat first|refine aa ?_ |intro
 refine af rfl (Spec.aL q (Kb q s)) ?_
 intro _
 repeat first|refine aa ?_ |intro
 exact ae (ar rfl rfl () rfl (U.sat (ab)))
theorem IV (hn:hY t=true)(ht:t.words.length≤1000):Spec Tryz.prog 161 [.pointer pc,.pointer ps] W (dU ps 0 q true*(bd q t*(aX pc pp h l qo*(bp pp n ws*F)))) (fun g:Option Addr×Option Addr=> .pointer g.1)
  (fun g=>dU g.1 1 g.2 false*(bd g.2 (mi t)*(dU ps 0 q true*(bd q t*(aX pc pp h l qo*(bp pp n ws*F)))))):=by
 refine Spec.of Tryz.func161 rfl Tryz.ntmps161 rfl ?_
 refine cy pc (aX.open fun z=> ?_)
 simp only[iP]
 repeat first|refine aa ?_ |intro
 refine af rfl (Spec.eY ps q BB) ?_
 intro _
 rw[hn]
 repeat first|refine aa ?_ |intro
 refine iQ 8 rfl (by kernel_rfl) rfl rfl ?_
 repeat(refine cI ?_)
 refine af rfl (Spec.eY pp q (Kc hn ht)) ?_
 intro g
 repeat first|refine aa ?_ |intro
 rename_i x
 refine ae (ar rfl rfl (x,g) rfl (U.sat (U.obj x rfl (U.at g rfl (U.obj ps rfl (U.at q rfl (U.trans ?_ (aX.shut (q:=z)))))))))
 refine U.obj pc rfl (U.row z.1 rfl rfl ?_)
 exact ab
theorem I9 (hT:fU W)(hw:gm m ws)(hs:s.Ok m):Spec Tryz.prog 159 [.pointer pc,.pointer ps] W (dU ps 1 sp false*(bd sp s*(aX pc pp h l qo*(bp pp n ws*F)))) (fun _:Unit=> .bool (bz ws s).2.done)
  (fun _=>dU ps 1 sp (bz ws s).2.done*(bd sp (bz ws s).2*(aX pc pp h l qo*(bp pp n (bz ws s).1*F)))):=by
 refine Spec.of Tryz.func159 rfl Tryz.ntmps159 rfl ?_
 refine cy pc (aX.open fun q=> ?_)
 simp only[iP,dU]
 repeat first|refine aa ?_ |intro
 refine aG 12 (Obj pc 208 [.pointer pp,.int .i64 (h:Int),.slice q.1 l.length q.2,.pointer qo]*(Obj ps 332 [.int .i64 ((1:Nat):Int),.pointer sp,.bool false]*1)) rfl rfl rfl ?_
 repeat(first|refine ak ?_ |refine eD ?_)
 refine aC rfl rfl rfl rfl rfl (Spec.pre (BE hT hw hs (p:=pp) (sp:=sp) (n:=n) (F:=Obj pc 208 [.pointer pp,.int .i64 (h:Int),.slice q.1 l.length q.2,.pointer qo]*(Obj ps 332 [.int .i64 ((1:Nat):Int),.pointer sp,.bool false]*(an 3 1 q.1 l.length q.2 (bA .i64 l)*F)))) (U.at pp rfl (U.at sp rfl (ab)))) (fun _=>ab) ?_
 intro _
 repeat(first|refine ak ?_ |refine eD ?_)
 repeat(first|refine bJ ?_ |(refine bN ?_;intro)|refine bK ?_ |refine bL ?_ |refine bM ?_ |refine eD ?_)
 cases hd:(bz ws s).2.done with
 |true=>
  repeat first|refine aa ?_ |intro
  refine ae (ar rfl rfl () rfl (U.sat ?_))
  refine U.obj ps rfl (U.at sp rfl (U.trans ?_ (aX.shut (q:=q))))
  refine U.obj pc rfl (U.row q.1 rfl rfl (U.at pp rfl ?_))
  exact ab
 |false=>
  repeat first|refine aa ?_ |intro
  refine ae (ar rfl rfl () rfl (U.sat ?_))
  refine U.obj ps rfl (U.at sp rfl (U.trans ?_ (aX.shut (q:=q))))
  refine U.obj pc rfl (U.row q.1 rfl rfl (U.at pp rfl ?_))
  exact ab
end
section
open Go.RowKit
set_option maxRecDepth 10000
attribute [local irreducible] EK EX ER EN EL ES EG av aV aY
variable {W:World} {F:SL} {X:Cx} {k:List KI} {σ:Env}
theorem yR {a:Nat}(k:Nat):a&&& (2^k-1)=a%2^k:=Nat.and_two_pow_sub_one_eq_mod a k
theorem Su {m:Nat}(h:m<18446744073709551616):bits .and .u64 (m:Int) 65535=((m%65536:Nat):Int):=by
 rw[show(65535:Int)=((65535:Nat):Int)from rfl,u64_and_nat m 65535 h (by decide)]
 exact congrArg _ (yR 16)
theorem jl (m k:Nat):(m:Int)/2^Int.toNat (k:Int)=((m/2^k:Nat):Int):=by
 rw[Int.toNat_natCast]
 simp
theorem Bp {a:Nat}(h:a<65536):IntKind.u16.wrap (a:Int)=(a:Int):=bq.wrap (by simp only[bq];omega)
theorem Bq (a:Nat):IntKind.u16.wrap (a:Int)=((a%65536:Nat):Int):=by
 rw[IntKind.wrap_u16]
 omega
theorem A5 {l:List UInt8}{i:Nat}(hi:i<l.length):cG true (l.take (i+1))=cG true (l.take i)+b1 l i*(if i%2=0 then 256 else 1):=by
 rw[List.take_succ_eq_append_getElem hi,Rt,List.length_take,Nat.min_eq_left (Nat.le_of_lt hi)]
 congr 2
 unfold b1
 rw[List.getD_eq_getElem?_getD,List.getElem?_eq_getElem hi,Option.getD_some]
theorem Ru {l:List UInt8}{i n:Nat}(hi:i<l.length)(hl:l.length≤1000000)(hn:n<4294967296):IntKind.u64.wrap (((n+cG true (l.take i):Nat):Int)+IntKind.u64.wrap ((b1 l i:Int)*2^(8*(1-(i:Int)%2)).toNat))=((n+cG true (l.take (i+1)):Nat):Int):=by
 have hb:=cZ l i
 have hr:=wA true (l.take i)
 have rH:65280*(l.take i).length≤65280*1000000:=Nat.mul_le_mul_left _ (by rw[List.length_take];omega)
 rw[A5 hi]
 by_cases h:i%2=0
 ·rw[if_pos h,show(8*(1-(i:Int)%2)).toNat=8 by omega,bq.wrap (k:= .u64) (z:=(b1 l i:Int)*2^8) (by simp only[bq];omega),bq.wrap (k:= .u64) (by simp only[bq];omega)]
  omega
 ·rw[if_neg h,show(8*(1-(i:Int)%2)).toNat=0 by omega,bq.wrap (k:= .u64) (z:=(b1 l i:Int)*2^0) (by simp only[bq];omega),bq.wrap (k:= .u64) (by simp only[bq];omega)]
  omega
theorem DG {n:Nat}(hn:n<18446744073709551616):Spec Tryz.prog 284 [.int .u64 (n:Int)] W F (fun _:Unit=> .int .u32 (c3 n:Int)) (fun _=>F):=by
 refine Spec.of Tryz.func284 rfl Tryz.ntmps284 rfl ?_
 repeat first|refine aa ?_ |intro
 refine ed (γ:=Nat) (fun m=>m<18446744073709551616∧c3 m=c3 n) (fun m=>[(0,.int .u64 (m:Int))]) (fun _=>F) (fun m=>m) n ⟨hn,rfl⟩ ⟨rfl,trivial⟩ (U.sat (U.refl _)) ?_
 intro m ⟨h1,h2⟩
 by_cases h:m≤65535
 ·rw[vi h]at h2
  repeat first|refine aa ?_ |intro
  exact ae (ar rfl rfl () (by rw[h2]) (U.sat (ab)))
 ·repeat first|refine aa ?_ |intro
  rw[Su h1,show(m:Int)/2^Int.toNat 16=((m/65536:Nat):Int)from jl m 16,bq.wrap (k:= .u64) (z:=((m/65536:Nat):Int)+((m%65536:Nat):Int)) (by simp only[bq];omega)]
  exact db (m/65536+m%65536) ⟨by omega,by rw[DF (by omega),h2]⟩ (by omega) ⟨rfl,trivial⟩ (U.sat (ab))
theorem zc {n:Nat}(hn:n<4294967296):Spec Tryz.prog 233 [.int .u32 (n:Int)] W F (fun _:Unit=> .int .u16 ((65535-c3 n:Nat):Int)) (fun _=>F):=by
 refine Spec.of Tryz.func233 rfl Tryz.ntmps233 rfl ?_
 repeat first|refine aa ?_ |intro
 refine af rfl (DG (by omega)) ?_
 intro _
 have hf:=qn n
 repeat first|refine aa ?_ |intro
 exact ae (ar rfl rfl () (by rw[show(65535:Int)-(c3 n:Int)=((65535-c3 n:Nat):Int)by omega]) (U.sat (ab)))
theorem pX {s bB now:Nat}(h1:s<65536)(h2:bB<65536)(h3:now<65536):Spec Tryz.prog 300 [.int .u16 (s:Int),.int .u16 (bB:Int),.int .u16 (now:Int)] W F (fun _:Unit=> .int .u16 (lY s bB now:Int)) (fun _=>F):=by
 refine Spec.of Tryz.func300 rfl Tryz.ntmps300 rfl ?_
 repeat first|refine aa ?_ |intro
 rw[show(65535:Int)-(s:Int)+(65535-(bB:Int))+(now:Int)=((65535-s+(65535-bB)+now:Nat):Int)by omega]
 refine af rfl (zc (n:=65535-s+(65535-bB)+now) (by omega)) ?_
 intro _
 repeat first|refine aa ?_ |intro
 exact ae (ar rfl rfl () rfl (U.sat (ab)))
theorem JC {s bB now:Nat}(h1:s<65536)(h2:bB<4294967296)(h3:now<4294967296):Spec Tryz.prog 312 [.int .u16 (s:Int),.int .u32 (bB:Int),.int .u32 (now:Int)] W F (fun _:Unit=> .int .u16 (gA s bB now:Int)) (fun _=>F):=by
 refine Spec.of Tryz.func312 rfl Tryz.ntmps312 rfl ?_
 repeat first|refine aa ?_ |intro
 rw[show(bB:Int)/2^Int.toNat 16=((bB/65536:Nat):Int)from jl bB 16,show(now:Int)/2^Int.toNat 16=((now/65536:Nat):Int)from jl now 16]
 rw[Bp (a:=bB/65536) (by omega),Bp (a:=now/65536) (by omega)]
 refine af rfl (pX h1 (by omega) (by omega)) ?_
 intro _
 have hf:=qm s (bB/65536) (now/65536)
 repeat first|refine aa ?_ |intro
 rw[Bq bB,Bq now]
 refine af rfl (pX hf (by omega) (by omega)) ?_
 intro _
 repeat first|refine aa ?_ |intro
 exact ae (ar rfl rfl () rfl (U.sat (ab)))
theorem xH {n:Nat}(hn:n<4294967296)(p:Option Addr)(c:Nat)(l:List UInt8)(hl:l.length≤1000000)[Src W F p l.length (aD l)]:Spec Tryz.prog 234 [.int .u32 (n:Int),.slice p l.length c] W F (fun _:Unit=> .int .u32 (c3 (n+cG true l):Int)) (fun _=>F):=by
 refine Spec.of Tryz.func234 rfl Tryz.ntmps234 rfl ?_
 repeat first|refine aa ?_ |intro
 refine ed (γ:=Nat) (fun i=>i≤l.length) (fun i=>[(0,.int .u32 (n:Int)),(5,.int .u64 ((n+cG true (l.take i):Nat):Int)),(11,.slice p l.length c),(12,.int .i64 (l.length:Int)),(13,.int .i64 (i:Int))]) (fun _=>F) (fun i=>l.length-i) 0 (Nat.zero_le _) ⟨rfl,rfl,rfl,rfl,rfl,trivial⟩ (U.sat (U.refl _)) ?_
 intro i h1
 by_cases hi:i<l.length
 ·have hb:(l.getD i 0).toNat<256:=cZ l i
  repeat first|refine aa ?_ |intro
  refine db (i+1) hi (by omega) ⟨rfl,?_,rfl,rfl,rfl,trivial⟩ (U.sat (ab))
  rw[←Ru hi hl hn]
  rfl
 ·have e:i=l.length:=by omega
  subst e
  rw[List.take_length]
  have hr:=wA true l
  have rH:65280*l.length≤65280*1000000:=Nat.mul_le_mul_left _ hl
  repeat first|refine aa ?_ |intro
  refine af rfl (DG (by omega)) ?_
  intro _
  repeat first|refine aa ?_ |intro
  exact ae (ar rfl rfl () rfl (U.sat (ab)))
theorem xK (p:Option Addr)(c:Nat)(l:List UInt8)(hl:l.length≤1000000)[Src W F p l.length (aD l)]:Spec Tryz.prog 187 [.slice p l.length c] W F (fun _:Unit=> .int .u16 (dX l:Int)) (fun _=>F):=by
 refine Spec.of Tryz.func187 rfl Tryz.ntmps187 rfl ?_
 repeat first|refine aa ?_ |intro
 refine af rfl (xH (n:=0) (by decide) p c l hl) ?_
 intro _
 have hf:=qn (0+cG true l)
 refine af rfl (zc (n:=c3 (0+cG true l)) (by omega)) ?_
 intro _
 repeat first|refine aa ?_ |intro
 refine ae (ar rfl rfl () ?_ (U.sat (ab)))
 rw[vi hf,Nat.zero_add]
 rfl
theorem A3 {n:Nat}(hn:n<9223372036854775808):Spec Tryz.prog 178 [.int .i64 (n:Int)] W F (fun _:Unit=> .int .i64 (c3 n:Int)) (fun _=>F):=by
 refine Spec.of Tryz.func178 rfl Tryz.ntmps178 rfl ?_
 repeat first|refine aa ?_ |intro
 refine ed (γ:=Nat) (fun m=>m<9223372036854775808∧c3 m=c3 n) (fun m=>[(0,.int .i64 (m:Int))]) (fun _=>F) (fun m=>m) n ⟨hn,rfl⟩ ⟨rfl,trivial⟩ (U.sat (U.refl _)) ?_
 intro m ⟨h1,h2⟩
 by_cases h:m≤65535
 ·rw[vi h]at h2
  repeat first|refine aa ?_ |intro
  exact ae (ar rfl rfl () (by rw[h2]) (U.sat (ab)))
 ·repeat first|refine aa ?_ |intro
  exact db (m/65536+m%65536) ⟨by omega,by rw[DF (by omega),h2]⟩ (by omega) ⟨rfl,trivial⟩ (U.sat (ab))
theorem Rs {n:Nat}(hn:n≤65535)(p:Option Addr)(c:Nat)(l:List UInt8)(hl:l.length≤1000000)[Src W F p l.length (aD l)]:Spec Tryz.prog 128 [.int .i64 (n:Int),.slice p l.length c] W F (fun _:Unit=> .int .i64 (c3 (n+cG true l):Int)) (fun _=>F):=by
 refine Spec.of Tryz.func128 rfl Tryz.ntmps128 rfl ?_
 repeat first|refine aa ?_ |intro
 refine af rfl (A3 (n:=n) (by omega)) ?_
 intro _
 repeat first|refine aa ?_ |intro
 refine ed (γ:=Nat) (fun i=>i%2=0∧i≤l.length+1) (fun i=>[(0,.int .i64 (c3 (n+cG true (l.take i)):Int)),(1,.slice p l.length c),(5,.int .i64 (i:Int))]) (fun _=>F) (fun i=>l.length-i) 0 ⟨rfl,Nat.zero_le _⟩ ⟨rfl,rfl,rfl,trivial⟩ (U.sat (U.refl _)) ?_
 intro i ⟨h0,h1⟩
 have hf:=qn (n+cG true (l.take i))
 by_cases hi:i<l.length
 ·have hb:(l.getD i 0).toNat<256:=cZ l i
  have r1:=A5 hi
  rw[if_pos h0]at r1
  by_cases h2:i+1<l.length
  ·have vr:(l.getD (i+1) 0).toNat<256:=cZ l (i+1)
   have r2:=A5 h2
   rw[if_neg (by omega),r1]at r2
   repeat first|refine aa ?_ |intro
   refine af rfl (A3 (n:=c3 (n+cG true (l.take i))+((l.getD i 0).toNat*256+(l.getD (i+1) 0).toNat)) (by omega)) ?_
   intro _
   rw[zo]
   repeat first|refine aa ?_ |intro
   refine db (i+2) ⟨by omega,by omega⟩ (by omega) ⟨?_,rfl,rfl,trivial⟩ (U.sat (ab))
   rw[r2,show n+(cG true (l.take i)+b1 l i*256+b1 l (i+1)*1)=n+cG true (l.take i)+((l.getD i 0).toNat*256+(l.getD (i+1) 0).toNat)by unfold b1;omega]
   rfl
  ·have e:l.take (i+2)=l.take (i+1):=by rw[List.take_of_length_le (by omega),List.take_of_length_le (by omega)]
   repeat first|refine aa ?_ |intro
   refine af rfl (A3 (n:=c3 (n+cG true (l.take i))+(l.getD i 0).toNat*256) (by omega)) ?_
   intro _
   rw[zo]
   repeat first|refine aa ?_ |intro
   refine db (i+2) ⟨by omega,by omega⟩ (by omega) ⟨?_,rfl,rfl,trivial⟩ (U.sat (ab))
   rw[e,r1,show n+(cG true (l.take i)+b1 l i*256)=n+cG true (l.take i)+(l.getD i 0).toNat*256 by unfold b1;omega]
   rfl
 ·rw[List.take_of_length_le (by omega)]
  repeat first|refine aa ?_ |intro
  exact ae (ar rfl rfl () rfl (U.sat (ab)))
theorem wy (p:Option Addr)(c:Nat)(l:List UInt8)(hl:l.length≤1000000)[Src W F p l.length (aD l)]:Spec Tryz.prog 85 [.slice p l.length c] W F (fun _:Unit=> .int .u16 (dX l:Int)) (fun _=>F):=by
 refine Spec.of Tryz.func85 rfl Tryz.ntmps85 rfl ?_
 repeat first|refine aa ?_ |intro
 refine af rfl (Rs (n:=0) (by decide) p c l hl) ?_
 intro _
 have hf:=qn (0+cG true l)
 repeat first|refine aa ?_ |intro
 refine ae (ar rfl rfl () ?_ (U.sat (ab)))
 unfold dX
 rw[Nat.zero_add]at hf ⊢
 congr 1
 omega
end
section
open Go.RowKit
def gP (l:List UInt8)(i j:Nat):List UInt8:=(l.take j).drop i
theorem mI (l:List UInt8){i j:Nat}(h:j≤l.length):(gP l i j).length=j-i:=by
 unfold gP
 rw[List.length_drop,List.length_take,Nat.min_eq_left h]
theorem CG (l:List UInt8){i j k:Nat}(h:i+k<j):b1 (gP l i j) k=b1 l (i+k):=by
 unfold b1 gP
 rw[List.getD_eq_getElem?_getD,List.getD_eq_getElem?_getD,List.getElem?_drop,List.getElem?_take,if_pos h]
theorem uo (l:List UInt8){i j k:Nat}(h:i+k+1<j):w2 (gP l i j) k=w2 l (i+k):=by
 unfold w2
 rw[CG l (by omega),CG l (by omega),Nat.add_assoc]
theorem Hv (l:List UInt8){i j k:Nat}(h:i+k+3<j):w4 (gP l i j) k=w4 l (i+k):=by
 unfold w4
 rw[uo l (by omega),uo l (by omega),Nat.add_assoc]
section
variable {W:World} {H:SL} {p:Option Addr} {c i j:Nat} {l:List UInt8}
theorem Src.cut (s:Src W H p l.length (aD l))(r:Room W H p l.length c)(h:i≤j)(hj:j≤l.length):Src W H (de p i c 1) (gP l i j).length (aD (gP l i j)) where
 cells:=fun w hs k v hv=>by
  have hl:=r.le w hs
  have hk:k<j-i:=by
   have:=(List.getElem?_eq_some_iff.1 hv).1
   rwa[mF,mI l hj]at this
  unfold de
  rw[if_neg (by omega),QT,Nat.mul_one]
  refine s.cells w hs (i+k) v ?_
  rw[←hv]
  unfold aD gP
  rw[List.getElem?_map,List.getElem?_map,List.getElem?_drop,List.getElem?_take,if_pos (by omega)]
 nn:=fun w hs h0=>by
  have hl:=r.le w hs
  rw[mI l hj]at h0
  have:=s.nn w hs (by omega)
  unfold de
  rw[if_neg (by omega)]
  cases p with
  |none=>exact absurd rfl this
  |some a=>simp[off]
theorem Room.cut (r:Room W H p l.length c)(hj:j≤l.length):Room W H (de p i c 1) (gP l i j).length (c-i):=⟨fun w hs=>by
 have:=r.le w hs
 rw[mI l hj]
 omega⟩
theorem Src.pre (s:Src W H p l.length (aD l))(hj:j≤l.length):Src W H p (l.take j).length (aD (l.take j)) where
 cells:=fun w hs k v hv=>by
  have hk:k<j:=by
   have:=(List.getElem?_eq_some_iff.1 hv).1
   rw[mF,List.length_take]at this
   omega
  refine s.cells w hs k v ?_
  rw[←hv]
  unfold aD
  rw[List.getElem?_map,List.getElem?_map,List.getElem?_take,if_pos hk]
 nn:=fun w hs h0=>s.nn w hs (by rw[List.length_take]at h0;omega)
end
instance (priority:=300) Room.there (W:World)(Q R:SL)(p:Option Addr)(n c:Nat)[r:Room W R p n c]:Room W (Q*R) p n c:=⟨fun w hs=>r.le w hs.drop⟩
instance (priority:=3000) fp.b1 (l:List UInt8)(i:Nat):fp (aD l) i 1 0 (.int .u8 ((Go.Proofs.YtimekbpkejemoaaGreatDoor.b1 l i:Nat):Int)) (i<l.length):=⟨(fp.bytes l i).get⟩
def lA:List UInt8→Nat→Nat
 |_,0=>0
 |l,n+1=>lA l n*256+b1 l n
theorem AR (l:List UInt8):∀n,lA l n<256^n
 |0=>by simp[lA]
 |n+1=>by
  have h1:=AR l n
  have h2:=cZ l n
  rw[lA,Nat.pow_succ]
  omega
theorem AQ (l:List UInt8):lA l 2=w2 l 0:=by simp[lA,w2]
theorem Gc (l:List UInt8):lA l 4=w4 l 0:=by
 simp only[lA,w4,w2,Nat.zero_add,Nat.reduceAdd]
 omega
end
section
open Go.RowKit
theorem Dc (l:List UInt8)(i:Nat):gP l i l.length=l.drop i:=by unfold gP;rw[List.take_length]
theorem sM (l:List UInt8)(i k:Nat):b1 (l.drop i) k=b1 l (i+k):=by
 unfold b1
 rw[List.getD_eq_getElem?_getD,List.getD_eq_getElem?_getD,List.getElem?_drop]
theorem mZ (l:List UInt8)(i k:Nat):w2 (l.drop i) k=w2 l (i+k):=by
 unfold w2
 rw[sM,sM,Nat.add_assoc]
section
variable {W:World} {H:SL} {p:Option Addr} {c i:Nat} {l:List UInt8}
theorem Src.low (s:Src W H p l.length (aD l))(r:Room W H p l.length c)(h:i≤l.length):Src W H (de p i c 1) (l.drop i).length (aD (l.drop i)):=by
 have:=Src.cut s r h (Nat.le_refl _)
 rwa[Dc]at this
theorem Room.low (r:Room W H p l.length c):Room W H (de p i c 1) (l.drop i).length (c-i):=by
 have:=Room.cut (i:=i) r (Nat.le_refl _)
 rwa[Dc]at this
end
def dj (n:Nat):Nat→List UInt8
 |0=>[]
 |k+1=>u8 (n/256^k)::dj n k
theorem nu (n:Nat):∀k,(dj n k).length=k
 |0=>rfl
 |k+1=>by rw[dj,List.length_cons,nu n k]
theorem KL (n:Nat):dj n 2=jS n:=by simp[dj,jS]
theorem CQ (n:Nat):dj n 4=ka n:=by simp[dj,ka]
theorem Sx {n i:Nat}:IntKind.u8.wrap ((n:Int)/2^(8*(i:Int)).toNat)=(((u8 (n/256^i)).toNat:Nat):Int):=by
 rw[show(8*(i:Int)).toNat=8*i by omega,pM,IntKind.wrap_u8]
 have:(n:Int)/2^(8*i)=((n/256^i:Nat):Int):=by
  rw[show(256:Nat)^i=2^(8*i)by rw[Nat.pow_mul]]
  simp
 rw[this]
 omega
theorem Lc (l:List UInt8)(b:UInt8):aD (l++[b])=aD l++[.int .u8 ((b.toNat:Nat):Int)]:=by simp[aD]
theorem Lb (l m:List UInt8):aD (l++m)=aD l++aD m:=by simp[aD]
theorem Gg {a b:Nat}(ha:a<256)(hb:b<256):bits .or .u16 (IntKind.u16.wrap ((a:Int)*2^Int.toNat 8)) (b:Int)=((a*256+b:Nat):Int):=by
 rw[show(a:Int)*2^Int.toNat 8=((a*2^8:Nat):Int)by rw[show Int.toNat 8=8 from rfl];omega,bq.wrap (k:= .u16) (z:=((a*2^8:Nat):Int)) (by simp only[bq];omega),u16_or_nat _ _ (by omega) (by omega)]
 rw[Nat.mul_comm,←Nat.two_pow_add_eq_or_of_lt (show b<2^8 by omega) a]
def ahead (src dst proto n:Nat):List UInt8:=dj src 4++dj dst 4++[0,u8 proto]++dj n 2
theorem CB (src dst proto n:Nat):(ahead src dst proto n).length=12:=by simp[ahead,nu]
theorem Rb (src dst proto:Nat)(l:List UInt8):ji src dst proto l=65535-c3 (c3 (c3 (0+cG true (ahead src dst proto l.length))+cG true l)):=by
 unfold ji dX
 rw[←CQ,←CQ,←KL,Nat.zero_add]
 show 65535-c3 (cG true (ahead src dst proto l.length++l))=_
 rw[wz,CB,if_pos (by decide),zo,vi (qn _)]
theorem uc (src dst proto:Nat)(l:List UInt8):ji src dst proto l<65536:=qi _
end
section
open Go.RowKit
set_option maxRecDepth 10000
attribute [local irreducible] EK EX ER EN EL ES EG av aV aY
variable {W:World} {F:SL} {X:Cx} {k:List KI} {σ:Env}
theorem RZ {a n:Nat}(ha:a<16777216)(hn:n<256):bits BinOp.or IntKind.u32 (IntKind.u32.wrap ((a:Int)*2^Int.toNat 8)) (n:Int)=((a*256+n:Nat):Int):=by
 rw[show(a:Int)*2^Int.toNat 8=((a*2^8:Nat):Int)by rw[show Int.toNat 8=8 from rfl];omega,bq.wrap (k:= .u32) (z:=((a*2^8:Nat):Int)) (by simp only[bq];omega),u32_or_nat _ _ (by omega) (by omega)]
 rw[Nat.mul_comm,←Nat.two_pow_add_eq_or_of_lt (show n<2^8 by omega) a]
theorem Ex (p:Option Addr)(c:Nat)(l:List UInt8)(hl:l.length≤4)[Src W F p l.length (aD l)]:Spec Tryz.prog 232 [.slice p l.length c] W F (fun _:Unit=> .int .u32 (lA l l.length:Int)) (fun _=>F):=by
 refine Spec.of Tryz.func232 rfl Tryz.ntmps232 rfl ?_
 repeat first|refine aa ?_ |intro
 refine ed (γ:=Nat) (fun i=>i≤l.length) (fun i=>[(3,.int .u32 (lA l i:Int)),(6,.slice p l.length c),(7,.int .i64 (l.length:Int)),(8,.int .i64 (i:Int))]) (fun _=>F) (fun i=>l.length-i) 0 (Nat.zero_le _) ⟨rfl,rfl,rfl,rfl,trivial⟩ (U.sat (U.refl _)) ?_
 intro i h1
 have hn:=AR l i
 by_cases hi:i<l.length
 ·have hb:=cZ l i
  have h3:256^i≤256^3:=Nat.pow_le_pow_right (by decide) (by omega)
  repeat first|refine aa ?_ |intro
  rw[RZ (by omega) hb]
  exact db (i+1) hi (by omega) ⟨rfl,rfl,rfl,rfl,trivial⟩ (U.sat (aS))
 ·have e:i=l.length:=by omega
  subst e
  repeat first|refine aa ?_ |intro
  exact ae (ar rfl rfl () rfl (U.sat (aS)))
theorem A4 (p:Option Addr)(c:Nat)(l:List UInt8)(hl:l.length≤4)[Src W F p l.length (aD l)]:Spec Tryz.prog 84 [.slice p l.length c] W F (fun _:Unit=> .int .i64 (lA l l.length:Int)) (fun _=>F):=by
 refine Spec.of Tryz.func84 rfl Tryz.ntmps84 rfl ?_
 repeat first|refine aa ?_ |intro
 refine ed (γ:=Nat) (fun i=>i≤l.length) (fun i=>[(3,.int .i64 (lA l i:Int)),(0,.slice p l.length c),(4,.int .i64 (i:Int))]) (fun _=>F) (fun i=>l.length-i) 0 (Nat.zero_le _) ⟨rfl,rfl,rfl,trivial⟩ (U.sat (U.refl _)) ?_
 intro i h1
 have hn:=AR l i
 by_cases hi:i<l.length
 ·have hb:=cZ l i
  have h3:256^i≤256^3:=Nat.pow_le_pow_right (by decide) (by omega)
  repeat first|refine aa ?_ |intro
  exact db (i+1) hi (by omega) ⟨rfl,rfl,rfl,trivial⟩ (U.sat (aS))
 ·have e:i=l.length:=by omega
  subst e
  repeat first|refine aa ?_ |intro
  exact ae (ar rfl rfl () rfl (U.sat (aS)))
section
variable {p:Option Addr} {c i j:Nat} {l:List UInt8}
theorem Ac (s:Src W F p l.length (aD l))(r:Room W F p l.length c)(hj:j=i+2)(h:j≤l.length)(n m:Nat)(hn:n=j-i):Spec Tryz.prog 232 [.slice (de p i c 1) n m] W F (fun _:Unit=> .int .u32 (w2 l i:Int)) (fun _=>F):=by
 haveI:=Src.cut s r (i:=i) (by omega) h
 have hl:=mI l (i:=i) h
 have:=Ex (W:=W) (F:=F) (de p i c 1) m (gP l i j) (by omega)
 rw[hl,show j-i=2 by omega,AQ,uo l (by omega)]at this
 rw[show n=2 by omega]
 exact this
theorem Ew (s:Src W F p l.length (aD l))(r:Room W F p l.length c)(hj:j=i+4)(h:j≤l.length)(n m:Nat)(hn:n=j-i):Spec Tryz.prog 232 [.slice (de p i c 1) n m] W F (fun _:Unit=> .int .u32 (w4 l i:Int)) (fun _=>F):=by
 haveI:=Src.cut s r (i:=i) (by omega) h
 have hl:=mI l (i:=i) h
 have:=Ex (W:=W) (F:=F) (de p i c 1) m (gP l i j) (by omega)
 rw[hl,show j-i=4 by omega,Gc,Hv l (by omega)]at this
 rw[show n=4 by omega]
 exact this
theorem mh (s:Src W F p l.length (aD l))(r:Room W F p l.length c)(hj:j=i+2)(h:j≤l.length)(n m:Nat)(hn:n=j-i):Spec Tryz.prog 84 [.slice (de p i c 1) n m] W F (fun _:Unit=> .int .i64 (w2 l i:Int)) (fun _=>F):=by
 haveI:=Src.cut s r (i:=i) (by omega) h
 have hl:=mI l (i:=i) h
 have:=A4 (W:=W) (F:=F) (de p i c 1) m (gP l i j) (by omega)
 rw[hl,show j-i=2 by omega,AQ,uo l (by omega)]at this
 rw[show n=2 by omega]
 exact this
theorem GJ (s:Src W F p l.length (aD l))(r:Room W F p l.length c)(hj:j=i+4)(h:j≤l.length)(n m:Nat)(hn:n=j-i):Spec Tryz.prog 84 [.slice (de p i c 1) n m] W F (fun _:Unit=> .int .i64 (w4 l i:Int)) (fun _=>F):=by
 haveI:=Src.cut s r (i:=i) (by omega) h
 have hl:=mI l (i:=i) h
 have:=A4 (W:=W) (F:=F) (de p i c 1) m (gP l i j) (by omega)
 rw[hl,show j-i=4 by omega,Gc,Hv l (by omega)]at this
 rw[show n=4 by omega]
 exact this
theorem St {n:Nat}(h:n<4294967296):bits .and .u32 (n:Int) 16383=((n%16384:Nat):Int):=by
 rw[show(16383:Int)=((16383:Nat):Int)from rfl,u32_and_nat n 16383 h (by decide)]
 exact congrArg _ (yR 14)
theorem Oy {n:Nat}(h:n<4294967296):bits .and .i64 (n:Int) 16383=((n%16384:Nat):Int):=Ax n 14 (by omega) (by decide)
theorem Sw {n:Nat}(h:n<256):bits .and .u8 (n:Int) 15=((n%16:Nat):Int):=by
 rw[show(15:Int)=((15:Nat):Int)from rfl,u8_and_nat n 15 h (by decide)]
 exact congrArg _ (yR 4)
def na (l:List UInt8):Nat:=if w2 l 6%16384≠0 then 5 else 0
abbrev pD (h:ee)(e:Nat):Value:= .tuple #[.agg (cr h).toArray,.int .i64 (e:Int)]
theorem JU (s:Src W F p l.length (aD l))(hj:j≤l.length)(h6:j≤1000000):Spec Tryz.prog 187 [.slice p j c] W F (fun _:Unit=> .int .u16 (dX (l.take j):Int)) (fun _=>F):=by
 haveI:=Src.pre s hj
 have gn:(l.take j).length=j:=by rw[List.length_take,Nat.min_eq_left hj]
 have:=xK (W:=W) (F:=F) p c (l.take j) (by omega)
 rwa[gn]at this
theorem Rq (s:Src W F p l.length (aD l))(hj:j≤l.length)(h6:j≤1000000):Spec Tryz.prog 85 [.slice p j c] W F (fun _:Unit=> .int .u16 (dX (l.take j):Int)) (fun _=>F):=by
 haveI:=Src.pre s hj
 have gn:(l.take j).length=j:=by rw[List.length_take,Nat.min_eq_left hj]
 have:=wy (W:=W) (F:=F) p c (l.take j) (by omega)
 rwa[gn]at this
theorem HE [s:Src W F p l.length (aD l)][r:Room W F p l.length c](h:20≤l.length)(hd:ee):Spec Tryz.prog 188 [.agg (cr hd).toArray,.slice p l.length c] W F (fun _:Unit=>pD (if na l=0 then hd else dR) (na l)) (fun _=>F):=by
 refine Spec.of Tryz.func188 rfl Tryz.ntmps188 rfl ?_
 have hw:=c9 l 6
 repeat first|refine aa ?_ |intro
 refine af rfl (Ac (j:=8) inferInstance inferInstance rfl (by omega) _ _ rfl) ?_
 intro _
 repeat first|refine aa ?_ |intro
 rw[St (by omega)]
 by_cases h6:w2 l 6%16384=0
 ·rw[show na l=0 from if_neg (by omega),if_pos rfl,decide_eq_true (show((w2 l 6%16384:Nat):Int)=0 by omega)]
  repeat first|refine aa ?_ |intro
  exact ae (aZ (rs:=[.cell 4 132,.tmp 5]) (v:= .agg (cr hd).toArray) (u:= .int .i64 ((0:Nat):Int)) (vs:=[]) rfl ⟨⟨_,rfl,aT.agg rfl⟩,rfl,trivial⟩ () rfl (U.sat (aS)))
 ·rw[show na l=5 from if_pos h6,if_neg (by decide),decide_eq_false (show ¬((w2 l 6%16384:Nat):Int)=0 by omega)]
  repeat first|refine aa ?_ |intro
  exact ae (aZ (rs:=[.cell 4 132,.tmp 5]) (v:= .agg (cr dR).toArray) (u:= .int .i64 ((5:Nat):Int)) (vs:=[]) rfl ⟨⟨_,rfl,aT.agg rfl⟩,rfl,trivial⟩ () rfl (U.sat (aS)))
def fE (most:Nat)(l:List UInt8):Nat:=
 if l.length<20 then 2
 else if b1 l 0/16≠4∨b1 l 0%16*4<20 then 3
 else if l.length<b1 l 0%16*4 then 2
 else if w2 l 2<b1 l 0%16*4∨w2 l 2>most then 3
 else 0
theorem G9 (most:Nat)(hm:most≤65535)(hl:l.length≤140737488355328)[s:Src W F p l.length (aD l)][r:Room W F p l.length c]:Spec Tryz.prog 186 [.slice p l.length c,.int .i64 (most:Int)] W F (fun _:Unit=>pD (if fE most l=0 then aW l else dR) (fE most l)) (fun _=>F):=by
 refine Spec.of Tryz.func186 rfl Tryz.ntmps186 rfl ?_
 by_cases h1:l.length<20
 ·rw[show fE most l=2 from if_pos h1,if_neg (by decide)]
  repeat first|refine aa ?_ |intro
  exact ae (aZ (rs:=[.cell 4 132,.tmp 5]) (v:= .agg (cr dR).toArray) (u:= .int .i64 ((2:Nat):Int)) (vs:=[]) rfl ⟨⟨_,rfl,aT.agg rfl⟩,rfl,trivial⟩ () rfl (U.sat (aS)))
 have hb:=cZ l 0
 have hw:=c9 l 2
 have e4:IntKind.i64.wrap (4*IntKind.i64.wrap (bits BinOp.and IntKind.u8 (b1 l 0:Int) 15))=((b1 l 0%16*4:Nat):Int):=by
  rw[Sw hb,bq.wrap (k:= .i64) (z:=((b1 l 0%16:Nat):Int)) (by simp only[bq];omega),bq.wrap (k:= .i64) (by simp only[bq];omega)]
  omega
 repeat first|refine aa ?_ |intro
 refine mq (γ:=Option Addr×Option Addr) (fun _=>True) (fun x=>[(0,.slice p l.length c),(1,.int .i64 (most:Int)),(4,.pointer x.1),(6,.pointer x.2),(5,.int .i64 0)])
  (fun x=>Obj x.2 132 [.int .i64 ((b1 l 0%16*4:Nat):Int),.int .i64 (w2 l 2:Int),.int .i64 0,.int .i64 0,.int .u32 0,.int .u32 0]*(Obj x.1 132 (cr dR)*F)) ?_ ?_
 ·rename_i x4
  refine aG 12 F rfl rfl rfl ?_
  repeat(first|refine ak ?_ |refine eD ?_)
  refine oE (i:=8) (j:=11) (pS rfl rfl rfl rfl (Ac (j:=4) inferInstance inferInstance rfl (by omega) _ _ rfl) (fun _=>aS) ?_) (pT rfl rfl (nm rfl) rfl (fun _=>aS) ?_)
  ·intro _
   repeat(first|refine ak ?_ |refine eD ?_)
   repeat(first|refine bJ ?_ |(refine bN ?_;intro)|refine bK ?_ |refine bL ?_ |refine bM ?_ |refine eD ?_)
   rename_i x
   rw[e4]
   exact fv (x4,x) trivial ⟨rfl,rfl,rfl,rfl,rfl,trivial⟩ (U.sat (aS))
  ·intro x
   refine aC rfl rfl rfl rfl rfl (Ac (j:=4) inferInstance inferInstance rfl (by omega) _ _ rfl) (fun _=>aS) ?_
   intro _
   repeat(first|refine ak ?_ |refine eD ?_)
   repeat(first|refine bJ ?_ |(refine bN ?_;intro)|refine bK ?_ |refine bL ?_ |refine bM ?_ |refine eD ?_)
   rw[e4]
   exact fv (x4,x) trivial ⟨rfl,rfl,rfl,rfl,rfl,trivial⟩ (U.sat (aS))
 intro ⟨x4,x⟩ _;dsimp only
 repeat first|refine aa ?_ |intro
 rw[show(b1 l 0:Int)/2^Int.toNat 4=((b1 l 0/16:Nat):Int)from jl _ 4]
 by_cases h2:b1 l 0/16≠4∨b1 l 0%16*4<20
 ·rw[show fE most l=3 by unfold fE;rw[if_neg h1,if_pos h2],if_neg (by decide)]
  refine BK (U.sat (U.refl _)) ?_
  by_cases DV:b1 l 0/16=4
  ·rw[decide_eq_true (show((b1 l 0/16:Nat):Int)=4 by omega)]
   repeat first|refine aa ?_ |intro
   exact ae (aZ (rs:=[.cell 4 132,.tmp 5]) (v:= .agg (cr dR).toArray) (u:= .int .i64 ((3:Nat):Int)) (vs:=[]) rfl ⟨⟨_,rfl,aT.agg rfl⟩,rfl,trivial⟩ () rfl (U.sat (aS)))
  ·rw[decide_eq_false (show ¬((b1 l 0/16:Nat):Int)=4 by omega)]
   repeat first|refine aa ?_ |intro
   exact ae (aZ (rs:=[.cell 4 132,.tmp 5]) (v:= .agg (cr dR).toArray) (u:= .int .i64 ((3:Nat):Int)) (vs:=[]) rfl ⟨⟨_,rfl,aT.agg rfl⟩,rfl,trivial⟩ () rfl (U.sat (aS)))
 rw[decide_eq_true (show((b1 l 0/16:Nat):Int)=4 by omega)]
 by_cases h3:l.length<b1 l 0%16*4
 ·rw[show fE most l=2 by unfold fE;rw[if_neg h1,if_neg h2,if_pos h3],if_neg (by decide)]
  repeat first|refine aa ?_ |intro
  exact ae (aZ (rs:=[.cell 4 132,.tmp 5]) (v:= .agg (cr dR).toArray) (u:= .int .i64 ((2:Nat):Int)) (vs:=[]) rfl ⟨⟨_,rfl,aT.agg rfl⟩,rfl,trivial⟩ () rfl (U.sat (aS)))
 by_cases h4:w2 l 2<b1 l 0%16*4
 ·rw[show fE most l=3 by unfold fE;rw[if_neg h1,if_neg h2,if_neg h3,if_pos (.inl h4)],if_neg (by decide)]
  repeat first|refine aa ?_ |intro
  exact ae (aZ (rs:=[.cell 4 132,.tmp 5]) (v:= .agg (cr dR).toArray) (u:= .int .i64 ((3:Nat):Int)) (vs:=[]) rfl ⟨⟨_,rfl,aT.agg rfl⟩,rfl,trivial⟩ () rfl (U.sat (aS)))
 by_cases h5:w2 l 2>most
 ·rw[show fE most l=3 by unfold fE;rw[if_neg h1,if_neg h2,if_neg h3,if_pos (.inr h5)],if_neg (by decide)]
  repeat first|refine aa ?_ |intro
  exact ae (aZ (rs:=[.cell 4 132,.tmp 5]) (v:= .agg (cr dR).toArray) (u:= .int .i64 ((3:Nat):Int)) (vs:=[]) rfl ⟨⟨_,rfl,aT.agg rfl⟩,rfl,trivial⟩ () rfl (U.sat (aS)))
 rw[show fE most l=0 by unfold fE;rw[if_neg h1,if_neg h2,if_neg h3,if_neg (by omega)],if_pos rfl]
 have Ni:=cZ l 8
 have Nj:=cZ l 9
 repeat first|refine aa ?_ |intro
 refine aG 11 (gu x 132*F) rfl rfl rfl ?_
 repeat(first|refine ak ?_ |refine eD ?_)
 repeat(first|refine bJ ?_ |(refine bN ?_;intro)|refine bK ?_ |refine bL ?_ |refine bM ?_ |refine eD ?_)
 repeat first|refine aa ?_ |intro
 refine aG 9 (gu x 132*F) rfl rfl rfl ?_
 repeat(first|refine ak ?_ |refine eD ?_)
 refine aC rfl rfl rfl rfl rfl (Ew (j:=16) inferInstance inferInstance rfl (by omega) _ _ rfl) (fun _=>aS) ?_
 intro _
 repeat(first|refine ak ?_ |refine eD ?_)
 refine aC rfl rfl rfl rfl rfl (Ew (j:=20) inferInstance inferInstance rfl (by omega) _ _ rfl) (fun _=>aS) ?_
 intro _
 repeat(first|refine ak ?_ |refine eD ?_)
 repeat(first|refine bJ ?_ |(refine bN ?_;intro)|refine bK ?_ |refine bL ?_ |refine bM ?_ |refine eD ?_)
 repeat first|refine aa ?_ |intro
 exact ae (aZ (rs:=[.cell 4 132,.tmp 5]) (v:= .agg (cr (aW l)).toArray) (u:= .int .i64 ((0:Nat):Int)) (vs:=[]) rfl ⟨⟨_,rfl,aT.agg rfl⟩,rfl,trivial⟩ () rfl (U.sat (aS)))
theorem Ns (l:List UInt8):c5 true l=if fE 65535 l≠0 then fE 65535 l else na l:=by
 have hw:=c9 l 2
 unfold c5 fE na
 by_cases h1:l.length<20
 ·rw[if_pos h1,if_pos h1,if_pos (by decide)]
 by_cases h2:b1 l 0/16≠4∨b1 l 0%16*4<20
 ·rw[if_neg h1,if_pos h2,if_neg h1,if_pos h2,if_pos (by decide)]
 by_cases h3:l.length<b1 l 0%16*4
 ·rw[if_neg h1,if_neg h2,if_pos h3,if_neg h1,if_neg h2,if_pos h3,if_pos (by decide)]
 by_cases h4:w2 l 2<b1 l 0%16*4
 ·rw[if_neg h1,if_neg h2,if_neg h3,if_pos (Or.inl h4),if_neg h1,if_neg h2,if_neg h3,if_pos (Or.inl h4),if_pos (by decide)]
 have g4:¬(w2 l 2<b1 l 0%16*4∨w2 l 2>1500∧true=false):=fun g=>g.elim h4 fun g=>by cases g.2
 have g5:¬(w2 l 2<b1 l 0%16*4∨w2 l 2>65535):=by omega
 rw[if_neg h1,if_neg h2,if_neg h3,if_neg g4,if_neg (fun g=>by cases g.2),if_neg (fun g=>by cases g.1),if_neg h1,if_neg h2,if_neg h3,if_neg g5,if_neg (show ¬(0:Nat)≠0 by decide)]
theorem Nr (l:List UInt8):c5 false l=if fE 1500 l≠0 then fE 1500 l else if l.length<w2 l 2 then 2 else if dX (l.take (b1 l 0%16*4))≠0 then 4 else na l:=by
 unfold c5 fE na
 by_cases h1:l.length<20
 ·rw[if_pos h1,if_pos h1,if_pos (by decide)]
 by_cases h2:b1 l 0/16≠4∨b1 l 0%16*4<20
 ·rw[if_neg h1,if_pos h2,if_neg h1,if_pos h2,if_pos (by decide)]
 by_cases h3:l.length<b1 l 0%16*4
 ·rw[if_neg h1,if_neg h2,if_pos h3,if_neg h1,if_neg h2,if_pos h3,if_pos (by decide)]
 by_cases h4:w2 l 2<b1 l 0%16*4∨w2 l 2>1500
 ·rw[if_neg h1,if_neg h2,if_neg h3,if_pos (h4.imp id fun g=>⟨g,rfl⟩),if_neg h1,if_neg h2,if_neg h3,if_pos h4,if_pos (by decide)]
 rw[if_neg h1,if_neg h2,if_neg h3,if_neg (fun g=>h4 (g.imp id fun g=>g.1)),if_neg h1,if_neg h2,if_neg h3,if_neg h4,if_neg (show ¬(0:Nat)≠0 by decide)]
 by_cases h5:l.length<w2 l 2
 ·rw[if_pos ⟨h5,rfl⟩,if_pos h5]
 rw[if_neg (fun g=>h5 g.1),if_neg h5]
 by_cases h6:dX (l.take (b1 l 0%16*4))≠0
 ·rw[if_pos ⟨rfl,h6⟩,if_pos h6]
 rw[if_neg (fun g=>h6 g.2),if_neg h6]
theorem G8 {most:Nat}{l:List UInt8}(h:fE most l=0):20≤l.length∧20≤b1 l 0%16*4∧b1 l 0%16*4≤l.length∧b1 l 0%16*4≤w2 l 2∧w2 l 2≤most:=by
 unfold fE at h
 repeat' split at h
 all_goals first|(exact absurd h (by decide))|skip
 refine⟨by omega,by omega,by omega,by omega,by omega⟩
theorem kl {part:Bool}{l:List UInt8}{e:Nat}(h:c5 part l=e):kS part l=if e=0 then aW l else dR:=by
 unfold kS;rw[h]
theorem Na (hl:l.length≤140737488355328)[s:Src W F p l.length (aD l)][r:Room W F p l.length c]:Spec Tryz.prog 286 [.slice p l.length c] W F (fun _:Unit=>pD (kS true l) (c5 true l)) (fun _=>F):=by
 refine Spec.of Tryz.func286 rfl Tryz.ntmps286 rfl ?_
 repeat first|refine aa ?_ |intro
 refine af rfl (G9 65535 (Nat.le_refl _) hl) ?_
 intro _
 have e0:=Ns l
 by_cases h:fE 65535 l=0
 ·rw[h]at e0 ⊢
  rw[if_pos rfl]
  obtain⟨h1,_⟩:=G8 h
  repeat first|refine aa ?_ |intro
  refine af rfl (HE h1 (aW l)) ?_
  intro _
  rw[if_neg (by decide)]at e0
  rw[e0,kl e0]
  repeat first|refine aa ?_ |intro
  exact ae (aZ (rs:=[.cell 2 132,.tmp 3]) (v:= .agg (cr _).toArray) (u:= .int .i64 (na l:Int)) (vs:=[]) rfl ⟨⟨_,rfl,aT.agg rfl⟩,rfl,trivial⟩ () rfl (U.sat (aS)))
 ·rw[if_pos h]at e0
  rw[if_neg h,kl e0,e0,if_neg h]
  repeat first|refine aa ?_ |intro
  exact ae (aZ (rs:=[.cell 2 132,.tmp 3]) (v:= .agg (cr dR).toArray) (u:= .int .i64 (fE 65535 l:Int)) (vs:=[]) rfl ⟨⟨_,rfl,aT.agg rfl⟩,rfl,trivial⟩ () rfl (U.sat (aS)))
theorem zz (hl:l.length≤140737488355328)[s:Src W F p l.length (aD l)][r:Room W F p l.length c]:Spec Tryz.prog 142 [.slice p l.length c] W F (fun _:Unit=>pD (kS false l) (c5 false l)) (fun _=>F):=by
 refine Spec.of Tryz.func142 rfl Tryz.ntmps142 rfl ?_
 repeat first|refine aa ?_ |intro
 refine af rfl (G9 1500 (by decide) hl) ?_
 intro _
 have e0:=Nr l
 by_cases h:fE 1500 l=0
 ·rw[h]at e0 ⊢
  rw[if_pos rfl]
  rw[if_neg (by decide)]at e0
  obtain⟨h1,h2,h3,h4,h5⟩:=G8 h
  have f1:(aW l).size=b1 l 0%16*4:=rfl
  have f2:(aW l).len=w2 l 2:=rfl
  rw[←f2]at h4 h5 e0
  rw[←f1]at h2 h3 h4 e0
  obtain⟨hd,f0⟩:∃x,aW l=x:=⟨_,rfl⟩
  rw[f0]at h2 h3 h4 h5 e0 f1 f2 ⊢
  by_cases h6:l.length<hd.len
  ·rw[if_pos h6]at e0
   unfold kS
   rw[e0]
   repeat first|refine aa ?_ |intro
   exact ae (aZ (rs:=[.cell 2 132,.tmp 3]) (v:= .agg (cr dR).toArray) (u:= .int .i64 ((2:Nat):Int)) (vs:=[]) rfl ⟨⟨_,rfl,aT.agg rfl⟩,rfl,trivial⟩ () rfl (U.sat (aS)))
  rw[if_neg h6]at e0
  have hc:=qi (l.take hd.size)
  repeat first|refine aa ?_ |intro
  refine af rfl (JU inferInstance h3 (by omega)) ?_
  intro _
  by_cases h7:dX (l.take hd.size)=0
  ·rw[if_neg (show ¬dX (l.take hd.size)≠0 by omega)]at e0
   repeat first|refine aa ?_ |intro
   refine af rfl (HE h1 hd) ?_
   intro _
   unfold kS
   rw[e0,f0]
   repeat first|refine aa ?_ |intro
   exact ae (aZ (rs:=[.cell 2 132,.tmp 3]) (v:= .agg (cr _).toArray) (u:= .int .i64 (na l:Int)) (vs:=[]) rfl ⟨⟨_,rfl,aT.agg rfl⟩,rfl,trivial⟩ () rfl (U.sat (aS)))
  ·rw[if_pos h7]at e0
   unfold kS
   rw[e0]
   repeat first|refine aa ?_ |intro
   exact ae (aZ (rs:=[.cell 2 132,.tmp 3]) (v:= .agg (cr dR).toArray) (u:= .int .i64 ((4:Nat):Int)) (vs:=[]) rfl ⟨⟨_,rfl,aT.agg rfl⟩,rfl,trivial⟩ () rfl (U.sat (aS)))
 ·rw[if_pos h]at e0
  rw[if_neg h,kl e0,e0,if_neg h]
  repeat first|refine aa ?_ |intro
  exact ae (aZ (rs:=[.cell 2 132,.tmp 3]) (v:= .agg (cr dR).toArray) (u:= .int .i64 (fE 1500 l:Int)) (vs:=[]) rfl ⟨⟨_,rfl,aT.agg rfl⟩,rfl,trivial⟩ () rfl (U.sat (aS)))
theorem nG {part:Bool}{l:List UInt8}{e:Nat}(h:c5 part l=e)(h0:e≠0):pD (kS part l) (c5 part l)=pD dR e:=by
 rw[kl h,h,if_neg h0]
set_option maxHeartbeats 1000000 in
theorem GI (part:Bool)(hl:l.length≤140737488355328)[s:Src W F p l.length (aD l)][r:Room W F p l.length c]:Spec Tryz.prog 41 [.slice p l.length c,.bool part] W F (fun _:Unit=>pD (kS part l) (c5 part l)) (fun _=>F):=by
 refine Spec.of Tryz.func41 rfl Tryz.ntmps41 rfl ?_
 have e0:c5 part l=_:=rfl
 conv at e0=>rhs;unfold c5
 by_cases h1:l.length<20
 ·rw[if_pos h1]at e0
  rw[nG e0 (by decide)]
  repeat first|refine aa ?_ |intro
  exact ae (aZ (rs:=[.cell 4 111,.tmp 5]) (v:= .agg (cr dR).toArray) (u:= .int .i64 ((2:Nat):Int)) (vs:=[]) rfl ⟨⟨_,rfl,aT.agg rfl⟩,rfl,trivial⟩ () rfl (U.sat (aS)))
 rw[if_neg h1]at e0
 have hb:=cZ l 0
 have hw:=c9 l 2
 have YP:=c9 l 6
 repeat first|refine aa ?_ |intro
 refine aG 99 F rfl rfl rfl ?_
 repeat(first|refine ak ?_ |refine eD ?_)
 refine aC rfl rfl rfl rfl rfl (mh (j:=4) inferInstance inferInstance rfl (by omega) _ _ rfl) (fun _=>aS) ?_
 intro _
 repeat(first|refine ak ?_ |refine eD ?_)
 repeat first|refine aa ?_ |intro
 by_cases h2:¬b1 l 0/16=4
 ·rw[if_pos (Or.inl h2)]at e0
  rw[nG e0 (by decide),decide_eq_false (show ¬(b1 l 0:Int)/16=4 by omega)]
  repeat first|refine aa ?_ |intro
  exact ae (aZ (rs:=[.cell 4 111,.tmp 5]) (v:= .agg (cr dR).toArray) (u:= .int .i64 ((3:Nat):Int)) (vs:=[]) rfl ⟨⟨_,rfl,aT.agg rfl⟩,rfl,trivial⟩ () rfl (U.sat (aS)))
 rw[decide_eq_true (show(b1 l 0:Int)/16=4 by omega)]
 by_cases h3:b1 l 0%16*4<20
 ·rw[if_pos (Or.inr h3)]at e0
  rw[nG e0 (by decide)]
  repeat first|refine aa ?_ |intro
  exact ae (aZ (rs:=[.cell 4 111,.tmp 5]) (v:= .agg (cr dR).toArray) (u:= .int .i64 ((3:Nat):Int)) (vs:=[]) rfl ⟨⟨_,rfl,aT.agg rfl⟩,rfl,trivial⟩ () rfl (U.sat (aS)))
 rw[if_neg (fun g=>g.elim h2 h3)]at e0
 by_cases h4:l.length<b1 l 0%16*4
 ·rw[if_pos h4]at e0
  rw[nG e0 (by decide)]
  repeat first|refine aa ?_ |intro
  exact ae (aZ (rs:=[.cell 4 111,.tmp 5]) (v:= .agg (cr dR).toArray) (u:= .int .i64 ((2:Nat):Int)) (vs:=[]) rfl ⟨⟨_,rfl,aT.agg rfl⟩,rfl,trivial⟩ () rfl (U.sat (aS)))
 rw[if_neg h4]at e0
 by_cases h5:w2 l 2<b1 l 0%16*4
 ·rw[if_pos (Or.inl h5)]at e0
  rw[nG e0 (by decide)]
  repeat first|refine aa ?_ |intro
  exact ae (aZ (rs:=[.cell 4 111,.tmp 5]) (v:= .agg (cr dR).toArray) (u:= .int .i64 ((3:Nat):Int)) (vs:=[]) rfl ⟨⟨_,rfl,aT.agg rfl⟩,rfl,trivial⟩ () rfl (U.sat (aS)))
 cases hp:part
 case' true=>
  subst hp
  rw[if_neg (fun g=>g.elim h5 fun g=>by cases g.2),if_neg (fun g=>by cases g.2),if_neg (fun g=>by cases g.1)]at e0
  by_cases h6:w2 l 2>1500<;>by_cases h7:l.length<w2 l 2
  all_goals repeat(first|refine go ?_ |(refine DS ?_;intro))
 case' false=>
  subst hp
  by_cases h6:w2 l 2>1500
  ·rw[if_pos (Or.inr ⟨h6,rfl⟩)]at e0
   rw[nG e0 (by decide)]
   repeat first|refine aa ?_ |intro
   exact ae (aZ (rs:=[.cell 4 111,.tmp 5]) (v:= .agg (cr dR).toArray) (u:= .int .i64 ((3:Nat):Int)) (vs:=[]) rfl ⟨⟨_,rfl,aT.agg rfl⟩,rfl,trivial⟩ () rfl (U.sat (aS)))
  rw[if_neg (fun g=>g.elim h5 fun g=>h6 g.1)]at e0
  by_cases h7:l.length<w2 l 2
  ·rw[if_pos ⟨h7,rfl⟩]at e0
   rw[nG e0 (by decide)]
   repeat first|refine aa ?_ |intro
   exact ae (aZ (rs:=[.cell 4 111,.tmp 5]) (v:= .agg (cr dR).toArray) (u:= .int .i64 ((2:Nat):Int)) (vs:=[]) rfl ⟨⟨_,rfl,aT.agg rfl⟩,rfl,trivial⟩ () rfl (U.sat (aS)))
  rw[if_neg (fun g=>h7 g.1)]at e0
  have hc:=qi (l.take (b1 l 0%16*4))
  repeat first|refine aa ?_ |intro
  refine af rfl (Rq inferInstance (by omega) (by omega)) ?_
  intro _
  by_cases h8:¬dX (l.take (b1 l 0%16*4))=0
  ·rw[if_pos ⟨rfl,h8⟩]at e0
   rw[nG e0 (by decide)]
   repeat first|refine aa ?_ |intro
   exact ae (aZ (rs:=[.cell 4 111,.tmp 5]) (v:= .agg (cr dR).toArray) (u:= .int .i64 ((4:Nat):Int)) (vs:=[]) rfl ⟨⟨_,rfl,aT.agg rfl⟩,rfl,trivial⟩ () rfl (U.sat (aS)))
  rw[if_neg (fun g=>h8 g.2)]at e0
  repeat first|refine aa ?_ |intro
 all_goals
  refine af rfl (mh (j:=8) inferInstance inferInstance rfl (by omega) _ _ rfl) ?_
  intro _
  repeat first|refine aa ?_ |intro
  rw[Oy (by omega)]
  by_cases h9:¬w2 l 6%16384=0
  ·rw[if_pos h9]at e0
   rw[nG e0 (by decide),decide_eq_false (show ¬((w2 l 6%16384:Nat):Int)=0 by omega)]
   repeat first|refine aa ?_ |intro
   exact ae (aZ (rs:=[.cell 4 111,.tmp 5]) (v:= .agg (cr dR).toArray) (u:= .int .i64 ((5:Nat):Int)) (vs:=[]) rfl ⟨⟨_,rfl,aT.agg rfl⟩,rfl,trivial⟩ () rfl (U.sat (aS)))
  rw[if_neg (by omega)]at e0
  rw[kl e0,e0,if_pos rfl,decide_eq_true (show((w2 l 6%16384:Nat):Int)=0 by omega)]
  have Ni:=cZ l 8
  have Nj:=cZ l 9
  have YN:=lG l 12
  have YO:=lG l 16
  repeat first|refine aa ?_ |intro
  refine aG 19 F rfl rfl rfl ?_
  repeat(first|refine ak ?_ |refine eD ?_)
  refine aC rfl rfl rfl rfl rfl (GJ (j:=16) inferInstance inferInstance rfl (by omega) _ _ rfl) (fun _=>aS) ?_
  intro _
  repeat(first|refine ak ?_ |refine eD ?_)
  refine aC rfl rfl rfl rfl rfl (GJ (j:=20) inferInstance inferInstance rfl (by omega) _ _ rfl) (fun _=>aS) ?_
  intro _
  repeat(first|refine ak ?_ |refine eD ?_)
  repeat(first|refine bJ ?_ |(refine bN ?_;intro)|refine bK ?_ |refine bL ?_ |refine bM ?_ |refine eD ?_)
  repeat first|refine aa ?_ |intro
  exact ae (aZ (rs:=[.cell 4 111,.tmp 5]) (v:= .agg (cr (aW l)).toArray) (u:= .int .i64 ((0:Nat):Int)) (vs:=[]) rfl ⟨⟨_,rfl,aT.agg rfl⟩,rfl,trivial⟩ () rfl (U.sat (aS)))
end
end
end Go.Proofs.YtimekbpkejemoaaGreatDoor
