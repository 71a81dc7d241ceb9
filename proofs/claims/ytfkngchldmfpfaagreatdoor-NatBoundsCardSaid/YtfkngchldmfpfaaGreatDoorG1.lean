/-
  A part of a proof, joined by a program (wip/bundle3.py).
-/
import Derived.StillTail
import Derived.StillTailTactics
import Derived.Lib.ConvBytes
import Derived.Laws.IdiomStrings
import Derived.Test.YtfkngchldmfpfaaGreatDoorG0
set_option linter.unusedVariables false
set_option linter.unusedSimpArgs false
namespace Go.Proofs.YtfkngchldmfpfaaGreatDoor
section
open Go.RowKit
variable {X:Cx} {k:List KI} {σ:Env} {H:SL} {o:Oper}
theorem eY.parts {P:Program}{t e sz cL:Nat}{z:List Value}(s:eY P t e sz cL z):∃i v,P.info? e=some i∧i.zero=some v∧i.size=sz∧i.bytes=cL∧v.cells=z.toArray:=by
 obtain⟨v,h1,h2⟩:=s.info
 obtain⟨i,hi,h3⟩:=lf h1
 simp only[Prod.mk.injEq]at h3
 exact⟨i,v,hi,h3.1,h3.2.1,h3.2.2,h2⟩
theorem HE {P:Program}{W w:World}{F:SL}{t ty e sz cL n cap m c:Nat}{z xs news:List Value}{p q:Option Addr}(s:eY P t e sz cL z)(h:Sat W w (ad e sz p n cap xs*F))
  (hq:0<m→q≠none) (T6:∀i v,news[i]? =some v→∃a,off q i=some a∧w.cell? a=some v) (hl:news.length=m*sz) (h1:dA news=true) (DI:n+m≤maxLen) (oC:(n+m)*cL≤140737488355328):
  ∃p' c' w',(Builtin.append_ #[t,t] ty #[.slice p n cap,.slice q m c]).run P w= .ok (.slice p' (n+m) c') w'∧Sat W w' (ad e sz p' (n+m) c' (xs++news)*F):=by
 obtain⟨i,v,hi,hz,du,jm,v7⟩:=s.parts
 have uJ:=s.pos
 have EU:v.cells.size=sz:=by rw[v7];simpa using s.len
 subst du
 subst jm
 have aev:n+m≤9223372036854775807:=by simp only[maxLen]at DI;omega
 by_cases hm:m=0
 ·subst hm
  have Ej:news=[]:=List.eq_nil_of_length_eq_zero (by simpa using hl)
  subst Ej
  obtain⟨_,JM,_⟩:=ad.len h
  refine⟨p,cap,w,?_,by simpa using h⟩
  cases q<;>cases p<;>simp[Builtin.append_,run_underlying s.under,sizeOf,typeInfo,hi,Builtin.lenOf,JM,Builtin.firstCells,loadCells,loadCellsFrom,storeCells]
 have JJ:0<m:=by omega
 have Uf:=hq JJ
 cases q with
 |none=>exact absurd rfl Uf
 |some a=>
  have AX:∀j u,news[j]? =some u→w.cell? (a.add j)=some u:=fun j u hu=>by
   obtain⟨b,h2,h3⟩:=T6 j u hu
   simp only[off,Option.map_some,Option.some.injEq]at h2
   rw[h2];exact h3
  obtain⟨⟨EO,JM,DO⟩,⟨_,Tx,hs⟩|⟨g,o,cur,rfl,h2,h3,hs⟩⟩:=ad.open h
  ·have Ej:n=0:=by omega
   subst Ej
   have uP:xs=[]:=List.eq_nil_of_length_eq_zero (by simpa using EO)
   subst uP
   subst Tx
   cases p with
   |some a0=>
    have hr:=run_append_grow (P:=P) w t ty e i v s.under hi hz a0 0 0 [] (by simp) (by simp) a m c news hl AX (by omega) (by omega) (growslice_fits (by omega) oC)
    have mU:=grownCap_ge w (0+m) 0 e
    have DP:=grownCap_le_maxLen w (0+m) 0 e DI
    refine⟨_,_,_,hr,?_⟩
    have hn:=hs.drew.alloc (.cells ((([]:List Value).toArray)++news.toArray++Builtin.zeroCells v.cells (grownCap w (0+m) 0 e-(0+m))) e)
    have hc:(([]:List Value).toArray)++news.toArray++Builtin.zeroCells v.cells (grownCap w (0+m) 0 e-(0+m))=(([]++news)++(Builtin.zeroCells v.cells (grownCap w (0+m) 0 e-(0+m))).toList).toArray:=by simp
    rw[hc]at hn ⊢
    have yE:(Builtin.zeroCells v.cells (grownCap w (0+m) 0 e-(0+m))).toList.length=(grownCap w (0+m) 0 e-(0+m))*i.size:=by simp[size_zeroCells,EU]
    have yI:(([]:List Value)++news).length=(0+m)*i.size:=by rw[List.length_append,hl];simp
    exact ad.shut (o:=0) mU DP (by rw[List.length_append,yE,yI,←Nat.add_mul];exact Nat.le_of_eq (by rw[Nat.zero_add];congr 1;omega)) (by rw[List.drop_zero,←yI,List.take_left]) hn
   |none=>
   have hr:=run_append_nil (P:=P) w t ty e i v s.under hi hz a m c news hl AX JJ (by omega) (by have:=oC;simp only[Nat.zero_add]at this;omega)
   have mU:=grownCap_ge w m 0 e
   have DO:=grownCap_le_maxLen w m 0 e (by omega)
   refine⟨_,_,_,by rw[Nat.zero_add];exact hr,?_⟩
   have hn:=hs.drew.alloc (.cells (news.toArray++Builtin.zeroCells v.cells (grownCap w m 0 e-m)) e)
   have hc:news.toArray++Builtin.zeroCells v.cells (grownCap w m 0 e-m)=(news++(Builtin.zeroCells v.cells (grownCap w m 0 e-m)).toList).toArray:=by simp
   rw[hc]at hn ⊢
   have yE:(Builtin.zeroCells v.cells (grownCap w m 0 e-m)).toList.length=(grownCap w m 0 e-m)*i.size:=by simp[size_zeroCells,EU]
   have:=ad.shut (e:=e) (sz:=i.size) (o:=0) (n:=m) (cap:=grownCap w m 0 e) (xs:=news) mU DO (by
    rw[List.length_append,yE,hl,←Nat.add_mul];exact Nat.le_of_eq (by rw[Nat.zero_add];congr 1;omega)) (by rw[List.drop_zero,←hl,List.take_left]) hn
   simpa using this
  ·by_cases uK:n+m≤cap
   ·have hle:(n+m)*i.size≤cap*i.size:=Nat.mul_le_mul_right _ uK
    rw[Nat.add_mul]at hle
    obtain⟨w',h4,h5⟩:=C7 (P:=P) (o:=o+n*i.size) (vs:=news) hs (by rw[hl];omega) h1
    have hf:=run_firstCells_some (P:=P) w i.size m a m c news hl AX
    refine⟨some ⟨g,o,none⟩,cap,w',?_,ad.shut uK DO ?_ ?_ h5⟩
    ·simp[Builtin.append_,run_underlying s.under,sizeOf,typeInfo,hi,Builtin.lenOf,uK,hf,pZ,h4]
    ·simp;omega
    ·rw[Nat.add_mul,←h3,List.drop_append_of_le_length (by simp;omega),List.drop_append_of_le_length (by simp;omega),List.drop_take,show o+n*i.size-o=n*i.size by omega]
     have e1:((List.take (n*i.size) (List.drop o cur))++news).length=n*i.size+m*i.size:=by simp;omega
     rw[←e1,List.take_left]
   ·have holds:∀j u,xs[j]? =some u→w.cell? ((⟨g,o,none⟩:Addr).add j)=some u:=fun j u hu=>by
     obtain⟨b,h4,h5⟩:=ad.cell h hu
     simp only[off,Option.map_some,Option.some.injEq]at h4
     rw[h4];exact h5
    have hr:=run_append_grow (P:=P) w t ty e i v s.under hi hz ⟨g,o,none⟩ n cap xs EO holds a m c news hl AX (by omega) (by omega) (growslice_fits (by omega) oC)
    have mU:=grownCap_ge w (n+m) cap e
    have DP:=grownCap_le_maxLen w (n+m) cap e DI
    refine⟨_,_,_,hr,?_⟩
    have hn:=hs.drop.drew.alloc (.cells (xs.toArray++news.toArray++Builtin.zeroCells v.cells (grownCap w (n+m) cap e-(n+m))) e)
    have hc:xs.toArray++news.toArray++Builtin.zeroCells v.cells (grownCap w (n+m) cap e-(n+m))=((xs++news)++(Builtin.zeroCells v.cells (grownCap w (n+m) cap e-(n+m))).toList).toArray:=by simp
    rw[hc]at hn ⊢
    have yE:(Builtin.zeroCells v.cells (grownCap w (n+m) cap e-(n+m))).toList.length=(grownCap w (n+m) cap e-(n+m))*i.size:=by simp[size_zeroCells,EU]
    have yI:(xs++news).length=(n+m)*i.size:=by rw[List.length_append,EO,hl,Nat.add_mul]
    exact ad.shut (o:=0) mU DP (by rw[List.length_append,yE,yI,←Nat.add_mul];exact Nat.le_of_eq (by rw[Nat.zero_add];congr 1;omega)) (by rw[List.drop_zero,←yI,List.take_left]) hn
theorem OA {x y:Operand}{t e sz cL n cap m c:Nat}{z xs news:List Value}{p q:Option Addr}{F:SL}(ho:o.op= .call {callee:= .builtin .append,args:= #[x,y],argTypes:= #[t,t]})(hx:ev σ x=some (.slice p n cap))(hy:ev σ y=some (.slice q m c))
  [s:eY X.P t e sz cL z] [r:bZ H p (ad e sz p n cap xs) F] [r2:Src X.W H q m news] [h1:gP news] (hl:news.length=m*sz) (hb:n+m≤4294967296) (oC:cL≤32768):
  aR X σ H o (fun q:Option Addr×Nat=> .slice q.1 (n+m) q.2) (fun q=>ad e sz q.1 (n+m) q.2 (xs++news)*F):=by
 intro a w ha hs
 have hmul:(n+m)*cL≤4294967296*32768:=Nat.mul_le_mul hb oC
 obtain⟨p',c',w',h2,h3⟩:=HE (ty:=o.type) (c:=c) s (r.eq▸hs) (fun h=>r2.nn w hs h) (r2.cells w hs) hl h1.dA (by unfold maxLen;omega) (by omega)
 refine⟨(p',c'),w',?_,h3⟩
 simp only[execOp,ho,resolve,invoke,builtin,Sem.run_bind,Sem.run_pure,Result.andThen_ok,List.map_toArray,List.map_cons,List.map_nil,ha.eval hx,ha.eval hy,h2]
theorem lr {x y:Operand}{t e sz cL n cap:Nat}{z xs news:List Value}{p q:Option Addr}{F F0:SL}(ho:o.op= .call {callee:= .builtin .append,args:= #[x,y],argTypes:= #[t,t]})(hx:ev σ x=some (.slice p n cap))(hy:ev σ y=some (.slice q 1 1))
  [s:eY X.P t e sz cL z] [r0:bZ H q (ad e sz q 1 1 news) F0] [r:bZ F0 p (ad e sz p n cap xs) F] [h1:gP news] (hb:n≤4294967295) (oC:cL≤32768):
  aR X σ H o (fun q:Option Addr×Nat=> .slice q.1 (n+1) q.2) (fun q=>ad e sz q.1 (n+1) q.2 (xs++news)*F):=by
 intro a w ha hs
 have hmul:(n+1)*cL≤4294967296*32768:=Nat.mul_le_mul (by omega) oC
 have A7:=r0.eq▸hs
 obtain⟨p',c',w',h2,h3⟩:=HE (ty:=o.type) (c:=1) (m:=1) s (r.eq▸A7.drop) (fun h=>ad.nn A7 h) (fun i v=>ad.cell A7) (ad.len A7).1 h1.dA (by unfold maxLen;omega) (by omega)
 refine⟨(p',c'),w',?_,h3⟩
 simp only[execOp,ho,resolve,invoke,builtin,Sem.run_bind,Sem.run_pure,Result.andThen_ok,List.map_toArray,List.map_cons,List.map_nil,ha.eval hx,ha.eval hy,h2]
def lh (n:Nat)(z:List Value):List Value:=(List.replicate n z).flatten
theorem FJ (n:Nat)(v:Value):lh n [v]=List.replicate n v:=by
 induction n with
 |zero=>rfl
 |succ n ih=>simp only[lh,List.replicate_succ,List.flatten_cons]at ih ⊢;rw[ih];rfl
theorem Xw (n:Nat)(z:List Value):(lh n z).length=n*z.length:=by
 induction n with
 |zero=>simp[lh]
 |succ n ih=>simp only[lh,List.replicate_succ,List.flatten_cons,List.length_append]at ih ⊢;rw[ih,Nat.succ_mul,Nat.add_comm]
theorem VT (n:Nat)(z:List Value)(hz:0<z.length):(madeCells z.toArray (n*z.length)).toList=lh n z:=by
 have key:∀n,(List.range (n*z.length)).map (fun i=>z[i%z.length]!)=lh n z:=by
  intro n
  induction n with
  |zero=>simp[lh]
  |succ n ih=>
   have e1:lh (n+1) z=lh n z++z:=by
    simp only[lh,List.replicate_succ',List.flatten_append,List.flatten_cons,List.flatten_nil,List.append_nil]
   rw[e1,←ih,Nat.succ_mul,List.range_add,List.map_append,List.map_map]
   congr 1
   apply List.ext_getElem (by simp)
   intro i h1 h2
   have hi:i<z.length:=h2
   simp only[List.getElem_map,List.getElem_range,Function.comp,Nat.mul_add_mod_self_right,Nat.mod_eq_of_lt hi]
   exact(getElem!_pos z i hi)
 rw[←key]
 simp[madeCells]
theorem wV {x y:Operand}{t e sz cL n:Nat}{k1 k2:IntKind}{a b:Int}{z:List Value}(ho:o.op= .makeSlice t x y)(hx:ev σ x=some (.int k1 a))(hy:ev σ y=some (.int k2 b))[s:eY X.P t e sz cL z][h1:bQ a n][h2:bQ b n](hb:n≤4294967296)(oC:cL≤32768):
  aR X σ H o (fun p:Option Addr=> .slice p n n) (fun p=>ad e sz p n n (lh n z)*H):=by
 intro a' w ha hs
 obtain⟨i,v,hi,hz,du,jm,v7⟩:=s.parts
 have e1:=h1.eq
 have e2:=h2.eq
 subst e1
 subst e2
 have hmul:cL*n≤32768*4294967296:=Nat.mul_le_mul oC hb
 have h3:=run_make (P:=X.P) w t e i v s.under hi hz k1 k2 (n:Int) (n:Int) (by omega) (by omega) (by rw[jm];omega) (by omega)
 refine⟨some ⟨w.heap.size,0,none⟩,w.alloc (.cells (madeCells v.cells (n*i.size)) e),?_,?_⟩
 ·simp only[execOp,ho,ha.eval hx,ha.eval hy,Sem.run_bind,h3,Result.andThen_ok,Sem.run_pure,Int.toNat_natCast]
 ·have hc:madeCells v.cells (n*i.size)=(lh n z).toArray:=by
   rw[v7,du,←s.len,←VT n z (by rw[s.len];exact s.pos),Array.toArray_toList]
  rw[hc]
  have hlen:(lh n z).length=n*sz:=by rw[Xw,s.len]
  exact ad.shut (o:=0) (Nat.le_refl _) (by unfold maxLen;omega) (by omega) (by rw[List.drop_zero,←hlen,List.take_length]) (hs.alloc _)
def xu:List Value→List Value→Option (List Value)
 |[],vs=>some vs
 |c::cs,vs=>match xu cs vs with
  |some l=>some (c::l)
  |none=>none
theorem HD:∀ {cs vs l:List Value},xu cs vs=some l→l=cs++vs
 |[],vs,l,h=>by simpa[xu]using h.symm
 |c::cs,vs,l,h=>by
  simp only[xu]at h
  split at h
  ·rename_i m hm
   simp only[Option.some.injEq]at h
   subst h
   rw[HD hm];rfl
  ·simp at h
def vB (σ:Env)(sz:Nat):Nat→List (Nat×Operand)→Option (List Value)
 |_,[]=>some []
 |i,(j,x)::l=>match Nat.beq i j with
  |true=>match ev σ x with
   |some v=>match vD v with
    |some cs=>match Nat.beq cs.length sz with
     |true=>match vB σ sz (i+1) l with
      |some vs=>xu cs vs
      |none=>none
     |false=>none
    |none=>none
   |none=>none
  |false=>none
theorem DA:∀(vs:List Value) (j o:Nat) (cs:List Value),o+j+vs.length≤cs.length→(vs.zipIdx j).foldl (fun(a:Array Value) (p:Value×Nat)=>a.setIfInBounds (o+p.2) p.1) cs.toArray=(cs.take (o+j)++vs++cs.drop (o+j+vs.length)).toArray
 |[],j,o,cs,_=>by simp
 |v::vs,j,o,cs,h=>by
  simp only[List.length_cons]at h
  simp only[List.zipIdx_cons,List.foldl_cons,List.setIfInBounds_toArray]
  rw[DA vs (j+1) o (cs.set (o+j) v) (by simp;omega)]
  congr 1
  apply List.ext_getElem?
  intro q
  simp only[List.getElem?_append,List.getElem?_take,List.getElem?_drop,List.length_append,List.length_take,List.length_set,List.getElem?_set,List.length_cons,List.getElem?_cons]
  repeat' split
  all_goals first
   |rfl
   |omega
   |(congr 1;omega)
   |skip
theorem Dt {P:Nat→Option (Nat×Nat)}{sz:Nat}{ρ:Operand→Value}(hP:∀i,P i=some (i*sz,sz)){N:Nat}{a:Act}(ha:Fits N a σ)(hρ:ρ=a.eval):∀(l:List (Nat×Operand)) (i:Nat) (vs pre jt:List Value),vB σ sz i l=some vs→pre.length=i*sz→jt.length=vs.length→
  Instr.fill P (pre++jt).toArray (l.map fun(q:Nat×Operand)=>(q.1,ρ q.2))=some (pre++vs).toArray
 |[],i,vs,pre,jt,h,hp,hs=>by
  simp only[vB,Option.some.injEq]at h
  subst h
  have:jt=[]:=List.eq_nil_of_length_eq_zero (by simpa using hs)
  subst this
  simp[Instr.fill]
 |(j,x)::l,i,vs,pre,jt,h,hp,hs=>by
  simp only[vB]at h
  split at h
  ·rename_i hj
   have hj:=Nat.eq_of_beq_eq_true hj
   subst hj
   split at h
   ·rename_i v hv
    split at h
    ·rename_i QZ AH
     obtain rfl:=Aa AH
     split at h
     ·rename_i hc
      have hc:=Nat.eq_of_beq_eq_true hc
      split at h
      rotate_left
      ·simp at h
      rename_i us EJ
      obtain rfl:=HD h
      simp only[List.length_append]at hs
      have e1:v.cells.size=sz:=by rw[←hc,←qd,Array.length_toList]
      subst hρ
      simp only[List.map_cons,Instr.fill,hP,ha.eval hv,e1,ne_eq,not_true_eq_false,decide_false,Bool.false_or,decide_eq_true_eq,List.size_toArray,List.length_append]
      rw[if_neg (by omega)]
      have e2:v.cells=(gR v).toArray:=by rw[←qd,Array.toArray_toList]
      have e3:=DA (gR v) 0 (i*sz) (pre++jt) (by simp;omega)
      have e4:(v.cells.zipIdx.foldl (fun(cs:Array Value) (x:Value×Nat)=>cs.setIfInBounds (i*sz+x.2) x.1) (pre++jt).toArray)=(pre++gR v++jt.drop sz).toArray:=by
       rw[e2,←Array.foldl_toList,Array.toList_zipIdx]
       simp only[Nat.add_zero]at e3
       rw[e3,←hp,List.take_left]
       congr 2
       rw[List.drop_append,List.drop_eq_nil_of_le (by omega),List.nil_append,hc]
       congr 1
       omega
      have e5:=Dt hP ha rfl l (i+1) us (pre++gR v) (jt.drop sz) EJ (by rw[List.length_append,hp,hc,Nat.succ_mul]) (by rw[List.length_drop];omega)
      rw[List.append_assoc]at e5
      rw[←List.append_assoc]
      refine Eq.trans (congrArg (fun c=>Instr.fill P c _) e4) ?_
      rw[←List.append_assoc]at e5
      simpa using e5
     ·simp at h
    ·simp at h
   ·simp at h
  ·simp at h
theorem cR {t e sz cL n:Nat}{z vs:List Value}{parts:Array (Nat×Operand)}(ho:o.op= .buildSlice t n parts)[s:eY X.P t e sz cL z](hv:vB σ sz 0 parts.toList=some vs)(hn:Nat.beq vs.length (n*sz)=true)(qy:n≤65536)(du:sz≤256):
  aR X σ H o (fun p:Option Addr=> .slice p n n) (fun p=>ad e sz p n n vs*H):=by
 intro a w ha hs
 obtain⟨i,v,hi,hz,pA,jm,v7⟩:=s.parts
 have hn:=Nat.eq_of_beq_eq_true hn
 have hmul:n*sz≤65536*256:=Nat.mul_le_mul qy du
 have key:∀cs:Array Value,cs.size=n*sz→Instr.fill (fun i=>some (i*sz,sz)) cs (parts.toList.map fun(q:Nat×Operand)=>(q.1,a.eval q.2))=some vs.toArray:=fun cs qs=>by
  have:=Dt (P:=fun i=>some (i*sz,sz)) (fun _=>rfl) ha rfl parts.toList 0 vs [] cs.toList hv (by simp) (by rw[Array.length_toList];omega)
  simpa using this
 refine⟨some ⟨w.heap.size,0,none⟩,w.alloc (.cells vs.toArray e),?_,?_⟩
 ·have D9:¬(16777216<n*sz):=by omega
  have rK:(zeroValue e).run X.P w= .ok v w:=by simp[zeroValue,typeInfo,hi,hz,go_sem]
  have fg:(sizeOf e).run X.P w= .ok sz w:=by simp[sizeOf,typeInfo,hi,pA,go_sem]
  simp only[execOp,ho]
  generalize a.eval=ρ at key ⊢
  by_cases h0:n*sz=0
  ·simp[Instr.buildSlice,run_underlying s.under,fg,h0,newRow,go_sem]
   rw[key #[] (by simp[h0])]
   simp[go_sem]
  ·simp[Instr.buildSlice,run_underlying s.under,fg,h0,D9,newRow,rK,go_sem]
   rw[key _ (by simp)]
   simp[go_sem]
 ·exact ad.shut (o:=0) (Nat.le_refl _) (by unfold maxLen;omega) (by rw[Nat.zero_add];omega) (by rw[List.drop_zero,←hn,List.take_length]) (hs.alloc _)
class ee (P:Program)(t:TypeId)(pl:outParam (List (Nat×Nat))):Prop where
 h:∃fs,P.underlying t=some (.struct fs)∧fs.toList.map (fun f=>(f.offset,(P.info? f.type).map (·.size)))=pl.map fun q=>(q.1,some q.2)
def vA (σ:Env)(pl:List (Nat×Nat)):List Value→List (Nat×Operand)→Option (List Value)
 |cs,[]=>some cs
 |cs,(f,x)::l=>match pl[f]? with
  |some (o,s)=>match ev σ x with
   |some v=>match Nat.beq (gR v).length s with
    |true=>match mC cs o (gR v)with
     |some eG=>vA σ pl eG l
     |none=>none
    |false=>none
   |none=>none
  |none=>none
theorem Ds {pl:List (Nat×Nat)}{N:Nat}{a:Act}(ha:Fits N a σ):∀(l:List (Nat×Operand)) (cs vs:List Value),vA σ pl cs l=some vs→Instr.fill (fun i=>pl[i]?) cs.toArray (l.map fun(q:Nat×Operand)=>(q.1,a.eval q.2))=some vs.toArray
 |[],cs,vs,h=>by
  simp only[vA,Option.some.injEq]at h
  subst h
  simp[Instr.fill]
 |(f,x)::l,cs,vs,h=>by
  simp only[vA]at h
  split at h
  ·rename_i o s hf
   split at h
   ·rename_i v hv
    split at h
    ·rename_i hc
     have hc:=Nat.eq_of_beq_eq_true hc
     split at h
     ·rename_i eG hs
      obtain⟨h1,h2⟩:=B1 hs
      have e1:v.cells.size=s:=by rw[←hc,←qd,Array.length_toList]
      simp only[List.map_cons,Instr.fill,hf,ha.eval hv,e1,ne_eq,not_true_eq_false,decide_false,Bool.false_or,decide_eq_true_eq,List.size_toArray]
      rw[if_neg (by omega)]
      have e2:v.cells=(gR v).toArray:=by rw[←qd,Array.toArray_toList]
      have e3:=DA (gR v) 0 o cs (by omega)
      have e4:(v.cells.zipIdx.foldl (fun(c:Array Value) (q:Value×Nat)=>c.setIfInBounds (o+q.2) q.1) cs.toArray)=eG.toArray:=by
       rw[e2,←Array.foldl_toList,Array.toList_zipIdx]
       simp only[Nat.add_zero]at e3
       rw[e3,h2]
      exact(congrArg (fun c=>Instr.fill (fun i=>pl[i]?) c _) e4).trans (Ds ha l eG vs h)
     ·simp at h
    ·simp at h
   ·simp at h
  ·simp at h
theorem run_places {P:Program}(w:World):∀(fs:List Field) (pl:List (Nat×Nat)),fs.map (fun f=>(f.offset,(P.info? f.type).map (·.size)))=pl.map (fun q=>(q.1,some q.2))→(fs.mapM fun f=>do pure (f.offset,←sizeOf f.type):Sem (List (Nat×Nat))).run P w= .ok pl w
 |[],[],_=>by simp[go_sem]
 |[],_::_,h=>by simp at h
 |_::_,[],h=>by simp at h
 |f::fs,q::pl,h=>by
  simp only[List.map_cons,List.cons.injEq,Prod.mk.injEq]at h
  obtain⟨⟨h1,h2⟩,h3⟩:=h
  obtain⟨i,hi,hs⟩:=lf h2
  have ih:=run_places w fs pl h3
  simp[List.mapM_cons,sizeOf,typeInfo,hi,hs,h1,go_sem]at ih ⊢
  simp[ih,go_sem]
theorem OP {t:TypeId}{parts:Array (Nat×Operand)}{pl:List (Nat×Nat)}{cs vs:List Value}(ho:o.op= .build t parts)[s:ee X.P t pl][z:dq X.P t cs](hv:vA σ pl cs parts.toList=some vs):an X σ H o (.agg vs.toArray):=by
 intro a w ha hs
 obtain⟨v,h1,h2⟩:=z.h
 obtain⟨j,hj,hz⟩:=lf h1
 obtain⟨fs,h3,h4⟩:=s.h
 have h5:=run_places (P:=X.P) w fs.toList pl h4
 have h6:=Ds ha parts.toList cs vs hv
 have h7:(fs.mapM fun f=>do pure (f.offset,←sizeOf f.type):Sem (Array (Nat×Nat))).run X.P w= .ok pl.toArray w:=by
  rw[Array.mapM_eq_mapM_toList]
  show(Bind.bind (fs.toList.mapM fun f=>do pure (f.offset,←sizeOf f.type):Sem (List (Nat×Nat))) (fun l=>pure l.toArray)).run X.P w=_
  rw[Sem.run_bind,h5]
  rfl
 have rK:(zeroValue t).run X.P w= .ok v w:=by simp[zeroValue,typeInfo,hj,hz,go_sem]
 have h8:Instr.fill (pl.toArray[·]?) v.cells (parts.map fun(q:Nat×Operand)=>(q.1,a.eval q.2)).toList=some vs.toArray:=by
  rw[h2,Array.toList_map]
  simpa using h6
 simp only[execOp,ho,Instr.build,Sem.run_bind,rK,Result.andThen_ok,run_underlying h3]
 simp only[Sem.run_bind,h7,Result.andThen_ok]
 rw[h8]
 rfl
class zT (P:Program)(s:TypeId)(f:Nat)(o:outParam Nat)(t:outParam TypeId):Prop where
 h:∃fs g,P.underlying s=some (.struct fs)∧fs[f]? =some g∧g.offset=o∧g.type=t
theorem OU {s t:TypeId}{f i:Nat}{x:Operand}{cs:Array Value}{v:Value}(ho:o.op= .field s x f)(hx:ev σ x=some (.agg cs))[g:zT X.P s f i t][c:dK X.P t](hv:cs.toList[i]? =some v):an X σ H o v:=by
 intro a w ha hs
 obtain⟨fs,q,h1,h2,rfl,rfl⟩:=g.h
 obtain⟨d,h3,h4⟩:=c.agg
 have Uz:cs[q.offset]? =some v:=by simpa using hv
 simp only[execOp,ho,ha.eval hx]
 cases d<;>simp at h4<;>simp[Instr.field,run_underlying h1,h2,part,isAgg,run_underlying h3,asAgg,Uz,go_sem]
theorem O9 {fn:Fn}{first cap:Array Operand}{vs us:List Value}(ho:o.op= .makeFunc fn first cap)(h1:bW σ first.toList=some vs)(h2:bW σ cap.toList=some us):an X σ H o (.func fn vs.toArray us.toArray):=by
 intro a w ha hs
 have e1:first.map a.eval=vs.toArray:=by
  have:=ha.xL h1
  rw[←this,←List.map_toArray,Array.toArray_toList]
 have e2:cap.map a.eval=us.toArray:=by
  have:=ha.xL h2
  rw[←this,←List.map_toArray,Array.toArray_toList]
 simp only[execOp,ho,e1,e2]
 rfl
theorem Pb {x y:Operand}{ats:Array TypeId}{k k':IntKind}{a b:Int}(ho:o.op= .call {callee:= .builtin .min,args:= #[x,y],argTypes:=ats})(hx:ev σ x=some (.int k a))(hy:ev σ y=some (.int k' b)):an X σ H o (.int k (min a b)):=by
 intro a' w ha hs
 simp only[execOp,ho,resolve,invoke,builtin,Sem.run_bind,Sem.run_pure,Result.andThen_ok,List.map_toArray,List.map_cons,List.map_nil,ha.eval hx,ha.eval hy]
 have e:(if b<a then b else a)=min a b:=by omega
 simp[Builtin.min_,Builtin.min2,e,go_sem]
theorem Pa {x y:Operand}{ats:Array TypeId}{k k':IntKind}{a b:Int}(ho:o.op= .call {callee:= .builtin .max,args:= #[x,y],argTypes:=ats})(hx:ev σ x=some (.int k a))(hy:ev σ y=some (.int k' b)):an X σ H o (.int k (max a b)):=by
 intro a' w ha hs
 simp only[execOp,ho,resolve,invoke,builtin,Sem.run_bind,Sem.run_pure,Result.andThen_ok,List.map_toArray,List.map_cons,List.map_nil,ha.eval hx,ha.eval hy]
 have e:(if b>a then b else a)=max a b:=by omega
 simp[Builtin.max_,Builtin.max2,e,go_sem]
end
section
open Go.RowKit
section
variable {P:Program} {ops:Array Oper} {md:Region.Mode} {S:World→Prop} {Q:Exit→Act→World→Prop}
def og (P:Program)(ops:Array Oper)(S:World→Prop)(o:Oper)(v:Value)(a:Act):Prop:=
 (Region.wanted o (yielded ops a.tmps)=true∧∀w,S w→(∃w',(execOp a.eval o).run P w= .ok (.value v) w'∧S w')∨(v=undef∧∃w',(execOp a.eval o).run P w= .ok .skip w'∧S w')∨
  ∃f args w',(execOp a.eval o).run P w= .ok (.enter f args) w'∧Calls P f args w' (fun e zh=>e= .returned v∧S zh))∨
 (Region.wanted o (yielded ops a.tmps)=false∧v=undef)
theorem og.same {o:Oper}{v:Value}{a a':Act}(hy:og P ops S o v a)(he:execOp a'.eval o=execOp a.eval o)
  (hw:Region.wanted o (yielded ops a'.tmps)=Region.wanted o (yielded ops a.tmps)):og P ops S o v a':=by
 unfold og at*
 rw[he,hw]
 exact hy
theorem og.wpOp {i:Nat}{o:Oper}{v:Value}{a:Act}{w:World}{K:Act→World→Prop}(hi:ops[i]? =some o)(hy:og P ops S o v a)(hS:S w)(h:∀w',S w'→K (a.put o.dst v) w'):wpOp P ops Q i K a w:=by
 unfold Go.wpOp
 simp only[hi]
 rcases hy with ⟨hw,hv⟩|⟨hw,rfl⟩
 ·rw[if_pos hw]
  refine .inl ?_
  unfold Oper.wp
  rcases hv w hS with ⟨w',hr,nH⟩|⟨rfl,w',hr,nH⟩|⟨f,args,w',hr,hc⟩
  ·rw[hr];exact h _ nH
  ·rw[hr];exact h _ nH
  ·rw[hr,Oper.upon_enter]
   refine hc.mono ?_
   rintro e zh ⟨rfl,nH⟩
   exact h _ nH
 ·rw[if_neg (by simp[hw])]
  exact h _ hS
def kb (P:Program)(ops:Array Oper)(S:World→Prop)(i:Nat)(K:Act→Prop)(a:Act):Prop:=
 match ops[i]? with
 |none=>K a
 |some o=>∃v,og P ops S o v a∧K (a.put o.dst v)
theorem kb.wpOp {i:Nat}{a:Act}{w:World}{K:Act→Prop}{K':Act→World→Prop}(h:kb P ops S i K a)(hS:S w)(hK:∀a w,K a→S w→K' a w):wpOp P ops Q i K' a w:=by
 unfold kb at h
 cases hi:ops[i]? with
 |none=>
  rw[hi]at h
  unfold Go.wpOp
  simp only[hi]
  exact hK _ _ h hS
 |some o=>
  rw[hi]at h
  obtain⟨v,h1,h2⟩:=h
  exact h1.wpOp hi hS fun w' nH=>hK _ _ h2 nH
theorem kb.mono {i:Nat}{a:Act}{K K':Act→Prop}(h:kb P ops S i K a)(hK:∀a,K a→K' a):kb P ops S i K' a:=by
 unfold kb at*
 split
 ·rename_i hi;rw[hi]at h;exact hK _ h
 ·rename_i o hi;rw[hi]at h;obtain⟨v,h1,h2⟩:=h;exact⟨v,h1,hK _ h2⟩
theorem kb.put {j:Nat}{oi oj:Oper}{v:Value}(hj:ops[j]? =some oj)(Tm:oi.apart ops oj=true)(Um:∀cs b,oi.op≠ .select cs b)(Un:∀cs b,oj.op≠ .select cs b){K:Act→Prop}{a:Act}
  (hy:og P ops S oi v a) (h:kb P ops S j K (a.put oi.dst v)):kb P ops S j (fun a'=>og P ops S oi v a'∧K (a'.put oi.dst v)) a:=by
 obtain⟨h1,h2,h3⟩:=Oper.apart_spec Tm
 unfold kb at*
 simp only[hj]at*
 obtain⟨u,k1,k2⟩:=h
 refine⟨u,k1.same (execOp_put oj Un a oi.dst v h1).symm (wanted_put oj a oi.dst v h1).symm,hy.same (execOp_put oi Um a oj.dst u h3) (wanted_put oi a oj.dst u h3),?_⟩
 rw[←Act.put_comm a v u h2]
 exact k2
def vd (P:Program)(ops:Array Oper)(S:World→Prop)(Q:Act→Prop):List Oper→Act→Prop
 |[],a=>Q a
 |o::rest,a=>∃v,og P ops S o v a∧vd P ops S Q rest (a.put o.dst v)
def zr (P:Program)(md:Region.Mode)(ops:Array Oper)(S:World→Prop)(Q:Act→Prop):Nat→Array Bool→Act→Prop
 |0,listed,a=>Region.ready md ops listed=[]∧Q a
 |f+1,listed,a=>(Region.ready md ops listed=[]→Q a)∧∀i∈Region.ready md ops listed,kb P ops S i (zr P md ops S Q f (listed.setIfInBounds i true)) a
theorem MJ {Q':Act→Prop}(hQ:∀a w,Q' a→S w→Q .normal a w):∀(f:Nat) (listed:Array Bool) (a:Act) (w:World),zr P md ops S Q' f listed a→S w→wpAny P md ops Q f listed a w
 |0,_,_,_,h,hS=>⟨h.1,hQ _ _ h.2 hS⟩
 |f+1,_,_,_,h,hS=>⟨fun h0=>hQ _ _ (h.1 h0) hS,fun i hi=>(h.2 i hi).wpOp hS fun a w h' nH=>MJ hQ f _ a w h' nH⟩
theorem ZO {Q':Act→Prop}{i:Nat}{oi:Oper}{v:Value}(hi:ops[i]? =some oi)(lI:∀(j:Nat) (o:Oper) cs b,ops[j]? =some o→o.op≠ .select cs b):
  ∀(f:Nat) (listed:Array Bool) (a:Act),
   (∀j oj,ops[j]? =some oj→j≠i→listed.getD j true=false→(∀e∈oj.after,Region.binds md e=true→e.on≠i)→oi.apart ops oj=true)→
   i∈Region.ready md ops listed→og P ops S oi v a→
   zr P md ops S Q' f (listed.setIfInBounds i true) (a.put oi.dst v)→zr P md ops S Q' (f+1) listed a:=by
 intro f
 induction f with
 |zero=>
  intro listed a _ hr hy H
  refine⟨fun h=>(by rw[h]at hr;cases hr),fun j hj=> ?_⟩
  by_cases fq:j=i
  ·subst fq;unfold kb;simp only[hi];exact⟨v,hy,H⟩
  ·have:=ready_mono hj fq
   rw[H.1]at this
   cases this
 |succ f ih=>
  intro listed a pq hr hy H
  refine⟨fun h=>(by rw[h]at hr;cases hr),fun j hj=> ?_⟩
  by_cases fq:j=i
  ·subst fq;unfold kb;simp only[hi];exact⟨v,hy,H⟩
  ·have h1:=H.2 j (ready_mono hj fq)
   obtain⟨nM,oj,kx,lC⟩:=mem_ready.1 hj
   have kz:=(mem_ready.1 hr).1
   have uG:∀e∈oj.after,Region.binds md e=true→e.on≠i:=fun e he hb heq=>by
    have h2:=lC e he hb
    rw[heq,getD_both kz]at h2
    cases h2
   have h2:=kb.put kx (pq j oj kx fq nM uG) (fun cs b=>lI i oi cs b hi) (fun cs b=>lI j oj cs b kx) hy h1
   have uA:∀k ok,ops[k]? =some ok→k≠i→(listed.setIfInBounds j true).getD k true=false→
     (∀e∈ok.after,Region.binds md e=true→e.on≠i)→oi.apart ops ok=true:=fun k ok hk uD kz nP=>by
    refine pq k ok hk uD ?_ nP
    by_cases mV:j=k
    ·subst mV;exact nM
    ·rw[getD_set_ne true mV]at kz;exact kz
   refine h2.mono fun a' h3=>ih (listed.setIfInBounds j true) a' uA (ready_mono hr (Ne.symm fq)) h3.1 ?_
   rw[Array.setIfInBounds_comm _ _ fq]
   exact h3.2
theorem MH {Q':Act→Prop}(hs:Region.noSelect ops=true):∀(l:List Oper) (k:Nat) (listed:Array Bool) (a:Act),(∀j,l[j]? =ops[k+j]?)→
  Region.lexFrom md ops l.length k listed=true→vd P ops S Q' l a→zr P md ops S Q' l.length listed a
 |[],k,listed,a,_,hB,h=>⟨by simpa[Region.lexFrom]using hB,h⟩
 |o::l,k,listed,a,hl,hB,h=>by
  have h0:ops[k]? =some o:=by simpa using(hl 0).symm
  simp only[List.length_cons,Region.lexFrom,Bool.and_eq_true]at hB
  obtain⟨⟨hr,hf⟩,DJ⟩:=hB
  obtain⟨v,hy,hK⟩:=h
  exact ZO h0 (Region.noSelect_spec hs) l.length listed a (Region.free_spec h0 hf) (by simpa using hr) hy
   (MH hs l (k+1) _ _ (fun j=>by have:=hl (j+1);simpa[Nat.add_assoc,Nat.add_comm 1 j]using this) DJ hK)
theorem ZR {id:Nat}{a:Act}{w:World}{l:List Oper}(hm:P.follows .mixedOrders=true)(hB:Region.lexB .any l.toArray=true)(hd:∀w,S w→S w.drew)(hS:S w)
  (h:vd P l.toArray S (fun a'=>∀w',S w'→Q .normal a' w') l a):(Code.region id l.toArray true).wp P Q a w:=by
 simp only[Region.lexB,Bool.and_eq_true]at hB
 refine wp_region_any hm (MJ (Q':=fun a'=>∀w',S w'→Q .normal a' w') (fun a w h hS=>h w hS) _ _ _ _ ?_ (hd w hS))
 have:=MH (md:= .any) hB.1 l 0 (Array.replicate l.toArray.size false) a (by simp) (by simpa using hB.2) h
 simpa using this
def zt (P:Program)(md:Region.Mode)(ops:Array Oper)(S:World→Prop)(n:Nat)(L:Array Bool→Act→Prop):Nat→Array Bool→Act→Prop
 |0,listed,a=>L listed a
 |f+1,listed,a=>Region.ready md ops listed≠ []∧∀i∈Region.ready md ops listed,i<n∧kb P ops S i (zt P md ops S n L f (listed.setIfInBounds i true)) a
theorem ML {n g:Nat}{L:Array Bool→Act→Prop}(hL:∀listed a w,L listed a→S w→wpAny P md ops Q g listed a w):
  ∀(f:Nat) (listed:Array Bool) (a:Act) (w:World),zt P md ops S n L f listed a→S w→wpAny P md ops Q (f+g) listed a w
 |0,listed,a,w,h,hS=>by rw[Nat.zero_add];exact hL _ _ _ h hS
 |f+1,listed,a,w,h,hS=>by
  rw[show f+1+g=(f+g)+1 by omega]
  exact⟨fun h0=>absurd h0 h.1,fun i hi=>(h.2 i hi).2.wpOp hS fun a' w' h' nH=>ML hL f _ a' w' h' nH⟩
theorem ZQ {n i:Nat}{oi:Oper}{v:Value}{L:Array Bool→Act→Prop}(hi:ops[i]? =some oi)(lI:∀(j:Nat) (o:Oper) cs b,ops[j]? =some o→o.op≠ .select cs b)
  (hs:Region.sinkB md ops n=true) (hc:Region.chainB md ops n=true) (hn:n<ops.size) (dj:i<n) (nK:∀listed a,L listed a→∀j∈Region.ready md ops listed,n≤j):
  ∀(f:Nat) (listed:Array Bool) (a:Act),HeadInv md ops n listed→
   (∀j oj,ops[j]? =some oj→j≠i→listed.getD j true=false→(∀e∈oj.after,Region.binds md e=true→e.on≠i)→oi.apart ops oj=true)→
   i∈Region.ready md ops listed→og P ops S oi v a→
   zt P md ops S n L f (listed.setIfInBounds i true) (a.put oi.dst v)→zt P md ops S n L (f+1) listed a:=by
 intro f
 induction f with
 |zero=>
  intro listed a inv _ hr hy H
  have kz:=(mem_ready.1 hr).1
  refine⟨fun h=>(by rw[h]at hr;cases hr),fun j hj=> ?_⟩
  have rF:j<n:=by
   rcases Nat.lt_or_ge j n with h|h
   ·exact h
   ·exact absurd hj (tail_waits hs hc hn inv _ i rfl dj kz j h)
  refine⟨rF,?_⟩
  by_cases fq:j=i
  ·subst fq;unfold kb;simp only[hi];exact⟨v,hy,H⟩
  ·have:=nK _ _ H j (ready_mono hj fq)
   omega
 |succ f ih=>
  intro listed a inv pq hr hy H
  have kz:=(mem_ready.1 hr).1
  refine⟨fun h=>(by rw[h]at hr;cases hr),fun j hj=> ?_⟩
  have rF:j<n:=by
   rcases Nat.lt_or_ge j n with h|h
   ·exact h
   ·exact absurd hj (tail_waits hs hc hn inv _ i rfl dj kz j h)
  refine⟨rF,?_⟩
  by_cases fq:j=i
  ·subst fq;unfold kb;simp only[hi];exact⟨v,hy,H⟩
  ·have h1:=(H.2 j (ready_mono hj fq)).2
   obtain⟨nM,oj,kx,lC⟩:=mem_ready.1 hj
   have uG:∀e∈oj.after,Region.binds md e=true→e.on≠i:=fun e he hb heq=>by
    have h2:=lC e he hb
    rw[heq,getD_both kz]at h2
    cases h2
   have h2:=kb.put kx (pq j oj kx fq nM uG) (fun cs b=>lI i oi cs b hi) (fun cs b=>lI j oj cs b kx) hy h1
   have uA:∀k ok,ops[k]? =some ok→k≠i→(listed.setIfInBounds j true).getD k true=false→
     (∀e∈ok.after,Region.binds md e=true→e.on≠i)→oi.apart ops ok=true:=fun k ok hk uD kz nP=>by
    refine pq k ok hk uD ?_ nP
    by_cases mV:j=k
    ·subst mV;exact nM
    ·rw[getD_set_ne true mV]at kz;exact kz
   refine h2.mono fun a' h3=>ih (listed.setIfInBounds j true) a' (inv.set hj rF) uA (ready_mono hr (Ne.symm fq)) h3.1 ?_
   rw[Array.setIfInBounds_comm _ _ fq]
   exact h3.2
theorem MI {n g:Nat}{Lq:Act→Prop}(lI:Region.noSelect ops=true)(hs:Region.sinkB md ops n=true)(hc:Region.chainB md ops n=true)(hn:n<ops.size):
  ∀(l:List Oper) (k:Nat) (listed:Array Bool) (a:Act),(∀j,j<l.length→l[j]? =ops[k+j]?)→k+l.length=n→HeadInv md ops n listed→
  Region.lexHead md ops g l.length k listed=true→vd P ops S Lq l a→
  zt P md ops S n (fun Kr a'=>Region.seqB md ops g n Kr=true∧Lq a') l.length listed a
 |[],k,listed,a,_,hk,_,hB,h=>by
  have:k=n:=by simpa using hk
  subst this
  exact⟨by simpa[Region.lexHead]using hB,h⟩
 |o::l,k,listed,a,hl,hk,inv,hB,h=>by
  have h0:ops[k]? =some o:=by simpa using(hl 0 (by simp)).symm
  simp only[List.length_cons,Region.lexHead,Bool.and_eq_true]at hB
  obtain⟨⟨hr,hf⟩,DJ⟩:=hB
  have AR:k<n:=by simp only[List.length_cons]at hk;omega
  have A4:k∈Region.ready md ops listed:=by simpa using hr
  obtain⟨v,hy,hK⟩:=h
  exact ZQ h0 (Region.noSelect_spec lI) hs hc hn AR (fun Kr a' hL=>seqB_ready hL.1) l.length listed a inv (Region.free_spec h0 hf) A4 hy
   (MI lI hs hc hn l (k+1) _ _ (fun j hj=>by have:=hl (j+1) (by simp;omega);simpa[Nat.add_assoc,Nat.add_comm 1 j]using this) (by simp only[List.length_cons]at hk;omega) (inv.set A4 AR) DJ hK)
theorem MM {id:Nat}{a:Act}{w:World}{l:List Oper}(n:Nat)(hm:P.follows .mixedOrders=true)(hB:Region.lexTailB .any l.toArray n=true)(hd:∀w,S w→S w.drew)(hS:S w)
  (h:vd P l.toArray S (fun a'=>∀w',S w'→wpList P l.toArray Q (l.drop n) a' w') (l.take n) a):(Code.region id l.toArray true).wp P Q a w:=by
 simp only[Region.lexTailB,Bool.and_eq_true,decide_eq_true_eq]at hB
 obtain⟨⟨⟨⟨lI,hn⟩,hs⟩,hc⟩,T1⟩:=hB
 have qy:n<l.length:=by simpa using hn
 have pC:(l.take n).length=n:=by simp;omega
 have iW:(l.drop n).length=l.toArray.size-n:=by simp
 have US:HeadInv .any l.toArray n (Array.replicate l.toArray.size false):=
  ⟨by simp,fun j oj _ hl=>(by rw[getD_replicate_false]at hl;cases hl),fun t _ ht=>getD_in (by simpa using ht) (getD_replicate_false _ _)⟩
 have H:=MI (md:= .any) (g:=l.toArray.size-n) lI hs hc hn (l.take n) 0 _ a (fun j hj=>by
  have oD:j<n:=by rw[pC]at hj;exact hj
  simp[oD]) (by simpa using pC) US (by rw[pC];exact T1) h
 refine wp_region_any hm ?_
 have h2:=ML (Q:=Q) (g:=l.toArray.size-n) (fun listed a' w' hL nH=>by
  rw[←iW]
  exact wpAny_of_seq (l.drop n) n listed a' w' (fun j=>by simp) (by rw[iW];exact hL.1) (hL.2 w' nH)) _ _ _ _ H (hd w hS)
 rw[pC]at h2
 have e:n+(l.toArray.size-n)=l.toArray.size:=by omega
 rwa[e]at h2
end
variable {X:Cx} {k:List KI} {σ:Env} {H:SL}
def ES (X:Cx)(ops:List Oper)(l:List Oper)(σ:Env)(H:SL)(Z:Act→Prop):Prop:=∀a,Fits X.N a σ→vd X.P ops.toArray (fun w=>Sat X.W w H) Z l a
theorem jf {id:Nat}{ops:List Oper}(hm:X.P.follows .mixedOrders=true)(hB:Region.lexB .any ops.toArray=true)(h:ES X ops ops σ H (fun a=>∀w,Sat X.W w H→run X.P X.R k .normal a w)):EK X (.code (.region id ops.toArray true)::k) σ H:=
 fun a w ha hs=>ZR (S:=fun w=>Sat X.W w H) hm hB (fun _ h=>h.drew) hs (h a ha)
theorem kM {id:Nat}{ops pre jt:List Oper}(n:Nat)(hm:X.P.follows .mixedOrders=true)(hB:Region.lexTailB .any ops.toArray n=true)(hp:ops.take n=pre)(EB:ops.drop n=jt)
  (h:ES X ops pre σ H (fun a=>∀w,Sat X.W w H→wpList X.P ops.toArray (run X.P X.R k) jt a w)):EK X (.code (.region id ops.toArray true)::k) σ H:=
 fun a w ha hs=>MM (S:=fun w=>Sat X.W w H) n hm hB (fun _ h=>h.drew) hs (by rw[hp,EB];exact h a ha)
theorem GG {ops:List Oper}(h:EK X k σ H):ES X ops [] σ H (fun a=>∀w,Sat X.W w H→run X.P X.R k .normal a w):=fun a ha w hs=>h a w ha hs
theorem GH {ops jt:List Oper}(h:EL X k ops jt σ H):ES X ops [] σ H (fun a=>∀w,Sat X.W w H→wpList X.P ops.toArray (run X.P X.R k) jt a w):=fun a ha w hs=>h a w ha hs
variable {ops l:List Oper} {Z:Act→Prop}
theorem vj {d:Nat}{v:Value}{op:Op}{ty:TypeId}{pos:String}{aft:Array Edge}(hv:an X σ H ⟨some d,op,ty,pos,aft,none⟩ v)(hd:Nat.blt d X.N=true)(h:ES X ops l ((d,v)::σ) H Z):
  ES X ops (⟨some d,op,ty,pos,aft,none⟩::l) σ H Z:=
 fun a ha=>⟨v,.inl ⟨rfl,fun w hs=> .inl ⟨w,hv a w ha hs,hs⟩⟩,h _ (ha.put hd v)⟩
theorem GF {d:Option Nat}{op:Op}{ty:TypeId}{pos:String}{aft:Array Edge}{gj t:Nat}{want:Bool}(hj:(ops[gj]?).bind (·.dst)=some t)(ht:σ.get t=some (.bool want))
  (h:ES X ops (⟨d,op,ty,pos,aft,none⟩::l) σ H Z):ES X ops (⟨d,op,ty,pos,aft,some (gj,want)⟩::l) σ H Z:=by
 intro a ha
 obtain⟨v,h1,h2⟩:=h a ha
 refine⟨v,?_,h2⟩
 rcases h1 with ⟨_,h1⟩|⟨h1,_⟩
 ·exact .inl ⟨by rw[wI (o:=⟨d,op,ty,pos,aft,some (gj,want)⟩) ha hj ht rfl];simp,h1⟩
 ·simp[Region.wanted]at h1
theorem GC {d:Nat}{op:Op}{ty:TypeId}{pos:String}{aft:Array Edge}{gj t:Nat}{want:Bool}(hj:(ops[gj]?).bind (·.dst)=some t)(ht:σ.get t=some (.bool !want))(hd:Nat.blt d X.N=true)
  (h:ES X ops l ((d,undef)::σ) H Z):ES X ops (⟨some d,op,ty,pos,aft,some (gj,want)⟩::l) σ H Z:=
 fun a ha=>⟨undef,.inr ⟨by rw[wI (o:=⟨some d,op,ty,pos,aft,some (gj,want)⟩) ha hj ht rfl];cases want<;>rfl,rfl⟩,h _ (ha.put hd _)⟩
theorem GD {d:Nat}{op:Op}{ty:TypeId}{pos:String}{aft:Array Edge}{gj t:Nat}{want:Bool}(hj:(ops[gj]?).bind (·.dst)=some t)(ht:σ.get t=some undef)(hd:Nat.blt d X.N=true)
  (h:ES X ops l ((d,undef)::σ) H Z):ES X ops (⟨some d,op,ty,pos,aft,some (gj,want)⟩::l) σ H Z:=
 fun a ha=>⟨undef,.inr ⟨by simp only[Region.wanted,yielded,List.getElem?_toArray,hj,Option.bind_some,ha.n5 t _ ht];rfl,rfl⟩,h _ (ha.put hd _)⟩
theorem sx {d:Option Nat}{op:Op}{ty:TypeId}{pos:String}{aft:Array Edge}{gj t:Nat}{want:Bool}{p:Prop}[Decidable p](hj:(ops[gj]?).bind (·.dst)=some t)(ht:σ.get t=some (.bool (decide p)))
  (h1:p→EL X k ops (⟨d,op,ty,pos,aft,some (gj,want)⟩::l) ((t,.bool true)::σ) H) (h2:¬p→EL X k ops (⟨d,op,ty,pos,aft,some (gj,want)⟩::l) ((t,.bool false)::σ) H):
  EL X k ops (⟨d,op,ty,pos,aft,some (gj,want)⟩::l) σ H:=Cq hj ht (fun h=>h1 (of_decide_eq_true h)) (fun h=>h2 (of_decide_eq_false h))
theorem NK {d:Option Nat}{op:Op}{ty:TypeId}{pos:String}{aft:Array Edge}{gj t:Nat}{want:Bool}{p:Prop}[Decidable p](hj:(ops[gj]?).bind (·.dst)=some t)(ht:σ.get t=some (.bool (!decide p)))
  (h1:¬p→EL X k ops (⟨d,op,ty,pos,aft,some (gj,want)⟩::l) ((t,.bool true)::σ) H) (h2:p→EL X k ops (⟨d,op,ty,pos,aft,some (gj,want)⟩::l) ((t,.bool false)::σ) H):
  EL X k ops (⟨d,op,ty,pos,aft,some (gj,want)⟩::l) σ H:=Cq hj ht (fun h=>h1 (by simpa using h)) (fun h=>h2 (by simpa using h))
theorem ob {v:Value}{f:FuncId}[ak X.P f]{args:Array Operand}{ats:Array TypeId}{vs:List Value}{d:Nat}{ty:TypeId}{pos:String}{aft:Array Edge}
  (iH:bW σ args.toList=some vs) (hc:Spec X.P f vs X.W H (fun _:Unit=>v) (fun _=>H)) (h:ES X ops l ((d,v)::σ) H Z) (hd:Nat.blt d X.N=true:=by rfl):
  ES X ops (⟨some d,.call {callee:= .value (.func f),args:=args,argTypes:=ats},ty,pos,aft,none⟩::l) σ H Z:=by
 intro a ha
 refine⟨v,.inl ⟨rfl,fun w hs=> .inr (.inr ⟨f,vs.toArray,w,u0 ha iH,?_⟩)⟩,h _ (ha.put hd _)⟩
 refine(hc w hs).mono ?_
 rintro e w' ⟨x,rfl,fH⟩
 exact⟨rfl,fH⟩
theorem wY {o:Oper}{p:Prop}{d:Decidable p}(h:pb σ o.op=some (.bool (@decide p d)))(hp:p):an X σ H o (.bool true):=by
 have:=kQ (X:=X) (H:=H) h
 rwa[decide_eq_true hp]at this
theorem wX {o:Oper}{p:Prop}{d:Decidable p}(h:pb σ o.op=some (.bool (@decide p d)))(hp:¬p):an X σ H o (.bool false):=by
 have:=kQ (X:=X) (H:=H) h
 rwa[decide_eq_false hp]at this
theorem Pe {o:Oper}{p:Prop}{d:Decidable p}(h:pb σ o.op=some (.bool (!(@decide p d))))(hp:¬p):an X σ H o (.bool true):=by
 have:=kQ (X:=X) (H:=H) h
 rwa[decide_eq_false hp]at this
theorem Pd {o:Oper}{p:Prop}{d:Decidable p}(h:pb σ o.op=some (.bool (!(@decide p d))))(hp:p):an X σ H o (.bool false):=by
 have:=kQ (X:=X) (H:=H) h
 rwa[decide_eq_true hp]at this
def U (H G:SL):Prop:=∀h,H h→∃h',G h'∧∀b o,h' b=some o→h b=some o
theorem U.sat {H G:SL}(k:U H G){W:World}:∀w,Sat W w H→Sat W w G:=fun w ⟨hb,x,p,hx⟩=>
 let⟨y,q,hy⟩:=k x p
 ⟨hb,y,q,fun b o ho=>hx b o (hy b o ho)⟩
theorem U.refl (H:SL):U H H:=fun h p=>⟨h,p,fun _ _ h=>h⟩
theorem U.trans {A B C:SL}(h:U A B)(k:U B C):U A C:=fun x p=>
 let⟨y,q,hy⟩:=h x p
 let⟨z,r,hz⟩:=k y q
 ⟨z,r,fun b o ho=>hy b o (hz b o ho)⟩
theorem U.of_eq {A B:SL}(h:A=B):U A B:=h▸U.refl A
theorem U.of_le {A B:SL}(h:SL.le A B):U A B:=fun x p=>⟨x,h x p,fun _ _ h=>h⟩
theorem U.star {A B F G:SL}(h:U A B)(k:U F G):U (A*F) (B*G):=by
 rintro x ⟨h1,h2,p,q,d,e⟩
 obtain⟨y1,p',k1⟩:=h h1 p
 obtain⟨y2,q',k2⟩:=k h2 q
 have e1:∀b,h1 b=none→y1 b=none:=fun b hb=>by
  cases hy:y1 b with
  |none=>rfl
  |some o=>rw[k1 b o hy]at hb;cases hb
 have e2:∀b,h2 b=none→y2 b=none:=fun b hb=>by
  cases hy:y2 b with
  |none=>rfl
  |some o=>rw[k2 b o hy]at hb;cases hb
 refine⟨fun b=>(y1 b).or (y2 b),⟨y1,y2,p',q',fun b=> ?_,fun _=>rfl⟩,fun b o ho=> ?_⟩
 ·rcases d b with hb|hb
  ·exact .inl (e1 b hb)
  ·exact .inr (e2 b hb)
 ·replace ho:(y1 b).or (y2 b)=some o:=ho
  rw[e b]
  cases hy:y1 b with
  |some o'=>
   rw[k1 b o' hy]
   rw[hy]at ho
   exact ho
  |none=>
   rw[hy]at ho
   have Ja:=k2 b o (by simpa using ho)
   rcases d b with hb|hb
   ·rw[hb,Ja];rfl
   ·rw[Ja]at hb;cases hb
theorem U.drop {A F:SL}:U (A*F) F:=by
 rintro x ⟨h1,h2,p,q,d,e⟩
 refine⟨h2,q,fun b o ho=> ?_⟩
 have:=d b
 rw[e b]
 cases hh:h1 b<;>simp_all
theorem U.any {H:SL}:U H 1:=fun _ _=>⟨fun _=>none,fun _=>rfl,fun _ _ h=>by cases h⟩
theorem U.last {H F R:SL}[h:Frame H F R]:U H F:=(U.of_eq (h.eq.trans (SL.u4 F R))).trans U.drop
theorem U.cons {H P F G:SL}[h:Frame H P F](k:U F G):U H (P*G):=(U.of_eq h.eq).trans (U.star (U.refl P) k)
theorem U.at {H C C' F G:SL}(p:Option Addr)[h:bZ H p C F](hc:C=C')(k:U F G):U H (C'*G):=hc▸(U.of_eq h.eq).trans (U.star (U.refl C) k)
theorem U.obj {H F G:SL}{t:TypeId}{cs eG:List Value}(p:Option Addr)[h:bZ H p (Obj p t cs) F](hc:cs=eG)(k:U F G):U H (Obj p t eG*G):=hc▸(U.of_eq h.eq).trans (U.star (U.refl _) k)
def iS (p:Option Addr)(t:TypeId):SL:=SL.ex (Obj p t)
instance (priority:=2000) bZ.uT (p:Option Addr)(t:TypeId)(F:SL):bZ (iS p t*F) p (iS p t) F:=⟨rfl⟩
instance iS.root (p:Option Addr)(t:TypeId):lT (iS p t) p:=⟨fun W w F h=>by
 obtain⟨cs,h⟩:=h.jA
 exact(Obj.root p t cs).nn W w F h⟩
theorem U.uT {H F G:SL}{p:Option Addr}{t:TypeId}{cs:List Value}[h:bZ H p (Obj p t cs) F](k:U F G):U H (iS p t*G):=(U.of_eq h.eq).trans (U.star (U.of_le (SL.Bp (Obj p t) cs)) k)
def vp (e sz:Nat)(p:Option Addr)(n cap:Nat):SL:=SL.ex (ad e sz p n cap)
instance (priority:=2000) bZ.BQ (e sz:Nat)(p:Option Addr)(n cap:Nat)(F:SL):bZ (vp e sz p n cap*F) p (vp e sz p n cap) F:=⟨rfl⟩
instance (priority:=800) Src.BQ (W:World)(H F:SL)(e sz n cap:Nat)(p:Option Addr)[r:bZ H p (vp e sz p n cap) F]:Src W H p n [] where
 cells:=fun w hs i v hv=>by simp at hv
 nn:=fun w hs hn=>by
  have h:=r.eq▸hs
  obtain⟨xs,h⟩:=Sat.jA (P:=ad e sz p n cap) h
  exact ad.nn h hn
theorem U.BQ {H F G:SL}{e sz:Nat}{p:Option Addr}{n cap:Nat}{xs:List Value}[h:bZ H p (ad e sz p n cap xs) F](k:U F G):U H (vp e sz p n cap*G):=(U.of_eq h.eq).trans (U.star (U.of_le (SL.Bp (ad e sz p n cap) xs)) k)
theorem U.row {H F G:SL}{e sz n n' c:Nat}{xs MR:List Value}(p:Option Addr)[h:bZ H p (ad e sz p n c xs) F](hn:n=n')(hc:xs=MR)(k:U F G):U H (ad e sz p n' c MR*G):=by
 subst hn
 subst hc
 exact(U.of_eq h.eq).trans (U.star (U.refl _) k)
theorem U.none {H G:SL}{e sz:Nat}(k:U H G):U H (ad e sz none 0 0 []*G):=by
 intro x p
 obtain⟨y,q,hy⟩:=k x p
 exact⟨y,⟨fun _=> .none,y,⟨by simp,.inl ⟨trivial,rfl,fun _=>rfl⟩⟩,q,fun _=> .inl rfl,fun _=>by simp⟩,hy⟩
theorem U.ex {α:Sort _}{H G:SL}{P:α→SL}(a:α)(k:U H (P a*G)):U H (SL.ex P*G):=k.trans (U.star (U.of_le (SL.Bp P a)) (U.refl G))
theorem U.assoc {H A B G:SL}(k:U H (A*(B*G))):U H ((A*B)*G):=SL.bP A B G▸k
theorem U.pure {H G:SL}{p:Prop}(hp:p)(k:U H G):U H (SL.pure p*G):=by
 intro x q
 obtain⟨y,r,hy⟩:=k x q
 exact⟨y,⟨fun _=> .none,y,⟨hp,fun _=>rfl⟩,r,fun _=> .inl rfl,fun _=>by simp⟩,hy⟩
theorem pR {α:Sort _}{F:SL}{P:α→SL}(h:∀a,EK X k σ (P a*F)):EK X k σ (SL.ex P*F):=fun a w ha hs=>
 let⟨x,hx⟩:=hs.jA
 h x a w ha hx
theorem iQ {G:SL}(e:U H G)(h:EK X k σ G):EK X k σ H:=Nz e.sat h
theorem NJ {G:SL}(e:U H G)(h:EL X k ops l σ G):EL X k ops l σ H:=zD e.sat h
theorem dc {C F:SL}(p:Option Addr)[r:bZ H p C F](h:EK X k σ (C*F)):EK X k σ H:=r.eq▸h
theorem NF {C F:SL}(p:Option Addr)[r:bZ H p C F](h:EL X k ops l σ (C*F)):EL X k ops l σ H:=r.eq▸h
theorem Spec.mono {P:Program}{f:FuncId}{vs:List Value}{W:World}{H:SL}{α β:Type}{r:α→Value}{H':α→SL}{r2:β→Value}{H2:β→SL}(h:Spec P f vs W H r H')(k:∀x,∃y,r x=r2 y∧U (H' x) (H2 y)):Spec P f vs W H r2 H2:=fun w hs=>
 (h w hs).mono fun e w' ⟨x,he,hx⟩=>
  let⟨y,e1,e2⟩:=k x
  ⟨y,by rw[he,e1],e2.sat _ hx⟩
theorem Spec.pre {P:Program}{f:FuncId}{vs:List Value}{W:World}{H G:SL}{α:Type}{r:α→Value}{H':α→SL}(h:Spec P f vs W G r H')(k:U H G):Spec P f vs W H r H':=fun w hs=>h w (k.sat w hs)
theorem Spec.aL {P:Program}{f:FuncId}{vs:List Value}{W:World}{H C F:SL}(p:Option Addr)[r:bZ H p C F]{α:Type}{rr:α→Value}{H':α→SL}(h:Spec P f vs W (C*F) rr H'):Spec P f vs W H rr H':=r.eq▸h
theorem Spec.eZ {P:Program}{f:FuncId}{vs:List Value}{W:World}{H C F D G:SL}(p q:Option Addr)[r:bZ H p C F][r2:bZ F q D G]{α:Type}{rr:α→Value}{H':α→SL}(h:Spec P f vs W (C*(D*G)) rr H'):Spec P f vs W H rr H':=by
 rw[r.eq,r2.eq];exact h
theorem Spec.vx {P:Program}{f:FuncId}{vs:List Value}{W:World}{H C F D G E K:SL}(p q s:Option Addr)[r:bZ H p C F][r2:bZ F q D G][r3:bZ G s E K]{α:Type}{rr:α→Value}{H':α→SL}(h:Spec P f vs W (C*(D*(E*K))) rr H'):Spec P f vs W H rr H':=by
 rw[r.eq,r2.eq,r3.eq];exact h
theorem ab {H G:SL}(h:U H G:=by first|exact U.refl _|exact U.last|(repeat(first|refine U.cons ?_ |exact U.any|exact U.last))):U H G:=h
theorem aV {H G:SL}(h:U H G:=by first|exact U.refl _|exact U.last|(repeat(first|refine U.cons ?_ |refine U.uT ?_ |exact U.any|exact U.last))):U H G:=h
theorem ag {H G:SL}(h:U H G:=by first|exact U.refl _|exact U.last|(repeat(first|refine U.cons ?_ |refine U.uT ?_ |refine U.BQ ?_ |exact U.any|exact U.last))):U H G:=h
end
section
open Go.RowKit
class GP (P:Program)(f:FuncId)(k:IntKind):Prop where
 h:∃fn,P.funcs[f]? =some fn∧(fn.name== "runtime.NumGoroutine")=false∧fn.body.isNone=true∧Extern.findNext fn=none∧Extern.find fn=some (Extern.Atomic.loadT (.int k))
class GQ (P:Program)(f:FuncId):Prop where
 h:∃fn,P.funcs[f]? =some fn∧(fn.name== "runtime.NumGoroutine")=false∧fn.body.isNone=true∧Extern.findNext fn=none∧Extern.find fn=some Extern.Atomic.storeT
class Cv (P:Program)(f:FuncId)(k:IntKind):Prop where
 h:∃fn,P.funcs[f]? =some fn∧(fn.name== "runtime.NumGoroutine")=false∧fn.body.isNone=true∧Extern.findNext fn=none∧Extern.find fn=some (Extern.Atomic.casT (.int k))
theorem As {α:Type}{l:List α}{i:Nat}(d:α)(h:i<l.length):l[i]? =some (l.getD i d):=by simp[List.getD_eq_getElem?_getD,h]
class Pos (n:Nat):Prop where pos:0<n
instance NN.aeE (H F:SL)(q p:Option Addr)(i s j e sz n c:Nat)(xs:List Value)[l:lS q p i s j][r:bZ H p (ad e sz p n c xs) F][h:Pos n]:NN H q:=⟨fun W w hs=>by
 have:=ad.nn (r.eq▸hs) h.pos
 rw[l.eq]
 cases p with
 |none=>exact absurd rfl this
 |some a=>simp[Go.Proofs.YtfkngchldmfpfaaGreatDoor.off]⟩
class vg (H:SL)(q:Option Addr)(v:outParam Value)(φ:outParam Prop):Prop where
 get:φ→∀W w,Sat W w H→∃a,q=some a∧w.cell? a=some v∧w.frozen? a=false
class zz (H:SL)(q:Option Addr)(u:Value)(H':outParam SL)(φ:outParam Prop):Prop where
 put:φ→∀W w a,Sat W w H→q=some a→Sat W (w.setCell a u) H'
theorem ad.setCell {W w:World}{F:SL}{e sz n cap:Nat}{p:Option Addr}{xs:List Value}(h:Sat W w (ad e sz p n cap xs*F)){i:Nat}(hi:i<n*sz)(u:Value):
  ∃a v,off p i=some a∧xs[i]? =some v∧w.cell? a=some v∧w.frozen? a=false∧Sat W (w.setCell a u) (ad e sz p n cap (xs.set i u)*F):=by
 obtain⟨⟨hl,hn,hm⟩,⟨_,hc,_⟩|⟨g,o,cur,rfl,h2,h3,hs⟩⟩:=ad.open h
 ·have h0:n=0:=by omega
  subst h0
  omega
 ·have hle:=Nat.mul_le_mul_right sz hn
  have hx:i<xs.length:=by omega
  refine⟨(⟨g,o,none⟩:Addr).add i,xs[i],rfl,List.getElem?_eq_getElem hx,?_,?_,?_⟩
  ·obtain⟨a,h4,h5⟩:=ad.cell h (List.getElem?_eq_getElem hx)
   simp only[off,Option.map_some,Option.some.injEq]at h4
   rw[h4];exact h5
  ·rw[pZ];exact hs.free _
  ·rw[pZ]
   have h6:=hs.set (o+i) u
   rw[List.setIfInBounds_toArray]at h6
   refine ad.shut hn hm (by simpa using h2) ?_ h6
   subst h3
   apply List.ext_getElem?
   intro j
   simp only[List.getElem?_take,List.getElem?_drop,List.getElem?_set,List.length_take,List.length_drop,List.length_set]
   repeat' split
   all_goals first
    |rfl
    |omega
    |(congr 1;omega)
    |skip
instance vg.row (H F:SL)(q p:Option Addr)(i s j e sz n c:Nat)(xs:List Value)(v:Value)(φ:Prop)[l:lS q p i s j][r:bZ H p (ad e sz p n c xs) F][g:hU xs i s j v φ]:vg H q v φ:=⟨fun hφ W w hs=>by
 have hg:=g.get hφ
 have hr:=r.eq▸hs
 have hi:i*s+j<n*sz:=by rw[←(ad.len hr).1];exact(List.getElem?_eq_some_iff.1 hg).1
 obtain⟨a,u,h1,h2,h3,h4,_⟩:=ad.setCell hr hi v
 rw[hg]at h2
 cases h2
 exact⟨a,by rw[l.eq,h1],h3,h4⟩⟩
instance zz.row (H F:SL)(q p:Option Addr)(i s j e sz n c:Nat)(xs ys:List Value)(u:Value)(φ:Prop)[l:lS q p i s j][r:bZ H p (ad e sz p n c xs) F][g:kR xs i s j [u] ys φ]:zz H q u (ad e sz p n c ys*F) φ:=⟨fun hφ W w a hs hq=>by
 obtain⟨h1,rfl⟩:=g.set hφ
 have hr:=r.eq▸hs
 simp only[List.length_cons,List.length_nil]at h1
 have hi:i*s+j<n*sz:=by rw[←(ad.len hr).1];omega
 obtain⟨b,v,h2,_,_,_,h5⟩:=ad.setCell hr hi u
 rw[l.eq,h2]at hq
 simp only[Option.some.injEq]at hq
 subst hq
 rw[List.set_eq_take_append_cons_drop,if_pos (by omega)]at h5
 simpa using h5⟩
variable {X:Cx} {k:List KI} {σ:Env} {H:SL} {o:Oper}
theorem OM {x:Operand}{ats:Array TypeId}{f:FuncId}{kk:IntKind}[I:GP X.P f kk]{q:Option Addr}{z:Int}{φ:Prop}(ho:o.op= .call {callee:= .value (.func f),args:= #[x],argTypes:=ats})(hx:ev σ x=some (.pointer q))[c:vg H q (.int kk z) φ](hφ:φ):an X σ H o (.int kk z):=by
 intro a w ha hs
 obtain⟨fn,h1,h2,h3,h4,h5⟩:=I.h
 obtain⟨b,rfl,hc,_⟩:=c.get hφ _ w hs
 simp only[execOp,ho,resolve,Act.eval,Deferred.ofValue,Sem.run_bind,Sem.run_pure,Result.andThen_ok,invoke,Array.empty_append,Array.append_empty]
 have:Array.map a.eval #[x]= #[.pointer (some b)]:=by simp[ha.eval hx]
 rw[this]
 exact run_call_load h1 h2 h3 h4 kk h5 hc
theorem OB {x y:Operand}{ats:Array TypeId}{f:FuncId}{kk:IntKind}[I:GQ X.P f]{q:Option Addr}{z:Int}{v:Value}{φ ψ:Prop}{H':SL}(ho:o.op= .call {callee:= .value (.func f),args:= #[x,y],argTypes:=ats})(hx:ev σ x=some (.pointer q))(hy:ev σ y=some (.int kk z))[c:vg H q v φ][d:zz H q (.int kk z) H' ψ](hφ:φ)(hψ:ψ):
  aR X σ H o (fun _:Unit=> .tuple #[]) (fun _=>H'):=by
 intro a w ha hs
 obtain⟨fn,h1,h2,h3,h4,h5⟩:=I.h
 obtain⟨b,rfl,hc,hf⟩:=c.get hφ _ w hs
 refine⟨(),_,?_,d.put hψ _ w b hs rfl⟩
 simp only[execOp,ho,resolve,Act.eval,Deferred.ofValue,Sem.run_bind,Sem.run_pure,Result.andThen_ok,invoke,Array.empty_append,Array.append_empty]
 have:Array.map a.eval #[x,y]= #[.pointer (some b),.int kk z]:=by simp[ha.eval hx,ha.eval hy]
 rw[this]
 exact run_call_store h1 h2 h3 h4 h5 hc hf
theorem Oz {x y y':Operand}{ats:Array TypeId}{f:FuncId}{kk:IntKind}[I:Cv X.P f kk]{q:Option Addr}{z u u':Int}{φ ψ:Prop}{H':SL}(ho:o.op= .call {callee:= .value (.func f),args:= #[x,y,y'],argTypes:=ats})(hx:ev σ x=some (.pointer q))(hy:ev σ y=some (.int kk u))(EP:ev σ y'=some (.int kk u'))[c:vg H q (.int kk z) φ][d:zz H q (.int kk u') H' ψ](hφ:φ)(hψ:ψ)(he:z=u):
  aR X σ H o (fun _:Unit=> .bool true) (fun _=>H'):=by
 intro a w ha hs
 subst he
 obtain⟨fn,h1,h2,h3,h4,h5⟩:=I.h
 obtain⟨b,rfl,hc,hf⟩:=c.get hφ _ w hs
 refine⟨(),_,?_,d.put hψ _ w b hs rfl⟩
 simp only[execOp,ho,resolve,Act.eval,Deferred.ofValue,Sem.run_bind,Sem.run_pure,Result.andThen_ok,invoke,Array.empty_append,Array.append_empty]
 have:Array.map a.eval #[x,y,y']= #[.pointer (some b),.int kk z,.int kk u']:=by simp[ha.eval hx,ha.eval hy,ha.eval EP]
 rw[this]
 exact run_call_cas_hit h1 h2 h3 h4 kk h5 hc hf
theorem OI {x y y':Operand}{ats:Array TypeId}{f:FuncId}{kk:IntKind}[I:Cv X.P f kk]{q:Option Addr}{z u u':Int}{φ:Prop}(ho:o.op= .call {callee:= .value (.func f),args:= #[x,y,y'],argTypes:=ats})(hx:ev σ x=some (.pointer q))(hy:ev σ y=some (.int kk u))(EP:ev σ y'=some (.int kk u'))[c:vg H q (.int kk z) φ](hφ:φ)(he:¬z=u):
  an X σ H o (.bool false):=by
 intro a w ha hs
 obtain⟨fn,h1,h2,h3,h4,h5⟩:=I.h
 obtain⟨b,rfl,hc,hf⟩:=c.get hφ _ w hs
 simp only[execOp,ho,resolve,Act.eval,Deferred.ofValue,Sem.run_bind,Sem.run_pure,Result.andThen_ok,invoke,Array.empty_append,Array.append_empty]
 have:Array.map a.eval #[x,y,y']= #[.pointer (some b),.int kk u,.int kk u']:=by simp[ha.eval hx,ha.eval hy,ha.eval EP]
 rw[this]
 exact run_call_cas_miss h1 h2 h3 h4 kk h5 hc hf he
def ba (k:IntKind)(l:List Nat):List Value:=l.map fun(n:Nat)=> .int k (n:Int)
def aJ (k:IntKind)(l:List Int):List Value:=l.map fun n=> .int k n
theorem qF (k:IntKind)(l:List Nat):(ba k l).length=l.length:=by simp[ba]
theorem Bj (k:IntKind)(l:List Int):(aJ k l).length=l.length:=by simp[aJ]
instance hU.Wb (k:IntKind)(l:List Nat)(i:Nat):hU (ba k l) i 1 0 (.int k ((l.getD i 0:Nat):Int)) (i<l.length):=⟨fun h=>by
 simp only[ba,List.getElem?_map,Nat.mul_one,Nat.add_zero,As 0 h,Option.map_some]⟩
instance hU.ints (k:IntKind)(l:List Int)(i:Nat):hU (aJ k l) i 1 0 (.int k (l.getD i 0)) (i<l.length):=⟨fun h=>by
 simp only[aJ,List.getElem?_map,Nat.mul_one,Nat.add_zero,As 0 h,Option.map_some]⟩
theorem FR {l:List Value}{i:Nat}{v:Value}(h:i<l.length):l.set i v=l.take i++[v]++l.drop (i+1):=by
 rw[List.set_eq_take_append_cons_drop,if_pos h];simp
instance kR.Wb (k:IntKind)(l:List Nat)(i n:Nat)(z:Int)[m:bQ z n]:kR (ba k l) i 1 0 [.int k z] (ba k (l.set i n)) (i<l.length):=⟨fun h=>by
 rw[m.eq]
 refine⟨by simp[ba];omega,?_⟩
 simp only[Nat.mul_one,Nat.add_zero,List.length_cons,List.length_nil,Nat.zero_add]
 rw[←FR (by simpa[ba]using h)]
 simp[ba,List.map_set]⟩
instance kR.ints (k:IntKind)(l:List Int)(i:Nat)(z:Int):kR (aJ k l) i 1 0 [.int k z] (aJ k (l.set i z)) (i<l.length):=⟨fun h=>by
 refine⟨by simp[aJ];omega,?_⟩
 simp only[Nat.mul_one,Nat.add_zero,List.length_cons,List.length_nil,Nat.zero_add]
 rw[←FR (by simpa[aJ]using h)]
 simp[aJ,List.map_set]⟩
instance gP.aeG (k:IntKind)(l:List Nat):gP (ba k l):=⟨by simp[Go.Proofs.YtfkngchldmfpfaaGreatDoor.dA,ba,Value.oneCell']⟩
theorem tv {α:Type}{l:List α}{i:Nat}{d:α}(h:i<l.length):l.take i++[l.getD i d]=l.take (i+1):=by
 rw[List.take_add_one,As d h];rfl
theorem BA (k:IntKind)(l:List Nat)(n:Nat):ba k l++[.int k (n:Int)]=ba k (l++[n]):=by simp[ba]
end
section
open Go.RowKit
def bs (l:List UInt8):ByteArray:=⟨l.toArray⟩
class lu (s:ByteArray)(l:outParam (List UInt8)):Prop where eq:s=bs l
instance (priority:=2000) lu.iBs (l:List UInt8):lu (bs l) l:=⟨rfl⟩
instance (priority:=1900) lu.iMk (l:List UInt8):lu ⟨l.toArray⟩ l:=⟨rfl⟩
theorem tY (l:List UInt8):(bs l).size=l.length:=by simp[bs,ByteArray.size]
theorem HT (l:List UInt8):(bs l).toList=l:=by
 simp[bs,ByteArray.toList_eq]
theorem QH (a b:List UInt8):bs a++bs b=bs (a++b):=by
 apply ByteArray.ext
 simp[bs,ByteArray.data_append]
theorem QI (l:List UInt8)(i j:Nat):(bs l).extract i j=bs ((l.take j).drop i):=by
 apply ByteArray.ext
 simp[bs,ByteArray.data_extract,List.drop_take]
theorem QJ {l:List UInt8}{i:Nat}(h:i<l.length):(bs l)[i]? =some (l.getD i 0):=by
 have:i<(bs l).size:=by rw[tY];exact h
 rw[getElem?_pos (bs l) i this]
 simp[bs,ByteArray.getElem_eq_getElem_data,List.getD_eq_getElem?_getD,h]
variable {X:Cx} {k:List KI} {σ:Env} {H:SL} {o:Oper}
theorem O3 {x:Operand}{s:ByteArray}{l:List UInt8}{t:TypeId}(ho:o.op= .call {callee:= .builtin .len,args:= #[x],argTypes:= #[t]})(hx:ev σ x=some (.string s))[m:lu s l][u:q9 X.P t]:an X σ H o (.int .i64 (l.length:Int)):=by
 intro a w ha hs
 have e:=m.eq
 subst e
 simp only[execOp,ho,resolve,invoke,builtin,Sem.run_bind,Sem.run_pure,Result.andThen_ok,List.map_toArray,List.map_cons,List.map_nil,ha.eval hx]
 simp[Builtin.len_,run_underlying u.h,tY,go_sem]
theorem O0 {x y:Operand}{s:ByteArray}{l:List UInt8}{t:TypeId}{kk:IntKind}{z:Int}{i:Nat}(ho:o.op= .index t x y)(hx:ev σ x=some (.string s))(hy:ev σ y=some (.int kk z))[m:lu s l][q:bQ z i][u:q9 X.P t](hi:i<l.length):an X σ H o (.int .u8 (((l.getD i 0).toNat:Nat):Int)):=by
 intro a w ha hs
 have e:=m.eq
 subst e
 have e:=q.eq
 subst e
 simp only[execOp,ho,ha.eval hx,ha.eval hy]
 simp[Instr.index,asIntOf,run_underlying u.h,QJ hi,go_sem]
theorem FM {P:Program}{w:World}{op:BinOp}{t:TypeId}{p q:Operand}{a b:ByteArray}:(eqGuard op t p q (.string a) (.string b)).run P w= .ok () w:=by
 unfold eqGuard
 cases op<;>rfl
theorem Pt {x y:Operand}{t u:TypeId}{s r:ByteArray}{l m:List UInt8}(ho:o.op= .binOp .eql t x y u)(hx:ev σ x=some (.string s))(hy:ev σ y=some (.string r))[e1:lu s l][e2:lu r m]:an X σ H o (.bool (decide (l=m))):=by
 intro a w ha hs
 have e:=e1.eq
 subst e
 have e:=e2.eq
 subst e
 simp only[execOp,ho,ha.eval hx,ha.eval hy]
 have:(l==m)=decide (l=m):=by rw[Bool.eq_iff_iff];simp
 simp[Sem.run_bind,FM,binOp,Op.stringOp,HT,this,go_sem]
theorem Pu {x y:Operand}{t u:TypeId}{s r:ByteArray}{l m:List UInt8}(ho:o.op= .binOp .neq t x y u)(hx:ev σ x=some (.string s))(hy:ev σ y=some (.string r))[e1:lu s l][e2:lu r m]:an X σ H o (.bool (!decide (l=m))):=by
 intro a w ha hs
 have e:=e1.eq
 subst e
 have e:=e2.eq
 subst e
 simp only[execOp,ho,ha.eval hx,ha.eval hy]
 have:(l==m)=decide (l=m):=by rw[Bool.eq_iff_iff];simp
 simp[Sem.run_bind,FM,binOp,Op.stringOp,HT,this,go_sem]
theorem Ps {x y:Operand}{t u:TypeId}{s r:ByteArray}{l m:List UInt8}(ho:o.op= .binOp .add t x y u)(hx:ev σ x=some (.string s))(hy:ev σ y=some (.string r))[e1:lu s l][e2:lu r m](hb:l.length+m.length≤9223372036854775807):an X σ H o (.string (bs (l++m))):=by
 intro a w ha hs
 have e:=e1.eq
 subst e
 have e:=e2.eq
 subst e
 simp only[execOp,ho,ha.eval hx,ha.eval hy]
 have hn:¬(((bs l).size+(bs m).size:Nat):Int)>IntKind.i64.max:=by
  rw[tY,tY]
  have:IntKind.i64.max=9223372036854775807:=rfl
  omega
 simp only[Sem.run_bind,FM,binOp,Op.stringOp,Result.andThen_ok,if_neg hn,QH]
 rfl
theorem XK {P:Program}{w:World}{t:TypeId}[u:q9 P t]{l:List UInt8}{lo hi:Option Value}{i j:Nat}(hl:lo=none∧i=0∨∃kk,lo=some (.int kk (i:Int)))(hh:hi=none∧j=l.length∨∃kk,hi=some (.int kk (j:Int)))(yl:i≤j)(hj:j≤l.length):
  (Instr.sliceAt t (.string (bs l)) lo hi none).run P w= .ok (.string (bs ((l.take j).drop i))) w:=by
 have h2:(i:Int)≤(j:Int):=by omega
 have h3:(j:Int)≤(l.length:Int):=by omega
 rcases hl with ⟨rfl,rfl⟩|⟨k1,rfl⟩<;>rcases hh with ⟨rfl,rfl⟩|⟨k2,rfl⟩<;>
  simp[Instr.sliceAt,Instr.slice,Instr.sliceBounds,Instr.sliceBound,asIntOf,run_underlying u.h,tY,QI,h2,h3,yl,hj,go_sem]
 all_goals first|done|(intro;omega)
theorem Hi {x:Operand}{lo hi:Option Operand}{s:ByteArray}{l:List UInt8}{t:TypeId}{i j:Nat}(ho:o.op= .slice t x lo hi none)(hx:ev σ x=some (.string s))[m:lu s l][u:q9 X.P t]
  (hl:lo=none∧i=0∨∃y kk z,lo=some y∧ev σ y=some (.int kk z)∧z=(i:Int)) (hh:hi=none∧j=l.length∨∃y kk z,hi=some y∧ev σ y=some (.int kk z)∧z=(j:Int)) (yl:i≤j) (hj:j≤l.length):an X σ H o (.string (bs ((l.take j).drop i))):=by
 intro a w ha hs
 have e:=m.eq
 subst e
 simp only[execOp,ho,ha.eval hx]
 have h1:lo.map a.eval=none∧i=0∨∃kk,lo.map a.eval=some (.int kk (i:Int)):=by
  rcases hl with ⟨rfl,h⟩|⟨y,kk,z,rfl,h,rfl⟩
  ·exact .inl ⟨rfl,h⟩
  ·exact .inr ⟨kk,by simp[ha.eval h]⟩
 have h2:hi.map a.eval=none∧j=l.length∨∃kk,hi.map a.eval=some (.int kk (j:Int)):=by
  rcases hh with ⟨rfl,h⟩|⟨y,kk,z,rfl,h,rfl⟩
  ·exact .inl ⟨rfl,h⟩
  ·exact .inr ⟨kk,by simp[ha.eval h]⟩
 simp only[Sem.run_bind,Option.map_none,XK h1 h2 yl hj,Result.andThen_ok]
 rfl
theorem Pr {x y:Operand}{s:ByteArray}{l:List UInt8}{t:TypeId}{kk:IntKind}{z:Int}{i:Nat}(ho:o.op= .slice t x (some y) none none)(hx:ev σ x=some (.string s))(hy:ev σ y=some (.int kk z))[m:lu s l][u:q9 X.P t][q:bQ z i](hi:i≤l.length):an X σ H o (.string (bs (l.drop i))):=by
 have:=Hi (X:=X) (H:=H) (j:=l.length) ho hx (.inr ⟨y,kk,z,rfl,hy,q.eq⟩) (.inl ⟨rfl,rfl⟩) hi (Nat.le_refl _)
 rwa[List.take_length]at this
theorem Pq {x y:Operand}{s:ByteArray}{l:List UInt8}{t:TypeId}{kk:IntKind}{z:Int}{j:Nat}(ho:o.op= .slice t x none (some y) none)(hx:ev σ x=some (.string s))(hy:ev σ y=some (.int kk z))[m:lu s l][u:q9 X.P t][q:bQ z j](hi:j≤l.length):an X σ H o (.string (bs (l.take j))):=by
 have:=Hi (X:=X) (H:=H) (i:=0) ho hx (.inl ⟨rfl,rfl⟩) (.inr ⟨y,kk,z,rfl,hy,q.eq⟩) (Nat.zero_le _) hi
 rwa[List.drop_zero]at this
def ar (l:List UInt8):List Value:=l.map fun b=> .int .u8 ((b.toNat:Nat):Int)
theorem mJ (l:List UInt8):(ar l).length=l.length:=by simp[ar]
instance hU.bytes (l:List UInt8)(i:Nat):hU (ar l) i 1 0 (.int .u8 (((l.getD i 0).toNat:Nat):Int)) (i<l.length):=⟨fun h=>by
 simp only[ar,List.getElem?_map,Nat.mul_one,Nat.add_zero,As 0 h,Option.map_some]⟩
instance gP.aeB (l:List UInt8):gP (ar l):=⟨by simp[Go.Proofs.YtfkngchldmfpfaaGreatDoor.dA,ar,Value.oneCell']⟩
class Ck (xs:List Value)(l:outParam (List UInt8))(φ:outParam Prop):Prop where eq:φ→xs=ar l
instance (priority:=2000) Ck.iR (l:List UInt8):Ck (ar l) l ((0:Int)≤0):=⟨fun _=>rfl⟩
def PL (e sz:Nat)(p:Option Addr)(n cap:Nat)(xs:List Value):SL:=fun h=>
 (xs.length=n*sz∧n≤cap)∧∃(g o:Nat) (cur:List Value) (fr:Nat×Nat),p=some ⟨g,o,none⟩∧(cur.drop o).take (n*sz)=xs∧SL.cO g (.cells cur.toArray e fr) h
theorem CQ {x:Operand}{t u e sz cL:TypeId}{z:List Value}{s:ByteArray}{l:List UInt8}(ho:o.op= .convert t u x)(hx:ev σ x=some (.string s))[m:lu s l][u1:q9 X.P t][u2:eY X.P u e sz cL z][u3:mH X.P e .u8]:
  aR X σ H o (fun q:Option Addr×Nat=> .slice q.1 l.length q.2) (fun q=>PL e 1 q.1 l.length q.2 (ar l)*H):=by
 intro a w ha hs
 have e1:=m.eq
 subst e1
 refine⟨(some ⟨w.heap.size,0,none⟩,grownCap w (bs l).size 0 e),Lib.bytesWorld w e (bs l),?_,?_⟩
 ·simp only[execOp,ho,ha.eval hx,Sem.run_bind,Lib.run_convert_string_bytes w t u e (bs l) u1.h u2.under u3.h,Result.andThen_ok,tY]
  rfl
 ·have hn:=hs.new (w':=Lib.bytesWorld w e (bs l)) (b:=w.heap.size) rfl (by rw[Lib.bytesWorld_size];omega) (by simp[Lib.bytesWorld,World.freeze,World.alloc,World.drew, -World.alloc_eq, -World.drew_eq]) (by simp[Lib.bytesWorld,World.freeze,World.alloc,World.drew, -World.alloc_eq, -World.drew_eq])
   (by simp[Lib.bytesWorld,World.freeze,World.alloc,World.drew, -World.alloc_eq, -World.drew_eq]) (fun k hk=>Lib.bytesWorld_at_old w e (bs l) k hk) (Lib.bytesWorld_at_new w e (bs l))
  refine hn.left fun y hy=>⟨⟨by rw[mJ,Nat.mul_one],?_⟩,w.heap.size,0,(Lib.bytesCells w e (bs l)).toList,_,rfl,?_,by rw[Array.toArray_toList];exact hy⟩
  ·rw[←tY];exact grownCap_ge w _ _ _
  ·rw[List.drop_zero,Nat.mul_one]
   simp[Lib.bytesCells,bs,ar]
theorem OR {x:Operand}{t u e sz cL n n0 cap:Nat}{z xs:List Value}{p:Option Addr}{l:List UInt8}{φ:Prop}(ho:o.op= .convert t u x)(hx:ev σ x=some (.slice p n cap))[u1:eY X.P t e sz cL z][u2:mH X.P e .u8][u3:q9 X.P u]
  [r:Src X.W H p n0 xs] [b:Ck xs l φ] (hφ:φ) (hn:l.length=n):an X σ H o (.string (bs l)):=by
 intro a w ha hs
 have hb:=b.eq hφ
 subst hb
 subst hn
 simp only[execOp,ho,ha.eval hx]
 cases p with
 |none=>
  have h0:l=[]:=by
   cases l with
   |nil=>rfl
   |cons c l=>
    obtain⟨q,hq,_⟩:=r.cells w hs 0 (.int .u8 ((c.toNat:Nat):Int)) (by simp[ar])
    simp[off]at hq
  subst h0
  simp[convert,run_underlying u1.under,run_underlying u2.h,run_underlying u3.h,Conv.bytesToString,go_sem,bs]
  rfl
 |some q=>
  simp only[Sem.run_bind,run_convert_bytes_back w t u e q cap l u1.under u2.h u3.h (fun j hj=>by
   obtain⟨a',h1,h2⟩:=r.cells w hs j (.int .u8 (((l[j]).toNat:Nat):Int)) (by simp[ar,hj])
   simp only[off,Option.map_some,Option.some.injEq]at h1
   rw[h1];exact h2),Result.andThen_ok]
  rfl
end
end Go.Proofs.YtfkngchldmfpfaaGreatDoor
