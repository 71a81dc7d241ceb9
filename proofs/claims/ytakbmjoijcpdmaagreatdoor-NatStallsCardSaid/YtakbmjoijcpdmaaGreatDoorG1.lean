/-
  A part of a proof, joined by a program (wip/bundle3.py).
-/
import Derived.StillTail
import Derived.StillTailTactics
import Derived.Lib.ConvBytes
import Derived.Laws.IdiomStrings
import Derived.Test.YtakbmjoijcpdmaaGreatDoorG0
set_option linter.unusedVariables false
set_option linter.unusedSimpArgs false
namespace Go.Proofs.YtakbmjoijcpdmaaGreatDoor
section
open Go.RowKit
variable {X:Cx} {k:List KI} {σ:Env} {H:SL} {o:Oper}
theorem cL.parts {P:Program}{t e sz bw:Nat}{z:List Value}(s:cL P t e sz bw z):∃i v,P.info? e=some i∧i.zero=some v∧i.size=sz∧i.bytes=bw∧v.cells=z.toArray:=by
 obtain⟨v,h1,h2⟩:=s.info
 obtain⟨i,hi,h3⟩:=kD h1
 simp only[Prod.mk.injEq]at h3
 exact⟨i,v,hi,h3.1,h3.2.1,h3.2.2,h2⟩
theorem G8 {P:Program}{W w:World}{F:SL}{t ty e sz bw n cap m c:Nat}{z xs news:List Value}{p q:Option Addr}(s:cL P t e sz bw z)(h:Sat W w (ao e sz p n cap xs*F))
  (hq:0<m→q≠none) (Ts:∀i v,news[i]? =some v→∃a,off q i=some a∧w.cell? a=some v) (hl:news.length=m*sz) (h1:je news=true) (C9:n+m≤maxLen) (k9:(n+m)*bw≤140737488355328):
  ∃p' c' w',(Builtin.append_ #[t,t] ty #[.slice p n cap,.slice q m c]).run P w= .ok (.slice p' (n+m) c') w'∧Sat W w' (ao e sz p' (n+m) c' (xs++news)*F):=by
 obtain⟨i,v,hi,hz,dW,kZ,xa⟩:=s.parts
 have DU:=s.pos
 have D7:v.cells.size=sz:=by rw[xa];simpa using s.len
 subst dW
 subst kZ
 have adV:n+m≤9223372036854775807:=by simp only[maxLen]at C9;omega
 by_cases hm:m=0
 ·subst hm
  have DM:news=[]:=List.eq_nil_of_length_eq_zero (by simpa using hl)
  subst DM
  obtain⟨_,Jc,_⟩:=ao.len h
  refine⟨p,cap,w,?_,by simpa using h⟩
  cases q<;>cases p<;>simp[Builtin.append_,run_underlying s.under,sizeOf,typeInfo,hi,Builtin.lenOf,Jc,Builtin.firstCells,loadCells,loadCellsFrom,storeCells]
 have Jb:0<m:=by omega
 have TD:=hq Jb
 cases q with
 |none=>exact absurd rfl TD
 |some a=>
  have zB:∀j u,news[j]? =some u→w.cell? (a.add j)=some u:=fun j u hu=>by
   obtain⟨b,h2,h3⟩:=Ts j u hu
   simp only[off,Option.map_some,Option.some.injEq]at h2
   rw[h2];exact h3
  obtain⟨⟨w5,Jc,Dh⟩,⟨_,SH,hs⟩|⟨g,o,cur,rfl,h2,h3,hs⟩⟩:=ao.open h
  ·have DM:n=0:=by omega
   subst DM
   have ou:xs=[]:=List.eq_nil_of_length_eq_zero (by simpa using w5)
   subst ou
   subst SH
   cases p with
   |some a0=>
    have hr:=run_append_grow (P:=P) w t ty e i v s.under hi hz a0 0 0 [] (by simp) (by simp) a m c news hl zB (by omega) (by omega) (growslice_fits (by omega) k9)
    have nF:=grownCap_ge w (0+m) 0 e
    have Di:=grownCap_le_maxLen w (0+m) 0 e C9
    refine⟨_,_,_,hr,?_⟩
    have hn:=hs.drew.alloc (.cells ((([]:List Value).toArray)++news.toArray++Builtin.zeroCells v.cells (grownCap w (0+m) 0 e-(0+m))) e)
    have hc:(([]:List Value).toArray)++news.toArray++Builtin.zeroCells v.cells (grownCap w (0+m) 0 e-(0+m))=(([]++news)++(Builtin.zeroCells v.cells (grownCap w (0+m) 0 e-(0+m))).toList).toArray:=by simp
    rw[hc]at hn ⊢
    have wU:(Builtin.zeroCells v.cells (grownCap w (0+m) 0 e-(0+m))).toList.length=(grownCap w (0+m) 0 e-(0+m))*i.size:=by simp[size_zeroCells,D7]
    have w7:(([]:List Value)++news).length=(0+m)*i.size:=by rw[List.length_append,hl];simp
    exact ao.shut (o:=0) nF Di (by rw[List.length_append,wU,w7,←Nat.add_mul];exact Nat.le_of_eq (by rw[Nat.zero_add];congr 1;omega)) (by rw[List.drop_zero,←w7,List.take_left]) hn
   |none=>
   have hr:=run_append_nil (P:=P) w t ty e i v s.under hi hz a m c news hl zB Jb (by omega) (by have:=k9;simp only[Nat.zero_add]at this;omega)
   have nF:=grownCap_ge w m 0 e
   have Dh:=grownCap_le_maxLen w m 0 e (by omega)
   refine⟨_,_,_,by rw[Nat.zero_add];exact hr,?_⟩
   have hn:=hs.drew.alloc (.cells (news.toArray++Builtin.zeroCells v.cells (grownCap w m 0 e-m)) e)
   have hc:news.toArray++Builtin.zeroCells v.cells (grownCap w m 0 e-m)=(news++(Builtin.zeroCells v.cells (grownCap w m 0 e-m)).toList).toArray:=by simp
   rw[hc]at hn ⊢
   have wU:(Builtin.zeroCells v.cells (grownCap w m 0 e-m)).toList.length=(grownCap w m 0 e-m)*i.size:=by simp[size_zeroCells,D7]
   have:=ao.shut (e:=e) (sz:=i.size) (o:=0) (n:=m) (cap:=grownCap w m 0 e) (xs:=news) nF Dh (by
    rw[List.length_append,wU,hl,←Nat.add_mul];exact Nat.le_of_eq (by rw[Nat.zero_add];congr 1;omega)) (by rw[List.drop_zero,←hl,List.take_left]) hn
   simpa using this
  ·by_cases wM:n+m≤cap
   ·have hle:(n+m)*i.size≤cap*i.size:=Nat.mul_le_mul_right _ wM
    rw[Nat.add_mul]at hle
    obtain⟨w',h4,h5⟩:=Ct (P:=P) (o:=o+n*i.size) (vs:=news) hs (by rw[hl];omega) h1
    have hf:=run_firstCells_some (P:=P) w i.size m a m c news hl zB
    refine⟨some ⟨g,o,none⟩,cap,w',?_,ao.shut wM Dh ?_ ?_ h5⟩
    ·simp[Builtin.append_,run_underlying s.under,sizeOf,typeInfo,hi,Builtin.lenOf,wM,hf,oM,h4]
    ·simp;omega
    ·rw[Nat.add_mul,←h3,List.drop_append_of_le_length (by simp;omega),List.drop_append_of_le_length (by simp;omega),List.drop_take,show o+n*i.size-o=n*i.size by omega]
     have e1:((List.take (n*i.size) (List.drop o cur))++news).length=n*i.size+m*i.size:=by simp;omega
     rw[←e1,List.take_left]
   ·have holds:∀j u,xs[j]? =some u→w.cell? ((⟨g,o,none⟩:Addr).add j)=some u:=fun j u hu=>by
     obtain⟨b,h4,h5⟩:=ao.cell h hu
     simp only[off,Option.map_some,Option.some.injEq]at h4
     rw[h4];exact h5
    have hr:=run_append_grow (P:=P) w t ty e i v s.under hi hz ⟨g,o,none⟩ n cap xs w5 holds a m c news hl zB (by omega) (by omega) (growslice_fits (by omega) k9)
    have nF:=grownCap_ge w (n+m) cap e
    have Di:=grownCap_le_maxLen w (n+m) cap e C9
    refine⟨_,_,_,hr,?_⟩
    have hn:=hs.drop.drew.alloc (.cells (xs.toArray++news.toArray++Builtin.zeroCells v.cells (grownCap w (n+m) cap e-(n+m))) e)
    have hc:xs.toArray++news.toArray++Builtin.zeroCells v.cells (grownCap w (n+m) cap e-(n+m))=((xs++news)++(Builtin.zeroCells v.cells (grownCap w (n+m) cap e-(n+m))).toList).toArray:=by simp
    rw[hc]at hn ⊢
    have wU:(Builtin.zeroCells v.cells (grownCap w (n+m) cap e-(n+m))).toList.length=(grownCap w (n+m) cap e-(n+m))*i.size:=by simp[size_zeroCells,D7]
    have w7:(xs++news).length=(n+m)*i.size:=by rw[List.length_append,w5,hl,Nat.add_mul]
    exact ao.shut (o:=0) nF Di (by rw[List.length_append,wU,w7,←Nat.add_mul];exact Nat.le_of_eq (by rw[Nat.zero_add];congr 1;omega)) (by rw[List.drop_zero,←w7,List.take_left]) hn
theorem GF {x y:Operand}{t e sz bw n cap m c:Nat}{z xs news:List Value}{p q:Option Addr}{F:SL}(ho:o.op= .call {callee:= .builtin .append,args:= #[x,y],argTypes:= #[t,t]})(hx:ev σ x=some (.slice p n cap))(hy:ev σ y=some (.slice q m c))
  [s:cL X.P t e sz bw z] [r:bO H p (ao e sz p n cap xs) F] [r2:Src X.W H q m news] [h1:jG news] (hl:news.length=m*sz) (hb:n+m≤4294967296) (k9:bw≤32768):
  ba X σ H o (fun q:Option Addr×Nat=> .slice q.1 (n+m) q.2) (fun q=>ao e sz q.1 (n+m) q.2 (xs++news)*F):=by
 intro a w ha hs
 have hmul:(n+m)*bw≤4294967296*32768:=Nat.mul_le_mul hb k9
 obtain⟨p',c',w',h2,h3⟩:=G8 (ty:=o.type) (c:=c) s (r.eq▸hs) (fun h=>r2.nn w hs h) (r2.cells w hs) hl h1.je (by unfold maxLen;omega) (by omega)
 refine⟨(p',c'),w',?_,h3⟩
 simp only[execOp,ho,resolve,invoke,builtin,Sem.run_bind,Sem.run_pure,Result.andThen_ok,List.map_toArray,List.map_cons,List.map_nil,ha.eval hx,ha.eval hy,h2]
theorem j6 {x y:Operand}{t e sz bw n cap:Nat}{z xs news:List Value}{p q:Option Addr}{F F0:SL}(ho:o.op= .call {callee:= .builtin .append,args:= #[x,y],argTypes:= #[t,t]})(hx:ev σ x=some (.slice p n cap))(hy:ev σ y=some (.slice q 1 1))
  [s:cL X.P t e sz bw z] [r0:bO H q (ao e sz q 1 1 news) F0] [r:bO F0 p (ao e sz p n cap xs) F] [h1:jG news] (hb:n≤4294967295) (k9:bw≤32768):
  ba X σ H o (fun q:Option Addr×Nat=> .slice q.1 (n+1) q.2) (fun q=>ao e sz q.1 (n+1) q.2 (xs++news)*F):=by
 intro a w ha hs
 have hmul:(n+1)*bw≤4294967296*32768:=Nat.mul_le_mul (by omega) k9
 have zK:=r0.eq▸hs
 obtain⟨p',c',w',h2,h3⟩:=G8 (ty:=o.type) (c:=1) (m:=1) s (r.eq▸zK.drop) (fun h=>ao.nn zK h) (fun i v=>ao.cell zK) (ao.len zK).1 h1.je (by unfold maxLen;omega) (by omega)
 refine⟨(p',c'),w',?_,h3⟩
 simp only[execOp,ho,resolve,invoke,builtin,Sem.run_bind,Sem.run_pure,Result.andThen_ok,List.map_toArray,List.map_cons,List.map_nil,ha.eval hx,ha.eval hy,h2]
def ke (n:Nat)(z:List Value):List Value:=(List.replicate n z).flatten
theorem Lt (n:Nat)(v:Value):ke n [v]=List.replicate n v:=by
 induction n with
 |zero=>rfl
 |succ n ih=>simp only[ke,List.replicate_succ,List.flatten_cons]at ih ⊢;rw[ih];rfl
theorem Xj (n:Nat)(z:List Value):(ke n z).length=n*z.length:=by
 induction n with
 |zero=>simp[ke]
 |succ n ih=>simp only[ke,List.replicate_succ,List.flatten_cons,List.length_append]at ih ⊢;rw[ih,Nat.succ_mul,Nat.add_comm]
theorem VM (n:Nat)(z:List Value)(hz:0<z.length):(madeCells z.toArray (n*z.length)).toList=ke n z:=by
 have key:∀n,(List.range (n*z.length)).map (fun i=>z[i%z.length]!)=ke n z:=by
  intro n
  induction n with
  |zero=>simp[ke]
  |succ n ih=>
   have e1:ke (n+1) z=ke n z++z:=by
    simp only[ke,List.replicate_succ',List.flatten_append,List.flatten_cons,List.flatten_nil,List.append_nil]
   rw[e1,←ih,Nat.succ_mul,List.range_add,List.map_append,List.map_map]
   congr 1
   apply List.ext_getElem (by simp)
   intro i h1 h2
   have hi:i<z.length:=h2
   simp only[List.getElem_map,List.getElem_range,Function.comp,Nat.mul_add_mod_self_right,Nat.mod_eq_of_lt hi]
   exact(getElem!_pos z i hi)
 rw[←key]
 simp[madeCells]
theorem GJ {x y:Operand}{t e sz bw n:Nat}{k1 k2:IntKind}{a b:Int}{z:List Value}(ho:o.op= .makeSlice t x y)(hx:ev σ x=some (.int k1 a))(hy:ev σ y=some (.int k2 b))[s:cL X.P t e sz bw z][h1:bo a n][h2:bo b n](hb:n≤4294967296)(k9:bw≤32768):
  ba X σ H o (fun p:Option Addr=> .slice p n n) (fun p=>ao e sz p n n (ke n z)*H):=by
 intro a' w ha hs
 obtain⟨i,v,hi,hz,dW,kZ,xa⟩:=s.parts
 have e1:=h1.eq
 have e2:=h2.eq
 subst e1
 subst e2
 have hmul:bw*n≤32768*4294967296:=Nat.mul_le_mul k9 hb
 have h3:=run_make (P:=X.P) w t e i v s.under hi hz k1 k2 (n:Int) (n:Int) (by omega) (by omega) (by rw[kZ];omega) (by omega)
 refine⟨some ⟨w.heap.size,0,none⟩,w.alloc (.cells (madeCells v.cells (n*i.size)) e),?_,?_⟩
 ·simp only[execOp,ho,ha.eval hx,ha.eval hy,Sem.run_bind,h3,Result.andThen_ok,Sem.run_pure,Int.toNat_natCast]
 ·have hc:madeCells v.cells (n*i.size)=(ke n z).toArray:=by
   rw[xa,dW,←s.len,←VM n z (by rw[s.len];exact s.pos),Array.toArray_toList]
  rw[hc]
  have hlen:(ke n z).length=n*sz:=by rw[Xj,s.len]
  exact ao.shut (o:=0) (Nat.le_refl _) (by unfold maxLen;omega) (by omega) (by rw[List.drop_zero,←hlen,List.take_length]) (hs.alloc _)
def vH:List Value→List Value→Option (List Value)
 |[],vs=>some vs
 |c::cs,vs=>match vH cs vs with
  |some l=>some (c::l)
  |none=>none
theorem G7:∀ {cs vs l:List Value},vH cs vs=some l→l=cs++vs
 |[],vs,l,h=>by simpa[vH]using h.symm
 |c::cs,vs,l,h=>by
  simp only[vH]at h
  split at h
  ·rename_i m hm
   simp only[Option.some.injEq]at h
   subst h
   rw[G7 hm];rfl
  ·simp at h
def uj (σ:Env)(sz:Nat):Nat→List (Nat×Operand)→Option (List Value)
 |_,[]=>some []
 |i,(j,x)::l=>match Nat.beq i j with
  |true=>match ev σ x with
   |some v=>match sQ v with
    |some cs=>match Nat.beq cs.length sz with
     |true=>match uj σ sz (i+1) l with
      |some vs=>vH cs vs
      |none=>none
     |false=>none
    |none=>none
   |none=>none
  |false=>none
theorem CZ:∀(vs:List Value) (j o:Nat) (cs:List Value),o+j+vs.length≤cs.length→(vs.zipIdx j).foldl (fun(a:Array Value) (p:Value×Nat)=>a.setIfInBounds (o+p.2) p.1) cs.toArray=(cs.take (o+j)++vs++cs.drop (o+j+vs.length)).toArray
 |[],j,o,cs,_=>by simp
 |v::vs,j,o,cs,h=>by
  simp only[List.length_cons]at h
  simp only[List.zipIdx_cons,List.foldl_cons,List.setIfInBounds_toArray]
  rw[CZ vs (j+1) o (cs.set (o+j) v) (by simp;omega)]
  congr 1
  apply List.ext_getElem?
  intro q
  simp only[List.getElem?_append,List.getElem?_take,List.getElem?_drop,List.length_append,List.length_take,List.length_set,List.getElem?_set,List.length_cons,List.getElem?_cons]
  repeat' split
  all_goals first
   |rfl
   |omega
   |(congr 1;omega)
   |skip
theorem H6 {P:Nat→Option (Nat×Nat)}{sz:Nat}{ρ:Operand→Value}(hP:∀i,P i=some (i*sz,sz)){N:Nat}{a:Act}(ha:Fits N a σ)(hρ:ρ=a.eval):∀(l:List (Nat×Operand)) (i:Nat) (vs pre lr:List Value),uj σ sz i l=some vs→pre.length=i*sz→lr.length=vs.length→
  Instr.fill P (pre++lr).toArray (l.map fun(q:Nat×Operand)=>(q.1,ρ q.2))=some (pre++vs).toArray
 |[],i,vs,pre,lr,h,hp,hs=>by
  simp only[uj,Option.some.injEq]at h
  subst h
  have:lr=[]:=List.eq_nil_of_length_eq_zero (by simpa using hs)
  subst this
  simp[Instr.fill]
 |(j,x)::l,i,vs,pre,lr,h,hp,hs=>by
  simp only[uj]at h
  split at h
  ·rename_i hj
   have hj:=Nat.eq_of_beq_eq_true hj
   subst hj
   split at h
   ·rename_i v hv
    split at h
    ·rename_i Qx Dg
     obtain rfl:=Cz Dg
     split at h
     ·rename_i hc
      have hc:=Nat.eq_of_beq_eq_true hc
      split at h
      rotate_left
      ·simp at h
      rename_i us D4
      obtain rfl:=G7 h
      simp only[List.length_append]at hs
      have e1:v.cells.size=sz:=by rw[←hc,←pX,Array.length_toList]
      subst hρ
      simp only[List.map_cons,Instr.fill,hP,ha.eval hv,e1,ne_eq,not_true_eq_false,decide_false,Bool.false_or,decide_eq_true_eq,List.size_toArray,List.length_append]
      rw[if_neg (by omega)]
      have e2:v.cells=(fq v).toArray:=by rw[←pX,Array.toArray_toList]
      have e3:=CZ (fq v) 0 (i*sz) (pre++lr) (by simp;omega)
      have e4:(v.cells.zipIdx.foldl (fun(cs:Array Value) (x:Value×Nat)=>cs.setIfInBounds (i*sz+x.2) x.1) (pre++lr).toArray)=(pre++fq v++lr.drop sz).toArray:=by
       rw[e2,←Array.foldl_toList,Array.toList_zipIdx]
       simp only[Nat.add_zero]at e3
       rw[e3,←hp,List.take_left]
       congr 2
       rw[List.drop_append,List.drop_eq_nil_of_le (by omega),List.nil_append,hc]
       congr 1
       omega
      have e5:=H6 hP ha rfl l (i+1) us (pre++fq v) (lr.drop sz) D4 (by rw[List.length_append,hp,hc,Nat.succ_mul]) (by rw[List.length_drop];omega)
      rw[List.append_assoc]at e5
      rw[←List.append_assoc]
      refine Eq.trans (congrArg (fun c=>Instr.fill P c _) e4) ?_
      rw[←List.append_assoc]at e5
      simpa using e5
     ·simp at h
    ·simp at h
   ·simp at h
  ·simp at h
theorem cG {t e sz bw n:Nat}{z vs:List Value}{parts:Array (Nat×Operand)}(ho:o.op= .buildSlice t n parts)[s:cL X.P t e sz bw z](hv:uj σ sz 0 parts.toList=some vs)(hn:Nat.beq vs.length (n*sz)=true)(nG:n≤65536)(dW:sz≤256):
  ba X σ H o (fun p:Option Addr=> .slice p n n) (fun p=>ao e sz p n n vs*H):=by
 intro a w ha hs
 obtain⟨i,v,hi,hz,TK,kZ,xa⟩:=s.parts
 have hn:=Nat.eq_of_beq_eq_true hn
 have hmul:n*sz≤65536*256:=Nat.mul_le_mul nG dW
 have key:∀cs:Array Value,cs.size=n*sz→Instr.fill (fun i=>some (i*sz,sz)) cs (parts.toList.map fun(q:Nat×Operand)=>(q.1,a.eval q.2))=some vs.toArray:=fun cs Dj=>by
  have:=H6 (P:=fun i=>some (i*sz,sz)) (fun _=>rfl) ha rfl parts.toList 0 vs [] cs.toList hv (by simp) (by rw[Array.length_toList];omega)
  simpa using this
 refine⟨some ⟨w.heap.size,0,none⟩,w.alloc (.cells vs.toArray e),?_,?_⟩
 ·have Tc:¬(16777216<n*sz):=by omega
  have w9:(zeroValue e).run X.P w= .ok v w:=by simp[zeroValue,typeInfo,hi,hz,go_sem]
  have rN:(sizeOf e).run X.P w= .ok sz w:=by simp[sizeOf,typeInfo,hi,TK,go_sem]
  simp only[execOp,ho]
  generalize a.eval=ρ at key ⊢
  by_cases h0:n*sz=0
  ·simp[Instr.buildSlice,run_underlying s.under,rN,h0,newRow,go_sem]
   rw[key #[] (by simp[h0])]
   simp[go_sem]
  ·simp[Instr.buildSlice,run_underlying s.under,rN,h0,Tc,newRow,w9,go_sem]
   rw[key _ (by simp)]
   simp[go_sem]
 ·exact ao.shut (o:=0) (Nat.le_refl _) (by unfold maxLen;omega) (by rw[Nat.zero_add];omega) (by rw[List.drop_zero,←hn,List.take_length]) (hs.alloc _)
class eO (P:Program)(t:TypeId)(pl:outParam (List (Nat×Nat))):Prop where
 h:∃fs,P.underlying t=some (.struct fs)∧fs.toList.map (fun f=>(f.offset,(P.info? f.type).map (·.size)))=pl.map fun q=>(q.1,some q.2)
def oO (σ:Env)(pl:List (Nat×Nat)):List Value→List (Nat×Operand)→Option (List Value)
 |cs,[]=>some cs
 |cs,(f,x)::l=>match pl[f]? with
  |some (o,s)=>match ev σ x with
   |some v=>match Nat.beq (fq v).length s with
    |true=>match kK cs o (fq v)with
     |some dN=>oO σ pl dN l
     |none=>none
    |false=>none
   |none=>none
  |none=>none
theorem CS {pl:List (Nat×Nat)}{N:Nat}{a:Act}(ha:Fits N a σ):∀(l:List (Nat×Operand)) (cs vs:List Value),oO σ pl cs l=some vs→Instr.fill (fun i=>pl[i]?) cs.toArray (l.map fun(q:Nat×Operand)=>(q.1,a.eval q.2))=some vs.toArray
 |[],cs,vs,h=>by
  simp only[oO,Option.some.injEq]at h
  subst h
  simp[Instr.fill]
 |(f,x)::l,cs,vs,h=>by
  simp only[oO]at h
  split at h
  ·rename_i o s hf
   split at h
   ·rename_i v hv
    split at h
    ·rename_i hc
     have hc:=Nat.eq_of_beq_eq_true hc
     split at h
     ·rename_i dN hs
      obtain⟨h1,h2⟩:=AB hs
      have e1:v.cells.size=s:=by rw[←hc,←pX,Array.length_toList]
      simp only[List.map_cons,Instr.fill,hf,ha.eval hv,e1,ne_eq,not_true_eq_false,decide_false,Bool.false_or,decide_eq_true_eq,List.size_toArray]
      rw[if_neg (by omega)]
      have e2:v.cells=(fq v).toArray:=by rw[←pX,Array.toArray_toList]
      have e3:=CZ (fq v) 0 o cs (by omega)
      have e4:(v.cells.zipIdx.foldl (fun(c:Array Value) (q:Value×Nat)=>c.setIfInBounds (o+q.2) q.1) cs.toArray)=dN.toArray:=by
       rw[e2,←Array.foldl_toList,Array.toList_zipIdx]
       simp only[Nat.add_zero]at e3
       rw[e3,h2]
      exact(congrArg (fun c=>Instr.fill (fun i=>pl[i]?) c _) e4).trans (CS ha l dN vs h)
     ·simp at h
    ·simp at h
   ·simp at h
  ·simp at h
theorem run_places {P:Program}(w:World):∀(fs:List Field) (pl:List (Nat×Nat)),fs.map (fun f=>(f.offset,(P.info? f.type).map (·.size)))=pl.map (fun q=>(q.1,some q.2))→(fs.mapM fun f=>do pure (f.offset,←sizeOf f.type):Sem (List (Nat×Nat))).run P w= .ok pl w
 |[],[],_=>by simp[go_sem]
 |[],_::_,h=>by simp at h
 |_::_,[],h=>by simp at h
 |f::fs,q::pl,h=>by
  simp only[List.map_cons,List.cons.injEq,Prod.mk.injEq]at h
  obtain⟨⟨h1,h2⟩,h3⟩:=h
  obtain⟨i,hi,hs⟩:=kD h2
  have ih:=run_places w fs pl h3
  simp[List.mapM_cons,sizeOf,typeInfo,hi,hs,h1,go_sem]at ih ⊢
  simp[ih,go_sem]
theorem Bv {t:TypeId}{parts:Array (Nat×Operand)}{pl:List (Nat×Nat)}{cs vs:List Value}(ho:o.op= .build t parts)[s:eO X.P t pl][z:dm X.P t cs](hv:oO σ pl cs parts.toList=some vs):az X σ H o (.agg vs.toArray):=by
 intro a w ha hs
 obtain⟨v,h1,h2⟩:=z.h
 obtain⟨j,hj,hz⟩:=kD h1
 obtain⟨fs,h3,h4⟩:=s.h
 have h5:=run_places (P:=X.P) w fs.toList pl h4
 have h6:=CS ha parts.toList cs vs hv
 have h7:(fs.mapM fun f=>do pure (f.offset,←sizeOf f.type):Sem (Array (Nat×Nat))).run X.P w= .ok pl.toArray w:=by
  rw[Array.mapM_eq_mapM_toList]
  show(Bind.bind (fs.toList.mapM fun f=>do pure (f.offset,←sizeOf f.type):Sem (List (Nat×Nat))) (fun l=>pure l.toArray)).run X.P w=_
  rw[Sem.run_bind,h5]
  rfl
 have w9:(zeroValue t).run X.P w= .ok v w:=by simp[zeroValue,typeInfo,hj,hz,go_sem]
 have h8:Instr.fill (pl.toArray[·]?) v.cells (parts.map fun(q:Nat×Operand)=>(q.1,a.eval q.2)).toList=some vs.toArray:=by
  rw[h2,Array.toList_map]
  simpa using h6
 simp only[execOp,ho,Instr.build,Sem.run_bind,w9,Result.andThen_ok,run_underlying h3]
 simp only[Sem.run_bind,h7,Result.andThen_ok]
 rw[h8]
 rfl
class q9 (P:Program)(s:TypeId)(f:Nat)(o:outParam Nat)(t:outParam TypeId):Prop where
 h:∃fs g,P.underlying s=some (.struct fs)∧fs[f]? =some g∧g.offset=o∧g.type=t
theorem BA {s t:TypeId}{f i:Nat}{x:Operand}{cs:Array Value}{v:Value}(ho:o.op= .field s x f)(hx:ev σ x=some (.agg cs))[g:q9 X.P s f i t][c:cX X.P t](hv:cs.toList[i]? =some v):az X σ H o v:=by
 intro a w ha hs
 obtain⟨fs,q,h1,h2,rfl,rfl⟩:=g.h
 obtain⟨d,h3,h4⟩:=c.agg
 have TW:cs[q.offset]? =some v:=by simpa using hv
 simp only[execOp,ho,ha.eval hx]
 cases d<;>simp at h4<;>simp[Instr.field,run_underlying h1,h2,part,isAgg,run_underlying h3,asAgg,TW,go_sem]
theorem BN {fn:Fn}{first cap:Array Operand}{vs us:List Value}(ho:o.op= .makeFunc fn first cap)(h1:kr σ first.toList=some vs)(h2:kr σ cap.toList=some us):az X σ H o (.func fn vs.toArray us.toArray):=by
 intro a w ha hs
 have e1:first.map a.eval=vs.toArray:=by
  have:=ha.yV h1
  rw[←this,←List.map_toArray,Array.toArray_toList]
 have e2:cap.map a.eval=us.toArray:=by
  have:=ha.yV h2
  rw[←this,←List.map_toArray,Array.toArray_toList]
 simp only[execOp,ho,e1,e2]
 rfl
theorem BP {x y:Operand}{ats:Array TypeId}{k k':IntKind}{a b:Int}(ho:o.op= .call {callee:= .builtin .min,args:= #[x,y],argTypes:=ats})(hx:ev σ x=some (.int k a))(hy:ev σ y=some (.int k' b)):az X σ H o (.int k (min a b)):=by
 intro a' w ha hs
 simp only[execOp,ho,resolve,invoke,builtin,Sem.run_bind,Sem.run_pure,Result.andThen_ok,List.map_toArray,List.map_cons,List.map_nil,ha.eval hx,ha.eval hy]
 have e:(if b<a then b else a)=min a b:=by omega
 simp[Builtin.min_,Builtin.min2,e,go_sem]
theorem BO {x y:Operand}{ats:Array TypeId}{k k':IntKind}{a b:Int}(ho:o.op= .call {callee:= .builtin .max,args:= #[x,y],argTypes:=ats})(hx:ev σ x=some (.int k a))(hy:ev σ y=some (.int k' b)):az X σ H o (.int k (max a b)):=by
 intro a' w ha hs
 simp only[execOp,ho,resolve,invoke,builtin,Sem.run_bind,Sem.run_pure,Result.andThen_ok,List.map_toArray,List.map_cons,List.map_nil,ha.eval hx,ha.eval hy]
 have e:(if b>a then b else a)=max a b:=by omega
 simp[Builtin.max_,Builtin.max2,e,go_sem]
end
section
open Go.RowKit
section
variable {P:Program} {ops:Array Oper} {md:Region.Mode} {S:World→Prop} {Q:Exit→Act→World→Prop}
def ns (P:Program)(ops:Array Oper)(S:World→Prop)(o:Oper)(v:Value)(a:Act):Prop:=
 (Region.wanted o (yielded ops a.tmps)=true∧∀w,S w→(∃w',(execOp a.eval o).run P w= .ok (.value v) w'∧S w')∨(v=undef∧∃w',(execOp a.eval o).run P w= .ok .skip w'∧S w')∨
  ∃f args w',(execOp a.eval o).run P w= .ok (.enter f args) w'∧Calls P f args w' (fun e Mj=>e= .returned v∧S Mj))∨
 (Region.wanted o (yielded ops a.tmps)=false∧v=undef)
theorem ns.same {o:Oper}{v:Value}{a a':Act}(hy:ns P ops S o v a)(he:execOp a'.eval o=execOp a.eval o)
  (hw:Region.wanted o (yielded ops a'.tmps)=Region.wanted o (yielded ops a.tmps)):ns P ops S o v a':=by
 unfold ns at*
 rw[he,hw]
 exact hy
theorem ns.wpOp {i:Nat}{o:Oper}{v:Value}{a:Act}{w:World}{K:Act→World→Prop}(hi:ops[i]? =some o)(hy:ns P ops S o v a)(hS:S w)(h:∀w',S w'→K (a.put o.dst v) w'):wpOp P ops Q i K a w:=by
 unfold Go.wpOp
 simp only[hi]
 rcases hy with ⟨hw,hv⟩|⟨hw,rfl⟩
 ·rw[if_pos hw]
  refine .inl ?_
  unfold Oper.wp
  rcases hv w hS with ⟨w',hr,mS⟩|⟨rfl,w',hr,mS⟩|⟨f,args,w',hr,hc⟩
  ·rw[hr];exact h _ mS
  ·rw[hr];exact h _ mS
  ·rw[hr,Oper.upon_enter]
   refine hc.mono ?_
   rintro e Mj ⟨rfl,mS⟩
   exact h _ mS
 ·rw[if_neg (by simp[hw])]
  exact h _ hS
def jA (P:Program)(ops:Array Oper)(S:World→Prop)(i:Nat)(K:Act→Prop)(a:Act):Prop:=
 match ops[i]? with
 |none=>K a
 |some o=>∃v,ns P ops S o v a∧K (a.put o.dst v)
theorem jA.wpOp {i:Nat}{a:Act}{w:World}{K:Act→Prop}{K':Act→World→Prop}(h:jA P ops S i K a)(hS:S w)(hK:∀a w,K a→S w→K' a w):wpOp P ops Q i K' a w:=by
 unfold jA at h
 cases hi:ops[i]? with
 |none=>
  rw[hi]at h
  unfold Go.wpOp
  simp only[hi]
  exact hK _ _ h hS
 |some o=>
  rw[hi]at h
  obtain⟨v,h1,h2⟩:=h
  exact h1.wpOp hi hS fun w' mS=>hK _ _ h2 mS
theorem jA.mono {i:Nat}{a:Act}{K K':Act→Prop}(h:jA P ops S i K a)(hK:∀a,K a→K' a):jA P ops S i K' a:=by
 unfold jA at*
 split
 ·rename_i hi;rw[hi]at h;exact hK _ h
 ·rename_i o hi;rw[hi]at h;obtain⟨v,h1,h2⟩:=h;exact⟨v,h1,hK _ h2⟩
theorem jA.put {j:Nat}{oi oj:Oper}{v:Value}(hj:ops[j]? =some oj)(SA:oi.apart ops oj=true)(TM:∀cs b,oi.op≠ .select cs b)(TN:∀cs b,oj.op≠ .select cs b){K:Act→Prop}{a:Act}
  (hy:ns P ops S oi v a) (h:jA P ops S j K (a.put oi.dst v)):jA P ops S j (fun a'=>ns P ops S oi v a'∧K (a'.put oi.dst v)) a:=by
 obtain⟨h1,h2,h3⟩:=Oper.apart_spec SA
 unfold jA at*
 simp only[hj]at*
 obtain⟨u,k1,k2⟩:=h
 refine⟨u,k1.same (execOp_put oj TN a oi.dst v h1).symm (wanted_put oj a oi.dst v h1).symm,hy.same (execOp_put oi TM a oj.dst u h3) (wanted_put oi a oj.dst u h3),?_⟩
 rw[←Act.put_comm a v u h2]
 exact k2
def vg (P:Program)(ops:Array Oper)(S:World→Prop)(Q:Act→Prop):List Oper→Act→Prop
 |[],a=>Q a
 |o::rest,a=>∃v,ns P ops S o v a∧vg P ops S Q rest (a.put o.dst v)
def yc (P:Program)(md:Region.Mode)(ops:Array Oper)(S:World→Prop)(Q:Act→Prop):Nat→Array Bool→Act→Prop
 |0,listed,a=>Region.ready md ops listed=[]∧Q a
 |f+1,listed,a=>(Region.ready md ops listed=[]→Q a)∧∀i∈Region.ready md ops listed,jA P ops S i (yc P md ops S Q f (listed.setIfInBounds i true)) a
theorem MD {Q':Act→Prop}(hQ:∀a w,Q' a→S w→Q .normal a w):∀(f:Nat) (listed:Array Bool) (a:Act) (w:World),yc P md ops S Q' f listed a→S w→wpAny P md ops Q f listed a w
 |0,_,_,_,h,hS=>⟨h.1,hQ _ _ h.2 hS⟩
 |f+1,_,_,_,h,hS=>⟨fun h0=>hQ _ _ (h.1 h0) hS,fun i hi=>(h.2 i hi).wpOp hS fun a w h' mS=>MD hQ f _ a w h' mS⟩
theorem ZE {Q':Act→Prop}{i:Nat}{oi:Oper}{v:Value}(hi:ops[i]? =some oi)(kB:∀(j:Nat) (o:Oper) cs b,ops[j]? =some o→o.op≠ .select cs b):
  ∀(f:Nat) (listed:Array Bool) (a:Act),
   (∀j oj,ops[j]? =some oj→j≠i→listed.getD j true=false→(∀e∈oj.after,Region.binds md e=true→e.on≠i)→oi.apart ops oj=true)→
   i∈Region.ready md ops listed→ns P ops S oi v a→
   yc P md ops S Q' f (listed.setIfInBounds i true) (a.put oi.dst v)→yc P md ops S Q' (f+1) listed a:=by
 intro f
 induction f with
 |zero=>
  intro listed a _ hr hy H
  refine⟨fun h=>(by rw[h]at hr;cases hr),fun j hj=> ?_⟩
  by_cases eT:j=i
  ·subst eT;unfold jA;simp only[hi];exact⟨v,hy,H⟩
  ·have:=ready_mono hj eT
   rw[H.1]at this
   cases this
 |succ f ih=>
  intro listed a mZ hr hy H
  refine⟨fun h=>(by rw[h]at hr;cases hr),fun j hj=> ?_⟩
  by_cases eT:j=i
  ·subst eT;unfold jA;simp only[hi];exact⟨v,hy,H⟩
  ·have h1:=H.2 j (ready_mono hj eT)
   obtain⟨nc,oj,jO,iC⟩:=mem_ready.1 hj
   have jS:=(mem_ready.1 hr).1
   have tj:∀e∈oj.after,Region.binds md e=true→e.on≠i:=fun e he hb heq=>by
    have h2:=iC e he hb
    rw[heq,getD_both jS]at h2
    cases h2
   have h2:=jA.put jO (mZ j oj jO eT nc tj) (fun cs b=>kB i oi cs b hi) (fun cs b=>kB j oj cs b jO) hy h1
   have s6:∀k ok,ops[k]? =some ok→k≠i→(listed.setIfInBounds j true).getD k true=false→
     (∀e∈ok.after,Region.binds md e=true→e.on≠i)→oi.apart ops ok=true:=fun k ok hk te jS hY=>by
    refine mZ k ok hk te ?_ hY
    by_cases l5:j=k
    ·subst l5;exact nc
    ·rw[getD_set_ne true l5]at jS;exact jS
   refine h2.mono fun a' h3=>ih (listed.setIfInBounds j true) a' s6 (ready_mono hr (Ne.symm eT)) h3.1 ?_
   rw[Array.setIfInBounds_comm _ _ eT]
   exact h3.2
theorem MB {Q':Act→Prop}(hs:Region.noSelect ops=true):∀(l:List Oper) (k:Nat) (listed:Array Bool) (a:Act),(∀j,l[j]? =ops[k+j]?)→
  Region.lexFrom md ops l.length k listed=true→vg P ops S Q' l a→yc P md ops S Q' l.length listed a
 |[],k,listed,a,_,hB,h=>⟨by simpa[Region.lexFrom]using hB,h⟩
 |o::l,k,listed,a,hl,hB,h=>by
  have h0:ops[k]? =some o:=by simpa using(hl 0).symm
  simp only[List.length_cons,Region.lexFrom,Bool.and_eq_true]at hB
  obtain⟨⟨hr,hf⟩,Db⟩:=hB
  obtain⟨v,hy,hK⟩:=h
  exact ZE h0 (Region.noSelect_spec hs) l.length listed a (Region.free_spec h0 hf) (by simpa using hr) hy
   (MB hs l (k+1) _ _ (fun j=>by have:=hl (j+1);simpa[Nat.add_assoc,Nat.add_comm 1 j]using this) Db hK)
theorem ZH {id:Nat}{a:Act}{w:World}{l:List Oper}(hm:P.follows .mixedOrders=true)(hB:Region.lexB .any l.toArray=true)(hd:∀w,S w→S w.drew)(hS:S w)
  (h:vg P l.toArray S (fun a'=>∀w',S w'→Q .normal a' w') l a):(Code.region id l.toArray true).wp P Q a w:=by
 simp only[Region.lexB,Bool.and_eq_true]at hB
 refine wp_region_any hm (MD (Q':=fun a'=>∀w',S w'→Q .normal a' w') (fun a w h hS=>h w hS) _ _ _ _ ?_ (hd w hS))
 have:=MB (md:= .any) hB.1 l 0 (Array.replicate l.toArray.size false) a (by simp) (by simpa using hB.2) h
 simpa using this
def yd (P:Program)(md:Region.Mode)(ops:Array Oper)(S:World→Prop)(n:Nat)(L:Array Bool→Act→Prop):Nat→Array Bool→Act→Prop
 |0,listed,a=>L listed a
 |f+1,listed,a=>Region.ready md ops listed≠ []∧∀i∈Region.ready md ops listed,i<n∧jA P ops S i (yd P md ops S n L f (listed.setIfInBounds i true)) a
theorem MF {n g:Nat}{L:Array Bool→Act→Prop}(hL:∀listed a w,L listed a→S w→wpAny P md ops Q g listed a w):
  ∀(f:Nat) (listed:Array Bool) (a:Act) (w:World),yd P md ops S n L f listed a→S w→wpAny P md ops Q (f+g) listed a w
 |0,listed,a,w,h,hS=>by rw[Nat.zero_add];exact hL _ _ _ h hS
 |f+1,listed,a,w,h,hS=>by
  rw[show f+1+g=(f+g)+1 by omega]
  exact⟨fun h0=>absurd h0 h.1,fun i hi=>(h.2 i hi).2.wpOp hS fun a' w' h' mS=>MF hL f _ a' w' h' mS⟩
theorem ZG {n i:Nat}{oi:Oper}{v:Value}{L:Array Bool→Act→Prop}(hi:ops[i]? =some oi)(kB:∀(j:Nat) (o:Oper) cs b,ops[j]? =some o→o.op≠ .select cs b)
  (hs:Region.sinkB md ops n=true) (hc:Region.chainB md ops n=true) (hn:n<ops.size) (bJ:i<n) (mV:∀listed a,L listed a→∀j∈Region.ready md ops listed,n≤j):
  ∀(f:Nat) (listed:Array Bool) (a:Act),HeadInv md ops n listed→
   (∀j oj,ops[j]? =some oj→j≠i→listed.getD j true=false→(∀e∈oj.after,Region.binds md e=true→e.on≠i)→oi.apart ops oj=true)→
   i∈Region.ready md ops listed→ns P ops S oi v a→
   yd P md ops S n L f (listed.setIfInBounds i true) (a.put oi.dst v)→yd P md ops S n L (f+1) listed a:=by
 intro f
 induction f with
 |zero=>
  intro listed a inv _ hr hy H
  have jS:=(mem_ready.1 hr).1
  refine⟨fun h=>(by rw[h]at hr;cases hr),fun j hj=> ?_⟩
  have wz:j<n:=by
   rcases Nat.lt_or_ge j n with h|h
   ·exact h
   ·exact absurd hj (tail_waits hs hc hn inv _ i rfl bJ jS j h)
  refine⟨wz,?_⟩
  by_cases eT:j=i
  ·subst eT;unfold jA;simp only[hi];exact⟨v,hy,H⟩
  ·have:=mV _ _ H j (ready_mono hj eT)
   omega
 |succ f ih=>
  intro listed a inv mZ hr hy H
  have jS:=(mem_ready.1 hr).1
  refine⟨fun h=>(by rw[h]at hr;cases hr),fun j hj=> ?_⟩
  have wz:j<n:=by
   rcases Nat.lt_or_ge j n with h|h
   ·exact h
   ·exact absurd hj (tail_waits hs hc hn inv _ i rfl bJ jS j h)
  refine⟨wz,?_⟩
  by_cases eT:j=i
  ·subst eT;unfold jA;simp only[hi];exact⟨v,hy,H⟩
  ·have h1:=(H.2 j (ready_mono hj eT)).2
   obtain⟨nc,oj,jO,iC⟩:=mem_ready.1 hj
   have tj:∀e∈oj.after,Region.binds md e=true→e.on≠i:=fun e he hb heq=>by
    have h2:=iC e he hb
    rw[heq,getD_both jS]at h2
    cases h2
   have h2:=jA.put jO (mZ j oj jO eT nc tj) (fun cs b=>kB i oi cs b hi) (fun cs b=>kB j oj cs b jO) hy h1
   have s6:∀k ok,ops[k]? =some ok→k≠i→(listed.setIfInBounds j true).getD k true=false→
     (∀e∈ok.after,Region.binds md e=true→e.on≠i)→oi.apart ops ok=true:=fun k ok hk te jS hY=>by
    refine mZ k ok hk te ?_ hY
    by_cases l5:j=k
    ·subst l5;exact nc
    ·rw[getD_set_ne true l5]at jS;exact jS
   refine h2.mono fun a' h3=>ih (listed.setIfInBounds j true) a' (inv.set hj wz) s6 (ready_mono hr (Ne.symm eT)) h3.1 ?_
   rw[Array.setIfInBounds_comm _ _ eT]
   exact h3.2
theorem MC {n g:Nat}{Lq:Act→Prop}(kB:Region.noSelect ops=true)(hs:Region.sinkB md ops n=true)(hc:Region.chainB md ops n=true)(hn:n<ops.size):
  ∀(l:List Oper) (k:Nat) (listed:Array Bool) (a:Act),(∀j,j<l.length→l[j]? =ops[k+j]?)→k+l.length=n→HeadInv md ops n listed→
  Region.lexHead md ops g l.length k listed=true→vg P ops S Lq l a→
  yd P md ops S n (fun JJ a'=>Region.seqB md ops g n JJ=true∧Lq a') l.length listed a
 |[],k,listed,a,_,hk,_,hB,h=>by
  have:k=n:=by simpa using hk
  subst this
  exact⟨by simpa[Region.lexHead]using hB,h⟩
 |o::l,k,listed,a,hl,hk,inv,hB,h=>by
  have h0:ops[k]? =some o:=by simpa using(hl 0 (by simp)).symm
  simp only[List.length_cons,Region.lexHead,Bool.and_eq_true]at hB
  obtain⟨⟨hr,hf⟩,Db⟩:=hB
  have zw:k<n:=by simp only[List.length_cons]at hk;omega
  have zI:k∈Region.ready md ops listed:=by simpa using hr
  obtain⟨v,hy,hK⟩:=h
  exact ZG h0 (Region.noSelect_spec kB) hs hc hn zw (fun JJ a' hL=>seqB_ready hL.1) l.length listed a inv (Region.free_spec h0 hf) zI hy
   (MC kB hs hc hn l (k+1) _ _ (fun j hj=>by have:=hl (j+1) (by simp;omega);simpa[Nat.add_assoc,Nat.add_comm 1 j]using this) (by simp only[List.length_cons]at hk;omega) (inv.set zI zw) Db hK)
theorem ZI {id:Nat}{a:Act}{w:World}{l:List Oper}(n:Nat)(hm:P.follows .mixedOrders=true)(hB:Region.lexTailB .any l.toArray n=true)(hd:∀w,S w→S w.drew)(hS:S w)
  (h:vg P l.toArray S (fun a'=>∀w',S w'→wpList P l.toArray Q (l.drop n) a' w') (l.take n) a):(Code.region id l.toArray true).wp P Q a w:=by
 simp only[Region.lexTailB,Bool.and_eq_true,decide_eq_true_eq]at hB
 obtain⟨⟨⟨⟨kB,hn⟩,hs⟩,hc⟩,Tb⟩:=hB
 have nG:n<l.length:=by simpa using hn
 have zO:(l.take n).length=n:=by simp;omega
 have IU:(l.drop n).length=l.toArray.size-n:=by simp
 have Ug:HeadInv .any l.toArray n (Array.replicate l.toArray.size false):=
  ⟨by simp,fun j oj _ hl=>(by rw[getD_replicate_false]at hl;cases hl),fun t _ ht=>getD_in (by simpa using ht) (getD_replicate_false _ _)⟩
 have H:=MC (md:= .any) (g:=l.toArray.size-n) kB hs hc hn (l.take n) 0 _ a (fun j hj=>by
  have rL:j<n:=by rw[zO]at hj;exact hj
  simp[rL]) (by simpa using zO) Ug (by rw[zO];exact Tb) h
 refine wp_region_any hm ?_
 have h2:=MF (Q:=Q) (g:=l.toArray.size-n) (fun listed a' w' hL mS=>by
  rw[←IU]
  exact wpAny_of_seq (l.drop n) n listed a' w' (fun j=>by simp) (by rw[IU];exact hL.1) (hL.2 w' mS)) _ _ _ _ H (hd w hS)
 rw[zO]at h2
 have e:n+(l.toArray.size-n)=l.toArray.size:=by omega
 rwa[e]at h2
end
variable {X:Cx} {k:List KI} {σ:Env} {H:SL}
def ES (X:Cx)(ops:List Oper)(l:List Oper)(σ:Env)(H:SL)(Z:Act→Prop):Prop:=∀a,Fits X.N a σ→vg X.P ops.toArray (fun w=>Sat X.W w H) Z l a
theorem lB {id:Nat}{ops:List Oper}(hm:X.P.follows .mixedOrders=true)(hB:Region.lexB .any ops.toArray=true)(h:ES X ops ops σ H (fun a=>∀w,Sat X.W w H→run X.P X.R k .normal a w)):EK X (.code (.region id ops.toArray true)::k) σ H:=
 fun a w ha hs=>ZH (S:=fun w=>Sat X.W w H) hm hB (fun _ h=>h.drew) hs (h a ha)
theorem jD {id:Nat}{ops pre lr:List Oper}(n:Nat)(hm:X.P.follows .mixedOrders=true)(hB:Region.lexTailB .any ops.toArray n=true)(hp:ops.take n=pre)(TQ:ops.drop n=lr)
  (h:ES X ops pre σ H (fun a=>∀w,Sat X.W w H→wpList X.P ops.toArray (run X.P X.R k) lr a w)):EK X (.code (.region id ops.toArray true)::k) σ H:=
 fun a w ha hs=>ZI (S:=fun w=>Sat X.W w H) n hm hB (fun _ h=>h.drew) hs (by rw[hp,TQ];exact h a ha)
theorem F6 {ops:List Oper}(h:EK X k σ H):ES X ops [] σ H (fun a=>∀w,Sat X.W w H→run X.P X.R k .normal a w):=fun a ha w hs=>h a w ha hs
theorem F7 {ops lr:List Oper}(h:EL X k ops lr σ H):ES X ops [] σ H (fun a=>∀w,Sat X.W w H→wpList X.P ops.toArray (run X.P X.R k) lr a w):=fun a ha w hs=>h a w ha hs
variable {ops l:List Oper} {Z:Act→Prop}
theorem cv {d:Nat}{v:Value}{op:Op}{ty:TypeId}{pos:String}{aft:Array Edge}(hv:az X σ H ⟨some d,op,ty,pos,aft,none⟩ v)(hd:Nat.blt d X.N=true)(h:ES X ops l ((d,v)::σ) H Z):
  ES X ops (⟨some d,op,ty,pos,aft,none⟩::l) σ H Z:=
 fun a ha=>⟨v,.inl ⟨rfl,fun w hs=> .inl ⟨w,hv a w ha hs,hs⟩⟩,h _ (ha.put hd v)⟩
theorem F5 {d:Option Nat}{op:Op}{ty:TypeId}{pos:String}{aft:Array Edge}{gj t:Nat}{want:Bool}(hj:(ops[gj]?).bind (·.dst)=some t)(ht:σ.get t=some (.bool want))
  (h:ES X ops (⟨d,op,ty,pos,aft,none⟩::l) σ H Z):ES X ops (⟨d,op,ty,pos,aft,some (gj,want)⟩::l) σ H Z:=by
 intro a ha
 obtain⟨v,h1,h2⟩:=h a ha
 refine⟨v,?_,h2⟩
 rcases h1 with ⟨_,h1⟩|⟨h1,_⟩
 ·exact .inl ⟨by rw[vc (o:=⟨d,op,ty,pos,aft,some (gj,want)⟩) ha hj ht rfl];simp,h1⟩
 ·simp[Region.wanted]at h1
theorem F3 {d:Nat}{op:Op}{ty:TypeId}{pos:String}{aft:Array Edge}{gj t:Nat}{want:Bool}(hj:(ops[gj]?).bind (·.dst)=some t)(ht:σ.get t=some (.bool !want))(hd:Nat.blt d X.N=true)
  (h:ES X ops l ((d,undef)::σ) H Z):ES X ops (⟨some d,op,ty,pos,aft,some (gj,want)⟩::l) σ H Z:=
 fun a ha=>⟨undef,.inr ⟨by rw[vc (o:=⟨some d,op,ty,pos,aft,some (gj,want)⟩) ha hj ht rfl];cases want<;>rfl,rfl⟩,h _ (ha.put hd _)⟩
theorem F4 {d:Nat}{op:Op}{ty:TypeId}{pos:String}{aft:Array Edge}{gj t:Nat}{want:Bool}(hj:(ops[gj]?).bind (·.dst)=some t)(ht:σ.get t=some undef)(hd:Nat.blt d X.N=true)
  (h:ES X ops l ((d,undef)::σ) H Z):ES X ops (⟨some d,op,ty,pos,aft,some (gj,want)⟩::l) σ H Z:=
 fun a ha=>⟨undef,.inr ⟨by simp only[Region.wanted,yielded,List.getElem?_toArray,hj,Option.bind_some,ha.nm t _ ht];rfl,rfl⟩,h _ (ha.put hd _)⟩
theorem qR {d:Option Nat}{op:Op}{ty:TypeId}{pos:String}{aft:Array Edge}{gj t:Nat}{want:Bool}{p:Prop}[Decidable p](hj:(ops[gj]?).bind (·.dst)=some t)(ht:σ.get t=some (.bool (decide p)))
  (h1:p→EL X k ops (⟨d,op,ty,pos,aft,some (gj,want)⟩::l) ((t,.bool true)::σ) H) (h2:¬p→EL X k ops (⟨d,op,ty,pos,aft,some (gj,want)⟩::l) ((t,.bool false)::σ) H):
  EL X k ops (⟨d,op,ty,pos,aft,some (gj,want)⟩::l) σ H:=A3 hj ht (fun h=>h1 (of_decide_eq_true h)) (fun h=>h2 (of_decide_eq_false h))
theorem Om {d:Option Nat}{op:Op}{ty:TypeId}{pos:String}{aft:Array Edge}{gj t:Nat}{want:Bool}{p:Prop}[Decidable p](hj:(ops[gj]?).bind (·.dst)=some t)(ht:σ.get t=some (.bool (!decide p)))
  (h1:¬p→EL X k ops (⟨d,op,ty,pos,aft,some (gj,want)⟩::l) ((t,.bool true)::σ) H) (h2:p→EL X k ops (⟨d,op,ty,pos,aft,some (gj,want)⟩::l) ((t,.bool false)::σ) H):
  EL X k ops (⟨d,op,ty,pos,aft,some (gj,want)⟩::l) σ H:=A3 hj ht (fun h=>h1 (by simpa using h)) (fun h=>h2 (by simpa using h))
theorem nr {v:Value}{f:FuncId}[aB X.P f]{args:Array Operand}{ats:Array TypeId}{vs:List Value}{d:Nat}{ty:TypeId}{pos:String}{aft:Array Edge}
  (kx:kr σ args.toList=some vs) (hc:Spec X.P f vs X.W H (fun _:Unit=>v) (fun _=>H)) (h:ES X ops l ((d,v)::σ) H Z) (hd:Nat.blt d X.N=true:=by rfl):
  ES X ops (⟨some d,.call {callee:= .value (.func f),args:=args,argTypes:=ats},ty,pos,aft,none⟩::l) σ H Z:=by
 intro a ha
 refine⟨v,.inl ⟨rfl,fun w hs=> .inr (.inr ⟨f,vs.toArray,w,xK ha kx,?_⟩)⟩,h _ (ha.put hd _)⟩
 refine(hc w hs).mono ?_
 rintro e w' ⟨x,rfl,gW⟩
 exact⟨rfl,gW⟩
theorem sI {o:Oper}{p:Prop}{d:Decidable p}(h:iA σ o.op=some (.bool (@decide p d)))(hp:p):az X σ H o (.bool true):=by
 have:=jm (X:=X) (H:=H) h
 rwa[decide_eq_true hp]at this
theorem sH {o:Oper}{p:Prop}{d:Decidable p}(h:iA σ o.op=some (.bool (@decide p d)))(hp:¬p):az X σ H o (.bool false):=by
 have:=jm (X:=X) (H:=H) h
 rwa[decide_eq_false hp]at this
theorem BS {o:Oper}{p:Prop}{d:Decidable p}(h:iA σ o.op=some (.bool (!(@decide p d))))(hp:¬p):az X σ H o (.bool true):=by
 have:=jm (X:=X) (H:=H) h
 rwa[decide_eq_false hp]at this
theorem BR {o:Oper}{p:Prop}{d:Decidable p}(h:iA σ o.op=some (.bool (!(@decide p d))))(hp:p):az X σ H o (.bool false):=by
 have:=jm (X:=X) (H:=H) h
 rwa[decide_eq_true hp]at this
def U (H G:SL):Prop:=∀h,H h→∃h',G h'∧∀b o,h' b=some o→h b=some o
theorem U.sat {H G:SL}(k:U H G){W:World}:∀w,Sat W w H→Sat W w G:=fun w ⟨hb,x,p,hx⟩=>
 let⟨y,q,hy⟩:=k x p
 ⟨hb,y,q,fun b o ho=>hx b o (hy b o ho)⟩
theorem U.refl (H:SL):U H H:=fun h p=>⟨h,p,fun _ _ h=>h⟩
theorem U.trans {A B C:SL}(h:U A B)(k:U B C):U A C:=fun x p=>
 let⟨y,q,hy⟩:=h x p
 let⟨z,r,hz⟩:=k y q
 ⟨z,r,fun b o ho=>hy b o (hz b o ho)⟩
theorem U.of_eq {A B:SL}(h:A=B):U A B:=h▸U.refl A
theorem U.of_le {A B:SL}(h:SL.le A B):U A B:=fun x p=>⟨x,h x p,fun _ _ h=>h⟩
theorem U.star {A B F G:SL}(h:U A B)(k:U F G):U (A*F) (B*G):=by
 rintro x ⟨h1,h2,p,q,d,e⟩
 obtain⟨y1,p',k1⟩:=h h1 p
 obtain⟨y2,q',k2⟩:=k h2 q
 have e1:∀b,h1 b=none→y1 b=none:=fun b hb=>by
  cases hy:y1 b with
  |none=>rfl
  |some o=>rw[k1 b o hy]at hb;cases hb
 have e2:∀b,h2 b=none→y2 b=none:=fun b hb=>by
  cases hy:y2 b with
  |none=>rfl
  |some o=>rw[k2 b o hy]at hb;cases hb
 refine⟨fun b=>(y1 b).or (y2 b),⟨y1,y2,p',q',fun b=> ?_,fun _=>rfl⟩,fun b o ho=> ?_⟩
 ·rcases d b with hb|hb
  ·exact .inl (e1 b hb)
  ·exact .inr (e2 b hb)
 ·replace ho:(y1 b).or (y2 b)=some o:=ho
  rw[e b]
  cases hy:y1 b with
  |some o'=>
   rw[k1 b o' hy]
   rw[hy]at ho
   exact ho
  |none=>
   rw[hy]at ho
   have IB:=k2 b o (by simpa using ho)
   rcases d b with hb|hb
   ·rw[hb,IB];rfl
   ·rw[IB]at hb;cases hb
theorem U.drop {A F:SL}:U (A*F) F:=by
 rintro x ⟨h1,h2,p,q,d,e⟩
 refine⟨h2,q,fun b o ho=> ?_⟩
 have:=d b
 rw[e b]
 cases hh:h1 b<;>simp_all
theorem U.any {H:SL}:U H 1:=fun _ _=>⟨fun _=>none,fun _=>rfl,fun _ _ h=>by cases h⟩
theorem U.last {H F R:SL}[h:Frame H F R]:U H F:=(U.of_eq (h.eq.trans (SL.tO F R))).trans U.drop
theorem U.cons {H P F G:SL}[h:Frame H P F](k:U F G):U H (P*G):=(U.of_eq h.eq).trans (U.star (U.refl P) k)
theorem U.at {H C C' F G:SL}(p:Option Addr)[h:bO H p C F](hc:C=C')(k:U F G):U H (C'*G):=hc▸(U.of_eq h.eq).trans (U.star (U.refl C) k)
theorem U.obj {H F G:SL}{t:TypeId}{cs dN:List Value}(p:Option Addr)[h:bO H p (Obj p t cs) F](hc:cs=dN)(k:U F G):U H (Obj p t dN*G):=hc▸(U.of_eq h.eq).trans (U.star (U.refl _) k)
def iw (p:Option Addr)(t:TypeId):SL:=SL.ex (Obj p t)
instance (priority:=2000) bO.xy (p:Option Addr)(t:TypeId)(F:SL):bO (iw p t*F) p (iw p t) F:=⟨rfl⟩
instance iw.root (p:Option Addr)(t:TypeId):kR (iw p t) p:=⟨fun W w F h=>by
 obtain⟨cs,h⟩:=h.iX
 exact(Obj.root p t cs).nn W w F h⟩
theorem U.xy {H F G:SL}{p:Option Addr}{t:TypeId}{cs:List Value}[h:bO H p (Obj p t cs) F](k:U F G):U H (iw p t*G):=(U.of_eq h.eq).trans (U.star (U.of_le (SL.zW (Obj p t) cs)) k)
def vA (e sz:Nat)(p:Option Addr)(n cap:Nat):SL:=SL.ex (ao e sz p n cap)
instance (priority:=2000) bO.Aq (e sz:Nat)(p:Option Addr)(n cap:Nat)(F:SL):bO (vA e sz p n cap*F) p (vA e sz p n cap) F:=⟨rfl⟩
instance (priority:=800) Src.Aq (W:World)(H F:SL)(e sz n cap:Nat)(p:Option Addr)[r:bO H p (vA e sz p n cap) F]:Src W H p n [] where
 cells:=fun w hs i v hv=>by simp at hv
 nn:=fun w hs hn=>by
  have h:=r.eq▸hs
  obtain⟨xs,h⟩:=Sat.iX (P:=ao e sz p n cap) h
  exact ao.nn h hn
theorem U.Aq {H F G:SL}{e sz:Nat}{p:Option Addr}{n cap:Nat}{xs:List Value}[h:bO H p (ao e sz p n cap xs) F](k:U F G):U H (vA e sz p n cap*G):=(U.of_eq h.eq).trans (U.star (U.of_le (SL.zW (ao e sz p n cap) xs)) k)
theorem U.row {H F G:SL}{e sz n n' c:Nat}{xs MK:List Value}(p:Option Addr)[h:bO H p (ao e sz p n c xs) F](hn:n=n')(hc:xs=MK)(k:U F G):U H (ao e sz p n' c MK*G):=by
 subst hn
 subst hc
 exact(U.of_eq h.eq).trans (U.star (U.refl _) k)
theorem U.none {H G:SL}{e sz:Nat}(k:U H G):U H (ao e sz none 0 0 []*G):=by
 intro x p
 obtain⟨y,q,hy⟩:=k x p
 exact⟨y,⟨fun _=> .none,y,⟨by simp,.inl ⟨trivial,rfl,fun _=>rfl⟩⟩,q,fun _=> .inl rfl,fun _=>by simp⟩,hy⟩
theorem U.ex {α:Sort _}{H G:SL}{P:α→SL}(a:α)(k:U H (P a*G)):U H (SL.ex P*G):=k.trans (U.star (U.of_le (SL.zW P a)) (U.refl G))
theorem U.assoc {H A B G:SL}(k:U H (A*(B*G))):U H ((A*B)*G):=SL.cb A B G▸k
theorem U.pure {H G:SL}{p:Prop}(hp:p)(k:U H G):U H (SL.pure p*G):=by
 intro x q
 obtain⟨y,r,hy⟩:=k x q
 exact⟨y,⟨fun _=> .none,y,⟨hp,fun _=>rfl⟩,r,fun _=> .inl rfl,fun _=>by simp⟩,hy⟩
theorem nT {α:Sort _}{F:SL}{P:α→SL}(h:∀a,EK X k σ (P a*F)):EK X k σ (SL.ex P*F):=fun a w ha hs=>
 let⟨x,hx⟩:=hs.iX
 h x a w ha hx
theorem jE {G:SL}(e:U H G)(h:EK X k σ G):EK X k σ H:=FX e.sat h
theorem cW {C F:SL}(p:Option Addr)[r:bO H p C F](h:EK X k σ (C*F)):EK X k σ H:=r.eq▸h
theorem Oj {C F:SL}(p:Option Addr)[r:bO H p C F](h:EL X k ops l σ (C*F)):EL X k ops l σ H:=r.eq▸h
theorem Spec.mono {P:Program}{f:FuncId}{vs:List Value}{W:World}{H:SL}{α β:Type}{r:α→Value}{H':α→SL}{r2:β→Value}{H2:β→SL}(h:Spec P f vs W H r H')(k:∀x,∃y,r x=r2 y∧U (H' x) (H2 y)):Spec P f vs W H r2 H2:=fun w hs=>
 (h w hs).mono fun e w' ⟨x,he,hx⟩=>
  let⟨y,e1,e2⟩:=k x
  ⟨y,by rw[he,e1],e2.sat _ hx⟩
theorem Spec.pre {P:Program}{f:FuncId}{vs:List Value}{W:World}{H G:SL}{α:Type}{r:α→Value}{H':α→SL}(h:Spec P f vs W G r H')(k:U H G):Spec P f vs W H r H':=fun w hs=>h w (k.sat w hs)
theorem Spec.aV {P:Program}{f:FuncId}{vs:List Value}{W:World}{H C F:SL}(p:Option Addr)[r:bO H p C F]{α:Type}{rr:α→Value}{H':α→SL}(h:Spec P f vs W (C*F) rr H'):Spec P f vs W H rr H':=r.eq▸h
theorem Spec.fE {P:Program}{f:FuncId}{vs:List Value}{W:World}{H C F D G:SL}(p q:Option Addr)[r:bO H p C F][r2:bO F q D G]{α:Type}{rr:α→Value}{H':α→SL}(h:Spec P f vs W (C*(D*G)) rr H'):Spec P f vs W H rr H':=by
 rw[r.eq,r2.eq];exact h
theorem Spec.yI {P:Program}{f:FuncId}{vs:List Value}{W:World}{H C F D G E K:SL}(p q s:Option Addr)[r:bO H p C F][r2:bO F q D G][r3:bO G s E K]{α:Type}{rr:α→Value}{H':α→SL}(h:Spec P f vs W (C*(D*(E*K))) rr H'):Spec P f vs W H rr H':=by
 rw[r.eq,r2.eq,r3.eq];exact h
theorem ad {H G:SL}(h:U H G:=by first|exact U.refl _|exact U.last|(repeat(first|refine U.cons ?_ |exact U.any|exact U.last))):U H G:=h
theorem aZ {H G:SL}(h:U H G:=by first|exact U.refl _|exact U.last|(repeat(first|refine U.cons ?_ |refine U.xy ?_ |exact U.any|exact U.last))):U H G:=h
theorem av {H G:SL}(h:U H G:=by first|exact U.refl _|exact U.last|(repeat(first|refine U.cons ?_ |refine U.xy ?_ |refine U.Aq ?_ |exact U.any|exact U.last))):U H G:=h
end
section
open Go.RowKit
class yn (P:Program)(f:FuncId)(k:IntKind):Prop where
 h:∃fn,P.funcs[f]? =some fn∧(fn.name== "runtime.NumGoroutine")=false∧fn.body.isNone=true∧Extern.findNext fn=none∧Extern.find fn=some (Extern.Atomic.loadT (.int k))
class A8 (P:Program)(f:FuncId):Prop where
 h:∃fn,P.funcs[f]? =some fn∧(fn.name== "runtime.NumGoroutine")=false∧fn.body.isNone=true∧Extern.findNext fn=none∧Extern.find fn=some Extern.Atomic.storeT
class ud (P:Program)(f:FuncId)(k:IntKind):Prop where
 h:∃fn,P.funcs[f]? =some fn∧(fn.name== "runtime.NumGoroutine")=false∧fn.body.isNone=true∧Extern.findNext fn=none∧Extern.find fn=some (Extern.Atomic.casT (.int k))
theorem zc {α:Type}{l:List α}{i:Nat}(d:α)(h:i<l.length):l[i]? =some (l.getD i d):=by simp[List.getD_eq_getElem?_getD,h]
class Pos (n:Nat):Prop where pos:0<n
instance NN.ad3 (H F:SL)(q p:Option Addr)(i s j e sz n c:Nat)(xs:List Value)[l:kQ q p i s j][r:bO H p (ao e sz p n c xs) F][h:Pos n]:NN H q:=⟨fun W w hs=>by
 have:=ao.nn (r.eq▸hs) h.pos
 rw[l.eq]
 cases p with
 |none=>exact absurd rfl this
 |some a=>simp[Go.Proofs.YtakbmjoijcpdmaaGreatDoor.off]⟩
class nq (H:SL)(q:Option Addr)(v:outParam Value)(φ:outParam Prop):Prop where
 get:φ→∀W w,Sat W w H→∃a,q=some a∧w.cell? a=some v∧w.frozen? a=false
class ua (H:SL)(q:Option Addr)(u:Value)(H':outParam SL)(φ:outParam Prop):Prop where
 put:φ→∀W w a,Sat W w H→q=some a→Sat W (w.setCell a u) H'
theorem ao.setCell {W w:World}{F:SL}{e sz n cap:Nat}{p:Option Addr}{xs:List Value}(h:Sat W w (ao e sz p n cap xs*F)){i:Nat}(hi:i<n*sz)(u:Value):
  ∃a v,off p i=some a∧xs[i]? =some v∧w.cell? a=some v∧w.frozen? a=false∧Sat W (w.setCell a u) (ao e sz p n cap (xs.set i u)*F):=by
 obtain⟨⟨hl,hn,hm⟩,⟨_,hc,_⟩|⟨g,o,cur,rfl,h2,h3,hs⟩⟩:=ao.open h
 ·have h0:n=0:=by omega
  subst h0
  omega
 ·have hle:=Nat.mul_le_mul_right sz hn
  have hx:i<xs.length:=by omega
  refine⟨(⟨g,o,none⟩:Addr).add i,xs[i],rfl,List.getElem?_eq_getElem hx,?_,?_,?_⟩
  ·obtain⟨a,h4,h5⟩:=ao.cell h (List.getElem?_eq_getElem hx)
   simp only[off,Option.map_some,Option.some.injEq]at h4
   rw[h4];exact h5
  ·rw[oM];exact hs.free _
  ·rw[oM]
   have h6:=hs.set (o+i) u
   rw[List.setIfInBounds_toArray]at h6
   refine ao.shut hn hm (by simpa using h2) ?_ h6
   subst h3
   apply List.ext_getElem?
   intro j
   simp only[List.getElem?_take,List.getElem?_drop,List.getElem?_set,List.length_take,List.length_drop,List.length_set]
   repeat' split
   all_goals first
    |rfl
    |omega
    |(congr 1;omega)
    |skip
instance nq.row (H F:SL)(q p:Option Addr)(i s j e sz n c:Nat)(xs:List Value)(v:Value)(φ:Prop)[l:kQ q p i s j][r:bO H p (ao e sz p n c xs) F][g:eK xs i s j v φ]:nq H q v φ:=⟨fun hφ W w hs=>by
 have hg:=g.get hφ
 have hr:=r.eq▸hs
 have hi:i*s+j<n*sz:=by rw[←(ao.len hr).1];exact(List.getElem?_eq_some_iff.1 hg).1
 obtain⟨a,u,h1,h2,h3,h4,_⟩:=ao.setCell hr hi v
 rw[hg]at h2
 cases h2
 exact⟨a,by rw[l.eq,h1],h3,h4⟩⟩
instance ua.row (H F:SL)(q p:Option Addr)(i s j e sz n c:Nat)(xs ys:List Value)(u:Value)(φ:Prop)[l:kQ q p i s j][r:bO H p (ao e sz p n c xs) F][g:sK xs i s j [u] ys φ]:ua H q u (ao e sz p n c ys*F) φ:=⟨fun hφ W w a hs hq=>by
 obtain⟨h1,rfl⟩:=g.set hφ
 have hr:=r.eq▸hs
 simp only[List.length_cons,List.length_nil]at h1
 have hi:i*s+j<n*sz:=by rw[←(ao.len hr).1];omega
 obtain⟨b,v,h2,_,_,_,h5⟩:=ao.setCell hr hi u
 rw[l.eq,h2]at hq
 simp only[Option.some.injEq]at hq
 subst hq
 rw[List.set_eq_take_append_cons_drop,if_pos (by omega)]at h5
 simpa using h5⟩
variable {X:Cx} {k:List KI} {σ:Env} {H:SL} {o:Oper}
theorem Bs {x:Operand}{ats:Array TypeId}{f:FuncId}{kk:IntKind}[I:yn X.P f kk]{q:Option Addr}{z:Int}{φ:Prop}(ho:o.op= .call {callee:= .value (.func f),args:= #[x],argTypes:=ats})(hx:ev σ x=some (.pointer q))[c:nq H q (.int kk z) φ](hφ:φ):az X σ H o (.int kk z):=by
 intro a w ha hs
 obtain⟨fn,h1,h2,h3,h4,h5⟩:=I.h
 obtain⟨b,rfl,hc,_⟩:=c.get hφ _ w hs
 simp only[execOp,ho,resolve,Act.eval,Deferred.ofValue,Sem.run_bind,Sem.run_pure,Result.andThen_ok,invoke,Array.empty_append,Array.append_empty]
 have:Array.map a.eval #[x]= #[.pointer (some b)]:=by simp[ha.eval hx]
 rw[this]
 exact run_call_load h1 h2 h3 h4 kk h5 hc
theorem GG {x y:Operand}{ats:Array TypeId}{f:FuncId}{kk:IntKind}[I:A8 X.P f]{q:Option Addr}{z:Int}{v:Value}{φ ψ:Prop}{H':SL}(ho:o.op= .call {callee:= .value (.func f),args:= #[x,y],argTypes:=ats})(hx:ev σ x=some (.pointer q))(hy:ev σ y=some (.int kk z))[c:nq H q v φ][d:ua H q (.int kk z) H' ψ](hφ:φ)(hψ:ψ):
  ba X σ H o (fun _:Unit=> .tuple #[]) (fun _=>H'):=by
 intro a w ha hs
 obtain⟨fn,h1,h2,h3,h4,h5⟩:=I.h
 obtain⟨b,rfl,hc,hf⟩:=c.get hφ _ w hs
 refine⟨(),_,?_,d.put hψ _ w b hs rfl⟩
 simp only[execOp,ho,resolve,Act.eval,Deferred.ofValue,Sem.run_bind,Sem.run_pure,Result.andThen_ok,invoke,Array.empty_append,Array.append_empty]
 have:Array.map a.eval #[x,y]= #[.pointer (some b),.int kk z]:=by simp[ha.eval hx,ha.eval hy]
 rw[this]
 exact run_call_store h1 h2 h3 h4 h5 hc hf
theorem GD {x y y':Operand}{ats:Array TypeId}{f:FuncId}{kk:IntKind}[I:ud X.P f kk]{q:Option Addr}{z u u':Int}{φ ψ:Prop}{H':SL}(ho:o.op= .call {callee:= .value (.func f),args:= #[x,y,y'],argTypes:=ats})(hx:ev σ x=some (.pointer q))(hy:ev σ y=some (.int kk u))(jU:ev σ y'=some (.int kk u'))[c:nq H q (.int kk z) φ][d:ua H q (.int kk u') H' ψ](hφ:φ)(hψ:ψ)(he:z=u):
  ba X σ H o (fun _:Unit=> .bool true) (fun _=>H'):=by
 intro a w ha hs
 subst he
 obtain⟨fn,h1,h2,h3,h4,h5⟩:=I.h
 obtain⟨b,rfl,hc,hf⟩:=c.get hφ _ w hs
 refine⟨(),_,?_,d.put hψ _ w b hs rfl⟩
 simp only[execOp,ho,resolve,Act.eval,Deferred.ofValue,Sem.run_bind,Sem.run_pure,Result.andThen_ok,invoke,Array.empty_append,Array.append_empty]
 have:Array.map a.eval #[x,y,y']= #[.pointer (some b),.int kk z,.int kk u']:=by simp[ha.eval hx,ha.eval hy,ha.eval jU]
 rw[this]
 exact run_call_cas_hit h1 h2 h3 h4 kk h5 hc hf
theorem Bo {x y y':Operand}{ats:Array TypeId}{f:FuncId}{kk:IntKind}[I:ud X.P f kk]{q:Option Addr}{z u u':Int}{φ:Prop}(ho:o.op= .call {callee:= .value (.func f),args:= #[x,y,y'],argTypes:=ats})(hx:ev σ x=some (.pointer q))(hy:ev σ y=some (.int kk u))(jU:ev σ y'=some (.int kk u'))[c:nq H q (.int kk z) φ](hφ:φ)(he:¬z=u):
  az X σ H o (.bool false):=by
 intro a w ha hs
 obtain⟨fn,h1,h2,h3,h4,h5⟩:=I.h
 obtain⟨b,rfl,hc,hf⟩:=c.get hφ _ w hs
 simp only[execOp,ho,resolve,Act.eval,Deferred.ofValue,Sem.run_bind,Sem.run_pure,Result.andThen_ok,invoke,Array.empty_append,Array.append_empty]
 have:Array.map a.eval #[x,y,y']= #[.pointer (some b),.int kk u,.int kk u']:=by simp[ha.eval hx,ha.eval hy,ha.eval jU]
 rw[this]
 exact run_call_cas_miss h1 h2 h3 h4 kk h5 hc hf he
def bB (k:IntKind)(l:List Nat):List Value:=l.map fun(n:Nat)=> .int k (n:Int)
def im (k:IntKind)(l:List Int):List Value:=l.map fun n=> .int k n
theorem pe (k:IntKind)(l:List Nat):(bB k l).length=l.length:=by simp[bB]
instance eK.V3 (k:IntKind)(l:List Nat)(i:Nat):eK (bB k l) i 1 0 (.int k ((l.getD i 0:Nat):Int)) (i<l.length):=⟨fun h=>by
 simp only[bB,List.getElem?_map,Nat.mul_one,Nat.add_zero,zc 0 h,Option.map_some]⟩
instance eK.ints (k:IntKind)(l:List Int)(i:Nat):eK (im k l) i 1 0 (.int k (l.getD i 0)) (i<l.length):=⟨fun h=>by
 simp only[im,List.getElem?_map,Nat.mul_one,Nat.add_zero,zc 0 h,Option.map_some]⟩
theorem LQ {l:List Value}{i:Nat}{v:Value}(h:i<l.length):l.set i v=l.take i++[v]++l.drop (i+1):=by
 rw[List.set_eq_take_append_cons_drop,if_pos h];simp
instance sK.V3 (k:IntKind)(l:List Nat)(i n:Nat)(z:Int)[m:bo z n]:sK (bB k l) i 1 0 [.int k z] (bB k (l.set i n)) (i<l.length):=⟨fun h=>by
 rw[m.eq]
 refine⟨by simp[bB];omega,?_⟩
 simp only[Nat.mul_one,Nat.add_zero,List.length_cons,List.length_nil,Nat.zero_add]
 rw[←LQ (by simpa[bB]using h)]
 simp[bB,List.map_set]⟩
instance jG.ad5 (k:IntKind)(l:List Nat):jG (bB k l):=⟨by simp[Go.Proofs.YtakbmjoijcpdmaaGreatDoor.je,bB,Value.oneCell']⟩
theorem tQ {α:Type}{l:List α}{i:Nat}{d:α}(h:i<l.length):l.take i++[l.getD i d]=l.take (i+1):=by
 rw[List.take_add_one,zc d h];rfl
theorem Ev (k:IntKind)(l:List Nat)(n:Nat):bB k l++[.int k (n:Int)]=bB k (l++[n]):=by simp[bB]
end
section
open Go.RowKit
def bs (l:List UInt8):ByteArray:=⟨l.toArray⟩
class dZ (s:ByteArray)(l:outParam (List UInt8)):Prop where eq:s=bs l
instance (priority:=2000) dZ.iBs (l:List UInt8):dZ (bs l) l:=⟨rfl⟩
instance (priority:=1900) dZ.iMk (l:List UInt8):dZ ⟨l.toArray⟩ l:=⟨rfl⟩
theorem sP (l:List UInt8):(bs l).size=l.length:=by simp[bs,ByteArray.size]
theorem Hq (l:List UInt8):(bs l).toList=l:=by
 simp[bs,ByteArray.toList_eq]
theorem Qd (a b:List UInt8):bs a++bs b=bs (a++b):=by
 apply ByteArray.ext
 simp[bs,ByteArray.data_append]
theorem Qe (l:List UInt8)(i j:Nat):(bs l).extract i j=bs ((l.take j).drop i):=by
 apply ByteArray.ext
 simp[bs,ByteArray.data_extract,List.drop_take]
theorem Qf {l:List UInt8}{i:Nat}(h:i<l.length):(bs l)[i]? =some (l.getD i 0):=by
 have:i<(bs l).size:=by rw[sP];exact h
 rw[getElem?_pos (bs l) i this]
 simp[bs,ByteArray.getElem_eq_getElem_data,List.getD_eq_getElem?_getD,h]
variable {X:Cx} {k:List KI} {σ:Env} {H:SL} {o:Oper}
theorem BI {x:Operand}{s:ByteArray}{l:List UInt8}{t:TypeId}(ho:o.op= .call {callee:= .builtin .len,args:= #[x],argTypes:= #[t]})(hx:ev σ x=some (.string s))[m:dZ s l][u:iT X.P t]:az X σ H o (.int .i64 (l.length:Int)):=by
 intro a w ha hs
 have e:=m.eq
 subst e
 simp only[execOp,ho,resolve,invoke,builtin,Sem.run_bind,Sem.run_pure,Result.andThen_ok,List.map_toArray,List.map_cons,List.map_nil,ha.eval hx]
 simp[Builtin.len_,run_underlying u.h,sP,go_sem]
theorem BF {x y:Operand}{s:ByteArray}{l:List UInt8}{t:TypeId}{kk:IntKind}{z:Int}{i:Nat}(ho:o.op= .index t x y)(hx:ev σ x=some (.string s))(hy:ev σ y=some (.int kk z))[m:dZ s l][q:bo z i][u:iT X.P t](hi:i<l.length):az X σ H o (.int .u8 (((l.getD i 0).toNat:Nat):Int)):=by
 intro a w ha hs
 have e:=m.eq
 subst e
 have e:=q.eq
 subst e
 simp only[execOp,ho,ha.eval hx,ha.eval hy]
 simp[Instr.index,asIntOf,run_underlying u.h,Qf hi,go_sem]
theorem E9 {P:Program}{w:World}{op:BinOp}{t:TypeId}{p q:Operand}{a b:ByteArray}:(eqGuard op t p q (.string a) (.string b)).run P w= .ok () w:=by
 unfold eqGuard
 cases op<;>rfl
theorem B9 {x y:Operand}{t u:TypeId}{s r:ByteArray}{l m:List UInt8}(ho:o.op= .binOp .eql t x y u)(hx:ev σ x=some (.string s))(hy:ev σ y=some (.string r))[e1:dZ s l][e2:dZ r m]:az X σ H o (.bool (decide (l=m))):=by
 intro a w ha hs
 have e:=e1.eq
 subst e
 have e:=e2.eq
 subst e
 simp only[execOp,ho,ha.eval hx,ha.eval hy]
 have:(l==m)=decide (l=m):=by rw[Bool.eq_iff_iff];simp
 simp[Sem.run_bind,E9,binOp,Op.stringOp,Hq,this,go_sem]
theorem Ca {x y:Operand}{t u:TypeId}{s r:ByteArray}{l m:List UInt8}(ho:o.op= .binOp .neq t x y u)(hx:ev σ x=some (.string s))(hy:ev σ y=some (.string r))[e1:dZ s l][e2:dZ r m]:az X σ H o (.bool (!decide (l=m))):=by
 intro a w ha hs
 have e:=e1.eq
 subst e
 have e:=e2.eq
 subst e
 simp only[execOp,ho,ha.eval hx,ha.eval hy]
 have:(l==m)=decide (l=m):=by rw[Bool.eq_iff_iff];simp
 simp[Sem.run_bind,E9,binOp,Op.stringOp,Hq,this,go_sem]
theorem B8 {x y:Operand}{t u:TypeId}{s r:ByteArray}{l m:List UInt8}(ho:o.op= .binOp .add t x y u)(hx:ev σ x=some (.string s))(hy:ev σ y=some (.string r))[e1:dZ s l][e2:dZ r m](hb:l.length+m.length≤9223372036854775807):az X σ H o (.string (bs (l++m))):=by
 intro a w ha hs
 have e:=e1.eq
 subst e
 have e:=e2.eq
 subst e
 simp only[execOp,ho,ha.eval hx,ha.eval hy]
 have hn:¬(((bs l).size+(bs m).size:Nat):Int)>IntKind.i64.max:=by
  rw[sP,sP]
  have:IntKind.i64.max=9223372036854775807:=rfl
  omega
 simp only[Sem.run_bind,E9,binOp,Op.stringOp,Result.andThen_ok,if_neg hn,Qd]
 rfl
theorem Xw {P:Program}{w:World}{t:TypeId}[u:iT P t]{l:List UInt8}{lo hi:Option Value}{i j:Nat}(hl:lo=none∧i=0∨∃kk,lo=some (.int kk (i:Int)))(hh:hi=none∧j=l.length∨∃kk,hi=some (.int kk (j:Int)))(Dy:i≤j)(hj:j≤l.length):
  (Instr.sliceAt t (.string (bs l)) lo hi none).run P w= .ok (.string (bs ((l.take j).drop i))) w:=by
 have h2:(i:Int)≤(j:Int):=by omega
 have h3:(j:Int)≤(l.length:Int):=by omega
 rcases hl with ⟨rfl,rfl⟩|⟨k1,rfl⟩<;>rcases hh with ⟨rfl,rfl⟩|⟨k2,rfl⟩<;>
  simp[Instr.sliceAt,Instr.slice,Instr.sliceBounds,Instr.sliceBound,asIntOf,run_underlying u.h,sP,Qe,h2,h3,Dy,hj,go_sem]
 all_goals first|done|(intro;omega)
theorem GK {x:Operand}{lo hi:Option Operand}{s:ByteArray}{l:List UInt8}{t:TypeId}{i j:Nat}(ho:o.op= .slice t x lo hi none)(hx:ev σ x=some (.string s))[m:dZ s l][u:iT X.P t]
  (hl:lo=none∧i=0∨∃y kk z,lo=some y∧ev σ y=some (.int kk z)∧z=(i:Int)) (hh:hi=none∧j=l.length∨∃y kk z,hi=some y∧ev σ y=some (.int kk z)∧z=(j:Int)) (Dy:i≤j) (hj:j≤l.length):az X σ H o (.string (bs ((l.take j).drop i))):=by
 intro a w ha hs
 have e:=m.eq
 subst e
 simp only[execOp,ho,ha.eval hx]
 have h1:lo.map a.eval=none∧i=0∨∃kk,lo.map a.eval=some (.int kk (i:Int)):=by
  rcases hl with ⟨rfl,h⟩|⟨y,kk,z,rfl,h,rfl⟩
  ·exact .inl ⟨rfl,h⟩
  ·exact .inr ⟨kk,by simp[ha.eval h]⟩
 have h2:hi.map a.eval=none∧j=l.length∨∃kk,hi.map a.eval=some (.int kk (j:Int)):=by
  rcases hh with ⟨rfl,h⟩|⟨y,kk,z,rfl,h,rfl⟩
  ·exact .inl ⟨rfl,h⟩
  ·exact .inr ⟨kk,by simp[ha.eval h]⟩
 simp only[Sem.run_bind,Option.map_none,Xw h1 h2 Dy hj,Result.andThen_ok]
 rfl
theorem B7 {x y:Operand}{s:ByteArray}{l:List UInt8}{t:TypeId}{kk:IntKind}{z:Int}{i:Nat}(ho:o.op= .slice t x (some y) none none)(hx:ev σ x=some (.string s))(hy:ev σ y=some (.int kk z))[m:dZ s l][u:iT X.P t][q:bo z i](hi:i≤l.length):az X σ H o (.string (bs (l.drop i))):=by
 have:=GK (X:=X) (H:=H) (j:=l.length) ho hx (.inr ⟨y,kk,z,rfl,hy,q.eq⟩) (.inl ⟨rfl,rfl⟩) hi (Nat.le_refl _)
 rwa[List.take_length]at this
theorem B6 {x y:Operand}{s:ByteArray}{l:List UInt8}{t:TypeId}{kk:IntKind}{z:Int}{j:Nat}(ho:o.op= .slice t x none (some y) none)(hx:ev σ x=some (.string s))(hy:ev σ y=some (.int kk z))[m:dZ s l][u:iT X.P t][q:bo z j](hi:j≤l.length):az X σ H o (.string (bs (l.take j))):=by
 have:=GK (X:=X) (H:=H) (i:=0) ho hx (.inl ⟨rfl,rfl⟩) (.inr ⟨y,kk,z,rfl,hy,q.eq⟩) (Nat.zero_le _) hi
 rwa[List.drop_zero]at this
def aA (l:List UInt8):List Value:=l.map fun b=> .int .u8 ((b.toNat:Nat):Int)
theorem mM (l:List UInt8):(aA l).length=l.length:=by simp[aA]
instance eK.bytes (l:List UInt8)(i:Nat):eK (aA l) i 1 0 (.int .u8 (((l.getD i 0).toNat:Nat):Int)) (i<l.length):=⟨fun h=>by
 simp only[aA,List.getElem?_map,Nat.mul_one,Nat.add_zero,zc 0 h,Option.map_some]⟩
instance jG.ad1 (l:List UInt8):jG (aA l):=⟨by simp[Go.Proofs.YtakbmjoijcpdmaaGreatDoor.je,aA,Value.oneCell']⟩
class vj (xs:List Value)(l:outParam (List UInt8))(φ:outParam Prop):Prop where eq:φ→xs=aA l
instance (priority:=2000) vj.iR (l:List UInt8):vj (aA l) l ((0:Int)≤0):=⟨fun _=>rfl⟩
def GS (e sz:Nat)(p:Option Addr)(n cap:Nat)(xs:List Value):SL:=fun h=>
 (xs.length=n*sz∧n≤cap)∧∃(g o:Nat) (cur:List Value) (fr:Nat×Nat),p=some ⟨g,o,none⟩∧(cur.drop o).take (n*sz)=xs∧SL.cH g (.cells cur.toArray e fr) h
theorem GI {x:Operand}{t u e sz bw:TypeId}{z:List Value}{s:ByteArray}{l:List UInt8}(ho:o.op= .convert t u x)(hx:ev σ x=some (.string s))[m:dZ s l][u1:iT X.P t][u2:cL X.P u e sz bw z][u3:gU X.P e .u8]:
  ba X σ H o (fun q:Option Addr×Nat=> .slice q.1 l.length q.2) (fun q=>GS e 1 q.1 l.length q.2 (aA l)*H):=by
 intro a w ha hs
 have e1:=m.eq
 subst e1
 refine⟨(some ⟨w.heap.size,0,none⟩,grownCap w (bs l).size 0 e),Lib.bytesWorld w e (bs l),?_,?_⟩
 ·simp only[execOp,ho,ha.eval hx,Sem.run_bind,Lib.run_convert_string_bytes w t u e (bs l) u1.h u2.under u3.h,Result.andThen_ok,sP]
  rfl
 ·have hn:=hs.new (w':=Lib.bytesWorld w e (bs l)) (b:=w.heap.size) rfl (by rw[Lib.bytesWorld_size];omega) (by simp[Lib.bytesWorld,World.freeze,World.alloc,World.drew, -World.alloc_eq, -World.drew_eq]) (by simp[Lib.bytesWorld,World.freeze,World.alloc,World.drew, -World.alloc_eq, -World.drew_eq])
   (by simp[Lib.bytesWorld,World.freeze,World.alloc,World.drew, -World.alloc_eq, -World.drew_eq]) (fun k hk=>Lib.bytesWorld_at_old w e (bs l) k hk) (Lib.bytesWorld_at_new w e (bs l))
  refine hn.left fun y hy=>⟨⟨by rw[mM,Nat.mul_one],?_⟩,w.heap.size,0,(Lib.bytesCells w e (bs l)).toList,_,rfl,?_,by rw[Array.toArray_toList];exact hy⟩
  ·rw[←sP];exact grownCap_ge w _ _ _
  ·rw[List.drop_zero,Nat.mul_one]
   simp[Lib.bytesCells,bs,aA]
theorem Bx {x:Operand}{t u e sz bw n n0 cap:Nat}{z xs:List Value}{p:Option Addr}{l:List UInt8}{φ:Prop}(ho:o.op= .convert t u x)(hx:ev σ x=some (.slice p n cap))[u1:cL X.P t e sz bw z][u2:gU X.P e .u8][u3:iT X.P u]
  [r:Src X.W H p n0 xs] [b:vj xs l φ] (hφ:φ) (hn:l.length=n):az X σ H o (.string (bs l)):=by
 intro a w ha hs
 have hb:=b.eq hφ
 subst hb
 subst hn
 simp only[execOp,ho,ha.eval hx]
 cases p with
 |none=>
  have h0:l=[]:=by
   cases l with
   |nil=>rfl
   |cons c l=>
    obtain⟨q,hq,_⟩:=r.cells w hs 0 (.int .u8 ((c.toNat:Nat):Int)) (by simp[aA])
    simp[off]at hq
  subst h0
  simp[convert,run_underlying u1.under,run_underlying u2.h,run_underlying u3.h,Conv.bytesToString,go_sem,bs]
  rfl
 |some q=>
  simp only[Sem.run_bind,run_convert_bytes_back w t u e q cap l u1.under u2.h u3.h (fun j hj=>by
   obtain⟨a',h1,h2⟩:=r.cells w hs j (.int .u8 (((l[j]).toNat:Nat):Int)) (by simp[aA,hj])
   simp only[off,Option.map_some,Option.some.injEq]at h1
   rw[h1];exact h2),Result.andThen_ok]
  rfl
end
end Go.Proofs.YtakbmjoijcpdmaaGreatDoor
