/-
  Joined by a program (wip/bundle2.py).
-/
import Derived.Laws.StructEq
import Derived.ChangeKeysEq
import Derived.Laws.BitsAllLaws
import Derived.Test.YtimekbpkejemoaaGreatDoorG1
set_option linter.unusedVariables false
set_option linter.unusedSimpArgs false
namespace Go.Proofs.YtimekbpkejemoaaGreatDoor
section
open Go.RowKit
variable {X:Cx} {k:List KI} {σ:Env} {H:SL} {o:Oper}
theorem GS {P:Program}{t:TypeId}[h:oO P t](p q:Bool)(w:World):(Op.equal t (.bool p) (.bool q)).run P w= .ok (p==q) w:=by
 unfold Op.equal
 obtain⟨d,hd⟩:∃d,Op.maxDepth=d+1:=⟨9999,rfl⟩
 rw[hd]
 exact run_equalIn_bool' w d t p q h.h
theorem xS {x y:Operand}{t u:TypeId}{p q:Bool}(ho:o.op= .binOp .eql t x y u)(hx:ev σ x=some (.bool p))(hy:ev σ y=some (.bool q))[h:oO X.P t]:av X σ H o (.bool (p==q)):=by
 intro a' w ha _
 simp only[execOp,ho,ha.eval hx,ha.eval hy]
 have hg:∀p' q',(eqGuard .eql t p' q' (.bool p) (.bool q)).run X.P w= .ok () w:=fun _ _=>rfl
 simp[Sem.run_bind,hg,binOp,GS p q w,go_sem]
theorem xT {x y:Operand}{t u:TypeId}{p q:Bool}(ho:o.op= .binOp .neq t x y u)(hx:ev σ x=some (.bool p))(hy:ev σ y=some (.bool q))[h:oO X.P t]:av X σ H o (.bool (!(p==q))):=by
 intro a' w ha _
 simp only[execOp,ho,ha.eval hx,ha.eval hy]
 have hg:∀p' q',(eqGuard .neq t p' q' (.bool p) (.bool q)).run X.P w= .ok () w:=fun _ _=>rfl
 simp[Sem.run_bind,hg,binOp,GS p q w,go_sem]
instance bl.YX (a b:Int)(i j:Nat)[h:bl a i][g:bl b j]:bl (min a b) (min i j):=⟨by rw[h.eq,g.eq];omega⟩
class yM (P:Program)(t:TypeId)(n:outParam Nat)(e:outParam TypeId):Prop where h:P.underlying t=some (.array n e)
theorem yd {x y:Operand}{t:TypeId}{q:Option Addr}{z:Int}{kk:IntKind}{i n sz:Nat}(ho:o.op= .indexAddr t x y)(hx:ev σ x=some (.pointer q))(hy:ev σ y=some (.int kk z))[a:ju X.P t n sz][m:bl z i][nn:NN H q](hi:i<n):av X σ H o (.pointer (off q (i*sz))):=by
 intro b w hb hs
 have e:=m.eq
 subst e
 obtain⟨e,h1,h2⟩:=a.h
 obtain⟨j,hj,dz⟩:=jE h2
 have hq:=nn.nn X.W w hs
 cases q with
 |none=>exact absurd rfl hq
 |some q=>
  have h3:(i:Int)<(n:Int):=by omega
  simp only[execOp,ho,hb.eval hx,hb.eval hy]
  simp[Instr.indexAt,asIntOf,Instr.sureAddr,run_underlying h1,sizeOf,typeInfo,hj,dz,hi,off,go_sem]
theorem yc {x y:Operand}{t e:TypeId}{cs:List Value}{z:Int}{kk:IntKind}{i n:Nat}{v:Value}{φ:Prop}(ho:o.op= .index t x y)(hx:ev σ x=some (.agg cs.toArray))(hy:ev σ y=some (.int kk z))[a:yM X.P t n e][b:ju X.P t n 1][c:cz X.P e][m:bl z i][g:fp cs i 1 0 v φ](hφ:φ)(hi:i<n):av X σ H o v:=by
 intro d w hd hs
 have e1:=m.eq
 subst e1
 obtain⟨e',h1,h2⟩:=b.h
 have h0:=a.h
 rw[h1]at h0
 cases h0
 obtain⟨j,hj,dz⟩:=jE h2
 obtain⟨dd,h3,h4⟩:=c.agg
 have hv:=g.get hφ
 simp only[Nat.mul_one,Nat.add_zero]at hv
 have h5:(i:Int)<(n:Int):=by omega
 simp only[execOp,ho,hd.eval hx,hd.eval hy]
 cases dd<;>simp at h4<;>simp[Instr.index,asIntOf,run_underlying h1,sizeOf,typeInfo,hj,dz,hi,part,isAgg,run_underlying h3,asAgg,hv,go_sem]
theorem Dv {f g:Nat→Option (Nat×Nat)}(D9:∀i q,f i=some q→g i=some q):∀(l:List (Nat×Value)) (cs vs:Array Value),Instr.fill f cs l=some vs→Instr.fill g cs l=some vs
 |[],cs,vs,h=>by simpa[Instr.fill]using h
 |(i,v)::l,cs,vs,h=>by
  simp only[Instr.fill]at h ⊢
  cases hf:f i with
  |none=>simp[hf]at h
  |some q=>
   rw[D9 i q hf]
   simp only[hf]at h ⊢
   split at h
   ·cases h
   ·rename_i hc
    rw[if_neg hc]
    exact Dv D9 l _ _ h
theorem xV {t:TypeId}{parts:Array (Nat×Operand)}{n sz:Nat}{cs vs:List Value}(ho:o.op= .build t parts)[s:ju X.P t n sz][z:cL X.P t cs](hv:mD σ ((List.range n).map fun i=>(i*sz,sz)) cs parts.toList=some vs):av X σ H o (.agg vs.toArray):=by
 intro a w ha hs
 obtain⟨v,h1,h2⟩:=z.h
 obtain⟨j,hj,hz⟩:=jE h1
 obtain⟨e,h3,h4⟩:=s.h
 obtain⟨j',rE,dz⟩:=jE h4
 have h6:=zk ha parts.toList cs vs hv
 have h7:=Dv (g:=fun i=>some (i*sz,sz)) (fun i q hq=>by
  simp only[List.getElem?_map,Option.map_eq_some_iff]at hq
  obtain⟨i',jB,rfl⟩:=hq
  have:i'=i:=by
   rw[List.getElem?_eq_some_iff]at jB
   obtain⟨_,h⟩:=jB
   simpa using h.symm
  rw[this]) _ _ _ h6
 have tL:(zeroValue t).run X.P w= .ok v w:=by simp[zeroValue,typeInfo,hj,hz,go_sem]
 have pj:(sizeOf e).run X.P w= .ok sz w:=by simp[sizeOf,typeInfo,rE,dz,go_sem]
 have h8:Instr.fill (fun i=>some (i*sz,sz)) v.cells (parts.map fun(q:Nat×Operand)=>(q.1,a.eval q.2)).toList=some vs.toArray:=by
  rw[h2,Array.toList_map]
  exact h7
 simp only[execOp,ho,Instr.build,Sem.run_bind,tL,Result.andThen_ok,run_underlying h3]
 simp only[Sem.run_bind,pj,Result.andThen_ok]
 rw[h8]
 rfl
def aT (P:Program)(W:World)(H:SL)(q:Option Addr)(t:TypeId)(v:Value):Prop:=∀w,Sat W w H→∃b,q=some b∧(loadVar t b).run P w= .ok v w
theorem aT.agg {P:Program}{W:World}{q p:Option Addr}{t t0:TypeId}{i n:Nat}{cs vs:List Value}{F:SL}[c:fw P t n][l:Loc q p i][r:bw H p (Obj p t0 cs) F](hv:jI cs i n=some vs):aT P W H q t (.agg vs.toArray):=by
 intro w hs
 obtain⟨b,hb,fK⟩:=Obj.open (r.eq▸hs)
 have hq:=l.eq
 rw[hb]at hq
 simp only[off,Option.map_some,mA,Nat.zero_add]at hq
 obtain⟨d,h1,h2⟩:=c.agg
 obtain⟨j,hj,dz⟩:=jE c.size
 obtain⟨hl,rfl⟩:=uh hv
 have:=CS (P:=P) fK hl
 unfold loadCells at this
 refine⟨_,hq,?_⟩
 cases d<;>simp at h2<;>simp[loadVar,isAgg,run_underlying h1,sizeOf,typeInfo,hj,dz,this,go_sem]
def Cn (P:Program)(W:World)(σ:Env)(H:SL):ResultVar→Value→Prop
 | .tmp t,v=>σ.get t=some v
 | .cell a t,v=>∃q,σ.get a=some (.pointer q)∧aT P W H q t v
def uR (P:Program)(W:World)(σ:Env)(H:SL):List ResultVar→List Value→Prop
 |[],[]=>True
 |r::rs,v::vs=>Cn P W σ H r v∧uR P W σ H rs vs
 |_,_=>False
def rU (tmps:Array Value):ResultVar→Sem Value
 | .tmp t=>pure (tmps.getD t undef)
 | .cell b t=>do loadVar t (←asAddr (tmps.getD b undef))
theorem DQ {a:Array Value}{t:Nat}{v:Value}(h:a[t]? =some v):a.getD t undef=v:=by rw[Array.getD_eq_getD_getElem?,h];rfl
theorem GZ {P:Program}{W w:World}{N:Nat}{a:Act}(ha:Fits N a σ)(hs:Sat W w H):∀(rs:List ResultVar) (vs:List Value),uR P W σ H rs vs→
  (rs.mapM (rU a.tmps)).run P w= .ok vs w
 |[],[],_=>by simp[go_sem]
 |[],_::_,h=>h.elim
 |_::_,[],h=>h.elim
 |r::rs,v::vs,⟨h1,h2⟩=>by
  have ih:=GZ ha hs rs vs h2
  cases r with
  |tmp t=>
   have:=DQ (ha.k9 t v h1)
   simp only[List.mapM_cons,rU,Sem.run_bind,this,Sem.run_pure,Result.andThen_ok,ih]
  |cell b t=>
   obtain⟨q,h3,h4⟩:=h1
   have:=DQ (ha.k9 b _ h3)
   obtain⟨c,rfl,h5⟩:=h4 w hs
   have h6:(asAddr (.pointer (some c))).run P w= .ok c w:=by simp[asAddr,go_sem]
   simp only[List.mapM_cons,rU,Sem.run_bind,this,h6,h5,Sem.run_pure,Result.andThen_ok,ih]
section leave
variable {P:Program} {N:Nat} {W:World} {fn:Func} {α:Type} {r:α→Value} {H':α→SL}
theorem GY {w:World}{a:Act}(ha:Fits N a σ)(hs:Sat W w H){rs:List ResultVar}{vs:List Value}(hf:fn.results=rs.toArray)(h:uR P W σ H rs vs):
  (results fn a.tmps).run P w= .ok (if h:vs.toArray.size=1 then vs.toArray[0]else .tuple vs.toArray) w:=by
 have h1:=GZ (P:=P) ha hs rs vs h
 have e:results fn a.tmps=(do
   let vs ←fn.results.mapM (rU a.tmps)
   pure (if h:vs.size=1 then vs[0]else .tuple vs)):=by
  unfold results
  congr
 have h2:(rs.toArray.mapM (rU a.tmps)).run P w= .ok vs.toArray w:=by
  rw[Array.mapM_eq_mapM_toList]
  show(Bind.bind (List.mapM (rU a.tmps) rs) (fun l=>(pure l.toArray:Sem (Array Value)))).run P w=_
  rw[Sem.run_bind,h1]
  rfl
 rw[e,hf,Sem.run_bind,h2]
 rfl
theorem js {v:Value}{rv:ResultVar}(hf:fn.results= #[rv])(h:Cn P W σ H rv v)(x:α)(hx:v=r x)(hs:∀w,Sat W w H→Sat W w (H' x)):ER ⟨P,N,W,bodyPost P fn (nq W r H')⟩ σ H:=fun _ w ha hw=>
 leaves (.inr rfl) ha (GY (rs:=[rv]) (vs:=[v]) ha hw hf ⟨h,trivial⟩) x hx (hs w hw)
theorem aZ {v u:Value}{vs:List Value}{rs:List ResultVar}(hf:fn.results=rs.toArray)(h:uR P W σ H rs (v::u::vs))(x:α)(hx: .tuple (v::u::vs).toArray=r x)(hs:∀w,Sat W w H→Sat W w (H' x)):ER ⟨P,N,W,bodyPost P fn (nq W r H')⟩ σ H:=fun _ w ha hw=>
 leaves (.inr rfl) ha (GY ha hw hf h) x (by rw[←hx];simp) (hs w hw)
end leave
inductive gK|i (k:IntKind)|b|s
def Bj:TypeDesc→Option gK
 | .int k=>some (.i k)
 | .bool=>some .b
 | .string=>some .s
 |_=>none
def pG (P:Program)(t:TypeId):Option gK:=(P.underlying t).bind Bj
def mL:gK→Value→Bool
 | .i k,.int k' _=>k==k'
 | .b,.bool _=>true
 | .s,.string _=>true
 |_,_=>false
def fits:List gK→List Value→Bool
 |[],[]=>true
 |t::ts,v::vs=>mL t v&&fits ts vs
 |_,_=>false
theorem sV:∀ {ts:List gK} {vs:List Value},fits ts vs=true→vs.length=ts.length
 |[],[],_=>rfl
 |_::ts,_::vs,h=>by
  simp only[fits,Bool.and_eq_true]at h
  simp[sV h.2]
 |[],_::_,h=>by simp[fits]at h
 |_::_,[],h=>by simp[fits]at h
theorem sU:∀ {ts:List gK} {vs:List Value} (_:fits ts vs=true) {i:Nat} {t:gK} (_:ts[i]? =some t),∃v,vs[i]? =some v∧mL t v=true
 |t::ts,v::vs,h,0,t',ht=>by
  simp only[fits,Bool.and_eq_true]at h
  simp only[List.getElem?_cons_zero,Option.some.injEq]at ht
  subst ht
  exact⟨v,rfl,h.1⟩
 |t::ts,v::vs,h,i+1,t',ht=>by
  simp only[fits,Bool.and_eq_true]at h
  simp only[List.getElem?_cons_succ]at ht ⊢
  exact sU h.2 ht
 |[],_,_,i,t',ht=>by simp at ht
 |_::_,[],h,_,_,_=>by simp[fits]at h
theorem GX {P:Program}(w:World)(d:Nat){e:TypeId}{t:gK}(ht:pG P e=some t){a b:Value}(ha:mL t a=true)(hb:mL t b=true):
  ∃r:Bool,(Op.equalIn (d+1) e a b).run P w= .ok r w∧(r=true↔a=b):=by
 unfold pG at ht
 cases hu:P.underlying e with
 |none=>simp[hu]at ht
 |some dd=>
  rw[hu]at ht
  cases dd<;>simp only[Option.bind_some,Bj,Option.some.injEq,reduceCtorEq]at ht
  all_goals subst ht
  case int k=>
   cases a<;>simp only[mL,beq_iff_eq,Bool.false_eq_true]at ha
   cases b<;>simp only[mL,beq_iff_eq,Bool.false_eq_true]at hb
   subst ha;subst hb
   exact⟨_,run_equalIn_int w d e _ _ _ _ hu,by simp⟩
  case bool=>
   cases a<;>simp only[mL,Bool.false_eq_true]at ha
   cases b<;>simp only[mL,Bool.false_eq_true]at hb
   exact⟨_,run_equalIn_bool' w d e _ _ hu,by simp⟩
  case string=>
   cases a<;>simp only[mL,Bool.false_eq_true]at ha
   cases b<;>simp only[mL,Bool.false_eq_true]at hb
   rename_i x y
   refine⟨_,run_equalIn_string w d e _ _ hu,?_⟩
   rw[beq_iff_eq,ByteArray.toList_eq,ByteArray.toList_eq]
   constructor
   ·intro h
    have:x.data=y.data:=by rw[←Array.toArray_toList (xs:=x.data),h,Array.toArray_toList]
    rw[ByteArray.ext this]
   ·intro h
    cases h
    rfl
theorem wE {P:Program}(w:World){e:TypeId}{t:gK}(ht:pG P e=some t){xs:Array Value}{off:Nat}{v:Value}(hx:xs[off]? =some v):(part e xs off).run P w= .ok v w:=by
 unfold pG at ht
 cases hu:P.underlying e with
 |none=>simp[hu]at ht
 |some d=>cases d<;>simp[hu,Bj]at ht<;>simp[part,isAgg,run_underlying hu,hx]
class lh (P:Program)(t:TypeId)(ks:outParam (List gK)):Prop where
 h:(∃fs,P.underlying t=some (.struct fs)∧P.stoodInHeld t=false∧fs.toList.map (fun f=>(f.name== "_",f.offset,pG P f.type))=ks.zipIdx.map fun q=>(false,q.2,some q.1))∨
  (∃n e kk,P.underlying t=some (.array n e)∧(P.info? e).map (·.size)=some 1∧pG P e=some kk∧ks=List.replicate n kk)
 g:P.eqGuardType P.depth t=false
theorem GU {P:Program}(w:World)(d:Nat)(xs ys:List Value)(KS:List gK)(hx:fits KS xs=true)(hy:fits KS ys=true):∀(fs:List Field) (ks:List gK) (i:Nat),KS.drop i=ks→
  fs.map (fun f=>(f.name== "_",f.offset,pG P f.type))=(ks.zipIdx i).map (fun q=>(false,q.2,some q.1))→∃r:Bool,(Op.eqFields (d+1) xs.toArray ys.toArray fs).run P w= .ok r w∧(r=true↔xs.drop i=ys.drop i)
 |[],[],i,hd,_=>by
  have hl:KS.length≤i:=by simpa using hd
  have h1:xs.drop i=[]:=List.drop_eq_nil_of_le (by rw[sV hx];exact hl)
  have h2:ys.drop i=[]:=List.drop_eq_nil_of_le (by rw[sV hy];exact hl)
  exact⟨true,by simp[Op.eqFields],by rw[h1,h2];simp⟩
 |[],_::_,_,_,h=>by simp at h
 |_::_,[],_,_,h=>by simp at h
 |f::fs,t::ks,i,hd,h=>by
  simp only[List.map_cons,List.zipIdx_cons,List.cons.injEq,Prod.mk.injEq]at h
  obtain⟨⟨hn,ho,ht⟩,hr⟩:=h
  have hi:KS[i]? =some t:=by
   have:=congrArg (fun l=>l[0]?) hd
   simpa using this
  obtain⟨a,ha,fa⟩:=sU hx hi
  obtain⟨b,hb,fb⟩:=sU hy hi
  obtain⟨r,h1,h2⟩:=GX w d ht fa fb
  have zI:KS.drop (i+1)=ks:=by
   have:=congrArg List.tail hd
   simpa[List.tail_drop]using this
  obtain⟨r',h3,h4⟩:=GU w d xs ys KS hx hy fs ks (i+1) zI hr
  have mS:f.name≠ "_" :=by simpa using hn
  have e1:xs.drop i=a::xs.drop (i+1):=by
   obtain⟨hl,rfl⟩:=List.getElem?_eq_some_iff.1 ha
   exact List.drop_eq_getElem_cons hl
  have e2:ys.drop i=b::ys.drop (i+1):=by
   obtain⟨hl,rfl⟩:=List.getElem?_eq_some_iff.1 hb
   exact List.drop_eq_getElem_cons hl
  have p1:=wE (P:=P) w ht (xs:=xs.toArray) (off:=f.offset) (v:=a) (by rw[ho];simpa using ha)
  have p2:=wE (P:=P) w ht (xs:=ys.toArray) (off:=f.offset) (v:=b) (by rw[ho];simpa using hb)
  simp only[Op.eqFields,if_pos mS,Sem.run_bind,p1,p2,h1,Result.andThen_ok]
  rw[e1,e2,List.cons.injEq]
  cases r with
  |false=>exact⟨false,by simp,by simp;intro g;exact absurd (h2.2 g) (by simp)⟩
  |true=>exact⟨r',by simpa using h3,by rw[h4];simp[h2.1 rfl]⟩
theorem GV {P:Program}(w:World)(d:Nat){e:TypeId}{t:gK}(ht:pG P e=some t)(hc:P.cellsOf e=1)(xs ys:List Value)(n:Nat)(hx:fits (List.replicate n t) xs=true)(hy:fits (List.replicate n t) ys=true):∀(m i:Nat),i+m=n→
  ∃r:Bool,(Op.eqItems (d+1) e (P.cellsOf e) xs.toArray ys.toArray (List.range' i m)).run P w= .ok r w∧(r=true↔xs.drop i=ys.drop i)
 |0,i,h=>by
  have h1:xs.drop i=[]:=List.drop_eq_nil_of_le (by rw[sV hx];simp;omega)
  have h2:ys.drop i=[]:=List.drop_eq_nil_of_le (by rw[sV hy];simp;omega)
  exact⟨true,by simp[Op.eqItems],by rw[h1,h2];simp⟩
 |m+1,i,h=>by
  have hi:(List.replicate n t)[i]? =some t:=by rw[List.getElem?_replicate,if_pos (by omega)]
  obtain⟨a,ha,fa⟩:=sU hx hi
  obtain⟨b,hb,fb⟩:=sU hy hi
  obtain⟨r,h1,h2⟩:=GX w d ht fa fb
  obtain⟨r',h3,h4⟩:=GV w d ht hc xs ys n hx hy m (i+1) (by omega)
  have e1:xs.drop i=a::xs.drop (i+1):=by
   obtain⟨hl,rfl⟩:=List.getElem?_eq_some_iff.1 ha
   exact List.drop_eq_getElem_cons hl
  have e2:ys.drop i=b::ys.drop (i+1):=by
   obtain⟨hl,rfl⟩:=List.getElem?_eq_some_iff.1 hb
   exact List.drop_eq_getElem_cons hl
  have p1:=wE (P:=P) w ht (xs:=xs.toArray) (off:=i*1) (v:=a) (by simpa using ha)
  have p2:=wE (P:=P) w ht (xs:=ys.toArray) (off:=i*1) (v:=b) (by simpa using hb)
  rw[hc]at h3 ⊢
  simp only[List.range'_succ,Op.eqItems,Sem.run_bind,p1,p2,h1,Result.andThen_ok]
  rw[e1,e2,List.cons.injEq]
  cases r with
  |false=>exact⟨false,by simp,by simp;intro g;exact absurd (h2.2 g) (by simp)⟩
  |true=>exact⟨r',by simpa using h3,by rw[h4];simp[h2.1 rfl]⟩
theorem Ba {P:Program}(w:World){t:TypeId}{ks:List gK}[f:lh P t ks]{xs ys:List Value}(hx:fits ks xs=true)(hy:fits ks ys=true):
  ∃r:Bool,(Op.equalIn 10000 t (.agg xs.toArray) (.agg ys.toArray)).run P w= .ok r w∧(r=true↔xs=ys):=by
 rcases f.h with ⟨fs,h1,h2,h3⟩|⟨n,e,kk,h1,h2,h3,rfl⟩
 ·have Eb:P.fieldsOf t=fs:=by simp[Program.fieldsOf,h1]
  obtain⟨r,h4,h5⟩:=GU (P:=P) w 9998 xs ys ks hx hy fs.toList ks 0 rfl h3
  refine⟨r,?_,by simpa using h5⟩
  have:=run_equalIn_struct (P:=P) w 9999 t xs.toArray ys.toArray (by rw[Eb];exact h1) h2
  rw[Eb]at this
  exact this.trans h4
 ·obtain⟨i,hi,dz⟩:=jE h2
  have hc:P.cellsOf e=1:=by simp[Program.cellsOf,hi,dz]
  obtain⟨r,h4,h5⟩:=GV (P:=P) w 9998 h3 hc xs ys n hx hy n 0 (by omega)
  refine⟨r,?_,by simpa using h5⟩
  have:=run_equalIn_array (P:=P) w 9999 xs.toArray ys.toArray h1 hi
  rw[List.range_eq_range']at this
  exact this.trans h4
theorem xP {x y:Operand}{t u:TypeId}{ks:List gK}{xs ys:List Value}(ho:o.op= .binOp .eql t x y u)(hx:ev σ x=some (.agg xs.toArray))(hy:ev σ y=some (.agg ys.toArray))[f:lh X.P t ks](h1:fits ks xs=true)(h2:fits ks ys=true):av X σ H o (.bool (@decide (xs=ys) (Classical.propDecidable _))):=by
 intro a w ha hs
 obtain⟨r,h3,h4⟩:=Ba (P:=X.P) w (t:=t) h1 h2
 have e: @decide (xs=ys) (Classical.propDecidable _)=r:=by
  by_cases g:xs=ys
  ·rw[@decide_eq_true _ (Classical.propDecidable _) g];exact(h4.2 g).symm
  ·rw[@decide_eq_false _ (Classical.propDecidable _) g]
   cases r
   ·rfl
   ·exact absurd (h4.1 rfl) g
 simp only[execOp,ho,ha.eval hx,ha.eval hy,Sem.run_bind,run_eqGuard_agg w _ t x y _ _ f.g,Result.andThen_ok,run_eql_struct,h3,Sem.run_pure,e]
theorem xQ {x y:Operand}{t u:TypeId}{ks:List gK}{xs ys:List Value}(ho:o.op= .binOp .neq t x y u)(hx:ev σ x=some (.agg xs.toArray))(hy:ev σ y=some (.agg ys.toArray))[f:lh X.P t ks](h1:fits ks xs=true)(h2:fits ks ys=true):av X σ H o (.bool (!@decide (xs=ys) (Classical.propDecidable _))):=by
 intro a w ha hs
 obtain⟨r,h3,h4⟩:=Ba (P:=X.P) w (t:=t) h1 h2
 have e: @decide (xs=ys) (Classical.propDecidable _)=r:=by
  by_cases g:xs=ys
  ·rw[@decide_eq_true _ (Classical.propDecidable _) g];exact(h4.2 g).symm
  ·rw[@decide_eq_false _ (Classical.propDecidable _) g]
   cases r
   ·rfl
   ·exact absurd (h4.1 rfl) g
 simp only[execOp,ho,ha.eval hx,ha.eval hy,Sem.run_bind,run_eqGuard_agg w _ t x y _ _ f.g,Result.andThen_ok,run_neq_struct,h3,Sem.run_pure,e]
end
section
open Go.RowKit
variable {X:Cx} {k:List KI} {σ:Env} {H:SL} {o:Oper} {ops l:List Oper}
abbrev aO:=Option Addr×Nat
class yL (xs:List Value)(n:Nat):Prop where eq:xs.length=n
def de (p:Option Addr)(i cap sz:Nat):Option Addr:=if cap=i then p else off p (i*sz)
class Room (W:World)(H:SL)(p:Option Addr)(n cap:Nat):Prop where le:∀w,Sat W w H→n≤cap
instance (priority:=900) Room.row (W:World)(H F:SL)(e sz n cap:Nat)(p:Option Addr)(xs:List Value)[r:bw H p (an e sz p n cap xs) F]:Room W H p n cap:=⟨fun w hs=>(an.len (r.eq▸hs:Sat W w (an e sz p n cap xs*F))).2.1⟩
theorem RL {P:Program}{w:World}{t e sz bh:Nat}{z:List Value}(s:cn P t e sz bh z){p:Option Addr}{n cap:Nat}{lo hi mx:Option Value}{i j m:Nat}
  (hl:lo=none∧i=0∨∃kk,lo=some (.int kk (i:Int))) (hh:hi=none∧mx=none∧j=n∨∃kk,hi=some (.int kk (j:Int))) (hm:mx=none∧m=cap∨∃kk,mx=some (.int kk (m:Int)))
  (h1:i≤j) (h2:j≤m) (h3:m≤cap):(Instr.sliceAt t (.slice p n cap) lo hi mx).run P w= .ok (.slice (if m=i then p else off p (i*sz)) (j-i) (m-i)) w:=by
 obtain⟨q,v,zP,hz,dz,mN,tM⟩:=s.parts
 have g1:(i:Int)≤(j:Int):=by omega
 have g2:(j:Int)≤(m:Int):=by omega
 have g3:(m:Int)≤(cap:Int):=by omega
 have g0:∀a:Nat,(0:Int)≤(a:Int):=fun a=>Int.natCast_nonneg a
 rcases hl with ⟨rfl,rfl⟩|⟨k1,rfl⟩<;>rcases hh with ⟨rfl,rfl,rfl⟩|⟨k2,rfl⟩<;>rcases hm with ⟨zZ,rfl⟩|⟨k3,zZ⟩<;>first|(cases zZ;done)|skip
 all_goals
  (try subst zZ)
  simp[Instr.sliceAt,Instr.slice,Instr.sliceBounds,Instr.sliceBound,asIntOf,run_underlying s.under,sizeOf,typeInfo,zP,dz,g0,g1,g2,g3,h1,h2,h3,off,go_sem]
theorem uO {x:Operand}{lo hi mx:Option Operand}{p:Option Addr}{n cap:Nat}{t e sz bh i j m:Nat}{z:List Value}(ho:o.op= .slice t x lo hi mx)(hx:ev σ x=some (.slice p n cap))[s:cn X.P t e sz bh z]
  (hl:lo=none∧i=0∨∃y kk z,lo=some y∧ev σ y=some (.int kk z)∧z=(i:Int)) (hh:hi=none∧mx=none∧j=n∨∃y kk z,hi=some y∧ev σ y=some (.int kk z)∧z=(j:Int))
  (hm:mx=none∧m=cap∨∃y kk z,mx=some y∧ev σ y=some (.int kk z)∧z=(m:Int)) (h1:i≤j) (h2:∀w,Sat X.W w H→j≤m) (h3:m≤cap):av X σ H o (.slice (if m=i then p else off p (i*sz)) (j-i) (m-i)):=by
 intro a w ha hs
 simp only[execOp,ho,ha.eval hx]
 have e1:lo.map a.eval=none∧i=0∨∃kk,lo.map a.eval=some (.int kk (i:Int)):=by
  rcases hl with ⟨rfl,h⟩|⟨y,kk,z,rfl,h,rfl⟩
  ·exact .inl ⟨rfl,h⟩
  ·exact .inr ⟨kk,by simp[ha.eval h]⟩
 have e2:hi.map a.eval=none∧mx.map a.eval=none∧j=n∨∃kk,hi.map a.eval=some (.int kk (j:Int)):=by
  rcases hh with ⟨rfl,rfl,h⟩|⟨y,kk,z,rfl,h,rfl⟩
  ·exact .inl ⟨rfl,rfl,h⟩
  ·exact .inr ⟨kk,by simp[ha.eval h]⟩
 have e3:mx.map a.eval=none∧m=cap∨∃kk,mx.map a.eval=some (.int kk (m:Int)):=by
  rcases hm with ⟨rfl,h⟩|⟨y,kk,z,rfl,h,rfl⟩
  ·exact .inl ⟨rfl,h⟩
  ·exact .inr ⟨kk,by simp[ha.eval h]⟩
 simp only[Sem.run_bind,RL s e1 e2 e3 h1 (h2 w hs) h3,Result.andThen_ok]
 rfl
theorem yz {x y:Operand}{p:Option Addr}{n cap:Nat}{t e sz bh i:Nat}{z:List Value}{kk:IntKind}{zi:Int}(ho:o.op= .slice t x (some y) none none)(hx:ev σ x=some (.slice p n cap))(hy:ev σ y=some (.int kk zi))[s:cn X.P t e sz bh z][q:bl zi i][r:Room X.W H p n cap](hi:i≤n):
  av X σ H o (.slice (de p i cap sz) (n-i) (cap-i)):=
 uO ho hx (.inr ⟨y,kk,zi,rfl,hy,q.eq⟩) (.inl ⟨rfl,rfl,rfl⟩) (.inl ⟨rfl,rfl⟩) hi (fun w hs=>r.le w hs) (Nat.le_refl _)
theorem yy {x y:Operand}{p:Option Addr}{n cap:Nat}{t e sz bh j:Nat}{z:List Value}{kk:IntKind}{zj:Int}(ho:o.op= .slice t x none (some y) none)(hx:ev σ x=some (.slice p n cap))(hy:ev σ y=some (.int kk zj))[s:cn X.P t e sz bh z][q:bl zj j][r:Room X.W H p n cap](hj:j≤n):
  av X σ H o (.slice p j cap):=by
 have h:=uO (X:=X) (H:=H) (i:=0) ho hx (.inl ⟨rfl,rfl⟩) (.inr ⟨y,kk,zj,rfl,hy,q.eq⟩) (.inl ⟨rfl,rfl⟩) (Nat.zero_le _) (fun w hs=>Nat.le_trans hj (r.le w hs)) (Nat.le_refl _)
 have e:(if cap=0 then p else off p (0*sz))=p:=by
  split
  ·rfl
  ·rw[Nat.zero_mul];cases p<;>simp[off,Addr.add]
 rw[e]at h
 simpa using h
theorem yx {x y y2:Operand}{p:Option Addr}{n cap:Nat}{t e sz bh i j:Nat}{z:List Value}{kk k2:IntKind}{zi zj:Int}(ho:o.op= .slice t x (some y) (some y2) none)(hx:ev σ x=some (.slice p n cap))(hy:ev σ y=some (.int kk zi))(tK:ev σ y2=some (.int k2 zj))[s:cn X.P t e sz bh z][q:bl zi i][q2:bl zj j][r:Room X.W H p n cap](hi:i≤j)(hj:j≤n):
  av X σ H o (.slice (de p i cap sz) (j-i) (cap-i)):=
 uO ho hx (.inr ⟨y,kk,zi,rfl,hy,q.eq⟩) (.inr ⟨y2,k2,zj,rfl,tK,q2.eq⟩) (.inl ⟨rfl,rfl⟩) hi (fun w hs=>Nat.le_trans hj (r.le w hs)) (Nat.le_refl _)
theorem yA {x:Operand}{p:Option Addr}{n cap:Nat}{t e sz bh:Nat}{z:List Value}{k1 k2:IntKind}(ho:o.op= .slice t x none (some (.const (.int k1 0))) (some (.const (.int k2 0))))(hx:ev σ x=some (.slice p n cap))[s:cn X.P t e sz bh z]:
  av X σ H o (.slice p 0 0):=by
 have h:=uO (X:=X) (H:=H) (i:=0) (j:=0) (m:=0) ho hx (.inl ⟨rfl,rfl⟩) (.inr ⟨_,k1,0,rfl,rfl,rfl⟩) (.inr ⟨_,k2,0,rfl,rfl,rfl⟩) (Nat.le_refl _) (fun _ _=>Nat.le_refl _) (Nat.zero_le _)
 simpa using h
theorem sC {x:Operand}{t:TypeId}{k:IntKind}{a:Int}(ho:o.op= .unOp .xor t x)(hx:ev σ x=some (.int k a)):av X σ H o (.int k (bits .xor k (if k.signed then-1 else k.max) a)):=by
 intro a' w ha _
 simp only[execOp,ho,ha.eval hx]
 simp[Op.unary,Op.intBits,bits,Sem.run,pure]
theorem Lr {a:Int}(h:0≤a∧a≤65535):bits .xor .u16 65535 a=65535-a:=by
 obtain⟨n,rfl⟩:∃n:Nat,a=n:=⟨a.toNat,by omega⟩
 have hn:n<65536:=by omega
 rw[show(65535:Int)=((65535:Nat):Int)from rfl,u16_xor_nat 65535 n (by decide) hn]
 have e:65535^^^n=65535-n:=by
  apply Nat.eq_of_testBit_eq
  intro j
  have h1:(65535:Nat).testBit j=decide (j<16):=Nat.testBit_two_pow_sub_one 16 j
  have h2:=Nat.testBit_two_pow_sub_succ (n:=16) (x:=n) hn j
  rw[show(2:Nat)^16-(n+1)=65535-n by omega]at h2
  rw[Nat.testBit_xor,h1,h2]
  by_cases hj:j<16
  ·simp[hj]
  ·have:n.testBit j=false:=Nat.testBit_lt_two_pow (Nat.lt_of_lt_of_le hn (Nat.pow_le_pow_right (show 0<2 by decide) (show 16≤j by omega)))
   simp[hj,this]
 rw[e]
 omega
theorem xX {x:Operand}{t:TypeId}{a:Int}(ho:o.op= .unOp .xor t x)(hx:ev σ x=some (.int .u16 a))(hr:0≤a∧a≤65535):av X σ H o (.int .u16 (65535-a)):=by
 have h:=sC (X:=X) (H:=H) ho hx
 rw[show(if IntKind.u16.signed=true then(-1:Int)else IntKind.u16.max)=65535 from rfl,Lr hr]at h
 exact h
theorem ya {s t:TypeId}{f i n:Nat}{x:Operand}{cs:Array Value}{us:List Value}(ho:o.op= .field s x f)(hx:ev σ x=some (.agg cs))[g:oP X.P s f i t][c:fw X.P t n](hv:jI cs.toList i n=some us):av X σ H o (.agg us.toArray):=by
 intro a w ha hs
 obtain⟨fs,q,h1,h2,rfl,rfl⟩:=g.h
 obtain⟨d,h3,h4⟩:=c.agg
 obtain⟨j,hj,dz⟩:=jE c.size
 obtain⟨hl,rfl⟩:=uh hv
 have he:cs.extract q.offset (q.offset+n)=((cs.toList.drop q.offset).take n).toArray:=by
  apply Array.ext'
  rw[Array.toList_extract,List.extract_eq_take_drop,show q.offset+n-q.offset=n by omega]
 simp only[execOp,ho,ha.eval hx]
 cases d<;>simp at h4<;>simp[Instr.field,run_underlying h1,h2,part,isAgg,run_underlying h3,asAgg,sizeOf,typeInfo,hj,dz,he,go_sem]
theorem an.lo {e sz n cap i:Nat}{p:Option Addr}{xs:List Value}(hi:i≤n):SL.le (an e sz p n cap xs) (an e sz (de p i cap sz) (n-i) (cap-i) (xs.drop (i*sz))):=by
 rintro h ⟨⟨hl,hn,hm⟩,⟨_,hc,he⟩|⟨g,o,cur,rfl,a2,a3,a4⟩⟩
 ·have h0:i=0:=by omega
  subst h0
  exact⟨⟨by simpa using hl,by omega,by omega⟩,.inl ⟨trivial,by omega,he⟩⟩
 ·have hle:i*sz≤n*sz:=Nat.mul_le_mul_right _ hi
  have Yv:n*sz≤cap*sz:=Nat.mul_le_mul_right _ hn
  have Yw:i*sz≤cap*sz:=by omega
  refine⟨⟨by rw[List.length_drop,hl,Nat.sub_mul],by omega,by omega⟩,.inr ⟨g,if cap=i then o else o+i*sz,cur,?_,?_,?_,a4⟩⟩
  ·unfold de
   split
   ·rfl
   ·simp only[off,Option.map_some,mA]
  ·split
   ·rw[Nat.sub_mul];omega
   ·rw[Nat.sub_mul];omega
  ·split
   ·have:n=i:=by omega
    subst this
    simp[←a3]
   ·rw[←a3,List.drop_take,List.drop_drop,Nat.sub_mul]
theorem an.hi {e sz n cap j:Nat}{p:Option Addr}{xs:List Value}(hj:j≤n):SL.le (an e sz p n cap xs) (an e sz p j cap (xs.take (j*sz))):=by
 rintro h ⟨⟨hl,hn,hm⟩,⟨_,hc,he⟩|⟨g,o,cur,rfl,a2,a3,a4⟩⟩
 ·have h0:j=0:=by omega
  subst h0
  exact⟨⟨by simp,by omega,by omega⟩,.inl ⟨trivial,by omega,he⟩⟩
 ·have hle:j*sz≤n*sz:=Nat.mul_le_mul_right _ hj
  refine⟨⟨by rw[List.length_take,hl];omega,by omega,by omega⟩,.inr ⟨g,o,cur,rfl,a2,?_,a4⟩⟩
  rw[←a3,List.take_take,Nat.min_eq_left hle]
theorem U.GQ {H F G:SL}{e sz n cap:Nat}{xs:List Value}(p:Option Addr)(i:Nat)[h:bw H p (an e sz p n cap xs) F](hi:i≤n)(k:U (an e sz (de p i cap sz) (n-i) (cap-i) (xs.drop (i*sz))*F) G):U H G:=
 (U.of_eq h.eq).trans ((U.star (U.of_le (an.lo hi)) (U.refl F)).trans k)
theorem U.RE {H F G:SL}{e sz n cap:Nat}{xs:List Value}(p:Option Addr)(j:Nat)[h:bw H p (an e sz p n cap xs) F](hj:j≤n)(k:U (an e sz p j cap (xs.take (j*sz))*F) G):U H G:=
 (U.of_eq h.eq).trans ((U.star (U.of_le (an.hi hj)) (U.refl F)).trans k)
instance (priority:=300) Src.there (W:World)(Q R:SL)(p:Option Addr)(n:Nat)(xs:List Value)[s:Src W R p n xs]:Src W (Q*R) p n xs where
 cells:=fun w hs=>s.cells w hs.drop
 nn:=fun w hs=>s.nn w hs.drop
class sA (cs:List Value)(i:Nat)(v:outParam Value)(φ:outParam Prop):Prop where get:φ→cs[i]? =some v
class uJ (cs:List Value)(i:Nat)(v:Value)(dc:outParam (List Value))(φ:outParam Prop):Prop where
 put:φ→jJ cs i [v]=some dc
theorem yk {x:Operand}{q p:Option Addr}{t t0:TypeId}{i:Nat}{cs:List Value}{F:SL}{v:Value}{φ:Prop}(ho:o.op= .load t x)(hx:ev σ x=some (.pointer q))[c:cz X.P t][l:Loc q p i][r:bw H p (Obj p t0 cs) F][g:sA cs i v φ](hφ:φ):av X σ H o v:=
 oJ ho hx (g.get hφ)
theorem xL {x y:Operand}{q p:Option Addr}{t t0:TypeId}{i:Nat}{cs dc:List Value}{F:SL}{v:Value}{φ:Prop}(ho:o.op= .store t x y)(hx:ev σ x=some (.pointer q))(hy:ev σ y=some v)[c:cX X.P t 1][l:Loc q p i][r:bw H p (Obj p t0 cs) F][g:uJ cs i v dc φ](hφ:φ)
  (h1:eh v=[v]) (h2:v.oneCell'=true):aY X σ H o (Obj p t0 dc*F):=
 cK ho hx hy (by rw[h1];exact g.put hφ) (by rw[h1];rfl) (by rw[h1];simp[gV,h2])
end
end Go.Proofs.YtimekbpkejemoaaGreatDoor
