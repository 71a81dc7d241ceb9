/-
  A part of a proof, joined by a program (wip/bundle3.py).
-/
import Derived.Laws.StructEq
import Derived.ChangeKeysEq
import Derived.Laws.BitsAllLaws
import Derived.OrdersHeld
import Derived.Test.YtfkngchldmfpfaaGreatDoorG1
set_option linter.unusedVariables false
set_option linter.unusedSimpArgs false
namespace Go.Proofs.YtfkngchldmfpfaaGreatDoor
section
open Go.RowKit
variable {X:Cx} {k:List KI} {σ:Env} {H:SL} {o:Oper}
theorem LL {P:Program}{t:TypeId}[h:zR P t](p q:Bool)(w:World):(Op.equal t (.bool p) (.bool q)).run P w= .ok (p==q) w:=by
 unfold Op.equal
 obtain⟨d,hd⟩:∃d,Op.maxDepth=d+1:=⟨9999,rfl⟩
 rw[hd]
 exact run_equalIn_bool' w d t p q h.h
theorem ON {x y:Operand}{t u:TypeId}{p q:Bool}(ho:o.op= .binOp .eql t x y u)(hx:ev σ x=some (.bool p))(hy:ev σ y=some (.bool q))[h:zR X.P t]:an X σ H o (.bool (p==q)):=by
 intro a' w ha _
 simp only[execOp,ho,ha.eval hx,ha.eval hy]
 have hg:∀p' q',(eqGuard .eql t p' q' (.bool p) (.bool q)).run X.P w= .ok () w:=fun _ _=>rfl
 simp[Sem.run_bind,hg,binOp,LL p q w,go_sem]
theorem OO {x y:Operand}{t u:TypeId}{p q:Bool}(ho:o.op= .binOp .neq t x y u)(hx:ev σ x=some (.bool p))(hy:ev σ y=some (.bool q))[h:zR X.P t]:an X σ H o (.bool (!(p==q))):=by
 intro a' w ha _
 simp only[execOp,ho,ha.eval hx,ha.eval hy]
 have hg:∀p' q',(eqGuard .neq t p' q' (.bool p) (.bool q)).run X.P w= .ok () w:=fun _ _=>rfl
 simp[Sem.run_bind,hg,binOp,LL p q w,go_sem]
instance bQ.aeF (a b:Int)(i j:Nat)[h:bQ a i][g:bQ b j]:bQ (min a b) (min i j):=⟨by rw[h.eq,g.eq];omega⟩
class CX (P:Program)(t:TypeId)(n:outParam Nat)(e:outParam TypeId):Prop where h:P.underlying t=some (.array n e)
theorem OZ {x y:Operand}{t:TypeId}{q:Option Addr}{z:Int}{kk:IntKind}{i n sz:Nat}(ho:o.op= .indexAddr t x y)(hx:ev σ x=some (.pointer q))(hy:ev σ y=some (.int kk z))[a:pY X.P t n sz][m:bQ z i][nn:NN H q](hi:i<n):an X σ H o (.pointer (off q (i*sz))):=by
 intro b w hb hs
 have e:=m.eq
 subst e
 obtain⟨e,h1,h2⟩:=a.h
 obtain⟨j,hj,du⟩:=lf h2
 have hq:=nn.nn X.W w hs
 cases q with
 |none=>exact absurd rfl hq
 |some q=>
  have h3:(i:Int)<(n:Int):=by omega
  simp only[execOp,ho,hb.eval hx,hb.eval hy]
  simp[Instr.indexAt,asIntOf,Instr.sureAddr,run_underlying h1,sizeOf,typeInfo,hj,du,hi,off,go_sem]
theorem OY {x y:Operand}{t e:TypeId}{cs:List Value}{z:Int}{kk:IntKind}{i n:Nat}{v:Value}{φ:Prop}(ho:o.op= .index t x y)(hx:ev σ x=some (.agg cs.toArray))(hy:ev σ y=some (.int kk z))[a:CX X.P t n e][b:pY X.P t n 1][c:dK X.P e][m:bQ z i][g:hU cs i 1 0 v φ](hφ:φ)(hi:i<n):an X σ H o v:=by
 intro d w hd hs
 have e1:=m.eq
 subst e1
 obtain⟨e',h1,h2⟩:=b.h
 have h0:=a.h
 rw[h1]at h0
 cases h0
 obtain⟨j,hj,du⟩:=lf h2
 obtain⟨dd,h3,h4⟩:=c.agg
 have hv:=g.get hφ
 simp only[Nat.mul_one,Nat.add_zero]at hv
 have h5:(i:Int)<(n:Int):=by omega
 simp only[execOp,ho,hd.eval hx,hd.eval hy]
 cases dd<;>simp at h4<;>simp[Instr.index,asIntOf,run_underlying h1,sizeOf,typeInfo,hj,du,hi,part,isAgg,run_underlying h3,asAgg,hv,go_sem]
theorem IC {f g:Nat→Option (Nat×Nat)}(Js:∀i q,f i=some q→g i=some q):∀(l:List (Nat×Value)) (cs vs:Array Value),Instr.fill f cs l=some vs→Instr.fill g cs l=some vs
 |[],cs,vs,h=>by simpa[Instr.fill]using h
 |(i,v)::l,cs,vs,h=>by
  simp only[Instr.fill]at h ⊢
  cases hf:f i with
  |none=>simp[hf]at h
  |some q=>
   rw[Js i q hf]
   simp only[hf]at h ⊢
   split at h
   ·cases h
   ·rename_i hc
    rw[if_neg hc]
    exact IC Js l _ _ h
theorem OQ {t:TypeId}{parts:Array (Nat×Operand)}{n sz:Nat}{cs vs:List Value}(ho:o.op= .build t parts)[s:pY X.P t n sz][z:dq X.P t cs](hv:vA σ ((List.range n).map fun i=>(i*sz,sz)) cs parts.toList=some vs):an X σ H o (.agg vs.toArray):=by
 intro a w ha hs
 obtain⟨v,h1,h2⟩:=z.h
 obtain⟨j,hj,hz⟩:=lf h1
 obtain⟨e,h3,h4⟩:=s.h
 obtain⟨j',oD,du⟩:=lf h4
 have h6:=Ds ha parts.toList cs vs hv
 have h7:=IC (g:=fun i=>some (i*sz,sz)) (fun i q hq=>by
  simp only[List.getElem?_map,Option.map_eq_some_iff]at hq
  obtain⟨i',pv,rfl⟩:=hq
  have:i'=i:=by
   rw[List.getElem?_eq_some_iff]at pv
   obtain⟨_,h⟩:=pv
   simpa using h.symm
  rw[this]) _ _ _ h6
 have rK:(zeroValue t).run X.P w= .ok v w:=by simp[zeroValue,typeInfo,hj,hz,go_sem]
 have fg:(sizeOf e).run X.P w= .ok sz w:=by simp[sizeOf,typeInfo,oD,du,go_sem]
 have h8:Instr.fill (fun i=>some (i*sz,sz)) v.cells (parts.map fun(q:Nat×Operand)=>(q.1,a.eval q.2)).toList=some vs.toArray:=by
  rw[h2,Array.toList_map]
  exact h7
 simp only[execOp,ho,Instr.build,Sem.run_bind,rK,Result.andThen_ok,run_underlying h3]
 simp only[Sem.run_bind,fg,Result.andThen_ok]
 rw[h8]
 rfl
def aX (P:Program)(W:World)(H:SL)(q:Option Addr)(t:TypeId)(v:Value):Prop:=∀w,Sat W w H→∃b,q=some b∧(loadVar t b).run P w= .ok v w
theorem aX.agg {P:Program}{W:World}{q p:Option Addr}{t t0:TypeId}{i n:Nat}{cs vs:List Value}{F:SL}[c:ia P t n][l:Loc q p i][r:bZ H p (Obj p t0 cs) F](hv:oP cs i n=some vs):aX P W H q t (.agg vs.toArray):=by
 intro w hs
 obtain⟨b,hb,fH⟩:=Obj.open (r.eq▸hs)
 have hq:=l.eq
 rw[hb]at hq
 simp only[off,Option.map_some,pZ,Nat.zero_add]at hq
 obtain⟨d,h1,h2⟩:=c.agg
 obtain⟨j,hj,du⟩:=lf c.size
 obtain⟨hl,rfl⟩:=za hv
 have:=HQ (P:=P) fH hl
 unfold loadCells at this
 refine⟨_,hq,?_⟩
 cases d<;>simp at h2<;>simp[loadVar,isAgg,run_underlying h1,sizeOf,typeInfo,hj,du,this,go_sem]
def Hn (P:Program)(W:World)(σ:Env)(H:SL):ResultVar→Value→Prop
 | .tmp t,v=>σ.get t=some v
 | .cell a t,v=>∃q,σ.get a=some (.pointer q)∧aX P W H q t v
def zM (P:Program)(W:World)(σ:Env)(H:SL):List ResultVar→List Value→Prop
 |[],[]=>True
 |r::rs,v::vs=>Hn P W σ H r v∧zM P W σ H rs vs
 |_,_=>False
def wv (tmps:Array Value):ResultVar→Sem Value
 | .tmp t=>pure (tmps.getD t undef)
 | .cell b t=>do loadVar t (←asAddr (tmps.getD b undef))
theorem I2 {a:Array Value}{t:Nat}{v:Value}(h:a[t]? =some v):a.getD t undef=v:=by rw[Array.getD_eq_getD_getElem?,h];rfl
theorem LR {P:Program}{W w:World}{N:Nat}{a:Act}(ha:Fits N a σ)(hs:Sat W w H):∀(rs:List ResultVar) (vs:List Value),zM P W σ H rs vs→
  (rs.mapM (wv a.tmps)).run P w= .ok vs w
 |[],[],_=>by simp[go_sem]
 |[],_::_,h=>h.elim
 |_::_,[],h=>h.elim
 |r::rs,v::vs,⟨h1,h2⟩=>by
  have ih:=LR ha hs rs vs h2
  cases r with
  |tmp t=>
   have:=I2 (ha.n5 t v h1)
   simp only[List.mapM_cons,wv,Sem.run_bind,this,Sem.run_pure,Result.andThen_ok,ih]
  |cell b t=>
   obtain⟨q,h3,h4⟩:=h1
   have:=I2 (ha.n5 b _ h3)
   obtain⟨c,rfl,h5⟩:=h4 w hs
   have h6:(asAddr (.pointer (some c))).run P w= .ok c w:=by simp[asAddr,go_sem]
   simp only[List.mapM_cons,wv,Sem.run_bind,this,h6,h5,Sem.run_pure,Result.andThen_ok,ih]
section leave
variable {P:Program} {N:Nat} {W:World} {fn:Func} {α:Type} {r:α→Value} {H':α→SL}
theorem LQ {w:World}{a:Act}(ha:Fits N a σ)(hs:Sat W w H){rs:List ResultVar}{vs:List Value}(hf:fn.results=rs.toArray)(h:zM P W σ H rs vs):
  (results fn a.tmps).run P w= .ok (if h:vs.toArray.size=1 then vs.toArray[0]else .tuple vs.toArray) w:=by
 have h1:=LR (P:=P) ha hs rs vs h
 have e:results fn a.tmps=(do
   let vs ←fn.results.mapM (wv a.tmps)
   pure (if h:vs.size=1 then vs[0]else .tuple vs)):=by
  unfold results
  congr
 have h2:(rs.toArray.mapM (wv a.tmps)).run P w= .ok vs.toArray w:=by
  rw[Array.mapM_eq_mapM_toList]
  show(Bind.bind (List.mapM (wv a.tmps) rs) (fun l=>(pure l.toArray:Sem (Array Value)))).run P w=_
  rw[Sem.run_bind,h1]
  rfl
 rw[e,hf,Sem.run_bind,h2]
 rfl
theorem lQ {v:Value}{rv:ResultVar}(hf:fn.results= #[rv])(h:Hn P W σ H rv v)(x:α)(hx:v=r x)(hs:∀w,Sat W w H→Sat W w (H' x)):ER ⟨P,N,W,bodyPost P fn (qV W r H')⟩ σ H:=fun _ w ha hw=>
 leaves (.inr rfl) ha (LQ (rs:=[rv]) (vs:=[v]) ha hw hf ⟨h,trivial⟩) x hx (hs w hw)
theorem bu {v u:Value}{vs:List Value}{rs:List ResultVar}(hf:fn.results=rs.toArray)(h:zM P W σ H rs (v::u::vs))(x:α)(hx: .tuple (v::u::vs).toArray=r x)(hs:∀w,Sat W w H→Sat W w (H' x)):ER ⟨P,N,W,bodyPost P fn (qV W r H')⟩ σ H:=fun _ w ha hw=>
 leaves (.inr rfl) ha (LQ ha hw hf h) x (by rw[←hx];simp) (hs w hw)
end leave
inductive lq|i (k:IntKind)|b|s
def FY:TypeDesc→Option lq
 | .int k=>some (.i k)
 | .bool=>some .b
 | .string=>some .s
 |_=>none
def tu (P:Program)(t:TypeId):Option lq:=(P.underlying t).bind FY
def qm:lq→Value→Bool
 | .i k,.int k' _=>k==k'
 | .b,.bool _=>true
 | .s,.string _=>true
 |_,_=>false
def fits:List lq→List Value→Bool
 |[],[]=>true
 |t::ts,v::vs=>qm t v&&fits ts vs
 |_,_=>false
theorem xP:∀ {ts:List lq} {vs:List Value},fits ts vs=true→vs.length=ts.length
 |[],[],_=>rfl
 |_::ts,_::vs,h=>by
  simp only[fits,Bool.and_eq_true]at h
  simp[xP h.2]
 |[],_::_,h=>by simp[fits]at h
 |_::_,[],h=>by simp[fits]at h
theorem xO:∀ {ts:List lq} {vs:List Value} (_:fits ts vs=true) {i:Nat} {t:lq} (_:ts[i]? =some t),∃v,vs[i]? =some v∧qm t v=true
 |t::ts,v::vs,h,0,t',ht=>by
  simp only[fits,Bool.and_eq_true]at h
  simp only[List.getElem?_cons_zero,Option.some.injEq]at ht
  subst ht
  exact⟨v,rfl,h.1⟩
 |t::ts,v::vs,h,i+1,t',ht=>by
  simp only[fits,Bool.and_eq_true]at h
  simp only[List.getElem?_cons_succ]at ht ⊢
  exact xO h.2 ht
 |[],_,_,i,t',ht=>by simp at ht
 |_::_,[],h,_,_,_=>by simp[fits]at h
theorem LP {P:Program}(w:World)(d:Nat){e:TypeId}{t:lq}(ht:tu P e=some t){a b:Value}(ha:qm t a=true)(hb:qm t b=true):
  ∃r:Bool,(Op.equalIn (d+1) e a b).run P w= .ok r w∧(r=true↔a=b):=by
 unfold tu at ht
 cases hu:P.underlying e with
 |none=>simp[hu]at ht
 |some dd=>
  rw[hu]at ht
  cases dd<;>simp only[Option.bind_some,FY,Option.some.injEq,reduceCtorEq]at ht
  all_goals subst ht
  case int k=>
   cases a<;>simp only[qm,beq_iff_eq,Bool.false_eq_true]at ha
   cases b<;>simp only[qm,beq_iff_eq,Bool.false_eq_true]at hb
   subst ha;subst hb
   exact⟨_,run_equalIn_int w d e _ _ _ _ hu,by simp⟩
  case bool=>
   cases a<;>simp only[qm,Bool.false_eq_true]at ha
   cases b<;>simp only[qm,Bool.false_eq_true]at hb
   exact⟨_,run_equalIn_bool' w d e _ _ hu,by simp⟩
  case string=>
   cases a<;>simp only[qm,Bool.false_eq_true]at ha
   cases b<;>simp only[qm,Bool.false_eq_true]at hb
   rename_i x y
   refine⟨_,run_equalIn_string w d e _ _ hu,?_⟩
   rw[beq_iff_eq,ByteArray.toList_eq,ByteArray.toList_eq]
   constructor
   ·intro h
    have:x.data=y.data:=by rw[←Array.toArray_toList (xs:=x.data),h,Array.toArray_toList]
    rw[ByteArray.ext this]
   ·intro h
    cases h
    rfl
theorem BR {P:Program}(w:World){e:TypeId}{t:lq}(ht:tu P e=some t){xs:Array Value}{off:Nat}{v:Value}(hx:xs[off]? =some v):(part e xs off).run P w= .ok v w:=by
 unfold tu at ht
 cases hu:P.underlying e with
 |none=>simp[hu]at ht
 |some d=>cases d<;>simp[hu,FY]at ht<;>simp[part,isAgg,run_underlying hu,hx]
class vr (P:Program)(t:TypeId)(ks:outParam (List lq)):Prop where
 h:(∃fs,P.underlying t=some (.struct fs)∧P.stoodInHeld t=false∧fs.toList.map (fun f=>(f.name== "_",f.offset,tu P f.type))=ks.zipIdx.map fun q=>(false,q.2,some q.1))∨
  (∃n e kk,P.underlying t=some (.array n e)∧(P.info? e).map (·.size)=some 1∧tu P e=some kk∧ks=List.replicate n kk)
 g:P.eqGuardType P.depth t=false
theorem LM {P:Program}(w:World)(d:Nat)(xs ys:List Value)(KS:List lq)(hx:fits KS xs=true)(hy:fits KS ys=true):∀(fs:List Field) (ks:List lq) (i:Nat),KS.drop i=ks→
  fs.map (fun f=>(f.name== "_",f.offset,tu P f.type))=(ks.zipIdx i).map (fun q=>(false,q.2,some q.1))→∃r:Bool,(Op.eqFields (d+1) xs.toArray ys.toArray fs).run P w= .ok r w∧(r=true↔xs.drop i=ys.drop i)
 |[],[],i,hd,_=>by
  have hl:KS.length≤i:=by simpa using hd
  have h1:xs.drop i=[]:=List.drop_eq_nil_of_le (by rw[xP hx];exact hl)
  have h2:ys.drop i=[]:=List.drop_eq_nil_of_le (by rw[xP hy];exact hl)
  exact⟨true,by simp[Op.eqFields],by rw[h1,h2];simp⟩
 |[],_::_,_,_,h=>by simp at h
 |_::_,[],_,_,h=>by simp at h
 |f::fs,t::ks,i,hd,h=>by
  simp only[List.map_cons,List.zipIdx_cons,List.cons.injEq,Prod.mk.injEq]at h
  obtain⟨⟨hn,ho,ht⟩,hr⟩:=h
  have hi:KS[i]? =some t:=by
   have:=congrArg (fun l=>l[0]?) hd
   simpa using this
  obtain⟨a,ha,fa⟩:=xO hx hi
  obtain⟨b,hb,fb⟩:=xO hy hi
  obtain⟨r,h1,h2⟩:=LP w d ht fa fb
  have jE:KS.drop (i+1)=ks:=by
   have:=congrArg List.tail hd
   simpa[List.tail_drop]using this
  obtain⟨r',h3,h4⟩:=LM w d xs ys KS hx hy fs ks (i+1) jE hr
  have qy:f.name≠ "_" :=by simpa using hn
  have e1:xs.drop i=a::xs.drop (i+1):=by
   obtain⟨hl,rfl⟩:=List.getElem?_eq_some_iff.1 ha
   exact List.drop_eq_getElem_cons hl
  have e2:ys.drop i=b::ys.drop (i+1):=by
   obtain⟨hl,rfl⟩:=List.getElem?_eq_some_iff.1 hb
   exact List.drop_eq_getElem_cons hl
  have p1:=BR (P:=P) w ht (xs:=xs.toArray) (off:=f.offset) (v:=a) (by rw[ho];simpa using ha)
  have p2:=BR (P:=P) w ht (xs:=ys.toArray) (off:=f.offset) (v:=b) (by rw[ho];simpa using hb)
  simp only[Op.eqFields,if_pos qy,Sem.run_bind,p1,p2,h1,Result.andThen_ok]
  rw[e1,e2,List.cons.injEq]
  cases r with
  |false=>exact⟨false,by simp,by simp;intro g;exact absurd (h2.2 g) (by simp)⟩
  |true=>exact⟨r',by simpa using h3,by rw[h4];simp[h2.1 rfl]⟩
theorem LN {P:Program}(w:World)(d:Nat){e:TypeId}{t:lq}(ht:tu P e=some t)(hc:P.cellsOf e=1)(xs ys:List Value)(n:Nat)(hx:fits (List.replicate n t) xs=true)(hy:fits (List.replicate n t) ys=true):∀(m i:Nat),i+m=n→
  ∃r:Bool,(Op.eqItems (d+1) e (P.cellsOf e) xs.toArray ys.toArray (List.range' i m)).run P w= .ok r w∧(r=true↔xs.drop i=ys.drop i)
 |0,i,h=>by
  have h1:xs.drop i=[]:=List.drop_eq_nil_of_le (by rw[xP hx];simp;omega)
  have h2:ys.drop i=[]:=List.drop_eq_nil_of_le (by rw[xP hy];simp;omega)
  exact⟨true,by simp[Op.eqItems],by rw[h1,h2];simp⟩
 |m+1,i,h=>by
  have hi:(List.replicate n t)[i]? =some t:=by rw[List.getElem?_replicate,if_pos (by omega)]
  obtain⟨a,ha,fa⟩:=xO hx hi
  obtain⟨b,hb,fb⟩:=xO hy hi
  obtain⟨r,h1,h2⟩:=LP w d ht fa fb
  obtain⟨r',h3,h4⟩:=LN w d ht hc xs ys n hx hy m (i+1) (by omega)
  have e1:xs.drop i=a::xs.drop (i+1):=by
   obtain⟨hl,rfl⟩:=List.getElem?_eq_some_iff.1 ha
   exact List.drop_eq_getElem_cons hl
  have e2:ys.drop i=b::ys.drop (i+1):=by
   obtain⟨hl,rfl⟩:=List.getElem?_eq_some_iff.1 hb
   exact List.drop_eq_getElem_cons hl
  have p1:=BR (P:=P) w ht (xs:=xs.toArray) (off:=i*1) (v:=a) (by simpa using ha)
  have p2:=BR (P:=P) w ht (xs:=ys.toArray) (off:=i*1) (v:=b) (by simpa using hb)
  rw[hc]at h3 ⊢
  simp only[List.range'_succ,Op.eqItems,Sem.run_bind,p1,p2,h1,Result.andThen_ok]
  rw[e1,e2,List.cons.injEq]
  cases r with
  |false=>exact⟨false,by simp,by simp;intro g;exact absurd (h2.2 g) (by simp)⟩
  |true=>exact⟨r',by simpa using h3,by rw[h4];simp[h2.1 rfl]⟩
theorem FN {P:Program}(w:World){t:TypeId}{ks:List lq}[f:vr P t ks]{xs ys:List Value}(hx:fits ks xs=true)(hy:fits ks ys=true):
  ∃r:Bool,(Op.equalIn 10000 t (.agg xs.toArray) (.agg ys.toArray)).run P w= .ok r w∧(r=true↔xs=ys):=by
 rcases f.h with ⟨fs,h1,h2,h3⟩|⟨n,e,kk,h1,h2,h3,rfl⟩
 ·have Ju:P.fieldsOf t=fs:=by simp[Program.fieldsOf,h1]
  obtain⟨r,h4,h5⟩:=LM (P:=P) w 9998 xs ys ks hx hy fs.toList ks 0 rfl h3
  refine⟨r,?_,by simpa using h5⟩
  have:=run_equalIn_struct (P:=P) w 9999 t xs.toArray ys.toArray (by rw[Ju];exact h1) h2
  rw[Ju]at this
  exact this.trans h4
 ·obtain⟨i,hi,du⟩:=lf h2
  have hc:P.cellsOf e=1:=by simp[Program.cellsOf,hi,du]
  obtain⟨r,h4,h5⟩:=LN (P:=P) w 9998 h3 hc xs ys n hx hy n 0 (by omega)
  refine⟨r,?_,by simpa using h5⟩
  have:=run_equalIn_array (P:=P) w 9999 xs.toArray ys.toArray h1 hi
  rw[List.range_eq_range']at this
  exact this.trans h4
theorem OK {x y:Operand}{t u:TypeId}{ks:List lq}{xs ys:List Value}(ho:o.op= .binOp .eql t x y u)(hx:ev σ x=some (.agg xs.toArray))(hy:ev σ y=some (.agg ys.toArray))[f:vr X.P t ks](h1:fits ks xs=true)(h2:fits ks ys=true):an X σ H o (.bool (@decide (xs=ys) (Classical.propDecidable _))):=by
 intro a w ha hs
 obtain⟨r,h3,h4⟩:=FN (P:=X.P) w (t:=t) h1 h2
 have e: @decide (xs=ys) (Classical.propDecidable _)=r:=by
  by_cases g:xs=ys
  ·rw[@decide_eq_true _ (Classical.propDecidable _) g];exact(h4.2 g).symm
  ·rw[@decide_eq_false _ (Classical.propDecidable _) g]
   cases r
   ·rfl
   ·exact absurd (h4.1 rfl) g
 simp only[execOp,ho,ha.eval hx,ha.eval hy,Sem.run_bind,run_eqGuard_agg w _ t x y _ _ f.g,Result.andThen_ok,run_eql_struct,h3,Sem.run_pure,e]
theorem OL {x y:Operand}{t u:TypeId}{ks:List lq}{xs ys:List Value}(ho:o.op= .binOp .neq t x y u)(hx:ev σ x=some (.agg xs.toArray))(hy:ev σ y=some (.agg ys.toArray))[f:vr X.P t ks](h1:fits ks xs=true)(h2:fits ks ys=true):an X σ H o (.bool (!@decide (xs=ys) (Classical.propDecidable _))):=by
 intro a w ha hs
 obtain⟨r,h3,h4⟩:=FN (P:=X.P) w (t:=t) h1 h2
 have e: @decide (xs=ys) (Classical.propDecidable _)=r:=by
  by_cases g:xs=ys
  ·rw[@decide_eq_true _ (Classical.propDecidable _) g];exact(h4.2 g).symm
  ·rw[@decide_eq_false _ (Classical.propDecidable _) g]
   cases r
   ·rfl
   ·exact absurd (h4.1 rfl) g
 simp only[execOp,ho,ha.eval hx,ha.eval hy,Sem.run_bind,run_eqGuard_agg w _ t x y _ _ f.g,Result.andThen_ok,run_neq_struct,h3,Sem.run_pure,e]
end
section
open Go.RowKit
variable {X:Cx} {k:List KI} {σ:Env} {H:SL} {o:Oper} {ops l:List Oper}
abbrev az:=Option Addr×Nat
class vo (xs:List Value)(n:Nat):Prop where eq:xs.length=n
def cZ (p:Option Addr)(i cap sz:Nat):Option Addr:=if cap=i then p else off p (i*sz)
class Room (W:World)(H:SL)(p:Option Addr)(n cap:Nat):Prop where le:∀w,Sat W w H→n≤cap
instance (priority:=900) Room.row (W:World)(H F:SL)(e sz n cap:Nat)(p:Option Addr)(xs:List Value)[r:bZ H p (ad e sz p n cap xs) F]:Room W H p n cap:=⟨fun w hs=>(ad.len (r.eq▸hs:Sat W w (ad e sz p n cap xs*F))).2.1⟩
theorem XJ {P:Program}{w:World}{t e sz cL:Nat}{z:List Value}(s:eY P t e sz cL z){p:Option Addr}{n cap:Nat}{lo hi mx:Option Value}{i j m:Nat}
  (hl:lo=none∧i=0∨∃kk,lo=some (.int kk (i:Int))) (hh:hi=none∧mx=none∧j=n∨∃kk,hi=some (.int kk (j:Int))) (hm:mx=none∧m=cap∨∃kk,mx=some (.int kk (m:Int)))
  (h1:i≤j) (h2:j≤m) (h3:m≤cap):(Instr.sliceAt t (.slice p n cap) lo hi mx).run P w= .ok (.slice (if m=i then p else off p (i*sz)) (j-i) (m-i)) w:=by
 obtain⟨q,v,DY,hz,du,jm,v7⟩:=s.parts
 have g1:(i:Int)≤(j:Int):=by omega
 have g2:(j:Int)≤(m:Int):=by omega
 have g3:(m:Int)≤(cap:Int):=by omega
 have g0:∀a:Nat,(0:Int)≤(a:Int):=fun a=>Int.natCast_nonneg a
 rcases hl with ⟨rfl,rfl⟩|⟨k1,rfl⟩<;>rcases hh with ⟨rfl,rfl,rfl⟩|⟨k2,rfl⟩<;>rcases hm with ⟨Ei,rfl⟩|⟨k3,Ei⟩<;>first|(cases Ei;done)|skip
 all_goals
  (try subst Ei)
  simp[Instr.sliceAt,Instr.slice,Instr.sliceBounds,Instr.sliceBound,asIntOf,run_underlying s.under,sizeOf,typeInfo,DY,du,g0,g1,g2,g3,h1,h2,h3,off,go_sem]
theorem zH {x:Operand}{lo hi mx:Option Operand}{p:Option Addr}{n cap:Nat}{t e sz cL i j m:Nat}{z:List Value}(ho:o.op= .slice t x lo hi mx)(hx:ev σ x=some (.slice p n cap))[s:eY X.P t e sz cL z]
  (hl:lo=none∧i=0∨∃y kk z,lo=some y∧ev σ y=some (.int kk z)∧z=(i:Int)) (hh:hi=none∧mx=none∧j=n∨∃y kk z,hi=some y∧ev σ y=some (.int kk z)∧z=(j:Int))
  (hm:mx=none∧m=cap∨∃y kk z,mx=some y∧ev σ y=some (.int kk z)∧z=(m:Int)) (h1:i≤j) (h2:∀w,Sat X.W w H→j≤m) (h3:m≤cap):an X σ H o (.slice (if m=i then p else off p (i*sz)) (j-i) (m-i)):=by
 intro a w ha hs
 simp only[execOp,ho,ha.eval hx]
 have e1:lo.map a.eval=none∧i=0∨∃kk,lo.map a.eval=some (.int kk (i:Int)):=by
  rcases hl with ⟨rfl,h⟩|⟨y,kk,z,rfl,h,rfl⟩
  ·exact .inl ⟨rfl,h⟩
  ·exact .inr ⟨kk,by simp[ha.eval h]⟩
 have e2:hi.map a.eval=none∧mx.map a.eval=none∧j=n∨∃kk,hi.map a.eval=some (.int kk (j:Int)):=by
  rcases hh with ⟨rfl,rfl,h⟩|⟨y,kk,z,rfl,h,rfl⟩
  ·exact .inl ⟨rfl,rfl,h⟩
  ·exact .inr ⟨kk,by simp[ha.eval h]⟩
 have e3:mx.map a.eval=none∧m=cap∨∃kk,mx.map a.eval=some (.int kk (m:Int)):=by
  rcases hm with ⟨rfl,h⟩|⟨y,kk,z,rfl,h,rfl⟩
  ·exact .inl ⟨rfl,h⟩
  ·exact .inr ⟨kk,by simp[ha.eval h]⟩
 simp only[Sem.run_bind,XJ s e1 e2 e3 h1 (h2 w hs) h3,Result.andThen_ok]
 rfl
theorem CS {x y:Operand}{p:Option Addr}{n cap:Nat}{t e sz cL i:Nat}{z:List Value}{kk:IntKind}{zi:Int}(ho:o.op= .slice t x (some y) none none)(hx:ev σ x=some (.slice p n cap))(hy:ev σ y=some (.int kk zi))[s:eY X.P t e sz cL z][q:bQ zi i][r:Room X.W H p n cap](hi:i≤n):
  an X σ H o (.slice (cZ p i cap sz) (n-i) (cap-i)):=
 zH ho hx (.inr ⟨y,kk,zi,rfl,hy,q.eq⟩) (.inl ⟨rfl,rfl,rfl⟩) (.inl ⟨rfl,rfl⟩) hi (fun w hs=>r.le w hs) (Nat.le_refl _)
theorem Pm {x y:Operand}{p:Option Addr}{n cap:Nat}{t e sz cL j:Nat}{z:List Value}{kk:IntKind}{zj:Int}(ho:o.op= .slice t x none (some y) none)(hx:ev σ x=some (.slice p n cap))(hy:ev σ y=some (.int kk zj))[s:eY X.P t e sz cL z][q:bQ zj j][r:Room X.W H p n cap](hj:j≤n):
  an X σ H o (.slice p j cap):=by
 have h:=zH (X:=X) (H:=H) (i:=0) ho hx (.inl ⟨rfl,rfl⟩) (.inr ⟨y,kk,zj,rfl,hy,q.eq⟩) (.inl ⟨rfl,rfl⟩) (Nat.zero_le _) (fun w hs=>Nat.le_trans hj (r.le w hs)) (Nat.le_refl _)
 have e:(if cap=0 then p else off p (0*sz))=p:=by
  split
  ·rfl
  ·rw[Nat.zero_mul];cases p<;>simp[off,Addr.add]
 rw[e]at h
 simpa using h
theorem Pk {x y y2:Operand}{p:Option Addr}{n cap:Nat}{t e sz cL i j:Nat}{z:List Value}{kk k2:IntKind}{zi zj:Int}(ho:o.op= .slice t x (some y) (some y2) none)(hx:ev σ x=some (.slice p n cap))(hy:ev σ y=some (.int kk zi))(UG:ev σ y2=some (.int k2 zj))[s:eY X.P t e sz cL z][q:bQ zi i][q2:bQ zj j][r:Room X.W H p n cap](hi:i≤j)(hj:j≤n):
  an X σ H o (.slice (cZ p i cap sz) (j-i) (cap-i)):=
 zH ho hx (.inr ⟨y,kk,zi,rfl,hy,q.eq⟩) (.inr ⟨y2,k2,zj,rfl,UG,q2.eq⟩) (.inl ⟨rfl,rfl⟩) hi (fun w hs=>Nat.le_trans hj (r.le w hs)) (Nat.le_refl _)
theorem Pn {x:Operand}{p:Option Addr}{n cap:Nat}{t e sz cL:Nat}{z:List Value}{k1 k2:IntKind}(ho:o.op= .slice t x none (some (.const (.int k1 0))) (some (.const (.int k2 0))))(hx:ev σ x=some (.slice p n cap))[s:eY X.P t e sz cL z]:
  an X σ H o (.slice p 0 0):=by
 have h:=zH (X:=X) (H:=H) (i:=0) (j:=0) (m:=0) ho hx (.inl ⟨rfl,rfl⟩) (.inr ⟨_,k1,0,rfl,rfl,rfl⟩) (.inr ⟨_,k2,0,rfl,rfl,rfl⟩) (Nat.le_refl _) (fun _ _=>Nat.le_refl _) (Nat.zero_le _)
 simpa using h
theorem CR {x:Operand}{t:TypeId}{k:IntKind}{a:Int}(ho:o.op= .unOp .xor t x)(hx:ev σ x=some (.int k a)):an X σ H o (.int k (bits .xor k (if k.signed then-1 else k.max) a)):=by
 intro a' w ha _
 simp only[execOp,ho,ha.eval hx]
 simp[Op.unary,Op.intBits,bits,Sem.run,pure]
theorem QY {a:Int}(h:0≤a∧a≤65535):bits .xor .u16 65535 a=65535-a:=by
 obtain⟨n,rfl⟩:∃n:Nat,a=n:=⟨a.toNat,by omega⟩
 have hn:n<65536:=by omega
 rw[show(65535:Int)=((65535:Nat):Int)from rfl,u16_xor_nat 65535 n (by decide) hn]
 have e:65535^^^n=65535-n:=by
  apply Nat.eq_of_testBit_eq
  intro j
  have h1:(65535:Nat).testBit j=decide (j<16):=Nat.testBit_two_pow_sub_one 16 j
  have h2:=Nat.testBit_two_pow_sub_succ (n:=16) (x:=n) hn j
  rw[show(2:Nat)^16-(n+1)=65535-n by omega]at h2
  rw[Nat.testBit_xor,h1,h2]
  by_cases hj:j<16
  ·simp[hj]
  ·have:n.testBit j=false:=Nat.testBit_lt_two_pow (Nat.lt_of_lt_of_le hn (Nat.pow_le_pow_right (show 0<2 by decide) (show 16≤j by omega)))
   simp[hj,this]
 rw[e]
 omega
theorem OS {x:Operand}{t:TypeId}{a:Int}(ho:o.op= .unOp .xor t x)(hx:ev σ x=some (.int .u16 a))(hr:0≤a∧a≤65535):an X σ H o (.int .u16 (65535-a)):=by
 have h:=CR (X:=X) (H:=H) ho hx
 rw[show(if IntKind.u16.signed=true then(-1:Int)else IntKind.u16.max)=65535 from rfl,QY hr]at h
 exact h
theorem OV {s t:TypeId}{f i n:Nat}{x:Operand}{cs:Array Value}{us:List Value}(ho:o.op= .field s x f)(hx:ev σ x=some (.agg cs))[g:zT X.P s f i t][c:ia X.P t n](hv:oP cs.toList i n=some us):an X σ H o (.agg us.toArray):=by
 intro a w ha hs
 obtain⟨fs,q,h1,h2,rfl,rfl⟩:=g.h
 obtain⟨d,h3,h4⟩:=c.agg
 obtain⟨j,hj,du⟩:=lf c.size
 obtain⟨hl,rfl⟩:=za hv
 have he:cs.extract q.offset (q.offset+n)=((cs.toList.drop q.offset).take n).toArray:=by
  apply Array.ext'
  rw[Array.toList_extract,List.extract_eq_take_drop,show q.offset+n-q.offset=n by omega]
 simp only[execOp,ho,ha.eval hx]
 cases d<;>simp at h4<;>simp[Instr.field,run_underlying h1,h2,part,isAgg,run_underlying h3,asAgg,sizeOf,typeInfo,hj,du,he,go_sem]
theorem ad.lo {e sz n cap i:Nat}{p:Option Addr}{xs:List Value}(hi:i≤n):SL.le (ad e sz p n cap xs) (ad e sz (cZ p i cap sz) (n-i) (cap-i) (xs.drop (i*sz))):=by
 rintro h ⟨⟨hl,hn,hm⟩,⟨_,hc,he⟩|⟨g,o,cur,rfl,a2,a3,a4⟩⟩
 ·have h0:i=0:=by omega
  subst h0
  exact⟨⟨by simpa using hl,by omega,by omega⟩,.inl ⟨trivial,by omega,he⟩⟩
 ·have hle:i*sz≤n*sz:=Nat.mul_le_mul_right _ hi
  have aeh:n*sz≤cap*sz:=Nat.mul_le_mul_right _ hn
  have aei:i*sz≤cap*sz:=by omega
  refine⟨⟨by rw[List.length_drop,hl,Nat.sub_mul],by omega,by omega⟩,.inr ⟨g,if cap=i then o else o+i*sz,cur,?_,?_,?_,a4⟩⟩
  ·unfold cZ
   split
   ·rfl
   ·simp only[off,Option.map_some,pZ]
  ·split
   ·rw[Nat.sub_mul];omega
   ·rw[Nat.sub_mul];omega
  ·split
   ·have:n=i:=by omega
    subst this
    simp[←a3]
   ·rw[←a3,List.drop_take,List.drop_drop,Nat.sub_mul]
theorem ad.hi {e sz n cap j:Nat}{p:Option Addr}{xs:List Value}(hj:j≤n):SL.le (ad e sz p n cap xs) (ad e sz p j cap (xs.take (j*sz))):=by
 rintro h ⟨⟨hl,hn,hm⟩,⟨_,hc,he⟩|⟨g,o,cur,rfl,a2,a3,a4⟩⟩
 ·have h0:j=0:=by omega
  subst h0
  exact⟨⟨by simp,by omega,by omega⟩,.inl ⟨trivial,by omega,he⟩⟩
 ·have hle:j*sz≤n*sz:=Nat.mul_le_mul_right _ hj
  refine⟨⟨by rw[List.length_take,hl];omega,by omega,by omega⟩,.inr ⟨g,o,cur,rfl,a2,?_,a4⟩⟩
  rw[←a3,List.take_take,Nat.min_eq_left hle]
theorem U.BP {H F G:SL}{e sz n cap:Nat}{xs:List Value}(p:Option Addr)(i:Nat)[h:bZ H p (ad e sz p n cap xs) F](hi:i≤n)(k:U (ad e sz (cZ p i cap sz) (n-i) (cap-i) (xs.drop (i*sz))*F) G):U H G:=
 (U.of_eq h.eq).trans ((U.star (U.of_le (ad.lo hi)) (U.refl F)).trans k)
theorem U.XC {H F G:SL}{e sz n cap:Nat}{xs:List Value}(p:Option Addr)(j:Nat)[h:bZ H p (ad e sz p n cap xs) F](hj:j≤n)(k:U (ad e sz p j cap (xs.take (j*sz))*F) G):U H G:=
 (U.of_eq h.eq).trans ((U.star (U.of_le (ad.hi hj)) (U.refl F)).trans k)
instance (priority:=300) Src.there (W:World)(Q R:SL)(p:Option Addr)(n:Nat)(xs:List Value)[s:Src W R p n xs]:Src W (Q*R) p n xs where
 cells:=fun w hs=>s.cells w hs.drop
 nn:=fun w hs=>s.nn w hs.drop
class CN (cs:List Value)(i:Nat)(v:outParam Value)(φ:outParam Prop):Prop where get:φ→cs[i]? =some v
class CO (cs:List Value)(i:Nat)(v:Value)(eG:outParam (List Value))(φ:outParam Prop):Prop where
 put:φ→mC cs i [v]=some eG
theorem O6 {x:Operand}{q p:Option Addr}{t t0:TypeId}{i:Nat}{cs:List Value}{F:SL}{v:Value}{φ:Prop}(ho:o.op= .load t x)(hx:ev σ x=some (.pointer q))[c:dK X.P t][l:Loc q p i][r:bZ H p (Obj p t0 cs) F][g:CN cs i v φ](hφ:φ):an X σ H o v:=
 oc ho hx (g.get hφ)
theorem OG {x y:Operand}{q p:Option Addr}{t t0:TypeId}{i:Nat}{cs eG:List Value}{F:SL}{v:Value}{φ:Prop}(ho:o.op= .store t x y)(hx:ev σ x=some (.pointer q))(hy:ev σ y=some v)[c:cV X.P t 1][l:Loc q p i][r:bZ H p (Obj p t0 cs) F][g:CO cs i v eG φ](hφ:φ)
  (h1:gR v=[v]) (h2:v.oneCell'=true):aU X σ H o (Obj p t0 eG*F):=
 cr ho hx hy (by rw[h1];exact g.put hφ) (by rw[h1];rfl) (by rw[h1];simp[dA,h2])
end
section
open Go.RowKit
variable {X:Cx} {σ:Env}
theorem XI {P:Program}{t e:TypeId}{sz cL:Nat}{z:List Value}[h:eY P t e sz cL z](p:Option Addr)(n c:Nat)(w:World):(Op.equal t (.slice p n c) (.slice none 0 0)).run P w= .ok (decide (p=none)) w:=by
 unfold Op.equal
 obtain⟨d,hd⟩:∃d,Op.maxDepth=d+1:=⟨9999,rfl⟩
 rw[hd]
 clear hd
 simp only[Op.equalIn]
 cases p<;>simp[run_underlying h.under,go_sem]
theorem wZ {H:SL}{o:Oper}{x:Operand}{t u e:TypeId}{sz cL:Nat}{z:List Value}{p:Option Addr}{n c:Nat}(ho:o.op= .binOp .eql t x (.const (.slice none 0 0)) u)(hx:ev σ x=some (.slice p n c))[h:eY X.P t e sz cL z]:an X σ H o (.bool (decide (p=none))):=by
 intro a' w ha _
 simp only[execOp,ho,ha.eval hx]
 have hg:∀p' q',(eqGuard .eql t p' q' (.slice p n c) (.slice none 0 0)).run X.P w= .ok () w:=fun _ _=>rfl
 simp[Act.eval,Sem.run_bind,hg,binOp,XI p n c w,go_sem]
theorem Co {k:List KI}{e sz n c:Nat}{xs:List Value}{F:SL}(h:n=0→EK X k σ (ad e sz none n c xs*F)):EK X k σ (ad e sz none n c xs*F):=fun a w ha hs=>h (by
 rcases Nat.eq_zero_or_pos n with g|g
 ·exact g
 ·exact absurd rfl (ad.nn hs g)) a w ha hs
theorem Spec.wa {P:Program}{f:FuncId}{vs:List Value}{W:World}{H C F:SL}(p:Option Addr)[r:bZ H p C F]{α:Type}{rr:α→Value}(h:Spec P f vs W (C*F) rr (fun _=>C*F)):Spec P f vs W H rr (fun _=>H):=fun w hs=>
 (h w (r.eq▸hs)).mono fun _ _ ⟨x,e,g⟩=>⟨x,e,r.eq.symm▸g⟩
theorem Fo (p:Option Addr)(i j:Nat):off (off p i) j=off p (i+j):=by
 cases p with
 |none=>rfl
 |some a=>
  simp only[off,Option.map_some,Addr.add]
  by_cases hi:i=0<;>by_cases hj:j=0<;>simp[hi,hj,Nat.add_assoc]
end
section
open Go.RowKit
def b1 (l:List UInt8)(i:Nat):Nat:=(l.getD i 0).toNat
def w2 (l:List UInt8)(i:Nat):Nat:=b1 l i*256+b1 l (i+1)
def w4 (l:List UInt8)(i:Nat):Nat:=w2 l i*65536+w2 l (i+2)
theorem dM (l:List UInt8)(i:Nat):b1 l i<256:=UInt8.toNat_lt _
theorem dZ (l:List UInt8)(i:Nat):w2 l i<65536:=by
 have h1:=dM l i
 have h2:=dM l (i+1)
 unfold w2
 omega
theorem oR (l:List UInt8)(i:Nat):w4 l i<4294967296:=by
 have h1:=dZ l i
 have h2:=dZ l (i+2)
 unfold w4
 omega
def u8 (n:Nat):UInt8:=UInt8.ofNat n
theorem r9 (n:Nat):(u8 n).toNat=n%256:=by simp[u8]
def ji (n:Nat):List UInt8:=[u8 (n/256),u8 n]
def mI (n:Nat):List UInt8:=[u8 (n/16777216),u8 (n/65536),u8 (n/256),u8 n]
def st2 (l:List UInt8)(i n:Nat):List UInt8:=(l.set i (u8 (n/256))).set (i+1) (u8 n)
theorem dB (l:List UInt8)(i n:Nat):(st2 l i n).length=l.length:=by simp[st2]
theorem HJ (l:List UInt8)(i j:Nat)(v:UInt8)(hi:i<l.length):b1 (l.set i v) j=if j=i then v.toNat else b1 l j:=by
 unfold b1
 rw[List.getD_eq_getElem?_getD,List.getD_eq_getElem?_getD,List.getElem?_set]
 by_cases h:i=j
 ·subst h
  simp[hi]
 ·rw[if_neg h,if_neg (Ne.symm h)]
theorem zU (l:List UInt8)(i n j:Nat)(hi:i+1<l.length):b1 (st2 l i n) j=if j=i+1 then n%256 else if j=i then n/256%256 else b1 l j:=by
 unfold st2
 rw[HJ _ _ _ _ (by simpa using hi),HJ _ _ _ _ (by omega),r9,r9]
theorem Cf (l:List UInt8){i n:Nat}(hn:n<65536)(hi:i+1<l.length):w2 (st2 l i n) i=n:=by
 unfold w2
 rw[zU _ _ _ _ hi,zU _ _ _ _ hi,if_neg (by omega),if_pos rfl,if_pos rfl]
 omega
theorem ZG (l:List UInt8){i n j:Nat}(hi:i+1<l.length)(hj:j+1<i∨i+1<j):w2 (st2 l i n) j=w2 l j:=by
 unfold w2
 rw[zU _ _ _ _ hi,zU _ _ _ _ hi,if_neg (by omega),if_neg (by omega),if_neg (by omega),if_neg (by omega)]
theorem wz (l:List UInt8)(i a b:Nat):st2 (st2 l i a) i b=st2 l i b:=by
 unfold st2
 apply List.ext_getElem?
 intro j
 simp only[List.getElem?_set,List.length_set]
 repeat' split
 all_goals first|rfl|omega
def dx:Bool→List UInt8→Nat
 |_,[]=>0
 |true,b::l=>b.toNat*256+dx false l
 |false,b::l=>b.toNat+dx true l
theorem BM:∀(e:Bool) (l:List UInt8),dx e l≤65280*l.length
 |_,[]=>by simp[dx]
 |true,b::l=>by
  have:=BM false l
  have hb:=b.toNat_lt
  simp only[dx,List.length_cons]
  omega
 |false,b::l=>by
  have:=BM true l
  have hb:=b.toNat_lt
  simp only[dx,List.length_cons]
  omega
theorem BL:∀(e:Bool) (l m:List UInt8),dx e (l++m)=dx e l+dx (if l.length%2=0 then e else !e) m
 |e,[],m=>by simp[dx]
 |true,b::l,m=>by
  rw[List.cons_append,dx,dx,BL false l m,List.length_cons]
  by_cases h:l.length%2=0
  ·rw[if_pos h,if_neg (by omega),Bool.not_true];omega
  ·rw[if_neg h,if_pos (by omega),Bool.not_false];omega
 |false,b::l,m=>by
  rw[List.cons_append,dx,dx,BL true l m,List.length_cons]
  by_cases h:l.length%2=0
  ·rw[if_pos h,if_neg (by omega),Bool.not_false];omega
  ·rw[if_neg h,if_pos (by omega),Bool.not_true];omega
theorem Xt (l:List UInt8)(b:UInt8):dx true (l++[b])=dx true l+b.toNat*(if l.length%2=0 then 256 else 1):=by
 rw[BL]
 by_cases h:l.length%2=0
 ·rw[if_pos h,if_pos h];simp[dx]
 ·rw[if_neg h,if_neg h];simp[dx]
def dX (n:Nat):Nat:=if n=0 then 0 else(n-1)%65535+1
theorem ui (n:Nat):dX n≤65535:=by
 unfold dX
 split
 ·omega
 ·have:=Nat.mod_lt (n-1) (show 0<65535 by omega)
  omega
theorem Ao {n:Nat}(h:n≤65535):dX n=n:=by
 unfold dX
 split
 ·omega
 ·rw[Nat.mod_eq_of_lt (by omega)];omega
theorem Sn {n:Nat}:dX n=0↔n=0:=by
 unfold dX
 split
 ·simp_all
 ·simp_all
theorem IP {n:Nat}(h:65535<n):dX (n/65536+n%65536)=dX n:=by
 unfold dX
 rw[if_neg (by omega),if_neg (by omega)]
 congr 1
 have e:n=65536*(n/65536)+n%65536:=(Nat.div_add_mod n 65536).symm
 have:n-1=(n/65536+n%65536-1)+65535*(n/65536):=by omega
 rw[this,Nat.add_mul_mod_self_left]
theorem Dz (a b:Nat):dX (dX a+b)=dX (a+b):=by
 by_cases ha:a=0
 ·subst ha;rfl
 ·have hf:dX a≠0:=fun e=>ha (Sn.1 e)
  have e1:dX a=(a-1)%65535+1:=by unfold dX;rw[if_neg ha]
  have e2:=Nat.div_add_mod (a-1) 65535
  unfold dX at*
  rw[if_neg ha]at*
  rw[if_neg (by omega),if_neg (by omega)]
  congr 1
  have:a+b-1=((a-1)%65535+1+b-1)+65535*((a-1)/65535):=by omega
  rw[this,Nat.add_mul_mod_self_left]
def cY (l:List UInt8):Nat:=65535-dX (dx true l)
theorem qf (l:List UInt8):cY l<65536:=by unfold cY;omega
def pd (s bT now:Nat):Nat:=65535-dX (65535-s+(65535-bT)+now)
theorem uh (s bT now:Nat):pd s bT now<65536:=by unfold pd;omega
def jl (s bT now:Nat):Nat:=pd (pd s (bT/65536) (now/65536)) (bT%65536) (now%65536)
theorem sO (s bT now:Nat):jl s bT now<65536:=uh _ _ _
def iy (src dst proto:Nat)(l:List UInt8):Nat:=cY (mI src++mI dst++[0,u8 proto]++ji l.length++l)
structure fL where
 size:Nat
 len:Nat
 eQ:Nat
 proto:Nat
 src:Nat
 dst:Nat
def ff:fL:=⟨0,0,0,0,0,0⟩
abbrev cT (h:fL):List Value:=[.int .i64 (h.size:Int),.int .i64 (h.len:Int),.int .i64 (h.eQ:Int),.int .i64 (h.proto:Int),.int .u32 (h.src:Int),.int .u32 (h.dst:Int)]
def bo (l:List UInt8):fL:=⟨b1 l 0%16*4,w2 l 2,b1 l 8,b1 l 9,w4 l 12,w4 l 16⟩
def dP (part:Bool)(l:List UInt8):Nat:=
 if l.length<20 then 2
 else if b1 l 0/16≠4∨b1 l 0%16*4<20 then 3
 else if l.length<b1 l 0%16*4 then 2
 else if w2 l 2<b1 l 0%16*4∨(w2 l 2>1500∧part=false)then 3
 else if l.length<w2 l 2∧part=false then 2
 else if part=false∧cY (l.take (b1 l 0%16*4))≠0 then 4
 else if w2 l 6%16384≠0 then 5
 else 0
def mj (part:Bool)(l:List UInt8):fL:=if dP part l=0 then bo l else ff
theorem yb {part:Bool}{l:List UInt8}(h:dP part l=0):20≤(bo l).size∧(bo l).size≤60∧(bo l).size≤l.length∧(bo l).size≤(bo l).len∧(part=false→(bo l).len≤1500∧(bo l).len≤l.length)∧mj part l=bo l:=by
 have e:mj part l=bo l:=by unfold mj;rw[if_pos h]
 rw[e]
 have hb:=dM l 0
 unfold dP at h
 unfold bo
 dsimp only
 repeat' split at h
 all_goals first|(exact absurd h (by decide))|skip
 rename_i h1 h2 h3 h4 h5 h6 h7
 refine⟨by omega,by omega,by omega,by omega,fun hp=>⟨?_,?_⟩,rfl⟩
 ·exact Nat.le_of_not_lt fun g=>h4 (.inr ⟨g,hp⟩)
 ·exact Nat.le_of_not_lt fun g=>h5 ⟨g,hp⟩
structure iq where
 proto:Nat
 sp:Nat
 dp:Nat
 flags:Nat
 kind:Nat
 code:Nat
 err:Bool
 inner:fL
 pos:Nat
 bare:Bool
def bG:iq:=⟨0,0,0,0,0,0,false,ff,0,false⟩
abbrev bR (p:iq):List Value:=[.int .i64 (p.proto:Int),.int .u16 (p.sp:Int),.int .u16 (p.dp:Int),.int .i64 (p.flags:Int),.int .i64 (p.kind:Int),.int .i64 (p.code:Int),.bool p.err,.int .i64 (p.inner.size:Int),.int .i64 (p.inner.len:Int),.int .i64 (p.inner.eQ:Int),.int .i64 (p.inner.proto:Int),.int .u32 (p.inner.src:Int),.int .u32 (p.inner.dst:Int),.int .i64 (p.pos:Int),.bool p.bare]
def sb (src dst:Nat)(x:List UInt8):Nat:=
 if x.length<8 then 2
 else if w2 x 4≠x.length then 3
 else if w2 x 6≠0∧iy src dst 17 x≠0 then 4
 else 0
def qN (x:List UInt8):iq:={bG with proto:=17,sp:=w2 x 0,dp:=w2 x 2,bare:=decide (w2 x 6=0)}
def rY (src dst:Nat)(x:List UInt8):Nat:=
 if x.length<20 then 2
 else if b1 x 12/16*4<20∨b1 x 12/16*4>x.length then 3
 else if iy src dst 6 x≠0 then 4
 else 0
def B8 (x:List UInt8):iq:={bG with proto:=6,sp:=w2 x 0,dp:=w2 x 2,flags:=b1 x 13}
def qk (y8:List UInt8):Nat:=
 if dP true y8≠0 then dP true y8
 else if y8.length-(bo y8).size<8∨(bo y8).len<(bo y8).size+8 then 3
 else if(bo y8).proto=17∨(bo y8).proto=6 then 0
 else if(bo y8).proto=1∧(b1 y8 (bo y8).size=0∨b1 y8 (bo y8).size=8)then 0
 else 6
def rn (kind code Ey:Nat)(y8:List UInt8):iq:=
 {bG with proto:=1,kind:=kind,code:=code,err:=true,inner:=bo y8,pos:=Ey+8,sp:=if(bo y8).proto=1 then w2 y8 ((bo y8).size+4)else w2 y8 (bo y8).size,dp:=if(bo y8).proto=1 then w2 y8 ((bo y8).size+4)else w2 y8 ((bo y8).size+2)}
def vH (k:Nat):Prop:=k=3∨k=11∨k=12
instance (k:Nat):Decidable (vH k):=inferInstanceAs (Decidable (_∨_))
def oG (x:List UInt8):Nat:=
 if x.length<8 then 2
 else if cY x≠0 then 4
 else if b1 x 0=0∨b1 x 0=8 then(if b1 x 1≠0 then 3 else 0)
 else if vH (b1 x 0)then qk (x.drop 8)
 else 6
def rM (Ey:Nat)(x:List UInt8):iq:=
 if b1 x 0=0∨b1 x 0=8 then {bG with proto:=1,kind:=b1 x 0,code:=0,sp:=w2 x 4,dp:=w2 x 4}
 else rn (b1 x 0) (b1 x 1) Ey (x.drop 8)
def o6 (h:fL)(l:List UInt8):List UInt8:=(l.take h.len).drop h.size
def j9 (h:fL)(l:List UInt8):Nat:=
 if h.proto=17 then sb h.src h.dst (o6 h l)
 else if h.proto=6 then rY h.src h.dst (o6 h l)
 else if h.proto=1 then oG (o6 h l)
 else 6
def nT (h:fL)(l:List UInt8):iq:=
 if h.proto=17 then qN (o6 h l)
 else if h.proto=6 then B8 (o6 h l)
 else rM h.size (o6 h l)
def pH (h:fL)(l:List UInt8):iq:=if j9 h l=0 then nT h l else bG
def om (l:List UInt8)(head place addr:Nat):List UInt8:=
 let l1:=st2 (st2 l place (addr/65536)) (place+2) (addr%65536)
 st2 l1 (head+10) (jl (w2 l1 (head+10)) (w4 l place) addr)
def yR (s:Nat):Nat:=if s=0 then 65535 else s
def sM (l:List UInt8)(pos id:Nat):List UInt8:=st2 (st2 l (pos+4) id) (pos+2) (yR (pd (w2 l (pos+2)) (w2 l (pos+4)) id))
def wj (pos:Nat)(src:Bool):Nat:=if src then pos else pos+2
def rW (pos proto:Nat):Nat:=if proto=17 then pos+6 else pos+16
def ua (l1:List UInt8)(pos proto Ms port bT addr:Nat):List UInt8:=
 if l1.length<rW pos proto+2∨(proto=17∧w2 l1 (rW pos proto)=0)then l1
 else st2 l1 (rW pos proto) (if proto=17 then yR (pd (jl (w2 l1 (rW pos proto)) bT addr) Ms port)else pd (jl (w2 l1 (rW pos proto)) bT addr) Ms port)
def o7 (l:List UInt8)(pos proto:Nat)(src:Bool)(port bT addr:Nat):List UInt8:=ua (st2 l (wj pos src) port) pos proto (w2 l (wj pos src)) port bT addr
def ma (l:List UInt8)(pos proto:Nat)(src:Bool)(port bT addr:Nat):List UInt8:=if proto=1 then sM l pos port else o7 l pos proto src port bT addr
def jy (out:Bool):Nat:=if out then 12 else 16
def BS (h:fL)(p:iq)(l:List UInt8)(out:Bool)(addr port:Nat):List UInt8:=
 let b:=l.take h.len
 let b1:=om b 0 (jy out) addr
 if p.err then
  let b2:=ma (om b1 p.pos (p.pos+jy (!out)) addr) (p.pos+p.inner.size) p.inner.proto (!out) port (w4 b1 (p.pos+jy (!out))) addr
  let b3:=st2 b2 (h.size+2) 0
  st2 b3 (h.size+2) (cY (b3.drop h.size))
 else ma b1 h.size h.proto out port (w4 b (jy out)) addr
def eA (l:List UInt8):Nat:=if dP false l=0 then j9 (bo l) l else dP false l
def kF (l:List UInt8)(out:Bool)(addr port:Nat):List UInt8:=if eA l=0 then BS (bo l) (nT (bo l) l) l out addr port else []
def Dk (s:Nat)(out:Bool):Nat:=if s≤1 then(if out then 2 else 3)else if(s=2∧out=false)∨(s=3∧out=true)then 4 else s
def mw (proto s:Nat)(out:Bool)(flags:Nat):Nat:=
 if proto≠6 then 0
 else if flags/4%2=1 then 4
 else if flags%2=1 then Dk s out
 else if(flags/2%2=1∧flags/16%2=0)∧out=true∧s=4 then 0
 else if flags/16%2=1∧out=false∧s=0 then 1
 else s
theorem Fj {proto s flags:Nat}{out:Bool}(h:s≤4):mw proto s out flags≤4:=by
 unfold mw Dk
 repeat' split
 all_goals omega
def jZ (proto s:Nat):Nat:=if proto=17 then 120 else if proto=1 then 60 else if proto=6 then(if s=1 then 7440 else 240)else 0
def oN (proto:Nat)(out:Bool):Bool:=proto==6||(out&&(proto==17||proto==1))
def nB (proto kind flags:Nat):Bool:=proto==17||(proto==6&&(flags/2%2==1&&flags%2==0&&flags/4%2==0&&flags/16%2==0))||(proto==1&&kind==8)
end
section
open Go.RowKit
variable {X:Cx} {σ:Env} {H:SL} {ix l_:List Oper} {Z_:Act→Prop} {bm:TypeId} {bh:String} {bf:Array Edge} {K_:List KI}
theorem Zs {x:_}{aO:Option Nat}{v_:Value}(h_:an X σ H ⟨aO,.move x,bm,bh,bf,none⟩ v_):an X σ H ⟨aO,.move x,bm,bh,bf,none⟩ v_:=h_
theorem Y9 {x:_}{aO:Option Nat}{v_:Value}(h_:an X σ H ⟨aO,.assign x,bm,bh,bf,none⟩ v_):an X σ H ⟨aO,.assign x,bm,bh,bf,none⟩ v_:=h_
theorem Zd {i x:_}{aO:Option Nat}{v_:Value}(h_:an X σ H ⟨aO,.extract x i,bm,bh,bf,none⟩ v_):an X σ H ⟨aO,.extract x i,bm,bh,bf,none⟩ v_:=h_
theorem Zn {t x:_}{aO:Option Nat}{v_:Value}(h_:an X σ H ⟨aO,.load t x,bm,bh,bf,none⟩ v_):an X σ H ⟨aO,.load t x,bm,bh,bf,none⟩ v_:=h_
theorem Zf {i t x:_}{aO:Option Nat}{v_:Value}(h_:an X σ H ⟨aO,.fieldAddr t x i,bm,bh,bf,none⟩ v_):an X σ H ⟨aO,.fieldAddr t x i,bm,bh,bf,none⟩ v_:=h_
theorem Zv {x:_}{aO:Option Nat}{v_:Value}(h_:an X σ H ⟨aO,.nilCheck x,bm,bh,bf,none⟩ v_):an X σ H ⟨aO,.nilCheck x,bm,bh,bf,none⟩ v_:=h_
theorem Zc {t u x y:_}{aO:Option Nat}{v_:Value}(h_:an X σ H ⟨aO,.binOp .eql t x y u,bm,bh,bf,none⟩ v_):an X σ H ⟨aO,.binOp .eql t x y u,bm,bh,bf,none⟩ v_:=h_
theorem Zu {t u x y:_}{aO:Option Nat}{v_:Value}(h_:an X σ H ⟨aO,.binOp .neq t x y u,bm,bh,bf,none⟩ v_):an X σ H ⟨aO,.binOp .neq t x y u,bm,bh,bf,none⟩ v_:=h_
theorem Zo {t u x y:_}{aO:Option Nat}{v_:Value}(h_:an X σ H ⟨aO,.binOp .lss t x y u,bm,bh,bf,none⟩ v_):an X σ H ⟨aO,.binOp .lss t x y u,bm,bh,bf,none⟩ v_:=h_
theorem Zm {t u x y:_}{aO:Option Nat}{v_:Value}(h_:an X σ H ⟨aO,.binOp .leq t x y u,bm,bh,bf,none⟩ v_):an X σ H ⟨aO,.binOp .leq t x y u,bm,bh,bf,none⟩ v_:=h_
theorem Zi {t u x y:_}{aO:Option Nat}{v_:Value}(h_:an X σ H ⟨aO,.binOp .gtr t x y u,bm,bh,bf,none⟩ v_):an X σ H ⟨aO,.binOp .gtr t x y u,bm,bh,bf,none⟩ v_:=h_
theorem Zh {t u x y:_}{aO:Option Nat}{v_:Value}(h_:an X σ H ⟨aO,.binOp .geq t x y u,bm,bh,bf,none⟩ v_):an X σ H ⟨aO,.binOp .geq t x y u,bm,bh,bf,none⟩ v_:=h_
theorem Y6 {t u x y:_}{aO:Option Nat}{v_:Value}(h_:an X σ H ⟨aO,.binOp .add t x y u,bm,bh,bf,none⟩ v_):an X σ H ⟨aO,.binOp .add t x y u,bm,bh,bf,none⟩ v_:=h_
theorem ZD {t u x y:_}{aO:Option Nat}{v_:Value}(h_:an X σ H ⟨aO,.binOp .sub t x y u,bm,bh,bf,none⟩ v_):an X σ H ⟨aO,.binOp .sub t x y u,bm,bh,bf,none⟩ v_:=h_
theorem Zt {t u x y:_}{aO:Option Nat}{v_:Value}(h_:an X σ H ⟨aO,.binOp .mul t x y u,bm,bh,bf,none⟩ v_):an X σ H ⟨aO,.binOp .mul t x y u,bm,bh,bf,none⟩ v_:=h_
theorem Y7 {t u x y:_}{aO:Option Nat}{v_:Value}(h_:an X σ H ⟨aO,.binOp .and t x y u,bm,bh,bf,none⟩ v_):an X σ H ⟨aO,.binOp .and t x y u,bm,bh,bf,none⟩ v_:=h_
theorem Zw {t u x y:_}{aO:Option Nat}{v_:Value}(h_:an X σ H ⟨aO,.binOp .or t x y u,bm,bh,bf,none⟩ v_):an X σ H ⟨aO,.binOp .or t x y u,bm,bh,bf,none⟩ v_:=h_
theorem ZF {t u x y:_}{aO:Option Nat}{v_:Value}(h_:an X σ H ⟨aO,.binOp .xor t x y u,bm,bh,bf,none⟩ v_):an X σ H ⟨aO,.binOp .xor t x y u,bm,bh,bf,none⟩ v_:=h_
theorem Y8 {t u x y:_}{aO:Option Nat}{v_:Value}(h_:an X σ H ⟨aO,.binOp .andNot t x y u,bm,bh,bf,none⟩ v_):an X σ H ⟨aO,.binOp .andNot t x y u,bm,bh,bf,none⟩ v_:=h_
theorem Zy {t u x y:_}{aO:Option Nat}{v_:Value}(h_:an X σ H ⟨aO,.binOp .quo t x y u,bm,bh,bf,none⟩ v_):an X σ H ⟨aO,.binOp .quo t x y u,bm,bh,bf,none⟩ v_:=h_
theorem Zz {t u x y:_}{aO:Option Nat}{v_:Value}(h_:an X σ H ⟨aO,.binOp .rem t x y u,bm,bh,bf,none⟩ v_):an X σ H ⟨aO,.binOp .rem t x y u,bm,bh,bf,none⟩ v_:=h_
theorem ZB {t u x y:_}{aO:Option Nat}{v_:Value}(h_:an X σ H ⟨aO,.binOp .shr t x y u,bm,bh,bf,none⟩ v_):an X σ H ⟨aO,.binOp .shr t x y u,bm,bh,bf,none⟩ v_:=h_
theorem ZA {t u x y:_}{aO:Option Nat}{v_:Value}(h_:an X σ H ⟨aO,.binOp .shl t x y u,bm,bh,bf,none⟩ v_):an X σ H ⟨aO,.binOp .shl t x y u,bm,bh,bf,none⟩ v_:=h_
theorem Zk {t x y:_}{aO:Option Nat}{v_:Value}(h_:an X σ H ⟨aO,.indexAddr t x y,bm,bh,bf,none⟩ v_):an X σ H ⟨aO,.indexAddr t x y,bm,bh,bf,none⟩ v_:=h_
theorem Zj {t x y:_}{aO:Option Nat}{v_:Value}(h_:an X σ H ⟨aO,.index t x y,bm,bh,bf,none⟩ v_):an X σ H ⟨aO,.index t x y,bm,bh,bf,none⟩ v_:=h_
theorem Zb {t u x:_}{aO:Option Nat}{v_:Value}(h_:an X σ H ⟨aO,.convert t u x,bm,bh,bf,none⟩ v_):an X σ H ⟨aO,.convert t u x,bm,bh,bf,none⟩ v_:=h_
theorem Za {i t:_}{aO:Option Nat}{v_:Value}(h_:an X σ H ⟨aO,.build t i,bm,bh,bf,none⟩ v_):an X σ H ⟨aO,.build t i,bm,bh,bf,none⟩ v_:=h_
theorem Ze {i t x:_}{aO:Option Nat}{v_:Value}(h_:an X σ H ⟨aO,.field t x i,bm,bh,bf,none⟩ v_):an X σ H ⟨aO,.field t x i,bm,bh,bf,none⟩ v_:=h_
theorem ZC {i j k t x:_}{aO:Option Nat}{v_:Value}(h_:an X σ H ⟨aO,.slice t x i j k,bm,bh,bf,none⟩ v_):an X σ H ⟨aO,.slice t x i j k,bm,bh,bf,none⟩ v_:=h_
theorem Zp {i j k:_}{aO:Option Nat}{v_:Value}(h_:an X σ H ⟨aO,.makeFunc i j k,bm,bh,bf,none⟩ v_):an X σ H ⟨aO,.makeFunc i j k,bm,bh,bf,none⟩ v_:=h_
theorem Zx {c x y:_}{aO:Option Nat}{v_:Value}(h_:an X σ H ⟨aO,.pick c x y,bm,bh,bf,none⟩ v_):an X σ H ⟨aO,.pick c x y,bm,bh,bf,none⟩ v_:=h_
theorem ZE {i t x:_}{aO:Option Nat}{v_:Value}(h_:an X σ H ⟨aO,.unOp i t x,bm,bh,bf,none⟩ v_):an X σ H ⟨aO,.unOp i t x,bm,bh,bf,none⟩ v_:=h_
theorem Zl {i j:_}{aO:Option Nat}{v_:Value}(h_:an X σ H ⟨aO,.call {callee:= .builtin .len,args:=i,argTypes:=j},bm,bh,bf,none⟩ v_):an X σ H ⟨aO,.call {callee:= .builtin .len,args:=i,argTypes:=j},bm,bh,bf,none⟩ v_:=h_
theorem Zr {i j:_}{aO:Option Nat}{v_:Value}(h_:an X σ H ⟨aO,.call {callee:= .builtin .min,args:=i,argTypes:=j},bm,bh,bf,none⟩ v_):an X σ H ⟨aO,.call {callee:= .builtin .min,args:=i,argTypes:=j},bm,bh,bf,none⟩ v_:=h_
theorem Zq {i j:_}{aO:Option Nat}{v_:Value}(h_:an X σ H ⟨aO,.call {callee:= .builtin .max,args:=i,argTypes:=j},bm,bh,bf,none⟩ v_):an X σ H ⟨aO,.call {callee:= .builtin .max,args:=i,argTypes:=j},bm,bh,bf,none⟩ v_:=h_
theorem Zg {f i j:_}{aO:Option Nat}{v_:Value}(h_:an X σ H ⟨aO,.call {callee:= .value (.func f),args:=i,argTypes:=j},bm,bh,bf,none⟩ v_):an X σ H ⟨aO,.call {callee:= .value (.func f),args:=i,argTypes:=j},bm,bh,bf,none⟩ v_:=h_
theorem Q3 {t:_}{aO:Option Nat}{α_:Type}{r_:α_→Value}{K_:α_→SL}(h_:aR X σ H ⟨aO,.alloc t,bm,bh,bf,none⟩ r_ K_):aR X σ H ⟨aO,.alloc t,bm,bh,bf,none⟩ r_ K_:=h_
theorem Q5 {t x:_}{aO:Option Nat}{α_:Type}{r_:α_→Value}{K_:α_→SL}(h_:aR X σ H ⟨aO,.box t x,bm,bh,bf,none⟩ r_ K_):aR X σ H ⟨aO,.box t x,bm,bh,bf,none⟩ r_ K_:=h_
theorem Q4 {i j:_}{aO:Option Nat}{α_:Type}{r_:α_→Value}{K_:α_→SL}(h_:aR X σ H ⟨aO,.call {callee:= .builtin .append,args:=i,argTypes:=j},bm,bh,bf,none⟩ r_ K_):aR X σ H ⟨aO,.call {callee:= .builtin .append,args:=i,argTypes:=j},bm,bh,bf,none⟩ r_ K_:=h_
theorem Q9 {t x y:_}{aO:Option Nat}{α_:Type}{r_:α_→Value}{K_:α_→SL}(h_:aR X σ H ⟨aO,.makeSlice t x y,bm,bh,bf,none⟩ r_ K_):aR X σ H ⟨aO,.makeSlice t x y,bm,bh,bf,none⟩ r_ K_:=h_
theorem Q6 {i j t:_}{aO:Option Nat}{α_:Type}{r_:α_→Value}{K_:α_→SL}(h_:aR X σ H ⟨aO,.buildSlice t i j,bm,bh,bf,none⟩ r_ K_):aR X σ H ⟨aO,.buildSlice t i j,bm,bh,bf,none⟩ r_ K_:=h_
theorem Q7 {t u x:_}{aO:Option Nat}{α_:Type}{r_:α_→Value}{K_:α_→SL}(h_:aR X σ H ⟨aO,.convert t u x,bm,bh,bf,none⟩ r_ K_):aR X σ H ⟨aO,.convert t u x,bm,bh,bf,none⟩ r_ K_:=h_
theorem Q8 {f i j:_}{aO:Option Nat}{α_:Type}{r_:α_→Value}{K_:α_→SL}(h_:aR X σ H ⟨aO,.call {callee:= .value (.func f),args:=i,argTypes:=j},bm,bh,bf,none⟩ r_ K_):aR X σ H ⟨aO,.call {callee:= .value (.func f),args:=i,argTypes:=j},bm,bh,bf,none⟩ r_ K_:=h_
theorem XN {t x y:_}{aO:Option Nat}{K_:SL}(h_:aU X σ H ⟨aO,.store t x y,bm,bh,bf,none⟩ K_):aU X σ H ⟨aO,.store t x y,bm,bh,bf,none⟩ K_:=h_
theorem hJ {o_:Oper}{v_:Value}(h_:an X σ H o_ v_:=by(first|(apply Zs;exact gQ rfl)|(apply Y9;exact gQ rfl)|(apply Zd;exact gQ rfl)|(apply Zn;first|exact oc rfl rfl rfl|exact O4 rfl rfl rfl|exact O7 rfl rfl (by omega)|exact O5 rfl rfl (by omega) (by omega)|exact O6 rfl rfl (by omega))|(apply Zf;exact eX rfl rfl)|(apply Zv;exact fY rfl rfl)|(apply Zc;first|exact wY rfl (by omega)|exact wX rfl (by omega)|exact kQ rfl|exact O1 rfl rfl|exact Hg rfl rfl rfl (by first|exact .inl rfl|exact .inr rfl)|exact Pt rfl rfl rfl|exact OK rfl rfl rfl rfl rfl|exact ON rfl rfl rfl)|(apply Zu;first|exact Pe rfl (by omega)|exact Pd rfl (by omega)|exact kQ rfl|exact Pf rfl rfl|exact Hh rfl rfl rfl (by first|exact .inl rfl|exact .inr rfl)|exact Pu rfl rfl rfl|exact OL rfl rfl rfl rfl rfl|exact OO rfl rfl rfl)|(apply Zo;first|exact wY rfl (by omega)|exact wX rfl (by omega)|exact kQ rfl)|(apply Zm;first|exact wY rfl (by omega)|exact wX rfl (by omega)|exact kQ rfl)|(apply Zi;first|exact wY rfl (by omega)|exact wX rfl (by omega)|exact kQ rfl)|(apply Zh;first|exact wY rfl (by omega)|exact wX rfl (by omega)|exact kQ rfl)|(apply Y6;first|exact OJ rfl rfl rfl (by simp only[cG];omega)|exact kQ rfl|exact Ps rfl rfl rfl (by first|omega|((try simp only[List.length_cons,List.length_nil,List.length_append,List.length_take,List.length_drop]);omega)))|(apply ZD;first|exact Pv rfl rfl rfl (by simp only[cG];omega)|exact kQ rfl)|(apply Zt;first|exact Pc rfl rfl rfl (by simp only[cG];omega)|exact kQ rfl)|(apply Y7;exact gQ rfl)|(apply Zw;exact gQ rfl)|(apply ZF;exact gQ rfl)|(apply Y8;exact gQ rfl)|(apply Zy;exact Pg rfl rfl rfl (by omega) (by omega) (by simp only[cG];omega))|(apply Zz;first|exact Ph rfl rfl rfl (by omega) (by omega)|exact Pj rfl rfl rfl (by decide))|(apply ZB;exact Pp rfl rfl rfl (by first|decide|omega|(simp only[IntKind.bits];omega)) (by first|decide|omega|(simp only[IntKind.bits];omega)))|(apply ZA;exact Po rfl rfl rfl (by first|decide|omega|(simp only[IntKind.bits];omega)) (by first|decide|omega|(simp only[IntKind.bits];omega)))|(apply Zk;first|exact OX rfl rfl rfl (by omega) (by omega)|exact OZ rfl rfl rfl (by omega))|(apply Zj;first|exact O0 rfl rfl rfl (by first|omega|((try simp only[List.length_cons,List.length_nil,List.length_append,List.length_take,List.length_drop]);omega))|exact OY rfl rfl rfl (by omega) (by omega))|(apply Zb;first|exact OT rfl rfl (by simp only[cG];omega)|exact Hf rfl rfl|exact OR rfl rfl (by first|omega|(refine⟨?_,?_⟩<;>omega)) rfl)|(apply Za;first|exact OP rfl rfl|exact OQ rfl rfl)|(apply Ze;first|exact OU rfl rfl rfl|exact OV rfl rfl rfl)|(apply ZC;first|exact Pr rfl rfl rfl (by first|omega|((try simp only[List.length_cons,List.length_nil,List.length_append,List.length_take,List.length_drop]);omega))|exact Pq rfl rfl rfl (by first|omega|((try simp only[List.length_cons,List.length_nil,List.length_append,List.length_take,List.length_drop]);omega))|exact CS rfl rfl rfl (by omega)|exact Pm rfl rfl rfl (by omega)|exact Pn rfl rfl|exact Pk rfl rfl rfl rfl (by omega) (by omega))|(apply Zp;exact O9 rfl rfl rfl)|(apply Zx;exact gQ rfl)|(apply ZE;first|exact gQ rfl|exact OS rfl rfl (by omega)|exact CR rfl rfl)|(apply Zl;first|exact O2 rfl rfl|exact O3 rfl rfl)|(apply Zr;exact Pb rfl rfl rfl)|(apply Zq;exact Pa rfl rfl rfl)|(apply Zg;first|exact OM rfl rfl (by omega)|exact OI rfl rfl rfl rfl (by omega) (by omega)))):an X σ H o_ v_:=h_
theorem MT {o_:Oper}{α_:Type}{r_:α_→Value}{J_:α_→SL}(h_:aR X σ H o_ r_ J_:=by(first|(apply Q3;exact sF rfl)|(apply Q5;exact OC rfl rfl rfl)|(apply Q4;first|exact lr rfl rfl rfl (by omega) (by decide)|exact OA rfl rfl rfl (by first|simp|exact vo.eq) (by omega) (by decide))|(apply Q9;exact wV rfl rfl rfl (by omega) (by decide))|(apply Q6;exact cR rfl rfl rfl (by decide) (by decide))|(apply Q7;exact CQ rfl rfl)|(apply Q8;first|exact OB rfl rfl rfl (by omega) (by omega)|exact Oz rfl rfl rfl rfl (by omega) (by omega) (by omega)))):aR X σ H o_ r_ J_:=h_
theorem Gk {o_:Oper}{J_:SL}(h_:aU X σ H o_ J_:=by(first|(apply XN;first|exact cr rfl rfl rfl rfl rfl rfl|exact OH rfl rfl rfl rfl (by omega) rfl rfl rfl|exact OG rfl rfl rfl (by omega) rfl rfl))):aU X σ H o_ J_:=h_
theorem VS {yV:Op}{g_:_}{aO:Option Nat}(h_:EL X K_ ix (⟨aO,yV,bm,bh,bf,some g_⟩::l_) σ H):EL X K_ ix (⟨aO,yV,bm,bh,bf,some g_⟩::l_) σ H:=h_
theorem Kz {yV:Op}{g_:_}{aO:Option Nat}(h_:ES X ix (⟨aO,yV,bm,bh,bf,some g_⟩::l_) σ H Z_):ES X ix (⟨aO,yV,bm,bh,bf,some g_⟩::l_) σ H Z_:=h_
theorem VP {o_:Oper}(h_:EL X K_ ix (o_::l_) σ H):EL X K_ ix (o_::l_) σ H:=h_
theorem VO (h_:EK X K_ σ H):EK X K_ σ H:=h_
theorem VQ {i_:Nat}(h_:EX X i_ K_ σ H):EX X i_ K_ σ H:=h_
theorem Ky {o_:Oper}(h_:ES X ix (o_::l_) σ H Z_):ES X ix (o_::l_) σ H Z_:=h_
theorem VR {x_:Operand}{y_ z_:Code}(h_:EK X (.code (.cond x_ y_ z_)::K_) σ H):EK X (.code (.cond x_ y_ z_)::K_) σ H:=h_
theorem Z3 {op:Op}{v:Value}(h:ue σ op=some v){d_:Nat}(mi:Nat.blt d_ X.N=true)(h_:EL X K_ ix l_ ((d_,v)::σ) H):EL X K_ ix (⟨some d_,op,bm,bh,bf,none⟩::l_) σ H:=oS (gQ h) mi h_
theorem MX {op:Op}{v:Value}(h:ue σ op=some v){d_:Nat}(mi:Nat.blt d_ X.N=true)(h_:ES X ix l_ ((d_,v)::σ) H Z_):ES X ix (⟨some d_,op,bm,bh,bf,none⟩::l_) σ H Z_:=vj (gQ h) mi h_
theorem Z2 {x:Operand}{q:Option Addr}(hx:ev σ x=some (.pointer q))[n:NN H q]{d_:Nat}(mi:Nat.blt d_ X.N=true)(h_:EL X K_ ix l_ ((d_,(.pointer q))::σ) H):EL X K_ ix (⟨some d_,.nilCheck x,bm,bh,bf,none⟩::l_) σ H:=oS (fY rfl hx) mi h_
theorem MW {x:Operand}{q:Option Addr}(hx:ev σ x=some (.pointer q))[n:NN H q]{d_:Nat}(mi:Nat.blt d_ X.N=true)(h_:ES X ix l_ ((d_,(.pointer q))::σ) H Z_):ES X ix (⟨some d_,.nilCheck x,bm,bh,bf,none⟩::l_) σ H Z_:=vj (fY rfl hx) mi h_
theorem Z0 {x:Operand}{q:Option Addr}{s:TypeId}{f i sz:Nat}(hx:ev σ x=some (.pointer q))[n:NN H q][t:au X.P s f i sz]{d_:Nat}(mi:Nat.blt d_ X.N=true)(h_:EL X K_ ix l_ ((d_,(.pointer (off q i)))::σ) H):EL X K_ ix (⟨some d_,.fieldAddr s x f,bm,bh,bf,none⟩::l_) σ H:=oS (eX rfl hx) mi h_
theorem MU {x:Operand}{q:Option Addr}{s:TypeId}{f i sz:Nat}(hx:ev σ x=some (.pointer q))[n:NN H q][t:au X.P s f i sz]{d_:Nat}(mi:Nat.blt d_ X.N=true)(h_:ES X ix l_ ((d_,(.pointer (off q i)))::σ) H Z_):ES X ix (⟨some d_,.fieldAddr s x f,bm,bh,bf,none⟩::l_) σ H Z_:=vj (eX rfl hx) mi h_
theorem Z1 {x:Operand}{q p:Option Addr}{t t0:TypeId}{i:Nat}{cs:List Value}{F:SL}{v:Value}(hx:ev σ x=some (.pointer q))[c:dK X.P t][l:Loc q p i][r:bZ H p (Obj p t0 cs) F](hv:cs[i]? =some v){d_:Nat}(mi:Nat.blt d_ X.N=true)(h_:EL X K_ ix l_ ((d_,v)::σ) H):EL X K_ ix (⟨some d_,.load t x,bm,bh,bf,none⟩::l_) σ H:=oS (oc rfl hx hv) mi h_
theorem MV {x:Operand}{q p:Option Addr}{t t0:TypeId}{i:Nat}{cs:List Value}{F:SL}{v:Value}(hx:ev σ x=some (.pointer q))[c:dK X.P t][l:Loc q p i][r:bZ H p (Obj p t0 cs) F](hv:cs[i]? =some v){d_:Nat}(mi:Nat.blt d_ X.N=true)(h_:ES X ix l_ ((d_,v)::σ) H Z_):ES X ix (⟨some d_,.load t x,bm,bh,bf,none⟩::l_) σ H Z_:=vj (oc rfl hx hv) mi h_
structure nu (G:Prop):Prop where
 out:G
structure Oh {α:Type}(G:α→Prop):Prop where
 out:∀x,G x
theorem SS {G G':Prop}(k:G')(h:nu G'→G:=by intro h;(first|apply zE|(apply VP;first|(apply VS;first|refine NO rfl rfl ?_ |refine NL rfl rfl rfl ?_ |refine NM rfl rfl rfl ?_)|refine Z3 rfl rfl ?_ |refine Z2 rfl rfl ?_ |refine Z0 rfl rfl ?_ |refine Z1 rfl (by rfl) rfl ?_ |refine oS hJ rfl ?_ |refine NP Gk ?_)|(apply VO;first|apply pS|apply NA|apply Nx|apply ND|apply Ny|(apply VR;first|refine vi rfl ?_ |refine vh rfl ?_)|apply NB)|(apply VQ;first|apply NT|apply NU|apply NW|refine NV rfl ?_));exact h.out):G:=h ⟨k⟩
theorem I4 {α:Type}{P Q:α→Prop}(h:nu (∀x,Q x))(f:∀x,nu (Q x)→P x):∀x,P x:=fun x=>f x ⟨h.out x⟩
theorem aa {G G':Prop}(k:G')(h:nu G'→G:=by intro h;(repeat first|refine SS ?_ |(refine Gy MT rfl ?_;refine' I4 h ?_;rotate_left;intro _ h));exact h.out):G:=h ⟨k⟩
theorem cD {G G':Prop}(k:G')(h:nu G'→G:=by intro h;(first|apply GH|apply GG|(apply Ky;first|(apply Kz;first|refine GF rfl rfl ?_ |refine GC rfl rfl rfl ?_ |refine GD rfl rfl rfl ?_)|refine MX rfl rfl ?_ |refine MW rfl rfl ?_ |refine MU rfl rfl ?_ |refine MV rfl (by rfl) rfl ?_ |refine vj hJ rfl ?_));(repeat(first|apply GH|apply GG|(apply Ky;first|(apply Kz;first|refine GF rfl rfl ?_ |refine GC rfl rfl rfl ?_ |refine GD rfl rfl rfl ?_)|refine MX rfl rfl ?_ |refine MW rfl rfl ?_ |refine MU rfl rfl ?_ |refine MV rfl (by rfl) rfl ?_ |refine vj hJ rfl ?_)));exact h.out):G:=h ⟨k⟩
theorem goZ {G G':Prop}(k:G')(h:nu G'→G:=by intro h;first|exact go h.out|exact goX h.out):G:=h ⟨k⟩
end
section
open Go.RowKit
variable {X:Cx} {k:List KI} {σ:Env} {H:SL}
theorem zC {c:Code}{id:Nat}{γ:Type}(φ:γ→Prop)(E:γ→Env)(G:γ→SL)
  (first:EK X (.code c:: .block id:: .pO (fun a w=>∃g,φ g∧Fits X.N a (E g)∧Sat X.W w (G g))::k) σ H) (rest:∀g,φ g→EK X k (E g) (G g)):EK X (.code c:: .block id::k) σ H:=by
 intro a w ha hs
 refine wp_mono (first a w ha hs) ?_
 intro e a' w' q
 cases e with
 |normal=>
  obtain⟨g,h1,h2,h3⟩:=q
  exact rest g h1 a' w' h2 h3
 |exit j=>
  by_cases hj:j=id
  ·subst hj
   have q:Exit.inBlock j (run X.P X.R (.pO (fun a w=>∃g,φ g∧Fits X.N a (E g)∧Sat X.W w (G g))::k)) (.exit j) a' w':=q
   simp only[Exit.inBlock,if_true]at q
   obtain⟨g,h1,h2,h3⟩:=q
   show Exit.inBlock j (run X.P X.R k) (.exit j) a' w'
   simp only[Exit.inBlock,if_true]
   exact rest g h1 a' w' h2 h3
  ·have q:Exit.inBlock id (run X.P X.R (.pO (fun a w=>∃g,φ g∧Fits X.N a (E g)∧Sat X.W w (G g))::k)) (.exit j) a' w':=q
   simp only[Exit.inBlock,if_neg hj]at q
   show Exit.inBlock id (run X.P X.R k) (.exit j) a' w'
   simp only[Exit.inBlock,if_neg hj]
   exact q
 |goto l=>exact q
 |ret=>exact q
 |panic ch=>exact q
 |outgrown=>exact q
end
section
open Go.RowKit
section
variable {P:Program} {ops:Array Oper} {Q:Exit→Act→World→Prop} {md:Region.Mode} {S:World→Prop} {L:Nat}
def mM (ops:Array Oper)(listed:Array Bool)(L:Nat):Prop:=(∃o,ops[L]? =some o)∧listed.getD L false=true
def wpAnyL (P:Program)(md:Region.Mode)(ops:Array Oper)(Q:Exit→Act→World→Prop)(S:World→Prop)(L:Nat):Nat→Array Bool→Act→World→Prop
 |0,listed,a,w=>Region.ready md ops listed=[]∧Q .normal a w
 |fuel+1,listed,a,w=>
  (Region.ready md ops listed=[]→Q .normal a w)∧
  ∀i∈Region.ready md ops listed,wpOp P ops Q i (fun a' w'=>(i≠L∧¬mM ops listed L→S w')∧wpAnyL P md ops Q S L fuel (listed.setIfInBounds i true) a' w') a w
theorem MK:∀(fuel:Nat) (listed:Array Bool) (a:Act) (w:World),wpAnyL P md ops Q S L fuel listed a w→wpAny P md ops Q fuel listed a w
 |0,_,_,_,h=>h
 |fuel+1,_,_,_,h=>⟨h.1,fun i hi=>wpOp_mono (fun a' w' h'=>MK fuel _ a' w' h'.2) (h.2 i hi)⟩
def sq (md:Region.Mode)(ops:Array Oper)(listed:Array Bool):Prop:=∀(k:Nat) (o:Oper),ops[k]? =some o→listed.getD k true=true→∀e∈o.after,Region.binds md e=true→listed.getD e.on false=true
def Ac (md:Region.Mode)(ops:Array Oper)(listed:Array Bool):Bool:=
 (List.range ops.size).all fun k=>match ops[k]? with
  |none=>true
  |some o=> !listed.getD k true||o.after.all fun e=> !Region.binds md e||listed.getD e.on false
theorem Da {listed:Array Bool}(h:Ac md ops listed=true):sq md ops listed:=by
 intro k o ho hk e he hb
 have bY:=(Array.getElem?_eq_some_iff.1 ho).1
 have h1:=List.all_eq_true.1 h k (List.mem_range.2 bY)
 rw[ho]at h1
 simp only[hk,Bool.not_true,Bool.false_or,Array.all_eq_true']at h1
 have h2:=h1 e he
 simpa[hb]using h2
def tU (md:Region.Mode)(ops:Array Oper)(i:Nat):Nat→Nat→Bool
 |0,_=>false
 |f+1,k=>match ops[k]? with
  |none=>false
  |some o=>o.after.any fun e=>Region.binds md e&&(e.on==i||tU md ops i f e.on)
theorem HC {listed:Array Bool}{i:Nat}(hc:sq md ops listed):∀(f k:Nat) (o:Oper),ops[k]? =some o→tU md ops i f k=true→(∀e∈o.after,Region.binds md e=true→listed.getD e.on false=true)→listed.getD i false=true
 |0,_,_,_,h,_=>by simp[tU]at h
 |f+1,k,o,ho,h,hl=>by
  simp only[tU,ho,Array.any_eq_true',Bool.and_eq_true,Bool.or_eq_true,beq_iff_eq]at h
  obtain⟨e,he,hb,h|h⟩:=h
  ·rw[←h];exact hl e he hb
  ·have h1:=hl e he hb
   cases Eo:ops[e.on]? with
   |none=>
    cases f with
    |zero=>simp[tU]at h
    |succ f=>simp[tU,Eo]at h
   |some o2=>
    have h2:listed.getD e.on true=true:=by
     rcases Nat.lt_or_ge e.on listed.size with g|g
     ·simpa[g]using h1
     ·simp[Array.getElem?_eq_none g]
    exact HC hc f e.on o2 Eo h fun e' Jq AE=>hc e.on o2 Eo h2 e' Jq AE
theorem sq.set {listed:Array Bool}{j:Nat}(hc:sq md ops listed)(hj:j∈Region.ready md ops listed):sq md ops (listed.setIfInBounds j true):=by
 intro k o ho hk e he hb
 obtain⟨_,oj,kx,lC⟩:=mem_ready.1 hj
 by_cases mV:j=k
 ·subst mV
  rw[kx]at ho
  cases ho
  exact getD_set_true (lC e he hb)
 ·rw[getD_set_ne true mV]at hk
  exact getD_set_true (hc k o ho hk e he hb)
theorem I1 {listed:Array Bool}{i:Nat}(h:listed.getD i true=false):listed.getD i false=false:=by
 rcases Nat.lt_or_ge i listed.size with h'|h'
 ·simpa[h']using h
 ·simp[Array.getElem?_eq_none h']at h
theorem wpAnyL_first {i:Nat}{oi:Oper}{v:Value}(hi:ops[i]? =some oi)(lI:∀(j:Nat) (o:Oper) cs b,ops[j]? =some o→o.op≠ .select cs b)
  (hQ:∀c a w,Q (.panic c) (a.put oi.dst v) w→Q (.panic c) a w) (hL:∀(listed:Array Bool),sq md ops listed→L∈Region.ready md ops listed∨mM ops listed L→i≠L→listed.getD i true=true) (qw:i≠L):
  ∀(fuel:Nat) (listed:Array Bool) (a:Act) (w:World),
   (∀j oj,ops[j]? =some oj→j≠i→listed.getD j true=false→(∀e∈oj.after,Region.binds md e=true→e.on≠i)→oi.apart ops oj=true)→
   i∈Region.ready md ops listed→sq md ops listed→YieldsIf P ops S oi v a→S w→
   wpAnyL P md ops Q S L fuel (listed.setIfInBounds i true) (a.put oi.dst v) w→wpAnyL P md ops Q S L (fuel+1) listed a w:=by
 intro fuel
 induction fuel with
 |zero=>
  intro listed a w _ hr _ hy hS H
  refine⟨fun h=>(by rw[h]at hr;cases hr),fun j hj=> ?_⟩
  by_cases fq:j=i
  ·subst fq;exact hy.wpOp hi hS ⟨fun _=>hS,H⟩
  ·have:=ready_mono hj fq
   rw[H.1]at this
   cases this
 |succ fuel ih=>
  intro listed a w pq hr hc hy hS H
  refine⟨fun h=>(by rw[h]at hr;cases hr),fun j hj=> ?_⟩
  by_cases fq:j=i
  ·subst fq;exact hy.wpOp hi hS ⟨fun _=>hS,H⟩
  ·have yp:j≠L:=fun e=>by
    subst e
    have h1:=hL listed hc (.inl hj) qw
    rw[(mem_ready.1 hr).1]at h1
    cases h1
   have h1:=H.2 j (ready_mono hj fq)
   obtain⟨nM,oj,kx,lC⟩:=mem_ready.1 hj
   have uG:∀e∈oj.after,Region.binds md e=true→e.on≠i:=fun e he hb heq=>by
    have h1:=lC e he hb
    rw[heq,I1 (mem_ready.1 hr).1]at h1
    cases h1
   have h2:=wpOp_putIf kx (pq j oj kx fq nM uG) (fun cs b=>lI i oi cs b hi) (fun cs b=>lI j oj cs b kx) hQ hy h1
   have uA:∀k ok,ops[k]? =some ok→k≠i→(listed.setIfInBounds j true).getD k true=false→
     (∀e∈ok.after,Region.binds md e=true→e.on≠i)→oi.apart ops ok=true:=fun k ok hk uD kz nP=>by
    refine pq k ok hk uD ?_ nP
    by_cases mV:j=k
    ·subst mV;exact nM
    ·rw[getD_set_ne true mV]at kz;exact kz
   have J6:¬mM ops (listed.setIfInBounds i true) L:=fun hl=>by
    have AS:mM ops listed L:=⟨hl.1,by
     have h0:=hl.2
     rw[Array.getD_eq_getD_getElem?]at h0 ⊢
     rwa[Array.getElem?_setIfInBounds_ne qw]at h0⟩
    have h1:=hL listed hc (.inr AS) qw
    rw[(mem_ready.1 hr).1]at h1
    cases h1
   refine wpOp_mono (fun a' w' h3=>⟨fun _=>h3.2.1 ⟨yp,J6⟩,ih (listed.setIfInBounds j true) a' w' uA (ready_mono hr (Ne.symm fq)) (hc.set hj) h3.1 (h3.2.1 ⟨yp,J6⟩) ?_⟩) h2
   rw[Array.setIfInBounds_comm _ _ fq]
   exact h3.2.2
def yK (md:Region.Mode)(ops:Array Oper)(L i:Nat):Bool:=match ops[L]? with
 |none=> !(i==L)
 |some _=> !(i==L)&&tU md ops i ops.size L
theorem E8 {i:Nat}(h:yK md ops L i=true):i≠L∧∀(listed:Array Bool),sq md ops listed→L∈Region.ready md ops listed∨mM ops listed L→i≠L→listed.getD i true=true:=by
 unfold yK at h
 cases ho:ops[L]? with
 |none=>
  rw[ho]at h
  refine⟨by simpa using h,fun listed hc hr _=> ?_⟩
  rcases hr with hr|hr
  ·obtain⟨_,o,h1,_⟩:=mem_ready.1 hr
   rw[ho]at h1
   cases h1
  ·obtain⟨⟨o,h1⟩,_⟩:=hr
   rw[ho]at h1
   cases h1
 |some o=>
  rw[ho]at h
  simp only[Bool.and_eq_true,Bool.not_eq_true',beq_eq_false_iff_ne]at h
  refine⟨h.1,fun listed hc hr _=> ?_⟩
  have h2:∀e∈o.after,Region.binds md e=true→listed.getD e.on false=true:=by
   rcases hr with hr|hr
   ·obtain⟨_,o',h1,h2⟩:=mem_ready.1 hr
    rw[ho]at h1
    cases h1
    exact h2
   ·refine hc L o ho ?_
    have h0:=hr.2
    rw[Array.getD_eq_getD_getElem?]at h0 ⊢
    cases hq:listed[L]? with
    |none=>rfl
    |some b=>rw[hq]at h0;exact h0
  have h3:=HC hc _ L o ho h.2 h2
  rcases Nat.lt_or_ge i listed.size with g|g
  ·simpa[g]using h3
  ·simp[Array.getElem?_eq_none g]
end
def rQ (R:Act→World→Prop):Exit→Act→World→Prop
 | .normal,a,w=>R a w
 |_,_,_=>False
def EG (X:Cx)(k:List KI)(ops:List Oper)(S:SL)(L fuel:Nat)(listed:Array Bool)(σ:Env)(H:SL):Prop:=
 ∀a w,Fits X.N a σ→Sat X.W w H→wpAnyL X.P .any ops.toArray (rQ (run X.P X.R k .normal)) (fun w=>Sat X.W w S) L fuel listed a w
variable {X:Cx} {k:List KI} {σ:Env} {H S:SL} {ops:List Oper} {fuel L:Nat} {listed:Array Bool}
theorem ay {id n:Nat}{ls:Array Bool}(L:Nat)(S:SL)(hm:X.P.follows .mixedOrders=true)(hn:ops.toArray.size=n)(hl:Array.replicate n false=ls)(h:EG X k ops S L n ls σ H):EK X (.code (.region id ops.toArray true)::k) σ H:=by
 subst hn hl
 intro a w ha hs
 refine Code.wp_mono (Q:=rQ (run X.P X.R k .normal)) ?_ (wp_region_any hm (MK _ _ _ _ (h a _ ha hs.drew)))
 intro e a w he
 cases e<;>first|exact he|exact he.elim
def nh:List Bool→Nat→Nat→Option Nat
 |[],_,_=>none
 |true::l,n,i=>nh l n (i+1)
 |false::_,0,i=>some i
 |false::l,n+1,i=>nh l n (i+1)
theorem fG (n:Nat){d:Nat}{v:Value}{op:Op}{ty:TypeId}{pos:String}{aft:Array Edge}{i:Nat}(hn:nh listed.toList n 0=some i)(hi:ops.toArray[i]? =some ⟨some d,op,ty,pos,aft,none⟩)(hd:Nat.blt d X.N=true)
  (hv:an X σ S ⟨some d,op,ty,pos,aft,none⟩ v)
  (hb:(Region.noSelect ops.toArray&&Region.free .any ops.toArray listed i&&(Region.ready .any ops.toArray listed).contains i&&Ac .any ops.toArray listed&&yK .any ops.toArray L i)=true) (hS:U H S) {ls:Array Bool} (hl:listed.setIfInBounds i true=ls)
  (h:EG X k ops S L fuel ls ((d,v)::σ) H):EG X k ops S L (fuel+1) listed σ H:=by
 subst hl
 simp only[Bool.and_eq_true]at hb
 obtain⟨⟨⟨⟨hs,hf⟩,hr⟩,hc⟩,yu⟩:=hb
 obtain⟨h1,h2⟩:=E8 yu
 intro a w ha hw
 exact wpAnyL_first hi (Region.noSelect_spec hs) (fun _ _ _ h=>h.elim) h2 h1 fuel listed a w (Region.free_spec hi hf) (by simpa using hr) (Da hc) (.inl ⟨rfl,fun w hs=>hv a w ha hs⟩) (hS.sat _ hw) (h _ _ (ha.put hd v) hw)
theorem pQ {i:Nat}(hr:Region.ready .any ops.toArray listed=[i]){a:Act}{w:World}(h:wpOp X.P ops.toArray (rQ (run X.P X.R k .normal)) i (fun a' w'=>(i≠L∧¬mM ops.toArray listed L→Sat X.W w' S)∧wpAnyL X.P .any ops.toArray (rQ (run X.P X.R k .normal)) (fun w=>Sat X.W w S) L fuel (listed.setIfInBounds i true) a' w') a w):
  wpAnyL X.P .any ops.toArray (rQ (run X.P X.R k .normal)) (fun w=>Sat X.W w S) L (fuel+1) listed a w:=
 ⟨fun h0=>(by rw[hr]at h0;cases h0),fun j hj=>by
  rw[hr,List.mem_singleton]at hj
  subst hj
  exact h⟩
theorem Ns {α:Type}{r:α→Value}{H':α→SL}{d:Nat}{op:Op}{ty:TypeId}{pos:String}{aft:Array Edge}{i:Nat}(hn:nh listed.toList 0 0=some i)(hi:ops.toArray[i]? =some ⟨some d,op,ty,pos,aft,none⟩)(hd:Nat.blt d X.N=true)
  (hv:aR X σ H ⟨some d,op,ty,pos,aft,none⟩ r H') (hr:Region.ready .any ops.toArray listed=[i]) {ls:Array Bool} (hl:listed.setIfInBounds i true=ls)
  (hS:∀x,U (H' x) S) (h:∀x,EG X k ops S L fuel ls ((d,r x)::σ) (H' x)):EG X k ops S L (fuel+1) listed σ H:=by
 subst hl
 intro a w ha hw
 refine pQ hr ?_
 obtain⟨x,w',h1,h2⟩:=hv a w ha hw
 unfold wpOp
 rw[hi]
 simp only[Region.wanted,Oper.wp,h1,Oper.upon,if_true]
 exact .inl ⟨fun _=>(hS x).sat _ h2,h x _ _ (ha.put hd _) h2⟩
theorem Nv {v:Value}{d:Nat}{op:Op}{ty:TypeId}{pos:String}{aft:Array Edge}{i:Nat}(hn:nh listed.toList 0 0=some i)(hi:ops.toArray[i]? =some ⟨some d,op,ty,pos,aft,none⟩)(hd:Nat.blt d X.N=true)
  (hv:an X σ H ⟨some d,op,ty,pos,aft,none⟩ v) (hr:Region.ready .any ops.toArray listed=[i]) (hS:U H S) {ls:Array Bool} (hl:listed.setIfInBounds i true=ls)
  (h:EG X k ops S L fuel ls ((d,v)::σ) H):EG X k ops S L (fuel+1) listed σ H:=by
 subst hl
 intro a w ha hw
 refine pQ hr ?_
 unfold wpOp
 rw[hi]
 simp only[Region.wanted,Oper.wp,hv a w ha hw,Oper.upon,if_true]
 exact .inl ⟨fun _=>hS.sat _ hw,h _ _ (ha.put hd _) hw⟩
theorem Nu {H':SL}{op:Op}{ty:TypeId}{pos:String}{aft:Array Edge}{i:Nat}(hn:nh listed.toList 0 0=some i)(hi:ops.toArray[i]? =some ⟨none,op,ty,pos,aft,none⟩)
  (hv:aU X σ H ⟨none,op,ty,pos,aft,none⟩ H') (hr:Region.ready .any ops.toArray listed=[i]) (hS:U H' S) {ls:Array Bool} (hl:listed.setIfInBounds i true=ls)
  (h:EG X k ops S L fuel ls σ H'):EG X k ops S L (fuel+1) listed σ H:=by
 subst hl
 intro a w ha hw
 refine pQ hr ?_
 obtain⟨w',h1,h2⟩:=hv a w ha hw
 unfold wpOp
 rw[hi]
 simp only[Region.wanted,Oper.wp,h1,Oper.upon,if_true]
 exact .inl ⟨fun _=>hS.sat _ h2,h _ _ ha h2⟩
theorem Cn {H':SL}{op:Op}{ty:TypeId}{pos:String}{aft:Array Edge}(hi:ops.toArray[L]? =some ⟨none,op,ty,pos,aft,none⟩)
  (hv:aU X σ H ⟨none,op,ty,pos,aft,none⟩ H') (hr:Region.ready .any ops.toArray listed=[L]) (s6:Region.ready .any ops.toArray (listed.setIfInBounds L true)=[]) (h:EK X k σ H'):EG X k ops S L (fuel+1) listed σ H:=by
 intro a w ha hw
 refine pQ hr ?_
 obtain⟨w',h1,h2⟩:=hv a w ha hw
 unfold wpOp
 rw[hi]
 simp only[Region.wanted,Oper.wp,h1,Oper.upon,if_true]
 refine .inl ⟨fun e=>absurd rfl e.1,?_⟩
 have h3:rQ (run X.P X.R k .normal) .normal (a.put none undef) w':=h _ _ ha h2
 cases fuel with
 |zero=>exact⟨s6,h3⟩
 |succ f=>exact⟨fun _=>h3,by rw[s6];simp⟩
theorem Gu (hr:Region.ready .any ops.toArray listed=[])(h:EK X k σ H):EG X k ops S L fuel listed σ H:=fun a w ha hw=>by
 have h3:rQ (run X.P X.R k .normal) .normal a w:=h _ _ ha hw
 cases fuel with
 |zero=>exact⟨hr,h3⟩
 |succ f=>exact⟨fun _=>h3,by rw[hr];simp⟩
theorem eD {X:Cx}{k:List KI}{ops:List Oper}{S H:SL}{L fuel:Nat}{listed:Array Bool}{σ:Env}(h:EK X k σ H)(hr:Region.ready .any ops.toArray listed=[]:=by decide+kernel):EG X k ops S L fuel listed σ H:=Gu hr h
end
section
open Go.RowKit
variable {X:Cx} {σ:Env} {H:SL} {bm:TypeId} {bh:String} {bf:Array Edge}
theorem fJ {H_ G_:SL}(h_:U H_ G_:=by(first|exact U.refl _|exact U.last|exact U.drop|(repeat(first|refine U.cons ?_ |refine U.uT ?_ |refine U.BQ ?_ |exact U.any|exact U.last)))):U H_ G_:=h_
theorem SU {G G':Prop}(k:G')(h:nu G'→G:=by intro h;(first|(apply fG 0;rfl;rfl;rfl;exact hJ;decide+kernel;exact fJ;rfl)|(apply fG 1;rfl;rfl;rfl;exact hJ;decide+kernel;exact fJ;rfl)|(apply fG 2;rfl;rfl;rfl;exact hJ;decide+kernel;exact fJ;rfl)|(apply fG 3;rfl;rfl;rfl;exact hJ;decide+kernel;exact fJ;rfl)|(apply fG 4;rfl;rfl;rfl;exact hJ;decide+kernel;exact fJ;rfl)|(apply fG 5;rfl;rfl;rfl;exact hJ;decide+kernel;exact fJ;rfl)|(apply fG 6;rfl;rfl;rfl;exact hJ;decide+kernel;exact fJ;rfl));(repeat(first|(apply fG 0;rfl;rfl;rfl;exact hJ;decide+kernel;exact fJ;rfl)|(apply fG 1;rfl;rfl;rfl;exact hJ;decide+kernel;exact fJ;rfl)|(apply fG 2;rfl;rfl;rfl;exact hJ;decide+kernel;exact fJ;rfl)|(apply fG 3;rfl;rfl;rfl;exact hJ;decide+kernel;exact fJ;rfl)|(apply fG 4;rfl;rfl;rfl;exact hJ;decide+kernel;exact fJ;rfl)|(apply fG 5;rfl;rfl;rfl;exact hJ;decide+kernel;exact fJ;rfl)|(apply fG 6;rfl;rfl;rfl;exact hJ;decide+kernel;exact fJ;rfl)));exact h.out):G:=h ⟨k⟩
theorem SZ {α:Type}{G:Prop}{G':α→Prop}(k:∀x,G' x)(h:Oh G'→G:=by intro h;apply Ns;rfl;rfl;rfl;exact MT;decide+kernel;rfl;(intro _;exact fJ);intro x;exact h.out x):G:=h ⟨k⟩
theorem SX {G G':Prop}(k:G')(h:nu G'→G:=by intro h;apply Nu;rfl;rfl;exact Gk;decide+kernel;exact fJ;rfl;exact h.out):G:=h ⟨k⟩
theorem SV {G G':Prop}(k:G')(h:nu G'→G:=by intro h;apply Cn;rfl;exact Gk;decide+kernel;decide+kernel;exact h.out):G:=h ⟨k⟩
theorem SY {G G':Prop}(k:G')(h:nu G'→G:=by intro h;apply Nv;rfl;rfl;rfl;exact hJ;decide+kernel;exact fJ;rfl;exact h.out):G:=h ⟨k⟩
theorem bD {G G':Prop}(k:G')(h:nu G'→G:=by intro h;(repeat first|refine SU ?_ |(refine' SZ ?_;refine' I4 h ?_;rotate_left;intro _ h)|refine SV ?_ |refine SX ?_ |refine SY ?_ |refine eD ?_);exact h.out):G:=h ⟨k⟩
end
end Go.Proofs.YtfkngchldmfpfaaGreatDoor
