/-
  A part of a proof, joined by a program (wip/bundle3.py).
-/
import Derived.Laws.StructEq
import Derived.ChangeKeysEq
import Derived.Laws.BitsAllLaws
import Derived.Test.YtakbmjoijcpdmaaGreatDoorG1
set_option linter.unusedVariables false
set_option linter.unusedSimpArgs false
namespace Go.Proofs.YtakbmjoijcpdmaaGreatDoor
section
open Go.RowKit
variable {X:Cx} {k:List KI} {σ:Env} {H:SL} {o:Oper}
theorem LA {P:Program}{t:TypeId}[h:q8 P t](p q:Bool)(w:World):(Op.equal t (.bool p) (.bool q)).run P w= .ok (p==q) w:=by
 unfold Op.equal
 obtain⟨d,hd⟩:∃d,Op.maxDepth=d+1:=⟨9999,rfl⟩
 rw[hd]
 exact run_equalIn_bool' w d t p q h.h
theorem Bt {x y:Operand}{t u:TypeId}{p q:Bool}(ho:o.op= .binOp .eql t x y u)(hx:ev σ x=some (.bool p))(hy:ev σ y=some (.bool q))[h:q8 X.P t]:az X σ H o (.bool (p==q)):=by
 intro a' w ha _
 simp only[execOp,ho,ha.eval hx,ha.eval hy]
 have hg:∀p' q',(eqGuard .eql t p' q' (.bool p) (.bool q)).run X.P w= .ok () w:=fun _ _=>rfl
 simp[Sem.run_bind,hg,binOp,LA p q w,go_sem]
theorem Bu {x y:Operand}{t u:TypeId}{p q:Bool}(ho:o.op= .binOp .neq t x y u)(hx:ev σ x=some (.bool p))(hy:ev σ y=some (.bool q))[h:q8 X.P t]:az X σ H o (.bool (!(p==q))):=by
 intro a' w ha _
 simp only[execOp,ho,ha.eval hx,ha.eval hy]
 have hg:∀p' q',(eqGuard .neq t p' q' (.bool p) (.bool q)).run X.P w= .ok () w:=fun _ _=>rfl
 simp[Sem.run_bind,hg,binOp,LA p q w,go_sem]
instance bo.ad4 (a b:Int)(i j:Nat)[h:bo a i][g:bo b j]:bo (min a b) (min i j):=⟨by rw[h.eq,g.eq];omega⟩
class Ch (P:Program)(t:TypeId)(n:outParam Nat)(e:outParam TypeId):Prop where h:P.underlying t=some (.array n e)
theorem BE {x y:Operand}{t:TypeId}{q:Option Addr}{z:Int}{kk:IntKind}{i n sz:Nat}(ho:o.op= .indexAddr t x y)(hx:ev σ x=some (.pointer q))(hy:ev σ y=some (.int kk z))[a:kl X.P t n sz][m:bo z i][nn:NN H q](hi:i<n):az X σ H o (.pointer (off q (i*sz))):=by
 intro b w hb hs
 have e:=m.eq
 subst e
 obtain⟨e,h1,h2⟩:=a.h
 obtain⟨j,hj,dW⟩:=kD h2
 have hq:=nn.nn X.W w hs
 cases q with
 |none=>exact absurd rfl hq
 |some q=>
  have h3:(i:Int)<(n:Int):=by omega
  simp only[execOp,ho,hb.eval hx,hb.eval hy]
  simp[Instr.indexAt,asIntOf,Instr.sureAddr,run_underlying h1,sizeOf,typeInfo,hj,dW,hi,off,go_sem]
theorem BD {x y:Operand}{t e:TypeId}{cs:List Value}{z:Int}{kk:IntKind}{i n:Nat}{v:Value}{φ:Prop}(ho:o.op= .index t x y)(hx:ev σ x=some (.agg cs.toArray))(hy:ev σ y=some (.int kk z))[a:Ch X.P t n e][b:kl X.P t n 1][c:cX X.P e][m:bo z i][g:eK cs i 1 0 v φ](hφ:φ)(hi:i<n):az X σ H o v:=by
 intro d w hd hs
 have e1:=m.eq
 subst e1
 obtain⟨e',h1,h2⟩:=b.h
 have h0:=a.h
 rw[h1]at h0
 cases h0
 obtain⟨j,hj,dW⟩:=kD h2
 obtain⟨dd,h3,h4⟩:=c.agg
 have hv:=g.get hφ
 simp only[Nat.mul_one,Nat.add_zero]at hv
 have h5:(i:Int)<(n:Int):=by omega
 simp only[execOp,ho,hd.eval hx,hd.eval hy]
 cases dd<;>simp at h4<;>simp[Instr.index,asIntOf,run_underlying h1,sizeOf,typeInfo,hj,dW,hi,part,isAgg,run_underlying h3,asAgg,hv,go_sem]
theorem H7 {f g:Nat→Option (Nat×Nat)}(IX:∀i q,f i=some q→g i=some q):∀(l:List (Nat×Value)) (cs vs:Array Value),Instr.fill f cs l=some vs→Instr.fill g cs l=some vs
 |[],cs,vs,h=>by simpa[Instr.fill]using h
 |(i,v)::l,cs,vs,h=>by
  simp only[Instr.fill]at h ⊢
  cases hf:f i with
  |none=>simp[hf]at h
  |some q=>
   rw[IX i q hf]
   simp only[hf]at h ⊢
   split at h
   ·cases h
   ·rename_i hc
    rw[if_neg hc]
    exact H7 IX l _ _ h
theorem Bw {t:TypeId}{parts:Array (Nat×Operand)}{n sz:Nat}{cs vs:List Value}(ho:o.op= .build t parts)[s:kl X.P t n sz][z:dm X.P t cs](hv:oO σ ((List.range n).map fun i=>(i*sz,sz)) cs parts.toList=some vs):az X σ H o (.agg vs.toArray):=by
 intro a w ha hs
 obtain⟨v,h1,h2⟩:=z.h
 obtain⟨j,hj,hz⟩:=kD h1
 obtain⟨e,h3,h4⟩:=s.h
 obtain⟨j',rL,dW⟩:=kD h4
 have h6:=CS ha parts.toList cs vs hv
 have h7:=H7 (g:=fun i=>some (i*sz,sz)) (fun i q hq=>by
  simp only[List.getElem?_map,Option.map_eq_some_iff]at hq
  obtain⟨i',na,rfl⟩:=hq
  have:i'=i:=by
   rw[List.getElem?_eq_some_iff]at na
   obtain⟨_,h⟩:=na
   simpa using h.symm
  rw[this]) _ _ _ h6
 have w9:(zeroValue t).run X.P w= .ok v w:=by simp[zeroValue,typeInfo,hj,hz,go_sem]
 have rN:(sizeOf e).run X.P w= .ok sz w:=by simp[sizeOf,typeInfo,rL,dW,go_sem]
 have h8:Instr.fill (fun i=>some (i*sz,sz)) v.cells (parts.map fun(q:Nat×Operand)=>(q.1,a.eval q.2)).toList=some vs.toArray:=by
  rw[h2,Array.toList_map]
  exact h7
 simp only[execOp,ho,Instr.build,Sem.run_bind,w9,Result.andThen_ok,run_underlying h3]
 simp only[Sem.run_bind,rN,Result.andThen_ok]
 rw[h8]
 rfl
def bc (P:Program)(W:World)(H:SL)(q:Option Addr)(t:TypeId)(v:Value):Prop:=∀w,Sat W w H→∃b,q=some b∧(loadVar t b).run P w= .ok v w
theorem bc.agg {P:Program}{W:World}{q p:Option Addr}{t t0:TypeId}{i n:Nat}{cs vs:List Value}{F:SL}[c:gD P t n][l:Loc q p i][r:bO H p (Obj p t0 cs) F](hv:kJ cs i n=some vs):bc P W H q t (.agg vs.toArray):=by
 intro w hs
 obtain⟨b,hb,gW⟩:=Obj.open (r.eq▸hs)
 have hq:=l.eq
 rw[hb]at hq
 simp only[off,Option.map_some,oM,Nat.zero_add]at hq
 obtain⟨d,h1,h2⟩:=c.agg
 obtain⟨j,hj,dW⟩:=kD c.size
 obtain⟨hl,rfl⟩:=xN hv
 have:=Hp (P:=P) gW hl
 unfold loadCells at this
 refine⟨_,hq,?_⟩
 cases d<;>simp at h2<;>simp[loadVar,isAgg,run_underlying h1,sizeOf,typeInfo,hj,dW,this,go_sem]
def GR (P:Program)(W:World)(σ:Env)(H:SL):ResultVar→Value→Prop
 | .tmp t,v=>σ.get t=some v
 | .cell a t,v=>∃q,σ.get a=some (.pointer q)∧bc P W H q t v
def yz (P:Program)(W:World)(σ:Env)(H:SL):List ResultVar→List Value→Prop
 |[],[]=>True
 |r::rs,v::vs=>GR P W σ H r v∧yz P W σ H rs vs
 |_,_=>False
def uX (tmps:Array Value):ResultVar→Sem Value
 | .tmp t=>pure (tmps.getD t undef)
 | .cell b t=>do loadVar t (←asAddr (tmps.getD b undef))
theorem Ix {a:Array Value}{t:Nat}{v:Value}(h:a[t]? =some v):a.getD t undef=v:=by rw[Array.getD_eq_getD_getElem?,h];rfl
theorem LH {P:Program}{W w:World}{N:Nat}{a:Act}(ha:Fits N a σ)(hs:Sat W w H):∀(rs:List ResultVar) (vs:List Value),yz P W σ H rs vs→
  (rs.mapM (uX a.tmps)).run P w= .ok vs w
 |[],[],_=>by simp[go_sem]
 |[],_::_,h=>h.elim
 |_::_,[],h=>h.elim
 |r::rs,v::vs,⟨h1,h2⟩=>by
  have ih:=LH ha hs rs vs h2
  cases r with
  |tmp t=>
   have:=Ix (ha.nm t v h1)
   simp only[List.mapM_cons,uX,Sem.run_bind,this,Sem.run_pure,Result.andThen_ok,ih]
  |cell b t=>
   obtain⟨q,h3,h4⟩:=h1
   have:=Ix (ha.nm b _ h3)
   obtain⟨c,rfl,h5⟩:=h4 w hs
   have h6:(asAddr (.pointer (some c))).run P w= .ok c w:=by simp[asAddr,go_sem]
   simp only[List.mapM_cons,uX,Sem.run_bind,this,h6,h5,Sem.run_pure,Result.andThen_ok,ih]
section leave
variable {P:Program} {N:Nat} {W:World} {fn:Func} {α:Type} {r:α→Value} {H':α→SL}
theorem LG {w:World}{a:Act}(ha:Fits N a σ)(hs:Sat W w H){rs:List ResultVar}{vs:List Value}(hf:fn.results=rs.toArray)(h:yz P W σ H rs vs):
  (results fn a.tmps).run P w= .ok (if h:vs.toArray.size=1 then vs.toArray[0]else .tuple vs.toArray) w:=by
 have h1:=LH (P:=P) ha hs rs vs h
 have e:results fn a.tmps=(do
   let vs ←fn.results.mapM (uX a.tmps)
   pure (if h:vs.size=1 then vs[0]else .tuple vs)):=by
  unfold results
  congr
 have h2:(rs.toArray.mapM (uX a.tmps)).run P w= .ok vs.toArray w:=by
  rw[Array.mapM_eq_mapM_toList]
  show(Bind.bind (List.mapM (uX a.tmps) rs) (fun l=>(pure l.toArray:Sem (Array Value)))).run P w=_
  rw[Sem.run_bind,h1]
  rfl
 rw[e,hf,Sem.run_bind,h2]
 rfl
theorem kO {v:Value}{rv:ResultVar}(hf:fn.results= #[rv])(h:GR P W σ H rv v)(x:α)(hx:v=r x)(hs:∀w,Sat W w H→Sat W w (H' x)):ER ⟨P,N,W,bodyPost P fn (pP W r H')⟩ σ H:=fun _ w ha hw=>
 leaves (.inr rfl) ha (LG (rs:=[rv]) (vs:=[v]) ha hw hf ⟨h,trivial⟩) x hx (hs w hw)
theorem bq {v u:Value}{vs:List Value}{rs:List ResultVar}(hf:fn.results=rs.toArray)(h:yz P W σ H rs (v::u::vs))(x:α)(hx: .tuple (v::u::vs).toArray=r x)(hs:∀w,Sat W w H→Sat W w (H' x)):ER ⟨P,N,W,bodyPost P fn (pP W r H')⟩ σ H:=fun _ w ha hw=>
 leaves (.inr rfl) ha (LG ha hw hf h) x (by rw[←hx];simp) (hs w hw)
end leave
inductive iP|i (k:IntKind)|b|s
def Fs:TypeDesc→Option iP
 | .int k=>some (.i k)
 | .bool=>some .b
 | .string=>some .s
 |_=>none
def rY (P:Program)(t:TypeId):Option iP:=(P.underlying t).bind Fs
def oW:iP→Value→Bool
 | .i k,.int k' _=>k==k'
 | .b,.bool _=>true
 | .s,.string _=>true
 |_,_=>false
def fits:List iP→List Value→Bool
 |[],[]=>true
 |t::ts,v::vs=>oW t v&&fits ts vs
 |_,_=>false
theorem vW:∀ {ts:List iP} {vs:List Value},fits ts vs=true→vs.length=ts.length
 |[],[],_=>rfl
 |_::ts,_::vs,h=>by
  simp only[fits,Bool.and_eq_true]at h
  simp[vW h.2]
 |[],_::_,h=>by simp[fits]at h
 |_::_,[],h=>by simp[fits]at h
theorem vV:∀ {ts:List iP} {vs:List Value} (_:fits ts vs=true) {i:Nat} {t:iP} (_:ts[i]? =some t),∃v,vs[i]? =some v∧oW t v=true
 |t::ts,v::vs,h,0,t',ht=>by
  simp only[fits,Bool.and_eq_true]at h
  simp only[List.getElem?_cons_zero,Option.some.injEq]at ht
  subst ht
  exact⟨v,rfl,h.1⟩
 |t::ts,v::vs,h,i+1,t',ht=>by
  simp only[fits,Bool.and_eq_true]at h
  simp only[List.getElem?_cons_succ]at ht ⊢
  exact vV h.2 ht
 |[],_,_,i,t',ht=>by simp at ht
 |_::_,[],h,_,_,_=>by simp[fits]at h
theorem LF {P:Program}(w:World)(d:Nat){e:TypeId}{t:iP}(ht:rY P e=some t){a b:Value}(ha:oW t a=true)(hb:oW t b=true):
  ∃r:Bool,(Op.equalIn (d+1) e a b).run P w= .ok r w∧(r=true↔a=b):=by
 unfold rY at ht
 cases hu:P.underlying e with
 |none=>simp[hu]at ht
 |some dd=>
  rw[hu]at ht
  cases dd<;>simp only[Option.bind_some,Fs,Option.some.injEq,reduceCtorEq]at ht
  all_goals subst ht
  case int k=>
   cases a<;>simp only[oW,beq_iff_eq,Bool.false_eq_true]at ha
   cases b<;>simp only[oW,beq_iff_eq,Bool.false_eq_true]at hb
   subst ha;subst hb
   exact⟨_,run_equalIn_int w d e _ _ _ _ hu,by simp⟩
  case bool=>
   cases a<;>simp only[oW,Bool.false_eq_true]at ha
   cases b<;>simp only[oW,Bool.false_eq_true]at hb
   exact⟨_,run_equalIn_bool' w d e _ _ hu,by simp⟩
  case string=>
   cases a<;>simp only[oW,Bool.false_eq_true]at ha
   cases b<;>simp only[oW,Bool.false_eq_true]at hb
   rename_i x y
   refine⟨_,run_equalIn_string w d e _ _ hu,?_⟩
   rw[beq_iff_eq,ByteArray.toList_eq,ByteArray.toList_eq]
   constructor
   ·intro h
    have:x.data=y.data:=by rw[←Array.toArray_toList (xs:=x.data),h,Array.toArray_toList]
    rw[ByteArray.ext this]
   ·intro h
    cases h
    rfl
theorem Ar {P:Program}(w:World){e:TypeId}{t:iP}(ht:rY P e=some t){xs:Array Value}{off:Nat}{v:Value}(hx:xs[off]? =some v):(part e xs off).run P w= .ok v w:=by
 unfold rY at ht
 cases hu:P.underlying e with
 |none=>simp[hu]at ht
 |some d=>cases d<;>simp[hu,Fs]at ht<;>simp[part,isAgg,run_underlying hu,hx]
class oK (P:Program)(t:TypeId)(ks:outParam (List iP)):Prop where
 h:(∃fs,P.underlying t=some (.struct fs)∧P.stoodInHeld t=false∧fs.toList.map (fun f=>(f.name== "_",f.offset,rY P f.type))=ks.zipIdx.map fun q=>(false,q.2,some q.1))∨
  (∃n e kk,P.underlying t=some (.array n e)∧(P.info? e).map (·.size)=some 1∧rY P e=some kk∧ks=List.replicate n kk)
 g:P.eqGuardType P.depth t=false
theorem LB {P:Program}(w:World)(d:Nat)(xs ys:List Value)(KS:List iP)(hx:fits KS xs=true)(hy:fits KS ys=true):∀(fs:List Field) (ks:List iP) (i:Nat),KS.drop i=ks→
  fs.map (fun f=>(f.name== "_",f.offset,rY P f.type))=(ks.zipIdx i).map (fun q=>(false,q.2,some q.1))→∃r:Bool,(Op.eqFields (d+1) xs.toArray ys.toArray fs).run P w= .ok r w∧(r=true↔xs.drop i=ys.drop i)
 |[],[],i,hd,_=>by
  have hl:KS.length≤i:=by simpa using hd
  have h1:xs.drop i=[]:=List.drop_eq_nil_of_le (by rw[vW hx];exact hl)
  have h2:ys.drop i=[]:=List.drop_eq_nil_of_le (by rw[vW hy];exact hl)
  exact⟨true,by simp[Op.eqFields],by rw[h1,h2];simp⟩
 |[],_::_,_,_,h=>by simp at h
 |_::_,[],_,_,h=>by simp at h
 |f::fs,t::ks,i,hd,h=>by
  simp only[List.map_cons,List.zipIdx_cons,List.cons.injEq,Prod.mk.injEq]at h
  obtain⟨⟨hn,ho,ht⟩,hr⟩:=h
  have hi:KS[i]? =some t:=by
   have:=congrArg (fun l=>l[0]?) hd
   simpa using this
  obtain⟨a,ha,fa⟩:=vV hx hi
  obtain⟨b,hb,fb⟩:=vV hy hi
  obtain⟨r,h1,h2⟩:=LF w d ht fa fb
  have Dl:KS.drop (i+1)=ks:=by
   have:=congrArg List.tail hd
   simpa[List.tail_drop]using this
  obtain⟨r',h3,h4⟩:=LB w d xs ys KS hx hy fs ks (i+1) Dl hr
  have nG:f.name≠ "_" :=by simpa using hn
  have e1:xs.drop i=a::xs.drop (i+1):=by
   obtain⟨hl,rfl⟩:=List.getElem?_eq_some_iff.1 ha
   exact List.drop_eq_getElem_cons hl
  have e2:ys.drop i=b::ys.drop (i+1):=by
   obtain⟨hl,rfl⟩:=List.getElem?_eq_some_iff.1 hb
   exact List.drop_eq_getElem_cons hl
  have p1:=Ar (P:=P) w ht (xs:=xs.toArray) (off:=f.offset) (v:=a) (by rw[ho];simpa using ha)
  have p2:=Ar (P:=P) w ht (xs:=ys.toArray) (off:=f.offset) (v:=b) (by rw[ho];simpa using hb)
  simp only[Op.eqFields,if_pos nG,Sem.run_bind,p1,p2,h1,Result.andThen_ok]
  rw[e1,e2,List.cons.injEq]
  cases r with
  |false=>exact⟨false,by simp,by simp;intro g;exact absurd (h2.2 g) (by simp)⟩
  |true=>exact⟨r',by simpa using h3,by rw[h4];simp[h2.1 rfl]⟩
theorem LC {P:Program}(w:World)(d:Nat){e:TypeId}{t:iP}(ht:rY P e=some t)(hc:P.cellsOf e=1)(xs ys:List Value)(n:Nat)(hx:fits (List.replicate n t) xs=true)(hy:fits (List.replicate n t) ys=true):∀(m i:Nat),i+m=n→
  ∃r:Bool,(Op.eqItems (d+1) e (P.cellsOf e) xs.toArray ys.toArray (List.range' i m)).run P w= .ok r w∧(r=true↔xs.drop i=ys.drop i)
 |0,i,h=>by
  have h1:xs.drop i=[]:=List.drop_eq_nil_of_le (by rw[vW hx];simp;omega)
  have h2:ys.drop i=[]:=List.drop_eq_nil_of_le (by rw[vW hy];simp;omega)
  exact⟨true,by simp[Op.eqItems],by rw[h1,h2];simp⟩
 |m+1,i,h=>by
  have hi:(List.replicate n t)[i]? =some t:=by rw[List.getElem?_replicate,if_pos (by omega)]
  obtain⟨a,ha,fa⟩:=vV hx hi
  obtain⟨b,hb,fb⟩:=vV hy hi
  obtain⟨r,h1,h2⟩:=LF w d ht fa fb
  obtain⟨r',h3,h4⟩:=LC w d ht hc xs ys n hx hy m (i+1) (by omega)
  have e1:xs.drop i=a::xs.drop (i+1):=by
   obtain⟨hl,rfl⟩:=List.getElem?_eq_some_iff.1 ha
   exact List.drop_eq_getElem_cons hl
  have e2:ys.drop i=b::ys.drop (i+1):=by
   obtain⟨hl,rfl⟩:=List.getElem?_eq_some_iff.1 hb
   exact List.drop_eq_getElem_cons hl
  have p1:=Ar (P:=P) w ht (xs:=xs.toArray) (off:=i*1) (v:=a) (by simpa using ha)
  have p2:=Ar (P:=P) w ht (xs:=ys.toArray) (off:=i*1) (v:=b) (by simpa using hb)
  rw[hc]at h3 ⊢
  simp only[List.range'_succ,Op.eqItems,Sem.run_bind,p1,p2,h1,Result.andThen_ok]
  rw[e1,e2,List.cons.injEq]
  cases r with
  |false=>exact⟨false,by simp,by simp;intro g;exact absurd (h2.2 g) (by simp)⟩
  |true=>exact⟨r',by simpa using h3,by rw[h4];simp[h2.1 rfl]⟩
theorem Fa {P:Program}(w:World){t:TypeId}{ks:List iP}[f:oK P t ks]{xs ys:List Value}(hx:fits ks xs=true)(hy:fits ks ys=true):
  ∃r:Bool,(Op.equalIn 10000 t (.agg xs.toArray) (.agg ys.toArray)).run P w= .ok r w∧(r=true↔xs=ys):=by
 rcases f.h with ⟨fs,h1,h2,h3⟩|⟨n,e,kk,h1,h2,h3,rfl⟩
 ·have IZ:P.fieldsOf t=fs:=by simp[Program.fieldsOf,h1]
  obtain⟨r,h4,h5⟩:=LB (P:=P) w 9998 xs ys ks hx hy fs.toList ks 0 rfl h3
  refine⟨r,?_,by simpa using h5⟩
  have:=run_equalIn_struct (P:=P) w 9999 t xs.toArray ys.toArray (by rw[IZ];exact h1) h2
  rw[IZ]at this
  exact this.trans h4
 ·obtain⟨i,hi,dW⟩:=kD h2
  have hc:P.cellsOf e=1:=by simp[Program.cellsOf,hi,dW]
  obtain⟨r,h4,h5⟩:=LC (P:=P) w 9998 h3 hc xs ys n hx hy n 0 (by omega)
  refine⟨r,?_,by simpa using h5⟩
  have:=run_equalIn_array (P:=P) w 9999 xs.toArray ys.toArray h1 hi
  rw[List.range_eq_range']at this
  exact this.trans h4
theorem Bq {x y:Operand}{t u:TypeId}{ks:List iP}{xs ys:List Value}(ho:o.op= .binOp .eql t x y u)(hx:ev σ x=some (.agg xs.toArray))(hy:ev σ y=some (.agg ys.toArray))[f:oK X.P t ks](h1:fits ks xs=true)(h2:fits ks ys=true):az X σ H o (.bool (@decide (xs=ys) (Classical.propDecidable _))):=by
 intro a w ha hs
 obtain⟨r,h3,h4⟩:=Fa (P:=X.P) w (t:=t) h1 h2
 have e: @decide (xs=ys) (Classical.propDecidable _)=r:=by
  by_cases g:xs=ys
  ·rw[@decide_eq_true _ (Classical.propDecidable _) g];exact(h4.2 g).symm
  ·rw[@decide_eq_false _ (Classical.propDecidable _) g]
   cases r
   ·rfl
   ·exact absurd (h4.1 rfl) g
 simp only[execOp,ho,ha.eval hx,ha.eval hy,Sem.run_bind,run_eqGuard_agg w _ t x y _ _ f.g,Result.andThen_ok,run_eql_struct,h3,Sem.run_pure,e]
theorem Br {x y:Operand}{t u:TypeId}{ks:List iP}{xs ys:List Value}(ho:o.op= .binOp .neq t x y u)(hx:ev σ x=some (.agg xs.toArray))(hy:ev σ y=some (.agg ys.toArray))[f:oK X.P t ks](h1:fits ks xs=true)(h2:fits ks ys=true):az X σ H o (.bool (!@decide (xs=ys) (Classical.propDecidable _))):=by
 intro a w ha hs
 obtain⟨r,h3,h4⟩:=Fa (P:=X.P) w (t:=t) h1 h2
 have e: @decide (xs=ys) (Classical.propDecidable _)=r:=by
  by_cases g:xs=ys
  ·rw[@decide_eq_true _ (Classical.propDecidable _) g];exact(h4.2 g).symm
  ·rw[@decide_eq_false _ (Classical.propDecidable _) g]
   cases r
   ·rfl
   ·exact absurd (h4.1 rfl) g
 simp only[execOp,ho,ha.eval hx,ha.eval hy,Sem.run_bind,run_eqGuard_agg w _ t x y _ _ f.g,Result.andThen_ok,run_neq_struct,h3,Sem.run_pure,e]
end
section
open Go.RowKit
variable {X:Cx} {k:List KI} {σ:Env} {H:SL} {o:Oper} {ops l:List Oper}
abbrev aP:=Option Addr×Nat
class Ce (xs:List Value)(n:Nat):Prop where eq:xs.length=n
def dO (p:Option Addr)(i cap sz:Nat):Option Addr:=if cap=i then p else off p (i*sz)
class Room (W:World)(H:SL)(p:Option Addr)(n cap:Nat):Prop where le:∀w,Sat W w H→n≤cap
instance (priority:=900) Room.row (W:World)(H F:SL)(e sz n cap:Nat)(p:Option Addr)(xs:List Value)[r:bO H p (ao e sz p n cap xs) F]:Room W H p n cap:=⟨fun w hs=>(ao.len (r.eq▸hs:Sat W w (ao e sz p n cap xs*F))).2.1⟩
theorem Xv {P:Program}{w:World}{t e sz bw:Nat}{z:List Value}(s:cL P t e sz bw z){p:Option Addr}{n cap:Nat}{lo hi mx:Option Value}{i j m:Nat}
  (hl:lo=none∧i=0∨∃kk,lo=some (.int kk (i:Int))) (hh:hi=none∧mx=none∧j=n∨∃kk,hi=some (.int kk (j:Int))) (hm:mx=none∧m=cap∨∃kk,mx=some (.int kk (m:Int)))
  (h1:i≤j) (h2:j≤m) (h3:m≤cap):(Instr.sliceAt t (.slice p n cap) lo hi mx).run P w= .ok (.slice (if m=i then p else off p (i*sz)) (j-i) (m-i)) w:=by
 obtain⟨q,v,Dv,hz,dW,kZ,xa⟩:=s.parts
 have g1:(i:Int)≤(j:Int):=by omega
 have g2:(j:Int)≤(m:Int):=by omega
 have g3:(m:Int)≤(cap:Int):=by omega
 have g0:∀a:Nat,(0:Int)≤(a:Int):=fun a=>Int.natCast_nonneg a
 rcases hl with ⟨rfl,rfl⟩|⟨k1,rfl⟩<;>rcases hh with ⟨rfl,rfl,rfl⟩|⟨k2,rfl⟩<;>rcases hm with ⟨DL,rfl⟩|⟨k3,DL⟩<;>first|(cases DL;done)|skip
 all_goals
  (try subst DL)
  simp[Instr.sliceAt,Instr.slice,Instr.sliceBounds,Instr.sliceBound,asIntOf,run_underlying s.under,sizeOf,typeInfo,Dv,dW,g0,g1,g2,g3,h1,h2,h3,off,go_sem]
theorem yw {x:Operand}{lo hi mx:Option Operand}{p:Option Addr}{n cap:Nat}{t e sz bw i j m:Nat}{z:List Value}(ho:o.op= .slice t x lo hi mx)(hx:ev σ x=some (.slice p n cap))[s:cL X.P t e sz bw z]
  (hl:lo=none∧i=0∨∃y kk z,lo=some y∧ev σ y=some (.int kk z)∧z=(i:Int)) (hh:hi=none∧mx=none∧j=n∨∃y kk z,hi=some y∧ev σ y=some (.int kk z)∧z=(j:Int))
  (hm:mx=none∧m=cap∨∃y kk z,mx=some y∧ev σ y=some (.int kk z)∧z=(m:Int)) (h1:i≤j) (h2:∀w,Sat X.W w H→j≤m) (h3:m≤cap):az X σ H o (.slice (if m=i then p else off p (i*sz)) (j-i) (m-i)):=by
 intro a w ha hs
 simp only[execOp,ho,ha.eval hx]
 have e1:lo.map a.eval=none∧i=0∨∃kk,lo.map a.eval=some (.int kk (i:Int)):=by
  rcases hl with ⟨rfl,h⟩|⟨y,kk,z,rfl,h,rfl⟩
  ·exact .inl ⟨rfl,h⟩
  ·exact .inr ⟨kk,by simp[ha.eval h]⟩
 have e2:hi.map a.eval=none∧mx.map a.eval=none∧j=n∨∃kk,hi.map a.eval=some (.int kk (j:Int)):=by
  rcases hh with ⟨rfl,rfl,h⟩|⟨y,kk,z,rfl,h,rfl⟩
  ·exact .inl ⟨rfl,rfl,h⟩
  ·exact .inr ⟨kk,by simp[ha.eval h]⟩
 have e3:mx.map a.eval=none∧m=cap∨∃kk,mx.map a.eval=some (.int kk (m:Int)):=by
  rcases hm with ⟨rfl,h⟩|⟨y,kk,z,rfl,h,rfl⟩
  ·exact .inl ⟨rfl,h⟩
  ·exact .inr ⟨kk,by simp[ha.eval h]⟩
 simp only[Sem.run_bind,Xv s e1 e2 e3 h1 (h2 w hs) h3,Result.andThen_ok]
 rfl
theorem BZ {x y:Operand}{p:Option Addr}{n cap:Nat}{t e sz bw i:Nat}{z:List Value}{kk:IntKind}{zi:Int}(ho:o.op= .slice t x (some y) none none)(hx:ev σ x=some (.slice p n cap))(hy:ev σ y=some (.int kk zi))[s:cL X.P t e sz bw z][q:bo zi i][r:Room X.W H p n cap](hi:i≤n):
  az X σ H o (.slice (dO p i cap sz) (n-i) (cap-i)):=
 yw ho hx (.inr ⟨y,kk,zi,rfl,hy,q.eq⟩) (.inl ⟨rfl,rfl,rfl⟩) (.inl ⟨rfl,rfl⟩) hi (fun w hs=>r.le w hs) (Nat.le_refl _)
theorem BY {x y:Operand}{p:Option Addr}{n cap:Nat}{t e sz bw j:Nat}{z:List Value}{kk:IntKind}{zj:Int}(ho:o.op= .slice t x none (some y) none)(hx:ev σ x=some (.slice p n cap))(hy:ev σ y=some (.int kk zj))[s:cL X.P t e sz bw z][q:bo zj j][r:Room X.W H p n cap](hj:j≤n):
  az X σ H o (.slice p j cap):=by
 have h:=yw (X:=X) (H:=H) (i:=0) ho hx (.inl ⟨rfl,rfl⟩) (.inr ⟨y,kk,zj,rfl,hy,q.eq⟩) (.inl ⟨rfl,rfl⟩) (Nat.zero_le _) (fun w hs=>Nat.le_trans hj (r.le w hs)) (Nat.le_refl _)
 have e:(if cap=0 then p else off p (0*sz))=p:=by
  split
  ·rfl
  ·rw[Nat.zero_mul];cases p<;>simp[off,Addr.add]
 rw[e]at h
 simpa using h
theorem BX {x y y2:Operand}{p:Option Addr}{n cap:Nat}{t e sz bw i j:Nat}{z:List Value}{kk k2:IntKind}{zi zj:Int}(ho:o.op= .slice t x (some y) (some y2) none)(hx:ev σ x=some (.slice p n cap))(hy:ev σ y=some (.int kk zi))(w8:ev σ y2=some (.int k2 zj))[s:cL X.P t e sz bw z][q:bo zi i][q2:bo zj j][r:Room X.W H p n cap](hi:i≤j)(hj:j≤n):
  az X σ H o (.slice (dO p i cap sz) (j-i) (cap-i)):=
 yw ho hx (.inr ⟨y,kk,zi,rfl,hy,q.eq⟩) (.inr ⟨y2,k2,zj,rfl,w8,q2.eq⟩) (.inl ⟨rfl,rfl⟩) hi (fun w hs=>Nat.le_trans hj (r.le w hs)) (Nat.le_refl _)
theorem B0 {x:Operand}{p:Option Addr}{n cap:Nat}{t e sz bw:Nat}{z:List Value}{k1 k2:IntKind}(ho:o.op= .slice t x none (some (.const (.int k1 0))) (some (.const (.int k2 0))))(hx:ev σ x=some (.slice p n cap))[s:cL X.P t e sz bw z]:
  az X σ H o (.slice p 0 0):=by
 have h:=yw (X:=X) (H:=H) (i:=0) (j:=0) (m:=0) ho hx (.inl ⟨rfl,rfl⟩) (.inr ⟨_,k1,0,rfl,rfl,rfl⟩) (.inr ⟨_,k2,0,rfl,rfl,rfl⟩) (Nat.le_refl _) (fun _ _=>Nat.le_refl _) (Nat.zero_le _)
 simpa using h
theorem vx {x:Operand}{t:TypeId}{k:IntKind}{a:Int}(ho:o.op= .unOp .xor t x)(hx:ev σ x=some (.int k a)):az X σ H o (.int k (bits .xor k (if k.signed then-1 else k.max) a)):=by
 intro a' w ha _
 simp only[execOp,ho,ha.eval hx]
 simp[Op.unary,Op.intBits,bits,Sem.run,pure]
theorem Qv {a:Int}(h:0≤a∧a≤65535):bits .xor .u16 65535 a=65535-a:=by
 obtain⟨n,rfl⟩:∃n:Nat,a=n:=⟨a.toNat,by omega⟩
 have hn:n<65536:=by omega
 rw[show(65535:Int)=((65535:Nat):Int)from rfl,u16_xor_nat 65535 n (by decide) hn]
 have e:65535^^^n=65535-n:=by
  apply Nat.eq_of_testBit_eq
  intro j
  have h1:(65535:Nat).testBit j=decide (j<16):=Nat.testBit_two_pow_sub_one 16 j
  have h2:=Nat.testBit_two_pow_sub_succ (n:=16) (x:=n) hn j
  rw[show(2:Nat)^16-(n+1)=65535-n by omega]at h2
  rw[Nat.testBit_xor,h1,h2]
  by_cases hj:j<16
  ·simp[hj]
  ·have:n.testBit j=false:=Nat.testBit_lt_two_pow (Nat.lt_of_lt_of_le hn (Nat.pow_le_pow_right (show 0<2 by decide) (show 16≤j by omega)))
   simp[hj,this]
 rw[e]
 omega
theorem By {x:Operand}{t:TypeId}{a:Int}(ho:o.op= .unOp .xor t x)(hx:ev σ x=some (.int .u16 a))(hr:0≤a∧a≤65535):az X σ H o (.int .u16 (65535-a)):=by
 have h:=vx (X:=X) (H:=H) ho hx
 rw[show(if IntKind.u16.signed=true then(-1:Int)else IntKind.u16.max)=65535 from rfl,Qv hr]at h
 exact h
theorem BB {s t:TypeId}{f i n:Nat}{x:Operand}{cs:Array Value}{us:List Value}(ho:o.op= .field s x f)(hx:ev σ x=some (.agg cs))[g:q9 X.P s f i t][c:gD X.P t n](hv:kJ cs.toList i n=some us):az X σ H o (.agg us.toArray):=by
 intro a w ha hs
 obtain⟨fs,q,h1,h2,rfl,rfl⟩:=g.h
 obtain⟨d,h3,h4⟩:=c.agg
 obtain⟨j,hj,dW⟩:=kD c.size
 obtain⟨hl,rfl⟩:=xN hv
 have he:cs.extract q.offset (q.offset+n)=((cs.toList.drop q.offset).take n).toArray:=by
  apply Array.ext'
  rw[Array.toList_extract,List.extract_eq_take_drop,show q.offset+n-q.offset=n by omega]
 simp only[execOp,ho,ha.eval hx]
 cases d<;>simp at h4<;>simp[Instr.field,run_underlying h1,h2,part,isAgg,run_underlying h3,asAgg,sizeOf,typeInfo,hj,dW,he,go_sem]
theorem ao.lo {e sz n cap i:Nat}{p:Option Addr}{xs:List Value}(hi:i≤n):SL.le (ao e sz p n cap xs) (ao e sz (dO p i cap sz) (n-i) (cap-i) (xs.drop (i*sz))):=by
 rintro h ⟨⟨hl,hn,hm⟩,⟨_,hc,he⟩|⟨g,o,cur,rfl,a2,a3,a4⟩⟩
 ·have h0:i=0:=by omega
  subst h0
  exact⟨⟨by simpa using hl,by omega,by omega⟩,.inl ⟨trivial,by omega,he⟩⟩
 ·have hle:i*sz≤n*sz:=Nat.mul_le_mul_right _ hi
  have adQ:n*sz≤cap*sz:=Nat.mul_le_mul_right _ hn
  have adR:i*sz≤cap*sz:=by omega
  refine⟨⟨by rw[List.length_drop,hl,Nat.sub_mul],by omega,by omega⟩,.inr ⟨g,if cap=i then o else o+i*sz,cur,?_,?_,?_,a4⟩⟩
  ·unfold dO
   split
   ·rfl
   ·simp only[off,Option.map_some,oM]
  ·split
   ·rw[Nat.sub_mul];omega
   ·rw[Nat.sub_mul];omega
  ·split
   ·have:n=i:=by omega
    subst this
    simp[←a3]
   ·rw[←a3,List.drop_take,List.drop_drop,Nat.sub_mul]
theorem ao.hi {e sz n cap j:Nat}{p:Option Addr}{xs:List Value}(hj:j≤n):SL.le (ao e sz p n cap xs) (ao e sz p j cap (xs.take (j*sz))):=by
 rintro h ⟨⟨hl,hn,hm⟩,⟨_,hc,he⟩|⟨g,o,cur,rfl,a2,a3,a4⟩⟩
 ·have h0:j=0:=by omega
  subst h0
  exact⟨⟨by simp,by omega,by omega⟩,.inl ⟨trivial,by omega,he⟩⟩
 ·have hle:j*sz≤n*sz:=Nat.mul_le_mul_right _ hj
  refine⟨⟨by rw[List.length_take,hl];omega,by omega,by omega⟩,.inr ⟨g,o,cur,rfl,a2,?_,a4⟩⟩
  rw[←a3,List.take_take,Nat.min_eq_left hle]
theorem U.Lw {H F G:SL}{e sz n cap:Nat}{xs:List Value}(p:Option Addr)(i:Nat)[h:bO H p (ao e sz p n cap xs) F](hi:i≤n)(k:U (ao e sz (dO p i cap sz) (n-i) (cap-i) (xs.drop (i*sz))*F) G):U H G:=
 (U.of_eq h.eq).trans ((U.star (U.of_le (ao.lo hi)) (U.refl F)).trans k)
theorem U.Xq {H F G:SL}{e sz n cap:Nat}{xs:List Value}(p:Option Addr)(j:Nat)[h:bO H p (ao e sz p n cap xs) F](hj:j≤n)(k:U (ao e sz p j cap (xs.take (j*sz))*F) G):U H G:=
 (U.of_eq h.eq).trans ((U.star (U.of_le (ao.hi hj)) (U.refl F)).trans k)
instance (priority:=300) Src.there (W:World)(Q R:SL)(p:Option Addr)(n:Nat)(xs:List Value)[s:Src W R p n xs]:Src W (Q*R) p n xs where
 cells:=fun w hs=>s.cells w hs.drop
 nn:=fun w hs=>s.nn w hs.drop
class sG (cs:List Value)(i:Nat)(v:outParam Value)(φ:outParam Prop):Prop where get:φ→cs[i]? =some v
class yq (cs:List Value)(i:Nat)(v:Value)(dN:outParam (List Value))(φ:outParam Prop):Prop where
 put:φ→kK cs i [v]=some dN
theorem BL {x:Operand}{q p:Option Addr}{t t0:TypeId}{i:Nat}{cs:List Value}{F:SL}{v:Value}{φ:Prop}(ho:o.op= .load t x)(hx:ev σ x=some (.pointer q))[c:cX X.P t][l:Loc q p i][r:bO H p (Obj p t0 cs) F][g:sG cs i v φ](hφ:φ):az X σ H o v:=
 qW ho hx (g.get hφ)
theorem Bm {x y:Operand}{q p:Option Addr}{t t0:TypeId}{i:Nat}{cs dN:List Value}{F:SL}{v:Value}{φ:Prop}(ho:o.op= .store t x y)(hx:ev σ x=some (.pointer q))(hy:ev σ y=some v)[c:dF X.P t 1][l:Loc q p i][r:bO H p (Obj p t0 cs) F][g:yq cs i v dN φ](hφ:φ)
  (h1:fq v=[v]) (h2:v.oneCell'=true):bf X σ H o (Obj p t0 dN*F):=
 di ho hx hy (by rw[h1];exact g.put hφ) (by rw[h1];rfl) (by rw[h1];simp[je,h2])
end
section
open Go.RowKit
variable {X:Cx} {σ:Env}
theorem Xu {P:Program}{t e:TypeId}{sz bw:Nat}{z:List Value}[h:cL P t e sz bw z](p:Option Addr)(n c:Nat)(w:World):(Op.equal t (.slice p n c) (.slice none 0 0)).run P w= .ok (decide (p=none)) w:=by
 unfold Op.equal
 obtain⟨d,hd⟩:∃d,Op.maxDepth=d+1:=⟨9999,rfl⟩
 rw[hd]
 clear hd
 simp only[Op.equalIn]
 cases p<;>simp[run_underlying h.under,go_sem]
theorem yv {H:SL}{o:Oper}{x:Operand}{t u e:TypeId}{sz bw:Nat}{z:List Value}{p:Option Addr}{n c:Nat}(ho:o.op= .binOp .eql t x (.const (.slice none 0 0)) u)(hx:ev σ x=some (.slice p n c))[h:cL X.P t e sz bw z]:az X σ H o (.bool (decide (p=none))):=by
 intro a' w ha _
 simp only[execOp,ho,ha.eval hx]
 have hg:∀p' q',(eqGuard .eql t p' q' (.slice p n c) (.slice none 0 0)).run X.P w= .ok () w:=fun _ _=>rfl
 simp[Act.eval,Sem.run_bind,hg,binOp,Xu p n c w,go_sem]
theorem FY {k:List KI}{e sz n c:Nat}{xs:List Value}{F:SL}(h:n=0→EK X k σ (ao e sz none n c xs*F)):EK X k σ (ao e sz none n c xs*F):=fun a w ha hs=>h (by
 rcases Nat.eq_zero_or_pos n with g|g
 ·exact g
 ·exact absurd rfl (ao.nn hs g)) a w ha hs
theorem Spec.uN {P:Program}{f:FuncId}{vs:List Value}{W:World}{H C F:SL}(p:Option Addr)[r:bO H p C F]{α:Type}{rr:α→Value}(h:Spec P f vs W (C*F) rr (fun _=>C*F)):Spec P f vs W H rr (fun _=>H):=fun w hs=>
 (h w (r.eq▸hs)).mono fun _ _ ⟨x,e,g⟩=>⟨x,e,r.eq.symm▸g⟩
theorem Wr (p:Option Addr)(i j:Nat):off (off p i) j=off p (i+j):=by
 cases p with
 |none=>rfl
 |some a=>
  simp only[off,Option.map_some,Addr.add]
  by_cases hi:i=0<;>by_cases hj:j=0<;>simp[hi,hj,Nat.add_assoc]
end
section
open Go.RowKit
def b1 (l:List UInt8)(i:Nat):Nat:=(l.getD i 0).toNat
def w2 (l:List UInt8)(i:Nat):Nat:=b1 l i*256+b1 l (i+1)
def w4 (l:List UInt8)(i:Nat):Nat:=w2 l i*65536+w2 l (i+2)
theorem dH (l:List UInt8)(i:Nat):b1 l i<256:=UInt8.toNat_lt _
theorem dK (l:List UInt8)(i:Nat):w2 l i<65536:=by
 have h1:=dH l i
 have h2:=dH l (i+1)
 unfold w2
 omega
theorem nS (l:List UInt8)(i:Nat):w4 l i<4294967296:=by
 have h1:=dK l i
 have h2:=dK l (i+2)
 unfold w4
 omega
def u8 (n:Nat):UInt8:=UInt8.ofNat n
theorem kf (n:Nat):(u8 n).toNat=n%256:=by simp[u8]
def ij (n:Nat):List UInt8:=[u8 (n/256),u8 n]
def km (n:Nat):List UInt8:=[u8 (n/16777216),u8 (n/65536),u8 (n/256),u8 n]
def st2 (l:List UInt8)(i n:Nat):List UInt8:=(l.set i (u8 (n/256))).set (i+1) (u8 n)
theorem dJ (l:List UInt8)(i n:Nat):(st2 l i n).length=l.length:=by simp[st2]
theorem Hf (l:List UInt8)(i j:Nat)(v:UInt8)(hi:i<l.length):b1 (l.set i v) j=if j=i then v.toNat else b1 l j:=by
 unfold b1
 rw[List.getD_eq_getElem?_getD,List.getD_eq_getElem?_getD,List.getElem?_set]
 by_cases h:i=j
 ·subst h
  simp[hi]
 ·rw[if_neg h,if_neg (Ne.symm h)]
theorem yJ (l:List UInt8)(i n j:Nat)(hi:i+1<l.length):b1 (st2 l i n) j=if j=i+1 then n%256 else if j=i then n/256%256 else b1 l j:=by
 unfold st2
 rw[Hf _ _ _ _ (by simpa using hi),Hf _ _ _ _ (by omega),kf,kf]
theorem xW (l:List UInt8){i n:Nat}(hn:n<65536)(hi:i+1<l.length):w2 (st2 l i n) i=n:=by
 unfold w2
 rw[yJ _ _ _ _ hi,yJ _ _ _ _ hi,if_neg (by omega),if_pos rfl,if_pos rfl]
 omega
theorem AR (l:List UInt8){i n j:Nat}(hi:i+1<l.length)(hj:j+1<i∨i+1<j):w2 (st2 l i n) j=w2 l j:=by
 unfold w2
 rw[yJ _ _ _ _ hi,yJ _ _ _ _ hi,if_neg (by omega),if_neg (by omega),if_neg (by omega),if_neg (by omega)]
theorem u5 (l:List UInt8)(i a b:Nat):st2 (st2 l i a) i b=st2 l i b:=by
 unfold st2
 apply List.ext_getElem?
 intro j
 simp only[List.getElem?_set,List.length_set]
 repeat' split
 all_goals first|rfl|omega
def bY:Bool→List UInt8→Nat
 |_,[]=>0
 |true,b::l=>b.toNat*256+bY false l
 |false,b::l=>b.toNat+bY true l
theorem Ao:∀(e:Bool) (l:List UInt8),bY e l≤65280*l.length
 |_,[]=>by simp[bY]
 |true,b::l=>by
  have:=Ao false l
  have hb:=b.toNat_lt
  simp only[bY,List.length_cons]
  omega
 |false,b::l=>by
  have:=Ao true l
  have hb:=b.toNat_lt
  simp only[bY,List.length_cons]
  omega
theorem An:∀(e:Bool) (l m:List UInt8),bY e (l++m)=bY e l+bY (if l.length%2=0 then e else !e) m
 |e,[],m=>by simp[bY]
 |true,b::l,m=>by
  rw[List.cons_append,bY,bY,An false l m,List.length_cons]
  by_cases h:l.length%2=0
  ·rw[if_pos h,if_neg (by omega),Bool.not_true];omega
  ·rw[if_neg h,if_pos (by omega),Bool.not_false];omega
 |false,b::l,m=>by
  rw[List.cons_append,bY,bY,An true l m,List.length_cons]
  by_cases h:l.length%2=0
  ·rw[if_pos h,if_neg (by omega),Bool.not_false];omega
  ·rw[if_neg h,if_pos (by omega),Bool.not_true];omega
theorem Xe (l:List UInt8)(b:UInt8):bY true (l++[b])=bY true l+b.toNat*(if l.length%2=0 then 256 else 1):=by
 rw[An]
 by_cases h:l.length%2=0
 ·rw[if_pos h,if_pos h];simp[bY]
 ·rw[if_neg h,if_neg h];simp[bY]
def db (n:Nat):Nat:=if n=0 then 0 else(n-1)%65535+1
theorem rp (n:Nat):db n≤65535:=by
 unfold db
 split
 ·omega
 ·have:=Nat.mod_lt (n-1) (show 0<65535 by omega)
  omega
theorem y7 {n:Nat}(h:n≤65535):db n=n:=by
 unfold db
 split
 ·omega
 ·rw[Nat.mod_eq_of_lt (by omega)];omega
theorem RS {n:Nat}:db n=0↔n=0:=by
 unfold db
 split
 ·simp_all
 ·simp_all
theorem Ik {n:Nat}(h:65535<n):db (n/65536+n%65536)=db n:=by
 unfold db
 rw[if_neg (by omega),if_neg (by omega)]
 congr 1
 have e:n=65536*(n/65536)+n%65536:=(Nat.div_add_mod n 65536).symm
 have:n-1=(n/65536+n%65536-1)+65535*(n/65536):=by omega
 rw[this,Nat.add_mul_mod_self_left]
theorem CY (a b:Nat):db (db a+b)=db (a+b):=by
 by_cases ha:a=0
 ·subst ha;rfl
 ·have hf:db a≠0:=fun e=>ha (RS.1 e)
  have e1:db a=(a-1)%65535+1:=by unfold db;rw[if_neg ha]
  have e2:=Nat.div_add_mod (a-1) 65535
  unfold db at*
  rw[if_neg ha]at*
  rw[if_neg (by omega),if_neg (by omega)]
  congr 1
  have:a+b-1=((a-1)%65535+1+b-1)+65535*((a-1)/65535):=by omega
  rw[this,Nat.add_mul_mod_self_left]
def cI (l:List UInt8):Nat:=65535-db (bY true l)
theorem nB (l:List UInt8):cI l<65536:=by unfold cI;omega
def ob (s bH now:Nat):Nat:=65535-db (65535-s+(65535-bH)+now)
theorem sW (s bH now:Nat):ob s bH now<65536:=by unfold ob;omega
def iB (s bH now:Nat):Nat:=ob (ob s (bH/65536) (now/65536)) (bH%65536) (now%65536)
theorem rl (s bH now:Nat):iB s bH now<65536:=sW _ _ _
def fP (src dst proto:Nat)(l:List UInt8):Nat:=cI (km src++km dst++[0,u8 proto]++ij l.length++l)
structure fh where
 size:Nat
 len:Nat
 eV:Nat
 proto:Nat
 src:Nat
 dst:Nat
def eY:fh:=⟨0,0,0,0,0,0⟩
abbrev cN (h:fh):List Value:=[.int .i64 (h.size:Int),.int .i64 (h.len:Int),.int .i64 (h.eV:Int),.int .i64 (h.proto:Int),.int .u32 (h.src:Int),.int .u32 (h.dst:Int)]
def bd (l:List UInt8):fh:=⟨b1 l 0%16*4,w2 l 2,b1 l 8,b1 l 9,w4 l 12,w4 l 16⟩
def dw (part:Bool)(l:List UInt8):Nat:=
 if l.length<20 then 2
 else if b1 l 0/16≠4∨b1 l 0%16*4<20 then 3
 else if l.length<b1 l 0%16*4 then 2
 else if w2 l 2<b1 l 0%16*4∨(w2 l 2>1500∧part=false)then 3
 else if l.length<w2 l 2∧part=false then 2
 else if part=false∧cI (l.take (b1 l 0%16*4))≠0 then 4
 else if w2 l 6%16384≠0 then 5
 else 0
def mX (part:Bool)(l:List UInt8):fh:=if dw part l=0 then bd l else eY
theorem zn {part:Bool}{l:List UInt8}(h:dw part l=0):20≤(bd l).size∧(bd l).size≤60∧(bd l).size≤l.length∧(bd l).size≤(bd l).len∧(part=false→(bd l).len≤1500∧(bd l).len≤l.length)∧mX part l=bd l:=by
 have e:mX part l=bd l:=by unfold mX;rw[if_pos h]
 rw[e]
 have hb:=dH l 0
 unfold dw at h
 unfold bd
 dsimp only
 repeat' split at h
 all_goals first|(exact absurd h (by decide))|skip
 rename_i h1 h2 h3 h4 h5 h6 h7
 refine⟨by omega,by omega,by omega,by omega,fun hp=>⟨?_,?_⟩,rfl⟩
 ·exact Nat.le_of_not_lt fun g=>h4 (.inr ⟨g,hp⟩)
 ·exact Nat.le_of_not_lt fun g=>h5 ⟨g,hp⟩
structure gQ where
 proto:Nat
 sp:Nat
 dp:Nat
 flags:Nat
 kind:Nat
 code:Nat
 err:Bool
 inner:fh
 pos:Nat
 bare:Bool
def bz:gQ:=⟨0,0,0,0,0,0,false,eY,0,false⟩
abbrev bV (p:gQ):List Value:=[.int .i64 (p.proto:Int),.int .u16 (p.sp:Int),.int .u16 (p.dp:Int),.int .i64 (p.flags:Int),.int .i64 (p.kind:Int),.int .i64 (p.code:Int),.bool p.err,.int .i64 (p.inner.size:Int),.int .i64 (p.inner.len:Int),.int .i64 (p.inner.eV:Int),.int .i64 (p.inner.proto:Int),.int .u32 (p.inner.src:Int),.int .u32 (p.inner.dst:Int),.int .i64 (p.pos:Int),.bool p.bare]
def pC (src dst:Nat)(x:List UInt8):Nat:=
 if x.length<8 then 2
 else if w2 x 4≠x.length then 3
 else if w2 x 6≠0∧fP src dst 17 x≠0 then 4
 else 0
def nk (x:List UInt8):gQ:={bz with proto:=17,sp:=w2 x 0,dp:=w2 x 2,bare:=decide (w2 x 6=0)}
def pz (src dst:Nat)(x:List UInt8):Nat:=
 if x.length<20 then 2
 else if b1 x 12/16*4<20∨b1 x 12/16*4>x.length then 3
 else if fP src dst 6 x≠0 then 4
 else 0
def r9 (x:List UInt8):gQ:={bz with proto:=6,sp:=w2 x 0,dp:=w2 x 2,flags:=b1 x 13}
def oV (y8:List UInt8):Nat:=
 if dw true y8≠0 then dw true y8
 else if y8.length-(bd y8).size<8∨(bd y8).len<(bd y8).size+8 then 3
 else if(bd y8).proto=17∨(bd y8).proto=6 then 0
 else if(bd y8).proto=1∧(b1 y8 (bd y8).size=0∨b1 y8 (bd y8).size=8)then 0
 else 6
def p9 (kind code DZ:Nat)(y8:List UInt8):gQ:=
 {bz with proto:=1,kind:=kind,code:=code,err:=true,inner:=bd y8,pos:=DZ+8,sp:=if(bd y8).proto=1 then w2 y8 ((bd y8).size+4)else w2 y8 (bd y8).size,dp:=if(bd y8).proto=1 then w2 y8 ((bd y8).size+4)else w2 y8 ((bd y8).size+2)}
def ur (k:Nat):Prop:=k=3∨k=11∨k=12
instance (k:Nat):Decidable (ur k):=inferInstanceAs (Decidable (_∨_))
def nI (x:List UInt8):Nat:=
 if x.length<8 then 2
 else if cI x≠0 then 4
 else if b1 x 0=0∨b1 x 0=8 then(if b1 x 1≠0 then 3 else 0)
 else if ur (b1 x 0)then oV (x.drop 8)
 else 6
def qp (DZ:Nat)(x:List UInt8):gQ:=
 if b1 x 0=0∨b1 x 0=8 then {bz with proto:=1,kind:=b1 x 0,code:=0,sp:=w2 x 4,dp:=w2 x 4}
 else p9 (b1 x 0) (b1 x 1) DZ (x.drop 8)
def mK (h:fh)(l:List UInt8):List UInt8:=(l.take h.len).drop h.size
def iG (h:fh)(l:List UInt8):Nat:=
 if h.proto=17 then pC h.src h.dst (mK h l)
 else if h.proto=6 then pz h.src h.dst (mK h l)
 else if h.proto=1 then nI (mK h l)
 else 6
def ll (h:fh)(l:List UInt8):gQ:=
 if h.proto=17 then nk (mK h l)
 else if h.proto=6 then r9 (mK h l)
 else qp h.size (mK h l)
def oy (h:fh)(l:List UInt8):gQ:=if iG h l=0 then ll h l else bz
def oL (l:List UInt8)(head place addr:Nat):List UInt8:=
 let l1:=st2 (st2 l place (addr/65536)) (place+2) (addr%65536)
 st2 l1 (head+10) (iB (w2 l1 (head+10)) (w4 l place) addr)
def xv (s:Nat):Nat:=if s=0 then 65535 else s
def sR (l:List UInt8)(pos id:Nat):List UInt8:=st2 (st2 l (pos+4) id) (pos+2) (xv (ob (w2 l (pos+2)) (w2 l (pos+4)) id))
def uT (pos:Nat)(src:Bool):Nat:=if src then pos else pos+2
def qA (pos proto:Nat):Nat:=if proto=17 then pos+6 else pos+16
def uo (l1:List UInt8)(pos proto Mm port bH addr:Nat):List UInt8:=
 if l1.length<qA pos proto+2∨(proto=17∧w2 l1 (qA pos proto)=0)then l1
 else st2 l1 (qA pos proto) (if proto=17 then xv (ob (iB (w2 l1 (qA pos proto)) bH addr) Mm port)else ob (iB (w2 l1 (qA pos proto)) bH addr) Mm port)
def oQ (l:List UInt8)(pos proto:Nat)(src:Bool)(port bH addr:Nat):List UInt8:=uo (st2 l (uT pos src) port) pos proto (w2 l (uT pos src)) port bH addr
def mL (l:List UInt8)(pos proto:Nat)(src:Bool)(port bH addr:Nat):List UInt8:=if proto=1 then sR l pos port else oQ l pos proto src port bH addr
def iU (out:Bool):Nat:=if out then 12 else 16
def Au (h:fh)(p:gQ)(l:List UInt8)(out:Bool)(addr port:Nat):List UInt8:=
 let b:=l.take h.len
 let b1:=oL b 0 (iU out) addr
 if p.err then
  let b2:=mL (oL b1 p.pos (p.pos+iU (!out)) addr) (p.pos+p.inner.size) p.inner.proto (!out) port (w4 b1 (p.pos+iU (!out))) addr
  let b3:=st2 b2 (h.size+2) 0
  st2 b3 (h.size+2) (cI (b3.drop h.size))
 else mL b1 h.size h.proto out port (w4 b (iU out)) addr
def dz (l:List UInt8):Nat:=if dw false l=0 then iG (bd l) l else dw false l
def jf (l:List UInt8)(out:Bool)(addr port:Nat):List UInt8:=if dz l=0 then Au (bd l) (ll (bd l) l) l out addr port else []
def yR (s:Nat)(out:Bool):Nat:=if s≤1 then(if out then 2 else 3)else if(s=2∧out=false)∨(s=3∧out=true)then 4 else s
def iF (proto s:Nat)(out:Bool)(flags:Nat):Nat:=
 if proto≠6 then 0
 else if flags/4%2=1 then 4
 else if flags%2=1 then yR s out
 else if(flags/2%2=1∧flags/16%2=0)∧out=true∧s=4 then 0
 else if flags/16%2=1∧out=false∧s=0 then 1
 else s
theorem Ez {proto s flags:Nat}{out:Bool}(h:s≤4):iF proto s out flags≤4:=by
 unfold iF yR
 repeat' split
 all_goals omega
def nJ (proto s:Nat):Nat:=if proto=17 then 120 else if proto=1 then 60 else if proto=6 then(if s=1 then 7440 else 240)else 0
def mi (proto:Nat)(out:Bool):Bool:=proto==6||(out&&(proto==17||proto==1))
def lJ (proto kind flags:Nat):Bool:=proto==17||(proto==6&&(flags/2%2==1&&flags%2==0&&flags/4%2==0&&flags/16%2==0))||(proto==1&&kind==8)
end
end Go.Proofs.YtakbmjoijcpdmaaGreatDoor
