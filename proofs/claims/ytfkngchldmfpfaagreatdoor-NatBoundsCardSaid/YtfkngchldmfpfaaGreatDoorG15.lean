/-
  A part of a proof, joined by a program (wip/bundle3.py).
-/
import Derived.WalkKit
import Derived.Deep.RegionWith
import Derived.Shelf.SlSortCmp.NoneTotal
import Derived.Test.YtfkngchldmfpfaaGreatDoorG3
import Derived.Test.YtfkngchldmfpfaaGreatDoorG6
import Derived.Test.YtfkngchldmfpfaaGreatDoorG7
import Derived.Test.YtfkngchldmfpfaaGreatDoorG8
import Derived.Test.YtfkngchldmfpfaaGreatDoorG9
import Derived.Test.YtfkngchldmfpfaaGreatDoorG10
import Derived.Test.YtfkngchldmfpfaaGreatDoorG11
import Derived.Test.YtfkngchldmfpfaaGreatDoorG12
import Derived.Test.YtfkngchldmfpfaaGreatDoorG13
import Derived.Test.YtfkngchldmfpfaaGreatDoorG14
set_option linter.unusedVariables false
set_option linter.unusedSimpArgs false
namespace Go.Proofs.YtfkngchldmfpfaaGreatDoor
section
open Go.RowKit Go.Sort
theorem Pw (b:Nat)(x y:Int)(w:World)(h0:w.cell? ⟨b,0,none⟩=some (.int .i64 x))(h1:w.cell? ⟨b,1,none⟩=some (.int .i64 y)):
  Calls Tryz.prog 233 #[.slice (some ⟨b,0,none⟩) 2 2] w fun e w'=>e= .returned (.int .i64 (if x=0 then y else x))∧w'=w:=by
 obtain⟨r,hr⟩:∃r:Int,r=if x=0 then y else x:=⟨_,rfl⟩
 rw[←hr]
 have HR:=Lib.hid hr
 clear hr
 go_enter Tryz.func233,Tryz.ntmps233
 go_wp2
 go_loop [8] (fun i=>∃k:Nat,k≤2∧i= .int .i64 k∧(0<k→x=0)∧(1<k→y=0)) (fun i=>2-(intOf i).toNat)
 case atStart=>exact⟨0,Nat.zero_le _,rfl,by omega,by omega⟩
 case round=>
  obtain⟨k,hk,rfl,k0,k1⟩:=hrel
  have D5:k=0∨k=1∨k=2:=by omega
  rcases D5 with rfl|rfl|rfl
  ·go_wp2
   ·have hx:(x !=0)=true:=by assumption
    have hx:x≠0:=by simpa using hx
    go_ret
    exact⟨by rw[HR.out,if_neg hx];rfl,rfl⟩
   ·have hx:(x !=0)=false:=by assumption
    have hx:x=0:=by simpa using hx
    go_round
    case rel=>exact⟨1,by omega,rfl,fun _=>hx,by omega⟩
    case measure=>decide
  ·go_wp2
   ·go_ret
    exact⟨by rw[HR.out,if_pos (k0 (by omega))];rfl,rfl⟩
   ·have hy:(y !=0)=false:=by assumption
    have hy:y=0:=by simpa using hy
    go_round
    case rel=>exact⟨2,by omega,rfl,fun _=>k0 (by omega),fun _=>hy⟩
    case measure=>decide
  ·go_wp2
   go_ret
   exact⟨by rw[HR.out,if_pos (k0 (by omega)),k1 (by omega)];rfl,rfl⟩
def sL (a b:aZ):Int:=if Lib.compareInt (a.at_:Int) (b.at_:Int)=0 then Lib.compareInt (a.av:Int) (b.av:Int)else Lib.compareInt (a.at_:Int) (b.at_:Int)
section
variable {X:Cx} {k:List KI} {σ:Env} {S:World→Prop}
def KW (X:Cx)(S:World→Prop)(k:List KI)(σ:Env):Prop:=∀a w,Fits X.N a σ→S w→run X.P X.R k .normal a w
def LW (X:Cx)(S:World→Prop)(k:List KI)(ops l:List Oper)(σ:Env):Prop:=∀a w,Fits X.N a σ→S w→wpList X.P ops.toArray (run X.P X.R k) l a w
def SW (X:Cx)(S:World→Prop)(ops l:List Oper)(σ:Env)(Z:Act→Prop):Prop:=∀a,Fits X.N a σ→vd X.P ops.toArray S Z l a
theorem CH {x y:Code}(h:KW X S (.code x:: .code y::k) σ):KW X S (.code (.seq x y)::k) σ:=fun a w ha hs=>wp_seq (h a w ha hs)
theorem G5 (h:KW X S k σ):KW X S (.code .skip::k) σ:=fun a w ha hs=>wp_skip (h a w ha hs)
theorem Ob {id:Nat}{ops:List Oper}(h:LW X S k ops ops σ):KW X S (.code (.region id ops.toArray false)::k) σ:=fun a w ha hs=>wp_region_lit (h a w ha hs)
theorem Oa {id:Nat}{ops pre jt:List Oper}(n:Nat)(hm:X.P.follows .mixedOrders=true)(hB:Region.lexTailB .any ops.toArray n=true)(hd:∀w,S w→S w.drew)(hp:ops.take n=pre)(EB:ops.drop n=jt)
  (h:SW X S ops pre σ (fun a=>∀w,S w→wpList X.P ops.toArray (run X.P X.R k) jt a w)):KW X S (.code (.region id ops.toArray true)::k) σ:=
 fun a w ha hs=>MM (S:=S) n hm hB hd hs (by rw[hp,EB];exact h a ha)
theorem PN {ops jt:List Oper}(h:LW X S k ops jt σ):SW X S ops [] σ (fun a=>∀w,S w→wpList X.P ops.toArray (run X.P X.R k) jt a w):=fun a ha w hs=>h a w ha hs
theorem G7 {ops:List Oper}(h:KW X S k σ):LW X S k ops [] σ:=fun a w ha hs=>h a w ha hs
theorem Oe {S':World→Prop}{ops l:List Oper}(hS:∀w,S w→S' w)(h:LW X S' k ops l σ):LW X S k ops l σ:=fun a w ha hs=>h a w ha (hS w hs)
variable {ops l:List Oper} {Z:Act→Prop} {d:Nat} {v:Value} {op:Op} {ty:TypeId} {pos:String} {aft:Array Edge} {H:SL}
theorem pW (mg:∀w,S w→Sat X.W w H)(hv:an X σ H ⟨some d,op,ty,pos,aft,none⟩ v)(hd:Nat.blt d X.N=true)(h:SW X S ops l ((d,v)::σ) Z):
  SW X S ops (⟨some d,op,ty,pos,aft,none⟩::l) σ Z:=
 fun a ha=>⟨v,.inl ⟨rfl,fun w hs=> .inl ⟨w,hv a w ha (mg w hs),hs⟩⟩,h _ (ha.put hd v)⟩
theorem Hp {f:FuncId}[ak X.P f]{args:Array Operand}{ats:Array TypeId}{vs:List Value}(iH:bW σ args.toList=some vs)(hd:Nat.blt d X.N=true)
  (hc:∀w,S w→Calls X.P f vs.toArray w (fun e w'=>e= .returned v∧S w')) (h:SW X S ops l ((d,v)::σ) Z):
  SW X S ops (⟨some d,.call {callee:= .value (.func f),args:=args,argTypes:=ats},ty,pos,aft,none⟩::l) σ Z:=
 fun a ha=>⟨v,.inl ⟨rfl,fun w hs=> .inr (.inr ⟨f,vs.toArray,w,u0 ha iH,hc w hs⟩)⟩,h _ (ha.put hd v)⟩
theorem G8 (mg:∀w,S w→Sat X.W w H)(hv:an X σ H ⟨some d,op,ty,pos,aft,none⟩ v)(hd:Nat.blt d X.N=true)(h:LW X S k ops l ((d,v)::σ)):
  LW X S k ops (⟨some d,op,ty,pos,aft,none⟩::l) σ:=by
 intro a w ha hs
 refine wpList_plain rfl fun K hK=> ?_
 unfold Oper.wp
 rw[hv a w ha (mg w hs)]
 exact hK _ _ (h _ _ (ha.put hd v) hs)
theorem Od {f:FuncId}[ak X.P f]{S':World→Prop}{args:Array Operand}{ats:Array TypeId}{vs:List Value}(iH:bW σ args.toList=some vs)(hd:Nat.blt d X.N=true)
  (hc:∀w,S w→Calls X.P f vs.toArray w (fun e w'=>e= .returned v∧S' w')) (h:LW X S' k ops l ((d,v)::σ)):
  LW X S k ops (⟨some d,.call {callee:= .value (.func f),args:=args,argTypes:=ats},ty,pos,aft,none⟩::l) σ:=by
 intro a w ha hs
 refine wpList_plain rfl fun K hK=> ?_
 unfold Oper.wp
 rw[u0 ha iH,Oper.upon_enter]
 refine(hc w hs).mono ?_
 rintro e w' ⟨rfl,fH⟩
 exact hK _ _ (h _ _ (ha.put hd _) fH)
theorem CJ {g:Nat→Value}{o:Go.Obj}{B:Nat}(hB:∀w,S w→w.heap.size=B)(hv:∀a w,Fits X.N a σ→(execOp a.eval ⟨some d,op,ty,pos,aft,none⟩).run X.P w= .ok (.value (g w.heap.size)) (w.alloc o))(hd:Nat.blt d X.N=true)
  (h:LW X (fun w'=>∃w,S w∧w'=w.alloc o) k ops l ((d,g B)::σ)):LW X S k ops (⟨some d,op,ty,pos,aft,none⟩::l) σ:=by
 intro a w ha hs
 refine wpList_plain rfl fun K hK=> ?_
 unfold Oper.wp
 rw[hv a w ha,hB w hs]
 exact hK _ _ (h _ _ (ha.put hd _) ⟨w,hs,rfl⟩)
theorem LK {t:TypeId}{x:Operand}{v:Value}{cs:List Value}(hx:ev σ x=some v)(hv:vD v=some cs)(a:Act)(w:World)(ha:Fits X.N a σ):
  (execOp a.eval ⟨some d,.box t x,ty,pos,aft,none⟩).run X.P w= .ok (.value (.pointer (some ⟨w.heap.size,0,none⟩))) (w.alloc (.cells cs.toArray t)):=by
 obtain rfl:=Aa hv
 have hc:v.cells=(gR v).toArray:=by rw[←qd,Array.toArray_toList]
 simp only[execOp,ha.eval hx]
 simp[Instr.box,newVar,newRow,go_sem]
 exact congrArg (fun c=>w.alloc (.cells c t)) hc
theorem XG {t e sz cL n:Nat}{z vs:List Value}{parts:Array (Nat×Operand)}[s:eY X.P t e sz cL z](hv:vB σ sz 0 parts.toList=some vs)(hn:Nat.beq vs.length (n*sz)=true)(qy:n≤65536)(du:sz≤256)(a:Act)(w:World)(ha:Fits X.N a σ):
  (execOp a.eval ⟨some d,.buildSlice t n parts,ty,pos,aft,none⟩).run X.P w= .ok (.value (.slice (some ⟨w.heap.size,0,none⟩) n n)) (w.alloc (.cells vs.toArray e)):=by
 obtain⟨i,v,hi,hz,pA,jm,v7⟩:=s.parts
 have hn:=Nat.eq_of_beq_eq_true hn
 have hmul:n*sz≤65536*256:=Nat.mul_le_mul qy du
 have key:∀cs:Array Value,cs.size=n*sz→Instr.fill (fun i=>some (i*sz,sz)) cs (parts.toList.map fun(q:Nat×Operand)=>(q.1,a.eval q.2))=some vs.toArray:=fun cs qs=>by
  have:=Dt (P:=fun i=>some (i*sz,sz)) (fun _=>rfl) ha rfl parts.toList 0 vs [] cs.toList hv (by simp) (by rw[Array.length_toList];omega)
  simpa using this
 have D9:¬(16777216<n*sz):=by omega
 have rK:(zeroValue e).run X.P w= .ok v w:=by simp[zeroValue,typeInfo,hi,hz,go_sem]
 have fg:(sizeOf e).run X.P w= .ok sz w:=by simp[sizeOf,typeInfo,hi,pA,go_sem]
 simp only[execOp]
 generalize a.eval=ρ at key ⊢
 by_cases h0:n*sz=0
 ·simp[Instr.buildSlice,run_underlying s.under,fg,h0,newRow,go_sem]
  rw[key #[] (by simp[h0])]
  simp[go_sem]
 ·simp[Instr.buildSlice,run_underlying s.under,fg,h0,D9,newRow,rK,go_sem]
  rw[key _ (by simp)]
  simp[go_sem]
theorem Oc {P:Program}{N:Nat}{W:World}{fn:Func}{K:Ending→World→Prop}{t:Nat}{v:Value}(hf:fn.results= #[.tmp t])(ht:σ.get t=some v)(h:∀w,S w→K (.returned v) w):KW ⟨P,N,W,bodyPost P fn K⟩ S (.code .ret::k) σ:=fun a w ha hs=>wp_ret (by
 show run _ _ k .ret a w
 rw[y5]
 exact⟨ha.defers,_,LF ha hf ht,h w hs⟩)
theorem QR {P:Program}{f:FuncId}{fn:Func}{c:Code}{N:Nat}{W w:World}{K:Ending→World→Prop}{vs:List Value}(hf:P.funcs[f]? =some fn)(hb:fn.body=some c)(hn:fn.ntmps=N)(hl:Nat.ble vs.length N=true)(hs:S w)
  (h:KW ⟨P,N,W,bodyPost P fn K⟩ S [.code c] (vw 0 vs)):Calls P f vs.toArray w K:=by
 subst hn
 have hl:=Nat.le_of_ble_eq_true hl
 refine calls_of_wp hf hb ?_
 refine wp_mono (h _ w ⟨?_,rfl,fun t v ht=> ?_⟩ hs) (fun e a w q=>q)
 ·simp;omega
 ·obtain⟨_,h2⟩:=C4 _ _ _ _ ht
  rw[Nat.sub_zero]at h2
  have ht:t<vs.length:=(List.getElem?_eq_some_iff.1 h2).1
  rw[Array.getElem?_append_left (by simpa using ht)]
  simpa using h2
end
theorem H5 (w:World)(cs:Array Value)(e:TypeId)(B j:Nat)(hB:w.heap.size=B):(w.alloc (.cells cs e)).cell? ⟨B,j,none⟩=cs[j]? :=by
 subst hB
 unfold World.cell?
 rw[heap_alloc_new]
 simp
theorem Qh (w:World)(q:Nat)(a b c:Go.Obj):(((w.alloc a).alloc b).drewN q).alloc c=grow (w.drewN q) #[a,b,c]:=by
 cases w
 simp only[World.alloc,World.drewN,grow]
 congr 1
theorem WW (x y:aZ)(w:World):Calls Tryz.prog 183 #[.agg (iO x).toArray,.agg (iO y).toArray] w fun e w'=>e= .returned (.int .i64 (sL x y))∧∃q BE,w'=grow (w.drewN q) BE:=by
 have Ji:=fun w'=>Tryz.cmp_Compare_int (x.at_:Int) (y.at_:Int) w'
 have Ts:=fun w'=>Tryz.cmp_Compare_int (x.av:Int) (y.av:Int) w'
 have JR:=fun b w' h0 h1=>Pw b (Lib.compareInt (x.at_:Int) (y.at_:Int)) (Lib.compareInt (x.av:Int) (y.av:Int)) w' h0 h1
 obtain⟨r,hr⟩:∃r,sL x y=r:=⟨_,rfl⟩
 rw[hr]
 unfold sL at hr
 rw[hr]at JR
 clear hr
 simp only[iO]
 generalize Lib.compareInt (x.at_:Int) (y.at_:Int)=c1 at*
 generalize Lib.compareInt (x.av:Int) (y.av:Int)=c2 at*
 refine QR (S:=fun w'=>w'=w) (W:=w) (vs:=[.agg #[_,_,_],.agg #[_,_,_]]) Tryz.func183 rfl Tryz.ntmps183 rfl rfl ?_
 refine CH ?_
 repeat(first|refine CH ?_ |refine G5 ?_)
 refine Ob ?_
 refine CJ (g:=fun B=> .pointer (some ⟨B,0,none⟩)) (B:=w.heap.size) (fun _ h=>by rw[h]) (fun a w ha=>LK rfl rfl a w ha) rfl ?_
 refine CJ (g:=fun B=> .pointer (some ⟨B,0,none⟩)) (B:=w.heap.size+1) (fun _ h=>by obtain⟨_,rfl,rfl⟩:=h;simp) (fun a w ha=>LK rfl rfl a w ha) rfl ?_
 generalize uO:(w.alloc (.cells #[.int .i64 x.id,.int .i64 (x.at_:Int),.int .i64 (x.av:Int)] 258)).alloc (.cells #[.int .i64 y.id,.int .i64 (y.at_:Int),.int .i64 (y.av:Int)] 258)=w1
 refine Oe (S':=fun w'=>∃q,w'=w1.drewN q) (fun w' h=>by
  obtain⟨_,⟨_,rfl,rfl⟩,rfl⟩:=h
  exact⟨0,by rw[←uO];rfl⟩) ?_
 have pA:w1.heap.size=w.heap.size+2:=by rw[←uO];simp
 have Tj:Sat w w1 (Obj (some ⟨w.heap.size+1,0,none⟩) 258 [.int .i64 y.id,.int .i64 (y.at_:Int),.int .i64 (y.av:Int)]*(Obj (some ⟨w.heap.size,0,none⟩) 258 [.int .i64 x.id,.int .i64 (x.at_:Int),.int .i64 (x.av:Int)]*1)):=by
  have h1:=(Sat.start w).newObj 258 [.int .i64 x.id,.int .i64 (x.at_:Int),.int .i64 (x.av:Int)]
  have h2:=h1.newObj 258 [.int .i64 y.id,.int .i64 (y.at_:Int),.int .i64 (y.av:Int)]
  rw[←uO]
  simpa using h2
 have mg:∀w',(∃q,w'=w1.drewN q)→Sat w w' (Obj (some ⟨w.heap.size+1,0,none⟩) 258 [.int .i64 y.id,.int .i64 (y.at_:Int),.int .i64 (y.av:Int)]*(Obj (some ⟨w.heap.size,0,none⟩) 258 [.int .i64 x.id,.int .i64 (x.at_:Int),.int .i64 (x.av:Int)]*1)):=by
  rintro _ ⟨q,rfl⟩
  exact Tj.Bm (Nat.le_refl _) rfl rfl rfl (fun _ _=>rfl)
 refine G8 mg (gQ rfl) rfl ?_
 refine G7 ?_
 repeat(first|refine CH ?_ |refine G5 ?_)
 have DS:∀w',(∃q,w'=w1.drewN q)→∃q,w'.drew=w1.drewN q:=by
  rintro _ ⟨q,rfl⟩
  exact⟨q+1,rfl⟩
 refine Oa 12 rfl (by kernel_rfl) DS rfl rfl ?_
 refine pW mg (eX rfl rfl) rfl ?_
 refine pW mg (eX rfl rfl) rfl ?_
 refine pW mg (oc rfl rfl rfl) rfl ?_
 refine pW mg (eX rfl rfl) rfl ?_
 refine pW mg (eX rfl rfl) rfl ?_
 refine pW mg (oc rfl rfl rfl) rfl ?_
 refine Hp (v:= .int .i64 c1) rfl rfl (fun w' h=>(Ji w').mono ?_) ?_
 ·rintro e zh ⟨rfl,rfl⟩
  exact⟨rfl,h⟩
 refine pW mg (eX rfl rfl) rfl ?_
 refine pW mg (oc rfl rfl rfl) rfl ?_
 refine pW mg (eX rfl rfl) rfl ?_
 refine pW mg (oc rfl rfl rfl) rfl ?_
 refine Hp (v:= .int .i64 c2) rfl rfl (fun w' h=>(Ts w').mono ?_) ?_
 ·rintro e zh ⟨rfl,rfl⟩
  exact⟨rfl,h⟩
 refine PN ?_
 have fg:∀w',(∃q,w'=w1.drewN q)→w'.heap.size=w.heap.size+2:=by
  rintro _ ⟨q,rfl⟩
  exact pA
 refine CJ (g:=fun B=> .slice (some ⟨B,0,none⟩) 2 2) (B:=w.heap.size+2) fg (fun a w ha=>XG rfl rfl (by decide) (by decide) a w ha) rfl ?_
 refine Od (S':=fun w'=>∃q BE,w'=grow (w.drewN q) BE) (v:= .int .i64 r) rfl rfl (fun w' h=> ?_) ?_
 ·obtain⟨_,⟨q,rfl⟩,rfl⟩:=h
  refine(JR _ _ ?_ ?_).mono ?_
  ·rw[H5 _ _ _ _ _ (by exact pA)];rfl
  ·rw[H5 _ _ _ _ _ (by exact pA)];rfl
  ·rintro e zh ⟨rfl,rfl⟩
   refine⟨rfl,q, #[.cells #[.int .i64 x.id,.int .i64 (x.at_:Int),.int .i64 (x.av:Int)] 258,.cells #[.int .i64 y.id,.int .i64 (y.at_:Int),.int .i64 (y.av:Int)] 258,.cells #[.int .i64 c1,.int .i64 c2] 3],?_⟩
   rw[←uO]
   exact Qh _ _ _ _ _
 refine G8 (H:=1) (fun w' h=> ?_) (gQ rfl) rfl ?_
 ·obtain⟨q,BE,rfl⟩:=h
  exact(Sat.start w).Bm (by simp[grow]) rfl rfl rfl (fun k hk=>by simp[grow];exact Array.getElem?_append_left hk)
 refine G7 ?_
 refine Oc rfl rfl (fun w' h=>⟨rfl,h⟩)
end
section
open Go.RowKit Go.Sort Go.Lib
variable {W:World} {F:SL}
instance :Inhabited aZ:=⟨oa⟩
theorem Bt (x y:aZ):ltOf sL x y=ud x y:=by
 unfold ltOf ud sL
 congr 1
 unfold Lib.compareInt
 apply propext
 constructor
 ·intro h
  split at h<;>(repeat' split at h)<;>omega
 ·intro h
  split<;>(repeat' split)<;>omega
theorem Ys:SWO (ltOf sL) where
 irrefl x:=by rw[Bt];simp[ud]
 trans x y z h1 h2:=by
  rw[Bt]at*
  simp only[ud,decide_eq_true_eq]at*
  omega
 ntrans x y z h1 h2:=by
  rw[Bt]at*
  simp only[ud,decide_eq_false_iff_not]at*
  omega
theorem IM (l:List aZ):flatK iO 3 l.toArray=(cS l).toArray:=by
 have hl:=xK l
 refine ext_get! (by simp[hl]) fun t ht=> ?_
 have A9:t<l.length*3:=by simpa using ht
 rw[get_flatK _ _ _ t (by simpa using A9)]
 have hi:t/3<l.length:=by omega
 have hj:t%3<3:=Nat.mod_lt _ (by decide)
 have e1:l.toArray[t/3]! =l.getD (t/3) oa:=by
  rw[getElem!_pos l.toArray (t/3) (by simpa using hi),List.getD_eq_getElem?_getD,List.getElem?_eq_getElem hi]
  simp
 rw[e1]
 have hw:(iO (l.getD (t/3) oa)).length=3:=rfl
 have h2:=Dm (l:=l) (i:=t/3) (j:=t%3) (v:=(iO (l.getD (t/3) oa))[t%3]!) hi (by
  rw[getElem!_pos _ (t%3) (by rw[hw];exact hj),List.getElem?_eq_getElem (by rw[hw];exact hj)])
 rw[show t/3*3+t%3=t by omega]at h2
 have h3:t<(cS l).toArray.size:=by simpa[hl]using A9
 rw[getElem!_pos (cS l).toArray t h3]
 have h4:=List.getElem?_eq_some_iff.1 h2
 obtain⟨h5,h6⟩:=h4
 simpa using h6.symm
theorem Yc {l:List aZ}{d:Array aZ}(hp:PermIn 0 l.toArray.size l.toArray d)(hs:SortedIn (ltOf sL) 0 l.toArray.size d)(ht:iE l):d.toList=iZ l:=by
 obtain⟨h1,_,h3⟩:=hp
 have uj:d.size=l.length:=by simpa using h1
 have DH:d.toList.Perm l:=by
  have e1:(d.extract 0 l.toArray.size)=d:=by
   rw[←h1];simp
  have e2:(l.toArray.extract 0 l.toArray.size)=l.toArray:=by simp
  rw[e1,e2]at h3
  simpa using h3
 refine Yg ht DH ?_
 rw[List.pairwise_iff_getElem]
 intro i j hi hj yl
 have pv:i<d.size:=by simpa using hi
 have oD:j<d.size:=by simpa using hj
 have:=hs i j (Nat.zero_le _) yl (by simp;omega)
 rw[Bt,getElem!_pos d j oD,getElem!_pos d i pv]at this
 simp only[rm,Array.getElem_toList,this,Bool.not_false]
theorem PT (p:Option Addr)(n c:Nat)(l:List aZ)(ht:iE l)(Ez:l.length≤1000000):
  Spec Tryz.prog 182 [.slice p n c,.func (.func 183) #[] #[]] W (ad 258 3 p n c (cS l)*F) (fun _:Unit=> .tuple #[]) (fun _=>ad 258 3 p n c (cS (iZ l))*F):=by
 intro w h
 obtain⟨⟨hl,hc,hm⟩,⟨_,AH,hs⟩|⟨g,o,cur,rfl,h2,h3,hs⟩⟩:=ad.open h
 ·have hn:n=0:=by omega
  subst hn
  have yr:l=[]:=by
   rw[xK]at hl
   exact List.eq_nil_of_length_eq_zero (by omega)
  subst yr
  refine(AnyF.slices_SortFunc_none Tryz.L2 p c (.func (.func 183) #[] #[]) w).mono ?_
  rintro e w' ⟨rfl,rfl⟩
  exact⟨(),rfl,by rw[Yf];exact h⟩
 ·have T2:l.length=n:=by
   rw[xK]at hl;omega
  subst T2
  have hH:HoldsK iO 3 w g o l.toArray:=by
   unfold HoldsK
   rw[IM]
   intro j hj
   have oD:j<(cS l).length:=by simpa using hj
   refine⟨?_,hs.free _⟩
   rw[getElem!_pos (cS l).toArray j hj,hs.cell]
   have e1:(List.take (l.length*3) (List.drop o cur))[j]? =(cS l)[j]? :=by rw[h3]
   rw[List.getElem?_take,if_pos (by omega),List.getElem?_drop]at e1
   rw[List.getElem?_toArray,e1,List.getElem?_eq_getElem oD]
   simp
  have hlen:l.length<4611686018427387904:=by omega
  have du:l.toArray.size=l.length:=by simp
  have Jk:=AnyQ.slices_SortFunc Tryz.L2 3 Tryz.isAgg258 Tryz.sizeOf258 iO (fun _=>rfl) (fun x v hv=>by simp[iO]at hv;rcases hv with rfl|rfl|rfl<;>rfl) sL Ys 183 #[] g o c l.toArray w
   (ak.runs) (fun _ _ _ _ x y=>WW x y _) hH hs.lt (by rw[du];exact hlen)
  rw[du]at Jk
  refine Jk.mono ?_
  rintro e w' ⟨rfl,d,m,os,hp,Uq,rfl⟩
  have hd:=Yc (l:=l) (d:=d) (by rw[du];exact hp) (by rw[du];exact Uq) ht
  have jE:d=(iZ l).toArray:=by rw[←hd]
  subst jE
  refine⟨(),rfl,?_⟩
  have TL:=IM (iZ l)
  have kY:(cS (iZ l)).length=l.length*3:=by rw[xK,B3]
  have hg:=hs.get
  have hw:Sat W (sortWorldK iO 3 w g o m (iZ l).toArray os) (SL.cO g (.cells (putCells id o (cS (iZ l)).toArray cur.toArray).toList.toArray 258 (0,0))*F):=by
   refine hs.write ?_ rfl rfl rfl ?_ ?_
   ·simp[sortWorldK,Go.Sort.grow,putRowK,Go.Sort.ahead]
   ·intro k hk D7
    simp only[sortWorldK,Go.Sort.grow,putRowK,putRow,mapBlock]
    rw[Array.getElem?_append_left (by simpa[Go.Sort.ahead]using hk),Array.getElem?_modify,if_neg (Ne.symm D7)]
    rfl
   ·simp only[sortWorldK,Go.Sort.grow,putRowK,putRow,mapBlock,TL]
    rw[Array.getElem?_append_left (by simpa[Go.Sort.ahead]using hs.lt),Array.getElem?_modify,if_pos rfl]
    have:(Go.Sort.ahead w m).heap=w.heap:=rfl
    rw[this,hg]
    rfl
  refine ad.shut (o:=o) hc hm ?_ ?_ hw
  ·simpa[putCells]using h2
  ·apply List.ext_getElem?
   intro j
   rw[List.getElem?_take,List.getElem?_drop]
   have hle:l.length*3≤c*3:=Nat.mul_le_mul_right _ hc
   split
   ·rename_i hj
    simp only[putCells,Array.getElem?_toList,Array.getElem?_mapIdx,List.getElem?_toArray]
    have bY:o+j<cur.length:=by omega
    rw[List.getElem?_eq_getElem bY,List.getElem?_eq_getElem (by rw[kY];exact hj)]
    simp only[Option.map_some]
    rw[if_pos ⟨by omega,by simp[kY];omega⟩]
    congr 1
    rw[show o+j-o=j by omega,getElem!_pos _ j (by simp[kY];exact hj)]
    simp
   ·rw[List.getElem?_eq_none (by rw[kY];omega)]
end
section
open Go.RowKit
set_option maxRecDepth 10000
attribute [local irreducible] EK EX ER EN EL ES EG an aR aU
variable {W:World} {F:SL} {X:Cx} {k:List KI} {σ:Env}
theorem E6 (l:List aZ):(na l).length=l.length:=by simp[na]
theorem Kf (p:Option Addr)(n c:Nat)(l:List aZ)(hl:l.length=n)(ht:iE l)(Ez:n≤100000):
  Spec Tryz.prog 136 [.slice p n c] W (ad 258 3 p n c (cS l)*F) (fun q:az=> .slice q.1 n q.2) (fun q=>ad 194 2 q.1 n q.2 (cN (na (iZ l)))*F):=by
 subst hl
 have hs:=B3 l
 refine Spec.of Tryz.func136 rfl Tryz.ntmps136 rfl ?_
 refine aa ?_;intros
 refine af rfl (PT p l.length c l ht (by omega)) ?_
 intro
 generalize iZ l=m at*
 refine aa ?_;intros
 refine fy (γ:=az×Nat) (fun g=>g.2≤l.length) (fun g=>[(3,.slice g.1.1 g.2 g.1.2),(8,.slice p l.length c),(9,.int .i64 (l.length:Int)),(10,.int .i64 (g.2:Int))])
  (fun g=>ad 194 2 g.1.1 g.2 g.1.2 (cN ((na m).take g.2))*(ad 258 3 p l.length c (cS m)*F)) (fun g=>l.length-g.2) ((none,0),0) (Nat.zero_le _) ⟨rfl,rfl,rfl,rfl,trivial⟩ (U.sat (U.none (U.refl _))) ?_
 intro ⟨q,i⟩ hi;dsimp only at hi ⊢
 refine aa ?_;intros
 refine iB rfl (fun bY=> ?_) (fun mU=> ?_)
 ·refine aa ?_;intros
  rename_i q2
  have hm:i<m.length:=by omega
  refine cJ (q2,i+1) (by dsimp only;omega) (by dsimp only;omega) ⟨rfl,rfl,rfl,rfl,trivial⟩ (U.sat (U.row q2.1 rfl ?_ ?_))
  ·rw[←tv (d:=(0,0)) (l:=na m) (by rw[E6];exact hm),←UY]
   congr 1
   have e1:(na m).getD i (0,0)=(m.getD i oa).item:=by
    simp only[na,List.getD_eq_getElem?_getD,List.getElem?_map,List.getElem?_eq_getElem hm,Option.map_some,Option.getD_some]
   rw[e1];rfl
  ·repeat(first|exact U.last|refine U.cons ?_ |refine U.assoc ?_)
 ·have e:i=l.length:=by omega
  subst e
  refine aa ?_;intros
  refine ae (aj rfl rfl q rfl (U.sat (U.row q.1 rfl (by rw[List.take_of_length_le (by rw[E6];omega)]) ?_)))
  repeat(first|exact U.last|refine U.cons ?_ |refine U.assoc ?_)
theorem YS {R A l:List aZ}(ht:iE l)(hp:(R++A).Perm l):iE R:=by
 have h:=ht.perm hp
 unfold iE at*
 rw[List.map_append]at h
 exact(List.nodup_append.1 h).1
theorem RG {s:cz}{t:Nat}(h:kS s)(ht:s.now<t)(mn:t<4294967296):kS ⟨t,s.av,[],(fB (idx s.now t) s.sl []).2⟩:=by
 have kY:=Av (idx s.now t) s.sl []
 refine⟨mn,fun x hx=>by simp at hx,fun k hk x hx=> ?_⟩
 dsimp only at hx ⊢
 rw[kY k]at hx
 split at hx
 ·simp at hx
 ·rename_i nN
  obtain⟨q1,q2,q3⟩:=h.sl k hk x hx
  have hl:=(yL q2 h.now (show x.at_≠s.now by omega)).1
  have hn:dg x.at_ (fI x.at_ s.now)∉qI (fI x.at_ s.now) s.now t:=fun hm=>by
   refine nN (List.mem_flatMap.2 ⟨fI x.at_ s.now,List.mem_range.2 (by omega),List.mem_map.2 ⟨_,hm,?_⟩⟩)
   rw[←q3];rfl
  obtain⟨r1,r2⟩:=stays q2 mn q1 hn
  refine⟨r1,q2,?_⟩
  rw[←q3]
  unfold spot
  rw[r2]
set_option maxHeartbeats 1600000 in
theorem Nq (p:Option Addr)(s:cz)(n:Int)(hg:jx s)(hn:s.all.length≤300):
  Spec Tryz.prog 87 [.pointer p,.int .i64 n] W (ct p s*F) (fun q:az=> .slice q.1 (fP s n).1.length q.2)
   (fun q=>ad 194 2 q.1 (fP s n).1.length q.2 (cN (na (iZ (fP s n).1)))*(ct p (fP s n).2*F)):=by
 have hd:=Af (n:=n) hg.pos
 have hT:=YS hg.turns hd.perm
 have hlen:=hd.perm.length_eq
 rw[List.length_append]at hlen
 have Em:=hg.pos.now
 have A6:=BN s
 have pk:(jB s.sl).length+s.ready.length=s.all.length:=by unfold cz.all;rw[List.length_append];omega
 refine Spec.of Tryz.func87 rfl Tryz.ntmps87 rfl ?_
 refine ct.open fun r q=> ?_
 simp only[lv,sf]
 refine aa ?_;intros
 refine iB rfl (fun bY=> ?_) (fun mU=> ?_)
 ·have Us:0≤min n 4294967295:=by omega
  obtain⟨t,ht⟩:=Int.eq_ofNat_of_zero_le Us
  have mn:t<4294967296:=by omega
  have eK:s.now<t:=by omega
  have eD:fP s n=rl s t:=by
   unfold fP
   rw[if_pos (by omega),ht];rfl
  rw[eD]at hlen hT ⊢
  rw[ht]
  have eO:(rl s t).1=s.ready++((jJ s.sl s.now t 6).foldl gy ⟨t,s.av,[],j0 s.sl s.now t 6⟩).ready:=by
   unfold rl jJ j0
   rw[E1]
  have eS:(rl s t).2={((jJ s.sl s.now t 6).foldl gy ⟨t,s.av,[],j0 s.sl s.now t 6⟩)with ready:=[]}:=by
   unfold rl jJ j0
   rw[E1]
  have nO:=VL s.sl s.now t
  have vV:∀x∈jJ s.sl s.now t 6,x.at_<4294967296:=fun x hx=>by
   obtain⟨i,hi,hx⟩:=VM (Nat.le_refl _) hx
   exact(hg.pos.sl i hi x hx).2.1
  have uJ:kS ⟨t,s.av,[],j0 s.sl s.now t 6⟩:=by
   have h3:=(RG hg.pos eK mn)
   unfold j0
   rw[E1]
   exact h3
  rw[eO]at hlen hT ⊢
  rw[eS]at hlen ⊢
  clear eO eS eD
  refine aa ?_;intros
  refine zC (γ:=az×(Nat→az)) (fun _=>True) (fun g=>[(0,.pointer p),(1,.int .i64 (t:Int)),(5,.slice r.1 s.ready.length r.2),(6,.slice g.1.1 (jJ s.sl s.now t 6).length g.1.2)])
   (fun g=>ad 258 3 g.1.1 (jJ s.sl s.now t 6).length g.1.2 (cS (jJ s.sl s.now t 6))*(Obj p 180 (.int .i64 s.now:: .int .i64 s.av:: .int .i64 (s.all.length:Int):: .slice none 0 0::kG g.2 (j0 s.sl s.now t 6))*(ad 258 3 r.1 s.ready.length r.2 (cS s.ready)*(pJ g.2 (j0 s.sl s.now t 6)*F)))) ?_ ?_
  ·refine fy (γ:=Nat×az×(Nat→az)) (fun g=>g.1≤6) (fun g=>[(0,.pointer p),(1,.int .i64 (t:Int)),(5,.slice r.1 s.ready.length r.2),(6,.slice g.2.1.1 (jJ s.sl s.now t g.1).length g.2.1.2),(27,.int .i64 (g.1:Int))])
    (fun g=>ad 258 3 g.2.1.1 (jJ s.sl s.now t g.1).length g.2.1.2 (cS (jJ s.sl s.now t g.1))*(Obj p 180 (.int .i64 s.now:: .int .i64 s.av:: .int .i64 (s.all.length:Int):: .slice none 0 0::kG g.2.2 (j0 s.sl s.now t g.1))*(ad 258 3 r.1 s.ready.length r.2 (cS s.ready)*(pJ g.2.2 (j0 s.sl s.now t g.1)*F))))
    (fun g=>6-g.1) (0,(none,0),q) (Nat.zero_le _) ⟨rfl,rfl,rfl,rfl,rfl,trivial⟩ (U.sat (U.none (U.refl _))) ?_
   intro ⟨j,o,q'⟩ hj;dsimp only at hj ⊢
   have aen:=nO j hj
   refine aa ?_;intros
   refine iB rfl (fun ael=> ?_) (fun aeg=> ?_)
   ·obtain⟨q1,q2⟩:=VN s.sl s.now t j
    have TQ:=(xT (oI j s.now t) (j0 s.sl s.now t j) [] fun i hi=>by
     obtain⟨z,hz,rfl⟩:=List.mem_map.1 hi
     have:=Fw hz
     omega).length_eq
    simp only[List.length_append,List.nil_append]at TQ
    refine aa ?_;intros
    refine af rfl (Spec.pre (W8 p {s with ready:=[],sl:=j0 s.sl s.now t j} j s.now t (s.all.length:Int) (none,0) q' (by omega) Em mn (by dsimp only;omega) (F:=ad 258 3 o.1 (jJ s.sl s.now t j).length o.2 (cS (jJ s.sl s.now t j))*(ad 258 3 r.1 s.ready.length r.2 (cS s.ready)*F))) (U.obj p rfl (U.none (U.trans (U.refl _) (by
     repeat(first|exact U.last|refine U.cons ?_ |refine U.assoc ?_)))))) ?_
    intro g
    dsimp only
    refine aa ?_;intros
    rename_i o2
    refine cJ (j+1,o2,g.2) (by dsimp only;omega) (by dsimp only;omega) ⟨rfl,rfl,rfl,by rw[q1,List.length_append];rfl,rfl,trivial⟩ (U.sat ?_)
    dsimp only
    rw[q1,q2]
    refine U.row o2.1 (by simp) (Dl _ _) (U.obj p rfl (U.row r.1 rfl rfl ?_))
    repeat(first|exact U.last|refine U.cons ?_ |refine U.assoc ?_)
   ·have e:j=6:=by omega
    subst e
    refine aa ?_;intros
    exact dI (o,q') trivial ⟨rfl,rfl,rfl,rfl,trivial⟩ (U.sat (U.refl _))
  intro ⟨o,q'⟩ _;dsimp only
  have aem:=nO 6 (Nat.le_refl _)
  clear nO
  generalize jJ s.sl s.now t 6=A at*
  generalize j0 s.sl s.now t 6=L at*
  have TN:=fun j=>Sp gy (⟨t,s.av,[],L⟩:cz) A oa (j:=j)
  have du:∀j,kS ((A.take j).foldl gy ⟨t,s.av,[],L⟩)∧((A.take j).foldl gy ⟨t,s.av,[],L⟩).all.length≤300:=fun j=>by
   have hm:∀x∈A.take j,x.at_<4294967296:=fun x hx=>vV x (List.mem_of_mem_take hx)
   refine⟨(BJ _ _ uJ hm).1,?_⟩
   rw[Xo _ _ uJ hm,List.length_take]
   unfold cz.all
   dsimp only
   rw[List.nil_append]
   omega
  refine aa ?_;intros
  refine zC (γ:=az×(Nat→az)) (fun _=>True) (fun _=>[(0,.pointer p),(5,.slice r.1 s.ready.length r.2)])
   (fun g=>lv p (A.foldl gy ⟨t,s.av,[],L⟩) (s.all.length:Int) g.1 g.2 (ad 258 3 r.1 s.ready.length r.2 (cS s.ready)*F)) ?_ ?_
  ·refine fy (γ:=Nat×az×(Nat→az)) (fun g=>g.1≤A.length) (fun g=>[(0,.pointer p),(5,.slice r.1 s.ready.length r.2),(45,.slice o.1 A.length o.2),(46,.int .i64 (A.length:Int)),(47,.int .i64 (g.1:Int))])
    (fun g=>lv p ((A.take g.1).foldl gy ⟨t,s.av,[],L⟩) (s.all.length:Int) g.2.1 g.2.2 (ad 258 3 o.1 A.length o.2 (cS A)*(ad 258 3 r.1 s.ready.length r.2 (cS s.ready)*F)))
    (fun g=>A.length-g.1) (0,(none,0),q') (Nat.zero_le _) ⟨rfl,rfl,rfl,rfl,rfl,trivial⟩ (U.sat (U.obj p rfl (U.none (by
     show U _ (pJ q' L*(ad 258 3 o.1 A.length o.2 (cS A)*(ad 258 3 r.1 s.ready.length r.2 (cS s.ready)*F)))
     repeat(first|exact U.last|refine U.cons ?_ |refine U.assoc ?_))))) ?_
   intro ⟨j,r1,q1⟩ hj;dsimp only at hj ⊢
   obtain⟨JT,vX⟩:=du j
   have EA:=TN j
   generalize Jd:(A.take j).foldl gy ⟨t,s.av,[],L⟩=S1 at*
   simp only[lv,sf]
   refine aa ?_;intros
   refine iB rfl (fun aek=> ?_) (fun aef=> ?_)
   ·have D4:j<A.length:=by omega
    have UF:(A.getD j oa).at_<4294967296:=vV _ (by
     rw[List.getD_eq_getElem?_getD,List.getElem?_eq_getElem D4]
     exact List.getElem_mem D4)
    refine aa ?_;intros
    rename_i px
    refine af (vs:=[.pointer p,Cg (A.getD j oa)]) rfl (Spec.pre (MN p S1 (A.getD j oa) (s.all.length:Int) r1 q1 JT.now UF (fun k hk=>by have:=FV (s:=S1) hk;omega) (by have:=BN S1;omega) (F:=ad 258 3 o.1 A.length o.2 (cS A)*(ad 258 3 r.1 s.ready.length r.2 (cS s.ready)*F))) (U.obj p rfl (by
     repeat(first|exact U.last|refine U.cons ?_ |refine U.assoc ?_)))) ?_
    intro g
    refine aa ?_;intros
    exact cJ (j+1,g.1,g.2) (by dsimp only;omega) (by dsimp only;omega) ⟨rfl,rfl,rfl,rfl,rfl,trivial⟩ (U.sat (by dsimp only;rw[EA D4];exact U.refl _))
   ·have e:j=A.length:=by omega
    subst e
    rw[List.take_length]at Jd
    refine aa ?_;intros
    refine dI (r1,q1) trivial ⟨rfl,rfl,trivial⟩ (U.sat ?_)
    dsimp only
    rw[Jd]
    repeat(first|exact U.last|refine U.cons ?_ |refine U.assoc ?_)
  intro ⟨r2,q2⟩ _
  have J1:=du A.length
  rw[List.take_length]at J1
  have aet:=BN (A.foldl gy ⟨t,s.av,[],L⟩)
  generalize A.foldl gy ⟨t,s.av,[],L⟩=S2 at*
  obtain⟨vX,AZ⟩:=J1
  dsimp only at hlen hT ⊢
  simp only[lv,sf]
  refine aa ?_;intros
  rename_i o3
  refine af rfl (Spec.aL o3.1 (Spec.pre (Kf o3.1 (s.ready.length+S2.ready.length) o3.2 (s.ready++S2.ready) (by simp) hT (by omega)) (U.row o3.1 rfl (Dl _ _) (U.refl _)))) ?_
  intro g
  refine aa ?_;intros
  refine ae (aj rfl rfl g (by simp) (U.sat (U.row g.1 (by simp) rfl (U.trans (U.obj p rfl (U.none ?_)) (ct.shut (s:={S2 with ready:=[]}) (r:=(none,0)) (q:=q2) (cnt:=(s.all.length:Int)-((s.ready.length+S2.ready.length:Nat):Int)) ?_)))))
  ·repeat(first|exact U.last|refine U.cons ?_ |refine U.assoc ?_)
  ·rw[List.length_append]at hlen
   omega
 ·have eD:fP s n=(s.ready,{s with ready:=[]}):=by
   unfold fP
   rw[if_neg (by omega)]
  rw[eD]at hlen hT ⊢
  dsimp only at hlen hT ⊢
  refine aa ?_;intros
  refine af rfl (Spec.aL r.1 (Kf r.1 s.ready.length r.2 s.ready rfl hT (by omega))) ?_
  intro g
  refine aa ?_;intros
  refine ae (aj rfl rfl g rfl (U.sat (U.row g.1 rfl rfl (U.trans (U.obj p rfl (U.none ?_)) (ct.shut (s:={s with ready:=[]}) (r:=(none,0)) (q:=q) (cnt:=(s.all.length:Int)-(s.ready.length:Int)) ?_)))))
  ·repeat(first|exact U.last|refine U.cons ?_ |refine U.assoc ?_)
  ·omega
end
section
open Go.RowKit
set_option maxRecDepth 10000
attribute [local irreducible] EK EX ER EN EL ES EG an aR aU
variable {W:World} {F:SL} {X:Cx} {k:List KI} {σ:Env}
attribute [local simp] Xi
def rS (np:Nat)(a b c:Option Addr)(F:SL):Nat→SL
 |0=>F
 |1=>bC a np (eM np)*F
 |2=>bC b np (eM np)*(bC a np (eM np)*F)
 |_=>bC c np (eM np)*(bC b np (eM np)*(bC a np (eM np)*F))
def rh (w:Nat)(p0 p1 p2 a b c:Option Addr)(F:SL):Nat→SL
 |0=>F
 |1=>aY a p0 w [] none*F
 |2=>aY b p1 w [] none*(aY a p0 w [] none*F)
 |_=>aY c p2 w [] none*(aY b p1 w [] none*(aY a p0 w [] none*F))
def lV (p0 p1 p2:Option Addr)(wk:Nat→ny)(w:Nat):SL:=
 Obj (wk w).p 126 (MG (wk w))*(aY (wk w).c0 p0 w [] none*(aY (wk w).c1 p1 w [] none*(aY (wk w).c2 p2 w [] none*(ct (wk w).wh lK*SL.cO (wk w).m (.map #[] 0)))))
theorem lV.eq (p0 p1 p2:Option Addr)(wk:Nat→ny)(w:Nat)(F:SL):lV p0 p1 p2 wk w*F=Obj (wk w).p 126 (MG (wk w))*(aY (wk w).c0 p0 w [] none*(aY (wk w).c1 p1 w [] none*(aY (wk w).c2 p2 w [] none*(ct (wk w).wh lK*(SL.cO (wk w).m (.map #[] 0)*F))))):=by
 unfold lV
 simp only[SL.bP]
def tR (p:Option Addr)(c:NC)(R:sE):SL:=
 Obj p 103 (KN c R c.np c.n)*(ad 107 1 R.ws.1 c.n R.ws.2 (cF c.n fun i=>(R.wk i).p)*(ao (lV R.p0 R.p1 R.p2 R.wk) c.n*(bB R.ep (List.replicate (c.n+1) 0) (List.replicate c.n [])*(bC R.p0 c.np (eM c.np)*(bC R.p1 c.np (eM c.np)*(bC R.p2 c.np (eM c.np)*(aG R.pl (List.replicate (2*(3*c.np)) 0)*aB R.tb R.pl c.nb (List.replicate (c.nb+1) 0))))))))
abbrev Hc (p:Option Addr)(c:NC)(R:sE)(F:SL):SL:=
 Obj p 103 (KN c R c.np c.n)*(ad 107 1 R.ws.1 c.n R.ws.2 (cF c.n fun i=>(R.wk i).p)*(ao (lV R.p0 R.p1 R.p2 R.wk) c.n*(bB R.ep (List.replicate (c.n+1) 0) (List.replicate c.n [])*(bC R.p0 c.np (eM c.np)*(bC R.p1 c.np (eM c.np)*(bC R.p2 c.np (eM c.np)*(aG R.pl (List.replicate (2*(3*c.np)) 0)*(aB R.tb R.pl c.nb (List.replicate (c.nb+1) 0)*F))))))))
theorem tR.eq (p:Option Addr)(c:NC)(R:sE)(F:SL):tR p c R*F=Hc p c R F:=by
 unfold tR Hc
 simp only[SL.bP]
set_option maxHeartbeats 4000000 in
theorem Oq {c:NC}(hc:c.Ok):Spec Tryz.prog 23 [c.cfg.val] W F (fun z:Option Addr×sE=> .tuple #[.pointer z.1,.int .i64 0]) (fun z=>tR z.1 c z.2*F):=by
 refine Spec.of Tryz.func23 rfl Tryz.ntmps23 rfl ?_
 have hg:=hc.fe
 have DV:=hc.fit
 have Eu:=hc.bK
 have T7:=ve.2 hg
 have hn:=hc.n
 have cU:1≤c.np∧c.np≤1024:=by
  obtain⟨h1,h2,h3,h4,h5⟩:=hc
  unfold NC.np;omega
 obtain⟨np,JN⟩:∃np,c.np=np:=⟨_,rfl⟩
 rw[JN]at cU Eu
 have jr:fV (c.nb:Int)=true:=by
  have:=hc.b
  unfold jK at this
  unfold fV
  exact decide_eq_true (by omega)
 refine aa ?_;intros
 rename_i x1
 refine af rfl (C0 c.cfg DV) ?_
 intro _
 rw[T7]
 have e1:c.cfg.w=(c.n:Int):=rfl
 have e2:c.cfg.o=(c.o:Int):=rfl
 have e3:c.cfg.lo=(c.lo:Int):=rfl
 have e4:c.cfg.hi=(c.hi:Int):=rfl
 have e5:c.cfg.b=(c.nb:Int):=rfl
 have e6:c.cfg.r=(c.r:Int):=rfl
 refine aa ?_;intros
 rw[e1,e2,e3,e4,e5,e6]
 refine aa ?_;intros
 refine ay 99 (Obj x1 63 [.int .i64 (c.n:Int),.int .u32 (c.o:Int),.int .i64 (c.lo:Int),.int .i64 (c.hi:Int),.int .i64 (c.nb:Int),.int .i64 (c.r:Int)]*1) rfl rfl rfl ?_
 refine ah ?_
 refine aw rfl rfl rfl rfl rfl (w8 c.cfg DV) (fun _=>ab) ?_
 intro _
 rw[Eu]
 refine ah ?_
 refine bD ?_;intros
 refine aa ?_;intros
 rename_i pn
 refine af rfl (NQ hn.1 hn.2) ?_
 intro ep
 refine aa ?_;intros
 refine af rfl (PE c.cfg DV) ?_
 intro _
 rw[Eu,show(3:Int)*(np:Int)=((3*np:Nat):Int)by omega]
 refine aa ?_;intros
 refine af rfl (Pz (n:=3*np) (by omega) (by omega)) ?_
 intro pl
 refine aa ?_;intros
 refine ay 13 (Obj pn 103 (oK c np 0 ep pl none none none none (none,0))*(Obj x1 63 [.int .i64 (c.n:Int),.int .u32 (c.o:Int),.int .i64 (c.lo:Int),.int .i64 (c.hi:Int),.int .i64 (c.nb:Int),.int .i64 (c.r:Int)]*1)) rfl rfl rfl ?_
 refine ah ?_
 refine aw rfl rfl rfl rfl rfl (Spec.aL pl (PW (m:=3*np) (ws:=List.replicate (2*(3*np)) 0) jr (by simp) (by omega))) (fun _=>ab) ?_
 intro tb
 refine ah ?_
 refine bD ?_;intros
 refine tN rfl rfl rfl (fun _=>gQ rfl) (cr rfl rfl rfl rfl rfl rfl) (cr rfl rfl rfl rfl rfl rfl) (by(first|exact U.refl _|exact U.last|(repeat(first|refine U.cons ?_ |exact U.any|exact U.last)))) ?_
 refine aa ?_;intros
 obtain⟨G,hG⟩:∃G,G=bB ep (List.replicate (c.n+1) 0) (List.replicate c.n [])*(aG pl (List.replicate (2*(3*np)) 0)*(aB tb pl c.nb (List.replicate (c.nb+1) 0)*F)):=⟨_,rfl⟩
 refine fy (γ:=Nat×Option Addr×Option Addr×Option Addr) (fun g=>g.1≤3) (fun g=>[(1,.pointer x1),(4,.pointer pn),(48,.int .i64 (g.1:Int))])
  (fun g=>Obj pn 103 (oK c np 0 ep pl tb g.2.1 g.2.2.1 g.2.2.2 (none,0))*(Obj x1 63 [.int .i64 (c.n:Int),.int .u32 (c.o:Int),.int .i64 (c.lo:Int),.int .i64 (c.hi:Int),.int .i64 (c.nb:Int),.int .i64 (c.r:Int)]*rS np g.2.1 g.2.2.1 g.2.2.2 G g.1)) (fun g=>3-g.1) (0,none,none,none) (Nat.zero_le _) ⟨rfl,rfl,rfl,trivial⟩ (U.sat ?_) ?_
 ·simp only[rS,hG]
  exact ab
 intro ⟨j,a,b,d⟩ h1;dsimp only at h1 ⊢
 by_cases hj:j<3
 ·obtain rfl|rfl|rfl:j=0∨j=1∨j=2:=by omega
  ·simp only[rS]
   refine aa ?_;intros
   refine ay 13 (Obj pn 103 (oK c np 0 ep pl tb a b d (none,0))*1) rfl rfl rfl ?_
   refine ah ?_
   refine aw rfl rfl rfl rfl rfl (CL (n:=np) cU.1 cU.2) (fun _=>ab) ?_
   intro p
   refine ah ?_
   refine tN rfl rfl rfl (fun _=>gQ rfl) (cr rfl rfl rfl rfl rfl rfl) (cr rfl rfl rfl rfl rfl rfl) (by(first|exact U.refl _|exact U.last|(repeat(first|refine U.cons ?_ |exact U.any|exact U.last)))) ?_
   refine aa ?_;intros
   refine cJ (1,p,b,d) (by dsimp only;omega) (by dsimp only;omega) ⟨rfl,rfl,rfl,trivial⟩ (U.sat ?_)
   simp only[rS]
   exact ab
  ·simp only[rS]
   refine aa ?_;intros
   refine ay 13 (Obj pn 103 (oK c np 0 ep pl tb a b d (none,0))*1) rfl rfl rfl ?_
   refine ah ?_
   refine aw rfl rfl rfl rfl rfl (CL (n:=np) cU.1 cU.2) (fun _=>ab) ?_
   intro p
   refine ah ?_
   refine tN rfl rfl rfl (fun _=>gQ rfl) (cr rfl rfl rfl rfl rfl rfl) (cr rfl rfl rfl rfl rfl rfl) (by(first|exact U.refl _|exact U.last|(repeat(first|refine U.cons ?_ |exact U.any|exact U.last)))) ?_
   refine aa ?_;intros
   refine cJ (2,a,p,d) (by dsimp only;omega) (by dsimp only;omega) ⟨rfl,rfl,rfl,trivial⟩ (U.sat ?_)
   simp only[rS]
   exact ab
  ·simp only[rS]
   refine aa ?_;intros
   refine ay 13 (Obj pn 103 (oK c np 0 ep pl tb a b d (none,0))*1) rfl rfl rfl ?_
   refine ah ?_
   refine aw rfl rfl rfl rfl rfl (CL (n:=np) cU.1 cU.2) (fun _=>ab) ?_
   intro p
   refine ah ?_
   refine tN rfl rfl rfl (fun _=>gQ rfl) (cr rfl rfl rfl rfl rfl rfl) (cr rfl rfl rfl rfl rfl rfl) (by(first|exact U.refl _|exact U.last|(repeat(first|refine U.cons ?_ |exact U.any|exact U.last)))) ?_
   refine aa ?_;intros
   refine cJ (3,a,b,p) (by dsimp only;omega) (by dsimp only;omega) ⟨rfl,rfl,rfl,trivial⟩ (U.sat ?_)
   simp only[rS]
   exact ab
 ·have e3:j=3:=by omega
  subst e3
  simp only[rS]
  refine aa ?_;intros
  refine fy (γ:=Nat×az×(Nat→ny)) (fun g=>g.1≤c.n) (fun g=>[(4,.pointer pn),(66,.int .i64 (c.n:Int)),(67,.int .i64 (g.1:Int))])
   (fun g=>Obj pn 103 (oK c np g.1 ep pl tb a b d g.2.1)*(ad 107 1 g.2.1.1 g.1 g.2.1.2 (cF g.1 fun i=>(g.2.2 i).p)*(ao (lV a b d g.2.2) g.1*(bC d np (eM np)*(bC b np (eM np)*(bC a np (eM np)*G)))))) (fun g=>c.n-g.1) (0,(none,0),fun _=>⟨none,none,none,none,none,0⟩) (Nat.zero_le _) ⟨rfl,rfl,rfl,trivial⟩ (U.sat ?_) ?_
  ·refine U.cons (U.none ?_)
   show U _ (1*_)
   rw[SL.u4 1,SL.pL]
   exact ab
  intro ⟨w,ws,wk⟩ h2;dsimp only at h2 ⊢
  by_cases hw:w<c.n
  ·refine aa ?_;intros
   refine af rfl P2 ?_
   intro wh
   refine Gy (OD rfl) rfl ?_
   intro m
   refine aa ?_;intros
   rename_i px
   obtain⟨G2,Jb⟩:∃G2,G2=ad 107 1 ws.1 w ws.2 (cF w fun i=>(wk i).p)*(ao (lV a b d wk) w*(ct wh lK*(SL.cO m (.map #[] 0)*G))):=⟨_,rfl⟩
   refine fy (γ:=Nat×Option Addr×Option Addr×Option Addr) (fun g=>g.1≤3) (fun g=>[(4,.pointer pn),(6,.int .i64 (w:Int)),(7,.pointer px),(66,.int .i64 (c.n:Int)),(67,.int .i64 (w:Int)),(74,.int .i64 (g.1:Int))])
    (fun g=>Obj px 126 (zn g.2.1 g.2.2.1 g.2.2.2 wh m)*(Obj pn 103 (oK c np w ep pl tb a b d ws)*rh w a b d g.2.1 g.2.2.1 g.2.2.2 (bC d np (eM np)*(bC b np (eM np)*(bC a np (eM np)*G2))) g.1)) (fun g=>3-g.1) (0,none,none,none) (Nat.zero_le _) ⟨rfl,rfl,rfl,rfl,rfl,rfl,trivial⟩ (U.sat ?_) ?_
   ·simp only[rh,Jb]
    exact ab
   intro ⟨j,u1,u2,u3⟩ h3;dsimp only at h3 ⊢
   by_cases hj:j<3
   ·obtain rfl|rfl|rfl:j=0∨j=1∨j=2:=by omega
    ·simp only[rh]
     refine aa ?_;intros
     refine ay 16 (Obj pn 103 (oK c np w ep pl tb a b d ws)*(Obj px 126 (zn u1 u2 u3 wh m)*1)) rfl rfl rfl ?_
     refine ah ?_
     refine aw rfl rfl rfl rfl rfl (Spec.aL a (Cl w)) (fun _=>ab) ?_
     intro p
     refine ah ?_
     refine tN rfl rfl rfl (fun _=>gQ rfl) (cr rfl rfl rfl rfl rfl rfl) (cr rfl rfl rfl rfl rfl rfl) (by(first|exact U.refl _|exact U.last|(repeat(first|refine U.cons ?_ |exact U.any|exact U.last)))) ?_
     refine aa ?_;intros
     refine cJ (1,p,u2,u3) (by dsimp only;omega) (by dsimp only;omega) ⟨rfl,rfl,rfl,rfl,rfl,rfl,trivial⟩ (U.sat ?_)
     simp only[rh]
     exact ab
    ·simp only[rh]
     refine aa ?_;intros
     refine ay 16 (Obj pn 103 (oK c np w ep pl tb a b d ws)*(Obj px 126 (zn u1 u2 u3 wh m)*1)) rfl rfl rfl ?_
     refine ah ?_
     refine aw rfl rfl rfl rfl rfl (Spec.aL b (Cl w)) (fun _=>ab) ?_
     intro p
     refine ah ?_
     refine tN rfl rfl rfl (fun _=>gQ rfl) (cr rfl rfl rfl rfl rfl rfl) (cr rfl rfl rfl rfl rfl rfl) (by(first|exact U.refl _|exact U.last|(repeat(first|refine U.cons ?_ |exact U.any|exact U.last)))) ?_
     refine aa ?_;intros
     refine cJ (2,u1,p,u3) (by dsimp only;omega) (by dsimp only;omega) ⟨rfl,rfl,rfl,rfl,rfl,rfl,trivial⟩ (U.sat ?_)
     simp only[rh]
     exact ab
    ·simp only[rh]
     refine aa ?_;intros
     refine ay 16 (Obj pn 103 (oK c np w ep pl tb a b d ws)*(Obj px 126 (zn u1 u2 u3 wh m)*1)) rfl rfl rfl ?_
     refine ah ?_
     refine aw rfl rfl rfl rfl rfl (Spec.aL d (Cl w)) (fun _=>ab) ?_
     intro p
     refine ah ?_
     refine tN rfl rfl rfl (fun _=>gQ rfl) (cr rfl rfl rfl rfl rfl rfl) (cr rfl rfl rfl rfl rfl rfl) (by(first|exact U.refl _|exact U.last|(repeat(first|refine U.cons ?_ |exact U.any|exact U.last)))) ?_
     refine aa ?_;intros
     refine cJ (3,u1,u2,p) (by dsimp only;omega) (by dsimp only;omega) ⟨rfl,rfl,rfl,rfl,rfl,rfl,trivial⟩ (U.sat ?_)
     simp only[rh]
     exact ab
   ·have e3:j=3:=by omega
    subst e3
    simp only[rh,Jb]
    refine aa ?_;intros
    rename_i ZS
    refine cJ (w+1,ZS,wG wk w ⟨px,u1,u2,u3,wh,m⟩) (by dsimp only;omega) (by dsimp only;omega) ⟨rfl,rfl,rfl,trivial⟩ (U.sat ?_)
    dsimp only
    have RZ:(cF (w+1) fun i=>(wG wk w ⟨px,u1,u2,u3,wh,m⟩ i).p)=cF w (fun i=>(wk i).p)++[.pointer px]:=by
     rw[←Xj,Mn]
     rw[Lp (f:=fun i=>(wG wk w ⟨px,u1,u2,u3,wh,m⟩ i).p) (g:=fun i=>(wk i).p) fun i hi=>by rw[Mo wk _ hi]]
    have R4:ao (lV a b d (wG wk w ⟨px,u1,u2,u3,wh,m⟩)) w=ao (lV a b d wk) w:=ao.congr w fun i hi=>by unfold lV;rw[Mo wk _ hi]
    rw[RZ,ao.succ,R4,SL.bP,lV.eq,Mn]
    exact ab
  ·have e4:w=c.n:=by omega
   subst e4
   subst JN
   refine aa ?_;intros
   refine ae (fz rfl rfl rfl (pn,⟨ep,pl,tb,a,b,d,ws,wk⟩) rfl (U.sat ?_))
   rw[tR.eq,hG]
   exact ab
end
section
open Go.RowKit
set_option maxRecDepth 10000
attribute [local irreducible] EK EX ER EN EL ES EG an aR aU
variable {W:World} {F:SL} {X:Cx} {k:List KI} {σ:Env} {q b:Option Addr} {f:aM} {x:cI}
def bA {α:Type}(C:α→SL):Option α→SL
 | .none=>1
 | .some a=>C a
theorem dY {α:Type}{C:α→SL}{G:SL}:bA C .none*G=G:=by
 show 1*G=G
 rw[SL.u4 1,SL.pL]
theorem bF {α:Type}{C:α→SL}{a:α}{G:SL}:bA C (.some a)*G=C a*G:=rfl
structure qT where
 b:az
 cb:Option Addr
 find:Option Addr
 fill:Option Addr
 fin:Option Addr
 again:Option Addr
 oY:Option Addr
 enter:Option Addr
 gH:az
def fk (p i:Option Addr)(x:jN):SL:=if x.kind≤1 then db p x.kind i x.done*bc i x.dE else if x.kind=2 then db p 2 i x.done else db p 3 none x.done
abbrev cP (f:aM)(P:qT):List Value:=(Value.bool f.out::Value.slice P.b.1 f.b.length P.b.2::Value.int .i64 f.tick::Value.int .i64 (f.next:Int)::Value.int .i64 (f.ai.proto:Int)::Value.int .u32 (f.ai.addr:Int)::Value.int .u16 (f.ai.port:Int)::Value.int .i64 (f.part.proto:Int)::Value.int .u16 (f.part.sp:Int)::Value.int .u16 (f.part.dp:Int)::Value.int .i64 (f.part.flags:Int)::Value.int .i64 (f.part.kind:Int)::Value.int .i64 (f.part.code:Int)::Value.bool f.part.err::Value.int .i64 (f.part.inner.size:Int)::Value.int .i64 (f.part.inner.len:Int)::Value.int .i64 (f.part.inner.eQ:Int)::Value.int .i64 (f.part.inner.proto:Int)::Value.int .u32 (f.part.inner.src:Int)::Value.int .u32 (f.part.inner.dst:Int)::Value.int .i64 (f.part.pos:Int)::Value.bool f.part.bare::Value.bool f.gJ::Value.pointer P.cb::Value.pointer P.find::Value.pointer P.fill::Value.pointer P.again::Value.pointer P.enter::Value.int .i64 f.id::Value.int .i64 (f.word.st:Int)::Value.int .i64 (f.word.gen:Int)::Value.int .i64 (f.word.tr:Int)::Value.int .i64 (f.word.sn:Int)::Value.int .i64 (f.now.st:Int)::Value.int .i64 (f.now.gen:Int)::Value.int .i64 (f.now.tr:Int)::Value.int .i64 (f.now.sn:Int)::Value.int .i64 (f.eH.proto:Int)::Value.int .u32 (f.eH.addr:Int)::Value.int .u16 (f.eH.port:Int)::Value.bool f.made::Value.int .i64 (f.iJ:Int)::Value.bool f.pinned::Value.slice P.gH.1 f.gD.length P.gH.2::Value.int .i64 (f.oo:Int)::Value.bool f.done::[])
def vl (f:aM)(P:qT):List Value:=(Value.bool f.out::Value.slice P.b.1 f.b.length P.b.2::Value.int .i64 f.tick::Value.int .i64 (f.next:Int)::Value.int .i64 (f.ai.proto:Int)::Value.int .u32 (f.ai.addr:Int)::Value.int .u16 (f.ai.port:Int)::Value.int .i64 (f.part.proto:Int)::Value.int .u16 (f.part.sp:Int)::Value.int .u16 (f.part.dp:Int)::Value.int .i64 (f.part.flags:Int)::Value.int .i64 (f.part.kind:Int)::Value.int .i64 (f.part.code:Int)::Value.bool f.part.err::Value.int .i64 (f.part.inner.size:Int)::Value.int .i64 (f.part.inner.len:Int)::Value.int .i64 (f.part.inner.eQ:Int)::Value.int .i64 (f.part.inner.proto:Int)::Value.int .u32 (f.part.inner.src:Int)::Value.int .u32 (f.part.inner.dst:Int)::Value.int .i64 (f.part.pos:Int)::Value.bool f.part.bare::Value.bool f.gJ::Value.pointer P.cb::Value.pointer P.find::Value.pointer P.fill::Value.pointer P.again::Value.pointer P.enter::Value.int .i64 f.id::Value.int .i64 (f.word.st:Int)::Value.int .i64 (f.word.gen:Int)::Value.int .i64 (f.word.tr:Int)::Value.int .i64 (f.word.sn:Int)::Value.int .i64 (f.now.st:Int)::Value.int .i64 (f.now.gen:Int)::Value.int .i64 (f.now.tr:Int)::Value.int .i64 (f.now.sn:Int)::Value.int .i64 (f.eH.proto:Int)::Value.int .u32 (f.eH.addr:Int)::Value.int .u16 (f.eH.port:Int)::Value.bool f.made::Value.int .i64 (f.iJ:Int)::Value.bool f.pinned::Value.slice P.gH.1 f.gD.length P.gH.2::Value.int .i64 (f.oo:Int)::Value.bool f.done::[])
abbrev cm (q:Option Addr)(f:aM)(P:qT)(F:SL):SL:=Obj q 119 (Value.bool f.out::Value.slice P.b.1 f.b.length P.b.2::Value.int .i64 f.tick::Value.int .i64 (f.next:Int)::Value.int .i64 (f.ai.proto:Int)::Value.int .u32 (f.ai.addr:Int)::Value.int .u16 (f.ai.port:Int)::Value.int .i64 (f.part.proto:Int)::Value.int .u16 (f.part.sp:Int)::Value.int .u16 (f.part.dp:Int)::Value.int .i64 (f.part.flags:Int)::Value.int .i64 (f.part.kind:Int)::Value.int .i64 (f.part.code:Int)::Value.bool f.part.err::Value.int .i64 (f.part.inner.size:Int)::Value.int .i64 (f.part.inner.len:Int)::Value.int .i64 (f.part.inner.eQ:Int)::Value.int .i64 (f.part.inner.proto:Int)::Value.int .u32 (f.part.inner.src:Int)::Value.int .u32 (f.part.inner.dst:Int)::Value.int .i64 (f.part.pos:Int)::Value.bool f.part.bare::Value.bool f.gJ::Value.pointer P.cb::Value.pointer P.find::Value.pointer P.fill::Value.pointer P.again::Value.pointer P.enter::Value.int .i64 f.id::Value.int .i64 (f.word.st:Int)::Value.int .i64 (f.word.gen:Int)::Value.int .i64 (f.word.tr:Int)::Value.int .i64 (f.word.sn:Int)::Value.int .i64 (f.now.st:Int)::Value.int .i64 (f.now.gen:Int)::Value.int .i64 (f.now.tr:Int)::Value.int .i64 (f.now.sn:Int)::Value.int .i64 (f.eH.proto:Int)::Value.int .u32 (f.eH.addr:Int)::Value.int .u16 (f.eH.port:Int)::Value.bool f.made::Value.int .i64 (f.iJ:Int)::Value.bool f.pinned::Value.slice P.gH.1 f.gD.length P.gH.2::Value.int .i64 (f.oo:Int)::Value.bool f.done::[])*(ad 5 1 P.b.1 f.b.length P.b.2 (ar f.b)*(bA (cx P.cb) f.cb*(bA (aq P.find) f.find*(bA (fk P.fill P.fin) f.fill*(bA (fk P.again P.oY) f.again*(bA (aq P.enter) f.enter*(ad 5 1 P.gH.1 f.gD.length P.gH.2 (ar f.gD)*F)))))))
def sA (q:Option Addr)(f:aM)(P:qT):SL:=Obj q 119 (vl f P)*(ad 5 1 P.b.1 f.b.length P.b.2 (ar f.b)*(bA (cx P.cb) f.cb*(bA (aq P.find) f.find*(bA (fk P.fill P.fin) f.fill*(bA (fk P.again P.oY) f.again*(bA (aq P.enter) f.enter*(ad 5 1 P.gH.1 f.gD.length P.gH.2 (ar f.gD))))))))
def aA (q:Option Addr)(f:aM):SL:=SL.ex (sA q f)
theorem sA.eq (q:Option Addr)(f:aM)(P:qT)(F:SL):sA q f P*F=cm q f P F:=by
 unfold sA cm
 simp only[SL.bP]
 rfl
theorem aA.open (h:∀P,EK X k σ (cm q f P F)):EK X k σ (aA q f*F):=pR fun P=>by
 rw[sA.eq];exact h P
theorem aA.iK {ops o:List Oper}(h:∀P,EL X k ops o σ (cm q f P F)):EL X k ops o σ (aA q f*F):=GA fun P=>by
 rw[sA.eq];exact h P
theorem aA.shut (P:qT){l:List Value}{G:SL}(h:l=vl f P)(hG:U G (ad 5 1 P.b.1 f.b.length P.b.2 (ar f.b)*(bA (cx P.cb) f.cb*(bA (aq P.find) f.find*(bA (fk P.fill P.fin) f.fill*(bA (fk P.again P.oY) f.again*(bA (aq P.enter) f.enter*(ad 5 1 P.gH.1 f.gD.length P.gH.2 (ar f.gD)*F)))))))):U (Obj q 119 l*G) (aA q f*F):=
 U.ex P (by
  subst h
  rw[sA.eq]
  exact U.star (U.refl _) hG)
theorem aA.bl (P:qT){H F':SL}{l:List Value}[r:bZ H q (Obj q 119 l) F'](h:l=vl f P)(hG:U F' (ad 5 1 P.b.1 f.b.length P.b.2 (ar f.b)*(bA (cx P.cb) f.cb*(bA (aq P.find) f.find*(bA (fk P.fill P.fin) f.fill*(bA (fk P.again P.oY) f.again*(bA (aq P.enter) f.enter*(ad 5 1 P.gH.1 f.gD.length P.gH.2 (ar f.gD)*F)))))))):U H (aA q f*F):=by
 rw[r.eq]
 exact aA.shut P h hG
instance (priority:=2000)(q:Option Addr)(f:aM)(F:SL):bZ (aA q f*F) q (aA q f) F:=⟨rfl⟩
instance (q:Option Addr)(f:aM):lT (aA q f) q:=⟨fun W w F H=>by
 obtain⟨P,H⟩:=H.jA
 rw[sA.eq]at H
 exact(Obj.root q _ _).nn W w _ H⟩
structure pX where
 due:az
 drop:Option Addr
 on:Option Addr
 aI:az
 back:Option Addr
abbrev nv (x:cI)(P:pX):List Value:=(Value.int .i64 x.tick::Value.int .i64 (x.next:Int)::Value.slice P.due.1 x.due.length P.due.2::Value.int .i64 (x.word.st:Int)::Value.int .i64 (x.word.gen:Int)::Value.int .i64 (x.word.tr:Int)::Value.int .i64 (x.word.sn:Int)::Value.pointer P.drop::Value.int .i64 x.dying::Value.pointer P.on::Value.slice P.aI.1 x.aI.length P.aI.2::Value.pointer P.back::Value.bool x.done::[])
def qY (x:cI)(P:pX):List Value:=(Value.int .i64 x.tick::Value.int .i64 (x.next:Int)::Value.slice P.due.1 x.due.length P.due.2::Value.int .i64 (x.word.st:Int)::Value.int .i64 (x.word.gen:Int)::Value.int .i64 (x.word.tr:Int)::Value.int .i64 (x.word.sn:Int)::Value.pointer P.drop::Value.int .i64 x.dying::Value.pointer P.on::Value.slice P.aI.1 x.aI.length P.aI.2::Value.pointer P.back::Value.bool x.done::[])
abbrev dC (q:Option Addr)(x:cI)(b:Option Addr)(P:pX)(F:SL):SL:=Obj q 128 (Value.int .i64 x.tick::Value.int .i64 (x.next:Int)::Value.slice P.due.1 x.due.length P.due.2::Value.int .i64 (x.word.st:Int)::Value.int .i64 (x.word.gen:Int)::Value.int .i64 (x.word.tr:Int)::Value.int .i64 (x.word.sn:Int)::Value.pointer P.drop::Value.int .i64 x.dying::Value.pointer P.on::Value.slice P.aI.1 x.aI.length P.aI.2::Value.pointer P.back::Value.bool x.done::[])*(ad 3 1 P.due.1 x.due.length P.due.2 (ba .i64 x.due)*(bA (aq P.drop) x.drop*(bA (cx P.on) x.on*(ad 3 1 P.aI.1 x.aI.length P.aI.2 (ba .i64 x.aI)*(bA (fk P.back b) x.back*F)))))
def sJ (q:Option Addr)(x:cI)(b:Option Addr)(P:pX):SL:=Obj q 128 (qY x P)*(ad 3 1 P.due.1 x.due.length P.due.2 (ba .i64 x.due)*(bA (aq P.drop) x.drop*(bA (cx P.on) x.on*(ad 3 1 P.aI.1 x.aI.length P.aI.2 (ba .i64 x.aI)*(bA (fk P.back b) x.back)))))
def bn (q:Option Addr)(x:cI)(b:Option Addr):SL:=SL.ex (sJ q x b)
theorem sJ.eq (q:Option Addr)(x:cI)(b:Option Addr)(P:pX)(F:SL):sJ q x b P*F=dC q x b P F:=by
 unfold sJ dC
 simp only[SL.bP]
 rfl
theorem bn.open (h:∀P,EK X k σ (dC q x b P F)):EK X k σ (bn q x b*F):=pR fun P=>by
 rw[sJ.eq];exact h P
theorem bn.iK {ops o:List Oper}(h:∀P,EL X k ops o σ (dC q x b P F)):EL X k ops o σ (bn q x b*F):=GA fun P=>by
 rw[sJ.eq];exact h P
theorem bn.shut (P:pX){l:List Value}{G:SL}(h:l=qY x P)(hG:U G (ad 3 1 P.due.1 x.due.length P.due.2 (ba .i64 x.due)*(bA (aq P.drop) x.drop*(bA (cx P.on) x.on*(ad 3 1 P.aI.1 x.aI.length P.aI.2 (ba .i64 x.aI)*(bA (fk P.back b) x.back*F)))))):U (Obj q 128 l*G) (bn q x b*F):=
 U.ex P (by
  subst h
  rw[sJ.eq]
  exact U.star (U.refl _) hG)
theorem bn.bl (P:pX){H F':SL}{l:List Value}[r:bZ H q (Obj q 128 l) F'](h:l=qY x P)(hG:U F' (ad 3 1 P.due.1 x.due.length P.due.2 (ba .i64 x.due)*(bA (aq P.drop) x.drop*(bA (cx P.on) x.on*(ad 3 1 P.aI.1 x.aI.length P.aI.2 (ba .i64 x.aI)*(bA (fk P.back b) x.back*F)))))):U H (bn q x b*F):=by
 rw[r.eq]
 exact bn.shut P h hG
instance (priority:=2000)(q:Option Addr)(x:cI)(b:Option Addr)(F:SL):bZ (bn q x b*F) q (bn q x b) F:=⟨rfl⟩
instance (q:Option Addr)(x:cI)(b:Option Addr):lT (bn q x b) q:=⟨fun W w F H=>by
 obtain⟨P,H⟩:=H.jA
 rw[sJ.eq]at H
 exact(Obj.root q _ _).nn W w _ H⟩
structure cW where
 p:Option Addr
 c:Nat→Option Addr
 q:Nat→Option Addr
 wh:Option Addr
 m:Nat
 fr:Option Addr
 sw:Option Addr
 told:az
 ended:az
def dR {α:Type}:Option α→Option Addr→Option Addr
 | .none,_=>none
 | .some _,a=>a
def cj (pp:Nat→Option Addr)(P:cW)(k:aK)(i:Nat):SL:=aY (P.c i) (pp i) (k.ca i).h (k.ca i).l (dR (k.ca i).out (P.q i))*bA (bc (P.q i)) (k.ca i).out
abbrev bq (P:cW)(k:aK):List Value:=[.pointer (P.c 0),.pointer (P.c 1),.pointer (P.c 2),.pointer P.wh,.map (some P.m),.pointer (dR k.frame P.fr),.pointer (dR k.aC P.sw),.slice P.told.1 k.bt.length P.told.2,.int .i64 (k.fh:Int),.bool k.any,.slice P.ended.1 k.ended.length P.ended.2]
abbrev aN (pp:Nat→Option Addr)(P:cW)(k:aK)(F:SL):SL:=Obj P.p 126 (bq P k)*(ao (cj pp P k) 3*(ct P.wh k.aD*(cQ dQ de P.m k.aS*(ad 5 1 P.told.1 k.bt.length P.told.2 (ar k.bt)*(ad 132 2 P.ended.1 k.ended.length P.ended.2 (cN k.ended)*F)))))
def xr (pp:Nat→Option Addr)(P:cW)(k:aK):SL:=Obj P.p 126 (bq P k)*(ao (cj pp P k) 3*(ct P.wh k.aD*(cQ dQ de P.m k.aS*(ad 5 1 P.told.1 k.bt.length P.told.2 (ar k.bt)*ad 132 2 P.ended.1 k.ended.length P.ended.2 (cN k.ended)))))
theorem xr.eq (pp:Nat→Option Addr)(P:cW)(k:aK)(F:SL):xr pp P k*F=aN pp P k F:=by
 unfold xr aN
 simp only[SL.bP]
structure dV where
 ep:Option Addr
 pl:Option Addr
 tb:Option Addr
 po:Nat→Option Addr
 ws:az
 wk:Nat→cW
abbrev KL (c:NC)(R:dV):List Value:=oK c c.np c.n R.ep R.pl R.tb (R.po 0) (R.po 1) (R.po 2) R.ws
abbrev NH (pn:Option Addr)(c:NC)(R:dV):SL:=Obj pn 103 (KL c R)
def bb (c:NC)(R:dV)(s:aW)(i:Nat):SL:=bC (R.po i) c.np (s.po i)
abbrev bJ (c:NC)(R:dV)(s:aW)(F:SL):SL:=bB R.ep s.ep s.gs*(aG R.pl s.pl*(aB R.tb R.pl c.nb s.tb*(ao (bb c R s) 3*F)))
def xg (c:NC)(R:dV)(s:aW):SL:=bB R.ep s.ep s.gs*(aG R.pl s.pl*(aB R.tb R.pl c.nb s.tb*ao (bb c R s) 3))
theorem xg.eq (c:NC)(R:dV)(s:aW)(F:SL):xg c R s*F=bJ c R s F:=by
 unfold xg bJ
 simp only[SL.bP]
end
section
open Go.RowKit
section
variable {P:Program} {md:Region.Mode} {ops:Array Oper} {Q:Exit→Act→World→Prop} {S:World→Prop} {L:Nat}
theorem Ij {listed:Array Bool}{i:Nat}(qw:i≠L):mM ops (listed.setIfInBounds i true) L↔mM ops listed L:=by
 unfold mM
 rw[Array.getD_eq_getD_getElem?,Array.getD_eq_getD_getElem?,Array.getElem?_setIfInBounds_ne qw]
theorem ZP {i:Nat}{oi:Oper}{v:Value}(hi:ops[i]? =some oi)(lI:∀(j:Nat) (o:Oper) cs b,ops[j]? =some o→o.op≠ .select cs b)
  (hQ:∀c a w,Q (.panic c) (a.put oi.dst v) w→Q (.panic c) a w) (qw:i≠L):
  ∀(fuel:Nat) (listed:Array Bool) (a:Act) (w:World),
   (∀j oj,ops[j]? =some oj→j≠i→listed.getD j true=false→(∀e∈oj.after,Region.binds md e=true→e.on≠i)→oi.apart ops oj=true)→
   i∈Region.ready md ops listed→YieldsIf P ops (fun _=>True) oi v a→(¬mM ops listed L→S w)→
   wpAnyL P md ops Q S L fuel (listed.setIfInBounds i true) (a.put oi.dst v) w→wpAnyL P md ops Q S L (fuel+1) listed a w:=by
 intro fuel
 induction fuel with
 |zero=>
  intro listed a w _ hr hy hS H
  refine⟨fun h=>(by rw[h]at hr;cases hr),fun j hj=> ?_⟩
  by_cases fq:j=i
  ·subst fq;exact hy.wpOp hi trivial ⟨fun h=>hS h.2,H⟩
  ·have:=ready_mono hj fq
   rw[H.1]at this
   cases this
 |succ fuel ih=>
  intro listed a w pq hr hy hS H
  refine⟨fun h=>(by rw[h]at hr;cases hr),fun j hj=> ?_⟩
  by_cases fq:j=i
  ·subst fq;exact hy.wpOp hi trivial ⟨fun h=>hS h.2,H⟩
  ·have h1:=H.2 j (ready_mono hj fq)
   obtain⟨nM,oj,kx,lC⟩:=mem_ready.1 hj
   have uG:∀e∈oj.after,Region.binds md e=true→e.on≠i:=fun e he hb heq=>by
    have h1:=lC e he hb
    rw[heq,I1 (mem_ready.1 hr).1]at h1
    cases h1
   have h2:=wpOp_putIf kx (pq j oj kx fq nM uG) (fun cs b=>lI i oi cs b hi) (fun cs b=>lI j oj cs b kx) hQ hy h1
   have uA:∀k ok,ops[k]? =some ok→k≠i→(listed.setIfInBounds j true).getD k true=false→
     (∀e∈ok.after,Region.binds md e=true→e.on≠i)→oi.apart ops ok=true:=fun k ok hk uD kz nP=>by
    refine pq k ok hk uD ?_ nP
    by_cases mV:j=k
    ·subst mV;exact nM
    ·rw[getD_set_ne true mV]at kz;exact kz
   refine wpOp_mono (fun a' w' h3=>⟨fun e=>h3.2.1 ⟨e.1,fun d=>e.2 ((Ij qw).1 d)⟩,ih (listed.setIfInBounds j true) a' w' uA (ready_mono hr (Ne.symm fq)) h3.1 (fun hd=>h3.2.1 ⟨?_,?_⟩) ?_⟩) h2
   ·rw[Array.setIfInBounds_comm _ _ fq]
    exact h3.2.2
   ·intro e
    refine hd ?_
    subst e
    exact⟨⟨_,kx⟩,by
     have bY:j<listed.size:=by
      rcases Nat.lt_or_ge j listed.size with g|g
      ·exact g
      ·simp[Array.getElem?_eq_none g]at nM
     simp[bY]⟩
   ·intro d
    refine hd ?_
    have hd:=(Ij qw).1 d
    refine⟨hd.1,?_⟩
    by_cases yp:j=L
    ·subst yp
     have bY:j<listed.size:=by
      rcases Nat.lt_or_ge j listed.size with g|g
      ·exact g
      ·simp[Array.getElem?_eq_none g]at nM
     simp[bY]
    ·rw[Array.getD_eq_getD_getElem?,Array.getElem?_setIfInBounds_ne yp,←Array.getD_eq_getD_getElem?]
     exact hd.2
end
variable {X:Cx} {k:List KI} {σ:Env} {H S:SL} {ops:List Oper} {fuel L:Nat} {listed:Array Bool}
theorem R7 {o:Oper}{v:Value}{a:Act}(h:ue σ o.op=some v)(ha:Fits X.N a σ)(w:World):(execOp a.eval o).run X.P w= .ok (.value v) w:=
 gQ (X:={X with W:=w}) (H:=1) h a w ha (Sat.start w)
theorem ax (n:Nat){d:Nat}{v:Value}{op:Op}{ty:TypeId}{pos:String}{aft:Array Edge}{i:Nat}(hn:nh listed.toList n 0=some i)(hi:ops.toArray[i]? =some ⟨some d,op,ty,pos,aft,none⟩)(hd:Nat.blt d X.N=true)
  (hv:ue σ op=some v)
  (hb:(Region.noSelect ops.toArray&&Region.free .any ops.toArray listed i&&(Region.ready .any ops.toArray listed).contains i&& !(i==L))=true) (hS:U H S) {ls:Array Bool} (hl:listed.setIfInBounds i true=ls)
  (h:EG X k ops S L fuel ls ((d,v)::σ) H):EG X k ops S L (fuel+1) listed σ H:=by
 subst hl
 simp only[Bool.and_eq_true,Bool.not_eq_true',beq_eq_false_iff_ne]at hb
 obtain⟨⟨⟨hs,hf⟩,hr⟩,qw⟩:=hb
 intro a w ha hw
 exact ZP hi (Region.noSelect_spec hs) (fun _ _ _ h=>h.elim) qw fuel listed a w (Region.free_spec hi hf) (by simpa using hr) (.inl ⟨rfl,fun w _=>R7 (o:=⟨some d,op,ty,pos,aft,none⟩) hv ha w⟩) (fun _=>hS.sat _ hw) (h _ _ (ha.put hd v) hw)
theorem je {H':SL}{op:Op}{ty:TypeId}{pos:String}{aft:Array Edge}(hi:ops.toArray[L]? =some ⟨none,op,ty,pos,aft,none⟩)
  (hv:aU X σ H ⟨none,op,ty,pos,aft,none⟩ H') (hr:Region.ready .any ops.toArray listed=[L]) {ls:Array Bool} (hl:listed.setIfInBounds L true=ls) (h:EG X k ops S L fuel ls σ H'):EG X k ops S L (fuel+1) listed σ H:=by
 subst hl
 intro a w ha hw
 refine pQ hr ?_
 obtain⟨w',h1,h2⟩:=hv a w ha hw
 unfold wpOp
 rw[hi]
 simp only[Region.wanted,Oper.wp,h1,Oper.upon,if_true]
 exact .inl ⟨fun e=>absurd rfl e.1,h _ _ ha h2⟩
theorem iP {H':SL}{op:Op}{ty:TypeId}{pos:String}{aft:Array Edge}{i:Nat}(hn:nh listed.toList 0 0=some i)(hi:ops.toArray[i]? =some ⟨none,op,ty,pos,aft,none⟩)
  (hv:aU X σ H ⟨none,op,ty,pos,aft,none⟩ H') (hr:Region.ready .any ops.toArray listed=[i]) (nK:((ops.toArray[L]?).isSome&&listed.getD L false)=true) {ls:Array Bool} (hl:listed.setIfInBounds i true=ls)
  (h:EG X k ops S L fuel ls σ H'):EG X k ops S L (fuel+1) listed σ H:=by
 subst hl
 intro a w ha hw
 refine pQ hr ?_
 obtain⟨w',h1,h2⟩:=hv a w ha hw
 unfold wpOp
 rw[hi]
 simp only[Region.wanted,Oper.wp,h1,Oper.upon,if_true]
 have hd:mM ops.toArray listed L:=by
  rw[Bool.and_eq_true]at nK
  exact⟨Option.isSome_iff_exists.1 nK.1,nK.2⟩
 exact .inl ⟨fun e=>absurd hd e.2,h _ _ ha h2⟩
theorem dy {v:Value}{d:Nat}{op:Op}{ty:TypeId}{pos:String}{aft:Array Edge}{i:Nat}(hn:nh listed.toList 0 0=some i)(hi:ops.toArray[i]? =some ⟨some d,op,ty,pos,aft,none⟩)(hd:Nat.blt d X.N=true)
  (hv:an X σ H ⟨some d,op,ty,pos,aft,none⟩ v) (hr:Region.ready .any ops.toArray listed=[i]) (nK:((ops.toArray[L]?).isSome&&listed.getD L false)=true) {ls:Array Bool} (hl:listed.setIfInBounds i true=ls)
  (h:EG X k ops S L fuel ls ((d,v)::σ) H):EG X k ops S L (fuel+1) listed σ H:=by
 subst hl
 intro a w ha hw
 refine pQ hr ?_
 unfold wpOp
 rw[hi]
 simp only[Region.wanted,Oper.wp,hv a w ha hw,Oper.upon,if_true]
 have jE:mM ops.toArray listed L:=by
  rw[Bool.and_eq_true]at nK
  exact⟨Option.isSome_iff_exists.1 nK.1,nK.2⟩
 exact .inl ⟨fun e=>absurd jE e.2,h _ _ (ha.put hd _) hw⟩
end
section
open Go.RowKit
set_option maxRecDepth 10000
attribute [local irreducible] EK EX ER EN EL ES EG an aR aU
variable {W:World} {F:SL} {X:Cx} {k:List KI} {σ:Env} {pn q:Option Addr} {f:aM} {c:NC} {R:dV} {s:aW}
theorem Am {l:List UInt8}{z:az}{e:Nat}:Spec Tryz.prog 116 [.pointer q,.slice z.1 l.length z.2,.int .i64 (e:Int)] W (ad 5 1 z.1 l.length z.2 (ar l)*(aA q f*F)) (fun _:Unit=> .tuple #[]) (fun _=>aA q (f.fin l e)*F):=by
 refine Spec.of Tryz.func116 rfl Tryz.ntmps116 rfl ?_
 refine dc q (aA.open fun P=> ?_)
 simp only[cm]
 refine aa ?_;intros
 refine aE (aF rfl () rfl (U.sat (aA.bl {P with gH:=z} (by rfl) ?_)))
 (try dsimp only[aM.fin,aM.refuse,aM.look]);(try simp only[bF]);first|exact U.refl _|exact U.last|(repeat(first|refine U.cons ?_ |exact U.any|exact U.last))
theorem Al {e:Nat}:Spec Tryz.prog 116 [.pointer q,.slice none 0 0,.int .i64 (e:Int)] W (aA q f*F) (fun _:Unit=> .tuple #[]) (fun _=>aA q (f.fin [] e)*F):=
 Spec.pre (Am (l:=[]) (z:=(none,0)) (e:=e)) (U.none (U.refl _))
theorem Aq {e:Nat}:Spec Tryz.prog 101 [.pointer q,.int .i64 (e:Int)] W (aA q f*F) (fun _:Unit=> .tuple #[]) (fun _=>aA q (f.refuse e)*F):=by
 refine Spec.of Tryz.func101 rfl Tryz.ntmps101 rfl ?_
 refine aA.open fun P=> ?_
 simp only[cm]
 refine aa ?_;intros
 refine aE (aF rfl () rfl (U.sat (aA.bl {P with gH:=(none,0)} (by rfl) ?_)))
 dsimp only[aM.refuse]
 exact U.cons (U.cons (U.cons (U.cons (U.cons (U.cons (U.none (ab)))))))
theorem An {id:Int}{w:bH}:Spec Tryz.prog 113 [.pointer q,.int .i64 id,ju w] W (aA q f*F) (fun _:Unit=> .tuple #[]) (fun _=>aA q (f.jW id w)*F):=by
 refine Spec.of Tryz.func113 rfl Tryz.ntmps113 rfl ?_
 refine aA.open fun P=> ?_
 simp only[cm]
 refine aa ?_;intros
 rename_i y
 refine ay 10 (Obj y 117 (wL w [])*(iS q 119*1)) rfl rfl rfl ?_
 repeat(first|refine c5 ?_ |refine ax 0 rfl rfl rfl rfl (by decide+kernel) (ag) rfl ?_ |refine ax 1 rfl rfl rfl rfl (by decide+kernel) (ag) rfl ?_ |refine ax 2 rfl rfl rfl rfl (by decide+kernel) (ag) rfl ?_ |refine ax 3 rfl rfl rfl rfl (by decide+kernel) (ag) rfl ?_)
 refine bD ?_;intros
 by_cases hw:w.st=1
 ·refine aa ?_;intros
  rw[show f.jW id w={f with id:=id,word:=w,next:=3}by unfold aM.jW;rw[if_pos hw]]
  exact aE (aF rfl () rfl (U.sat (aA.bl P (by rfl) (by(try dsimp only[aM.fin,aM.refuse,aM.look]);(try simp only[bF]);exact ab))))
 ·refine aa ?_;intros
  rw[show f.jW id w={f with id:=id,word:=w,next:=4}by unfold aM.jW;rw[if_neg hw]]
  exact aE (aF rfl () rfl (U.sat (aA.bl P (by rfl) (by(try dsimp only[aM.fin,aM.refuse,aM.look]);(try simp only[bF]);exact ab))))
structure fX (f:aM):Prop where
 dz:f.b.length≤140737488355328
 tick:0≤f.tick∧f.tick≤4294967295
 proto:f.ai.proto<256
 addr:f.ai.addr<4294967296
 port:f.ai.port<65536
 flags:f.part.flags<256
theorem Dy (hf:fV (c.nb:Int)=true)(h:fX f):Spec Tryz.prog 81 [.pointer pn,.pointer q] W (aA q f*(NH pn c R*(aB R.tb R.pl c.nb s.tb*F))) (fun _:Unit=> .tuple #[]) (fun _=>aA q (f.look c)*(NH pn c R*(aB R.tb R.pl c.nb s.tb*F))):=by
 refine Spec.of Tryz.func81 rfl Tryz.ntmps81 rfl ?_
 have h1:=h.proto
 refine aA.open fun P=> ?_
 simp only[cm]
 refine aa ?_;intros
 refine ay 13 (NH pn c R*(Obj q 119 (cP f P)*1)) rfl rfl rfl ?_
 repeat(first|refine c5 ?_ |refine ax 0 rfl rfl rfl rfl (by decide+kernel) (ag) rfl ?_ |refine ax 1 rfl rfl rfl rfl (by decide+kernel) (ag) rfl ?_ |refine ax 2 rfl rfl rfl rfl (by decide+kernel) (ag) rfl ?_ |refine ax 3 rfl rfl rfl rfl (by decide+kernel) (ag) rfl ?_)
 refine aw rfl rfl rfl rfl rfl (Spec.aL R.tb (Hs hf (by omega) h.addr h.port)) (fun _=>ab) ?_
 intro g
 repeat(first|refine c5 ?_ |refine ax 0 rfl rfl rfl rfl (by decide+kernel) (ag) rfl ?_ |refine ax 1 rfl rfl rfl rfl (by decide+kernel) (ag) rfl ?_ |refine ax 2 rfl rfl rfl rfl (by decide+kernel) (ag) rfl ?_ |refine ax 3 rfl rfl rfl rfl (by decide+kernel) (ag) rfl ?_)
 (refine je rfl (cr rfl rfl rfl rfl rfl rfl) (by decide+kernel) rfl ?_);repeat(first|refine dy rfl rfl rfl (fY rfl rfl) (by decide+kernel) (by decide+kernel) rfl ?_ |refine dy rfl rfl rfl (eX rfl rfl) (by decide+kernel) (by decide+kernel) rfl ?_ |refine iP rfl rfl (cr rfl rfl rfl rfl rfl rfl) (by decide+kernel) (by decide+kernel) rfl ?_ |refine eD ?_)
 refine aa ?_;intros
 refine aE (aF rfl () rfl (U.sat (aA.bl {P with find:=g} (by rfl) ?_)))
 dsimp only[aM.look,kH]
 simp only[bF]
 exact ab
theorem IY {w:bH}{P:qT}(h:fX f)(hw:w.tr≤4):Spec Tryz.prog 131 [.pointer q,ju w] W (Obj q 119 (cP f P)*F) (fun _:Unit=>ju (f.jL w)) (fun _=>Obj q 119 (cP f P)*F):=by
 refine Spec.of Tryz.func131 rfl Tryz.ntmps131 rfl ?_
 have h1:=h.proto
 have h2:=h.flags
 have h3:=h.tick
 by_cases he:f.part.err=true
 ·have e:f.jL w=w:=by unfold aM.jL;rw[if_pos he]
  rw[e]
  refine aa ?_;intros
  refine vi (by rw[he];rfl) ?_
  refine aa ?_;intros
  exact ae (lQ (rv:= .cell 4 117) rfl ⟨_,rfl,aX.agg rfl⟩ () rfl (U.sat (ab)))
 ·have he:f.part.err=false:=by simpa using he
  have e:f.jL w={w with tr:=mw f.ai.proto w.tr f.out f.part.flags,sn:=if oN f.ai.proto f.out then max w.sn f.tick.toNat else w.sn}:=by unfold aM.jL;rw[if_neg (by rw[he];decide)]
  rw[e]
  refine aa ?_;intros
  refine vh (by rw[he];rfl) ?_
  refine aa ?_;intros
  rename_i y z
  refine ay 18 (Obj y 117 (wL w [])*(Obj q 119 (cP f P)*1)) rfl rfl rfl ?_
  refine ah ?_
  refine aw rfl rfl rfl rfl rfl (CM f.ai.proto w.tr f.part.flags f.out hw h2 h1) (fun _=>ab) ?_
  intro _
  refine ah ?_
  refine bD ?_;intros
  generalize mw f.ai.proto w.tr f.out f.part.flags=nx
  refine aa ?_;intros
  refine ay 99 (Obj q 119 (cP f P)*1) rfl rfl rfl ?_
  refine ah ?_
  refine aw rfl rfl rfl rfl rfl (PI f.ai.proto f.out) (fun _=>ab) ?_
  intro _
  refine ah ?_
  cases hr:oN f.ai.proto f.out with
  |true=>
   refine aa ?_;intros
   refine ay 8 (Obj y 117 (wL {w with tr:=nx} [])*(Obj q 119 (cP f P)*1)) rfl rfl rfl ?_
   refine ah ?_
   refine bD ?_;intros
   refine aa ?_;intros
   have em:((max w.sn f.tick.toNat:Nat):Int)=max (w.sn:Int) f.tick:=by omega
   rw[if_pos rfl]
   exact ae (lQ (rv:= .cell 4 117) rfl ⟨_,rfl,aX.agg rfl⟩ () (by simp only[ju];rw[em]) (U.sat (ab)))
  |false=>
   refine aa ?_;intros
   rw[if_neg (by decide)]
   exact ae (lQ (rv:= .cell 4 117) rfl ⟨_,rfl,aX.agg rfl⟩ () rfl (U.sat (ab)))
theorem Sg (hc:c.Ok){id:Nat}(h:fX f)(hid:id<3*c.np):Spec Tryz.prog 119 [.pointer pn,.pointer q,.int .i64 (id:Int)] W (aA q f*(NH pn c R*F)) (fun _:Unit=> .tuple #[]) (fun _=>aA q (f.goes c (id:Int))*(NH pn c R*F)):=by
 refine Spec.of Tryz.func119 rfl Tryz.ntmps119 rfl ?_
 have hp:=hc.p
 have ho:=hc.o
 have oB:=h.dz
 have cU:c.np=c.hi+1-c.lo:=rfl
 haveI:Pos c.np:=⟨by omega⟩
 have hr:id%c.np<c.np:=Nat.mod_lt _ (by omega)
 refine aA.open fun P=> ?_
 simp only[cm]
 refine aa ?_;intros
 refine ay 26 (NH pn c R*(Obj q 119 (cP f P)*1)) rfl rfl rfl ?_
 refine ah ?_
 rw[show((c.lo:Int)+(id:Int)%(c.np:Int))=((c.lo+id%c.np:Nat):Int)by omega]
 refine aw rfl rfl rfl rfl rfl (Px (l:=f.b) oB c.o (c.lo+id%c.np) (by omega) (by omega)) (fun _=>ab) ?_
 intro z
 refine ah ?_
 simp only[xa]
 refine lp rfl rfl rfl rfl (Spec.pre (Am (q:=q) (f:=f) (l:=kF f.b true c.o (c.lo+id%c.np)) (z:=z) (e:=eA f.b) (F:=NH pn c R*F)) (U.cons (aA.bl P (by rfl) (ab)))) ?_
 intro _
 refine ah ?_
 refine aa ?_;intros
 exact aE (aF rfl () rfl (U.sat (U.refl _)))
end
section
open Go.RowKit
set_option maxRecDepth 10000
attribute [local irreducible] EK EX ER EN EL ES EG an aR aU
variable {W:World} {F:SL} {X:Cx} {k:List KI} {σ:Env} {pn q:Option Addr} {f:aM} {c:NC} {R:dV} {s:aW}
theorem NC.Ok.ql (h:c.Ok):fV (c.nb:Int)=true:=by
 have:=h.b
 unfold jK at this
 unfold fV
 exact decide_eq_true (by omega)
theorem NC.Ok.np (h:c.Ok):1≤c.np∧c.np≤1024:=by
 obtain⟨_,_,h3,_,_⟩:=h
 unfold NC.np
 omega
theorem NC.Ok.nb (h:c.Ok):2≤c.nb∧c.nb≤1024:=by
 have:=h.b
 unfold jK at this
 omega
theorem Gh {a b:bH}:(@decide (([.int .i64 (a.st:Int),.int .i64 (a.gen:Int),.int .i64 (a.tr:Int),.int .i64 (a.sn:Int)]:List Value)=[.int .i64 (b.st:Int),.int .i64 (b.gen:Int),.int .i64 (b.tr:Int),.int .i64 (b.sn:Int)]) (Classical.propDecidable _))=decide (a=b):=by
 obtain⟨a1,a2,a3,a4⟩:=a
 obtain⟨b1,b2,b3,b4⟩:=b
 rw[decide_eq_decide]
 simp only[List.cons.injEq,Value.int.injEq,bH.mk.injEq,and_true,true_and,Int.natCast_inj]
theorem Dr (hc:c.Ok){id:Int}(h:fX f)(h0:0≤id)(h1:id<((3*c.np:Nat):Int)):Spec Tryz.prog 119 [.pointer pn,.pointer q,.int .i64 id] W (aA q f*(NH pn c R*F)) (fun _:Unit=> .tuple #[]) (fun _=>aA q (f.goes c id)*(NH pn c R*F)):=by
 have h:=Sg (W:=W) (F:=F) (pn:=pn) (q:=q) (R:=R) (id:=id.toNat) hc h (by omega)
 rw[show((id.toNat:Nat):Int)=id by omega]at h
 exact h
theorem tc {p:Option Addr}{id:Int}(hc:c.Ok)(hp:cy (3*c.np) s.pl)(h0:0≤id)(h1:id<((3*c.np:Nat):Int)):Spec Tryz.prog 54 [.pointer p,.int .i64 id] W (aG p s.pl*F) (fun _:Unit=>ju (bI s id)) (fun _=>aG p s.pl*F):=by
 have cU:=hc.np
 have h:=zJ (W:=W) (F:=F) (p:=p) (i:=id.toNat) hp.len (by omega) (by omega) hp.w
 rw[show((id.toNat:Nat):Int)=id by omega]at h
 exact h
theorem ta {p:Option Addr}{id:Int}{a b:bH}(hc:c.Ok)(hp:cy (3*c.np) s.pl)(h0:0≤id)(h1:id<((3*c.np:Nat):Int))(ha:a.ok)(hb:b.ok):Spec Tryz.prog 117 [.pointer p,.int .i64 id,ju a,ju b] W (aG p s.pl*F) (fun _:Unit=> .bool (jR s id a b)) (fun _=>aG p (bL s id a b).pl*F):=by
 have cU:=hc.np
 have h:=Py (W:=W) (F:=F) (p:=p) (i:=id.toNat) hp.len (by omega) (by omega) ha hb
 rw[show((id.toNat:Nat):Int)=id by omega]at h
 have e:(bL s id a b).pl=if ng a b=true∧s.pl.getD (2*id.toNat) 0=a.num then s.pl.set (2*id.toNat) b.num else s.pl:=by
  unfold bL jR
  simp only[Bool.and_eq_true,decide_eq_true_eq]
  split<;>rfl
 rw[e]
 exact h
theorem WA (hc:c.Ok)(hp:cy (3*c.np) s.pl)(h:fX f)(h0:0≤f.id)(h1:f.id<((3*c.np:Nat):Int)):Spec Tryz.prog 118 [.pointer pn,.pointer q] W (aA q f*(NH pn c R*(aG R.pl s.pl*(aB R.tb R.pl c.nb s.tb*F)))) (fun _:Unit=> .tuple #[])
  (fun _=>aA q (wH c s f)*(NH pn c R*(aG R.pl s.pl*(aB R.tb R.pl c.nb s.tb*F)))):=by
 refine Spec.of Tryz.func118 rfl Tryz.ntmps118 rfl ?_
 have cU:=hc.np
 have jr:=hc.ql
 have qB:(bI s f.id).tr≤4:=hp.tr f.id.toNat
 refine aA.open fun P=> ?_
 simp only[cm]
 refine pS ?_
 refine kh (γ:=Option Addr) (fun _=>True) (fun y=>[(0,.pointer pn),(1,.pointer q),(4,.pointer y)]) (fun y=>Obj y 117 (wL (bI s f.id) [])*cm q f P (NH pn c R*(aG R.pl s.pl*(aB R.tb R.pl c.nb s.tb*F)))) ?_ ?_
 ·refine aa ?_;intros
  refine ay 10 (NH pn c R*(Obj q 119 (cP f P)*1)) rfl rfl rfl ?_
  refine ah ?_
  refine qS (i:=8) (j:=9) (su rfl rfl rfl rfl (Spec.aL R.pl (tc hc hp h0 h1)) (fun _=>ab) ?_) (tO rfl rfl (sF rfl) rfl (fun _=>ab) ?_)
  ·intro _
   refine bD ?_;intros
   rename_i y
   refine aa ?_;intros
   exact dI y trivial ⟨rfl,rfl,rfl,trivial⟩ (U.sat (ab))
  ·intro y
   refine aw rfl rfl rfl rfl rfl (Spec.aL R.pl (tc hc hp h0 h1)) (fun _=>ab) ?_
   intro _
   refine bD ?_;intros
   refine aa ?_;intros
   exact dI y trivial ⟨rfl,rfl,rfl,trivial⟩ (U.sat (ab))
 intro y _
 unfold wH
 generalize bI s f.id=w at*
 simp only[cm]
 by_cases hg:w.gen=f.word.gen
 ·by_cases w2:w.st=2
  ·rw[if_neg (by omega),if_neg (by omega)]
   refine aa ?_;intros
   (refine ay 99 (Obj y 117 (wL w [])*(Obj q 119 (cP f P)*1)) rfl rfl rfl ?_);(refine ah ?_);(refine aa ?_;intros)
   refine ay 15 (Obj y 117 (wL w [])*(iS q 119*1)) rfl rfl rfl ?_
   repeat(first|refine c5 ?_ |refine ax 0 rfl rfl rfl rfl (by decide+kernel) (ag) rfl ?_ |refine ax 1 rfl rfl rfl rfl (by decide+kernel) (ag) rfl ?_ |refine ax 2 rfl rfl rfl rfl (by decide+kernel) (ag) rfl ?_ |refine ax 3 rfl rfl rfl rfl (by decide+kernel) (ag) rfl ?_)
   refine aw rfl rfl rfl rfl rfl (Spec.aL q (IY (P:=P) h qB)) (fun _=>by(repeat(first|refine U.cons ?_ |refine U.uT ?_ |exact U.any|exact U.last))) ?_
   intro _
   repeat(first|refine c5 ?_ |refine ax 0 rfl rfl rfl rfl (by decide+kernel) (ag) rfl ?_ |refine ax 1 rfl rfl rfl rfl (by decide+kernel) (ag) rfl ?_ |refine ax 2 rfl rfl rfl rfl (by decide+kernel) (ag) rfl ?_ |refine ax 3 rfl rfl rfl rfl (by decide+kernel) (ag) rfl ?_)
   refine bD ?_;intros
   refine aa ?_;intros
   obtain⟨g,hg⟩:∃g:aM,g={f with word:=w,now:=f.jL w,next:=5}:=⟨_,rfl⟩
   have yj:g.now=f.jL w:=by rw[hg]
   have yi:g.id=f.id:=by rw[hg]
   have sY:fX g:=by rw[hg];exact⟨h.dz,h.tick,h.proto,h.addr,h.port,h.flags⟩
   have e1:({f with word:=w,now:=f.jL w,next:=5}:aM)=g:=hg.symm
   rw[e1]
   refine iQ (G:=Obj y 117 (wL w [])*cm q g P (NH pn c R*(aG R.pl s.pl*(aB R.tb R.pl c.nb s.tb*F)))) (by rw[hg];exact ab) ?_
   simp only[cm]
   refine ay 99 (Obj y 117 (wL w [])*(Obj q 119 (cP g P)*1)) rfl rfl rfl ?_
   refine ah ?_
   rw[Gh]
   by_cases heq:f.jL w=w
   ·rw[if_pos heq,decide_eq_true (by rw[yj];exact heq)]
    refine aa ?_;intros
    refine af rfl (Spec.pre (Dr (pn:=pn) (q:=q) (f:=g) (R:=R) (id:=g.id) (F:=Obj y 117 (wL w [])*(aG R.pl s.pl*(aB R.tb R.pl c.nb s.tb*F))) hc sY (by omega) (by omega)) (aA.bl P (by rfl) (ab))) ?_
    intro _
    refine aa ?_;intros
    rw[yi]
    exact aE (aF rfl () rfl (U.sat (ab)))
   ·rw[if_neg heq,decide_eq_false (by rw[yj];exact heq)]
    refine aa ?_;intros
    exact aE (aF rfl () rfl (U.sat (aA.bl P (by rfl) (ab))))
  ·by_cases w1:w.st=1
   ·rw[if_neg (by omega),if_pos w1]
    refine aa ?_;intros
    (refine ay 99 (Obj y 117 (wL w [])*(Obj q 119 (cP f P)*1)) rfl rfl rfl ?_);(refine ah ?_);(refine aa ?_;intros)
    refine ay 6 (Obj y 117 (wL w [])*(Obj q 119 (cP f P)*1)) rfl rfl rfl ?_
    refine ah ?_
    refine lp rfl rfl rfl rfl (Spec.pre (An (q:=q) (f:=f) (id:=f.id) (w:=w) (F:=Obj y 117 (wL w [])*(NH pn c R*(aG R.pl s.pl*(aB R.tb R.pl c.nb s.tb*F))))) (aA.bl P (by rfl) (ab))) ?_
    intro _
    refine ah ?_
    refine aa ?_;intros
    exact aE (aF rfl () rfl (U.sat (ab)))
   ·rw[if_pos (.inr ⟨w2,w1⟩)]
    refine aa ?_;intros
    (refine ay 99 (Obj y 117 (wL w [])*(Obj q 119 (cP f P)*1)) rfl rfl rfl ?_);(refine ah ?_);(refine aa ?_;intros)
    refine af rfl (Spec.pre (Dy (pn:=pn) (q:=q) (f:=f) (R:=R) (s:=s) (F:=Obj y 117 (wL w [])*(aG R.pl s.pl*F)) jr h) (aA.bl P (by rfl) (ab))) ?_;intro _;(refine aa ?_;intros);exact aE (aF rfl () rfl (U.sat (ab)))
 ·rw[if_pos (.inl hg)]
  refine aa ?_;intros
  (refine ay 99 (Obj y 117 (wL w [])*(Obj q 119 (cP f P)*1)) rfl rfl rfl ?_);(refine ah ?_);(refine aa ?_;intros)
  refine af rfl (Spec.pre (Dy (pn:=pn) (q:=q) (f:=f) (R:=R) (s:=s) (F:=Obj y 117 (wL w [])*(aG R.pl s.pl*F)) jr h) (aA.bl P (by rfl) (ab))) ?_;intro _;(refine aa ?_;intros);exact aE (aF rfl () rfl (U.sat (ab)))
end
end Go.Proofs.YtfkngchldmfpfaaGreatDoor
