/-
  Joined by a program (wip/bundle2.py).
-/
import Derived.OrdersHeld
import Derived.Test.YtimekbpkejemoaaGreatDoorG2
import Derived.Test.YtimekbpkejemoaaGreatDoorG3
import Derived.Test.YtimekbpkejemoaaGreatDoorG4
import Derived.Test.YtimekbpkejemoaaGreatDoorG6
set_option linter.unusedVariables false
set_option linter.unusedSimpArgs false
namespace Go.Proofs.YtimekbpkejemoaaGreatDoor
section
open Go.RowKit
section
variable {P:Program} {ops:Array Oper} {Q:Exit→Act→World→Prop} {md:Region.Mode} {S:World→Prop} {L:Nat}
def ki (ops:Array Oper)(listed:Array Bool)(L:Nat):Prop:=(∃o,ops[L]? =some o)∧listed.getD L false=true
def wpAnyL (P:Program)(md:Region.Mode)(ops:Array Oper)(Q:Exit→Act→World→Prop)(S:World→Prop)(L:Nat):Nat→Array Bool→Act→World→Prop
 |0,listed,a,w=>Region.ready md ops listed=[]∧Q .normal a w
 |fuel+1,listed,a,w=>
  (Region.ready md ops listed=[]→Q .normal a w)∧
  ∀i∈Region.ready md ops listed,wpOp P ops Q i (fun a' w'=>(i≠L∧¬ki ops listed L→S w')∧wpAnyL P md ops Q S L fuel (listed.setIfInBounds i true) a' w') a w
theorem HN:∀(fuel:Nat) (listed:Array Bool) (a:Act) (w:World),wpAnyL P md ops Q S L fuel listed a w→wpAny P md ops Q fuel listed a w
 |0,_,_,_,h=>h
 |fuel+1,_,_,_,h=>⟨h.1,fun i hi=>wpOp_mono (fun a' w' h'=>HN fuel _ a' w' h'.2) (h.2 i hi)⟩
def oB (md:Region.Mode)(ops:Array Oper)(listed:Array Bool):Prop:=∀(k:Nat) (o:Oper),ops[k]? =some o→listed.getD k true=true→∀e∈o.after,Region.binds md e=true→listed.getD e.on false=true
def u4 (md:Region.Mode)(ops:Array Oper)(listed:Array Bool):Bool:=
 (List.range ops.size).all fun k=>match ops[k]? with
  |none=>true
  |some o=> !listed.getD k true||o.after.all fun e=> !Region.binds md e||listed.getD e.on false
theorem yZ {listed:Array Bool}(h:u4 md ops listed=true):oB md ops listed:=by
 intro k o ho hk e he hb
 have cN:=(Array.getElem?_eq_some_iff.1 ho).1
 have h1:=List.all_eq_true.1 h k (List.mem_range.2 cN)
 rw[ho]at h1
 simp only[hk,Bool.not_true,Bool.false_or,Array.all_eq_true']at h1
 have h2:=h1 e he
 simpa[hb]using h2
def qc (md:Region.Mode)(ops:Array Oper)(i:Nat):Nat→Nat→Bool
 |0,_=>false
 |f+1,k=>match ops[k]? with
  |none=>false
  |some o=>o.after.any fun e=>Region.binds md e&&(e.on==i||qc md ops i f e.on)
theorem CC {listed:Array Bool}{i:Nat}(hc:oB md ops listed):∀(f k:Nat) (o:Oper),ops[k]? =some o→qc md ops i f k=true→(∀e∈o.after,Region.binds md e=true→listed.getD e.on false=true)→listed.getD i false=true
 |0,_,_,_,h,_=>by simp[qc]at h
 |f+1,k,o,ho,h,hl=>by
  simp only[qc,ho,Array.any_eq_true',Bool.and_eq_true,Bool.or_eq_true,beq_iff_eq]at h
  obtain⟨e,he,hb,h|h⟩:=h
  ·rw[←h];exact hl e he hb
  ·have h1:=hl e he hb
   cases Ae:ops[e.on]? with
   |none=>
    cases f with
    |zero=>simp[qc]at h
    |succ f=>simp[qc,Ae]at h
   |some o2=>
    have h2:listed.getD e.on true=true:=by
     rcases Nat.lt_or_ge e.on listed.size with g|g
     ·simpa[g]using h1
     ·simp[Array.getElem?_eq_none g]
    exact CC hc f e.on o2 Ae h fun e' D7 ru=>hc e.on o2 Ae h2 e' D7 ru
theorem oB.set {listed:Array Bool}{j:Nat}(hc:oB md ops listed)(hj:j∈Region.ready md ops listed):oB md ops (listed.setIfInBounds j true):=by
 intro k o ho hk e he hb
 obtain⟨_,oj,iB,jz⟩:=mem_ready.1 hj
 by_cases kq:j=k
 ·subst kq
  rw[iB]at ho
  cases ho
  exact getD_set_true (jz e he hb)
 ·rw[getD_set_ne true kq]at hk
  exact getD_set_true (hc k o ho hk e he hb)
theorem DP {listed:Array Bool}{i:Nat}(h:listed.getD i true=false):listed.getD i false=false:=by
 rcases Nat.lt_or_ge i listed.size with h'|h'
 ·simpa[h']using h
 ·simp[Array.getElem?_eq_none h']at h
theorem wpAnyL_first {i:Nat}{oi:Oper}{v:Value}(hi:ops[i]? =some oi)(jD:∀(j:Nat) (o:Oper) cs b,ops[j]? =some o→o.op≠ .select cs b)
  (hQ:∀c a w,Q (.panic c) (a.put oi.dst v) w→Q (.panic c) a w) (hL:∀(listed:Array Bool),oB md ops listed→L∈Region.ready md ops listed∨ki ops listed L→i≠L→listed.getD i true=true) (mQ:i≠L):
  ∀(fuel:Nat) (listed:Array Bool) (a:Act) (w:World),
   (∀j oj,ops[j]? =some oj→j≠i→listed.getD j true=false→(∀e∈oj.after,Region.binds md e=true→e.on≠i)→oi.apart ops oj=true)→
   i∈Region.ready md ops listed→oB md ops listed→YieldsIf P ops S oi v a→S w→
   wpAnyL P md ops Q S L fuel (listed.setIfInBounds i true) (a.put oi.dst v) w→wpAnyL P md ops Q S L (fuel+1) listed a w:=by
 intro fuel
 induction fuel with
 |zero=>
  intro listed a w _ hr _ hy hS H
  refine⟨fun h=>(by rw[h]at hr;cases hr),fun j hj=> ?_⟩
  by_cases dK:j=i
  ·subst dK;exact hy.wpOp hi hS ⟨fun _=>hS,H⟩
  ·have:=ready_mono hj dK
   rw[H.1]at this
   cases this
 |succ fuel ih=>
  intro listed a w ma hr hc hy hS H
  refine⟨fun h=>(by rw[h]at hr;cases hr),fun j hj=> ?_⟩
  by_cases dK:j=i
  ·subst dK;exact hy.wpOp hi hS ⟨fun _=>hS,H⟩
  ·have te:j≠L:=fun e=>by
    subst e
    have h1:=hL listed hc (.inl hj) mQ
    rw[(mem_ready.1 hr).1]at h1
    cases h1
   have h1:=H.2 j (ready_mono hj dK)
   obtain⟨kT,oj,iB,jz⟩:=mem_ready.1 hj
   have qC:∀e∈oj.after,Region.binds md e=true→e.on≠i:=fun e he hb heq=>by
    have h1:=jz e he hb
    rw[heq,DP (mem_ready.1 hr).1]at h1
    cases h1
   have h2:=wpOp_putIf iB (ma j oj iB dK kT qC) (fun cs b=>jD i oi cs b hi) (fun cs b=>jD j oj cs b iB) hQ hy h1
   have qw:∀k ok,ops[k]? =some ok→k≠i→(listed.setIfInBounds j true).getD k true=false→
     (∀e∈ok.after,Region.binds md e=true→e.on≠i)→oi.apart ops ok=true:=fun k ok hk qA iF nM=>by
    refine ma k ok hk qA ?_ nM
    by_cases kq:j=k
    ·subst kq;exact kT
    ·rw[getD_set_ne true kq]at iF;exact iF
   have EP:¬ki ops (listed.setIfInBounds i true) L:=fun hl=>by
    have Em:ki ops listed L:=⟨hl.1,by
     have h0:=hl.2
     rw[Array.getD_eq_getD_getElem?]at h0 ⊢
     rwa[Array.getElem?_setIfInBounds_ne mQ]at h0⟩
    have h1:=hL listed hc (.inr Em) mQ
    rw[(mem_ready.1 hr).1]at h1
    cases h1
   refine wpOp_mono (fun a' w' h3=>⟨fun _=>h3.2.1 ⟨te,EP⟩,ih (listed.setIfInBounds j true) a' w' qw (ready_mono hr (Ne.symm dK)) (hc.set hj) h3.1 (h3.2.1 ⟨te,EP⟩) ?_⟩) h2
   rw[Array.setIfInBounds_comm _ _ dK]
   exact h3.2.2
def tO (md:Region.Mode)(ops:Array Oper)(L i:Nat):Bool:=match ops[L]? with
 |none=> !(i==L)
 |some _=> !(i==L)&&qc md ops i ops.size L
theorem AF {i:Nat}(h:tO md ops L i=true):i≠L∧∀(listed:Array Bool),oB md ops listed→L∈Region.ready md ops listed∨ki ops listed L→i≠L→listed.getD i true=true:=by
 unfold tO at h
 cases ho:ops[L]? with
 |none=>
  rw[ho]at h
  refine⟨by simpa using h,fun listed hc hr _=> ?_⟩
  rcases hr with hr|hr
  ·obtain⟨_,o,h1,_⟩:=mem_ready.1 hr
   rw[ho]at h1
   cases h1
  ·obtain⟨⟨o,h1⟩,_⟩:=hr
   rw[ho]at h1
   cases h1
 |some o=>
  rw[ho]at h
  simp only[Bool.and_eq_true,Bool.not_eq_true',beq_eq_false_iff_ne]at h
  refine⟨h.1,fun listed hc hr _=> ?_⟩
  have h2:∀e∈o.after,Region.binds md e=true→listed.getD e.on false=true:=by
   rcases hr with hr|hr
   ·obtain⟨_,o',h1,h2⟩:=mem_ready.1 hr
    rw[ho]at h1
    cases h1
    exact h2
   ·refine hc L o ho ?_
    have h0:=hr.2
    rw[Array.getD_eq_getD_getElem?]at h0 ⊢
    cases hq:listed[L]? with
    |none=>rfl
    |some b=>rw[hq]at h0;exact h0
  have h3:=CC hc _ L o ho h.2 h2
  rcases Nat.lt_or_ge i listed.size with g|g
  ·simpa[g]using h3
  ·simp[Array.getElem?_eq_none g]
end
def nT (R:Act→World→Prop):Exit→Act→World→Prop
 | .normal,a,w=>R a w
 |_,_,_=>False
def EG (X:Cx)(k:List KI)(ops:List Oper)(S:SL)(L fuel:Nat)(listed:Array Bool)(σ:Env)(H:SL):Prop:=
 ∀a w,Fits X.N a σ→Sat X.W w H→wpAnyL X.P .any ops.toArray (nT (run X.P X.R k .normal)) (fun w=>Sat X.W w S) L fuel listed a w
variable {X:Cx} {k:List KI} {σ:Env} {H S:SL} {ops:List Oper} {fuel L:Nat} {listed:Array Bool}
theorem aG {id n:Nat}{ls:Array Bool}(L:Nat)(S:SL)(hm:X.P.follows .mixedOrders=true)(hn:ops.toArray.size=n)(hl:Array.replicate n false=ls)(h:EG X k ops S L n ls σ H):EK X (.code (.region id ops.toArray true)::k) σ H:=by
 subst hn hl
 intro a w ha hs
 refine Code.wp_mono (Q:=nT (run X.P X.R k .normal)) ?_ (wp_region_any hm (HN _ _ _ _ (h a _ ha hs.drew)))
 intro e a w he
 cases e<;>first|exact he|exact he.elim
def ku:List Bool→Nat→Nat→Option Nat
 |[],_,_=>none
 |true::l,n,i=>ku l n (i+1)
 |false::_,0,i=>some i
 |false::l,n+1,i=>ku l n (i+1)
theorem dQ (n:Nat){d:Nat}{v:Value}{op:Op}{ty:TypeId}{pos:String}{aft:Array Edge}{i:Nat}(hn:ku listed.toList n 0=some i)(hi:ops.toArray[i]? =some ⟨some d,op,ty,pos,aft,none⟩)(hd:Nat.blt d X.N=true)
  (hv:av X σ S ⟨some d,op,ty,pos,aft,none⟩ v)
  (hb:(Region.noSelect ops.toArray&&Region.free .any ops.toArray listed i&&(Region.ready .any ops.toArray listed).contains i&&u4 .any ops.toArray listed&&tO .any ops.toArray L i)=true) (hS:U H S) {ls:Array Bool} (hl:listed.setIfInBounds i true=ls)
  (h:EG X k ops S L fuel ls ((d,v)::σ) H):EG X k ops S L (fuel+1) listed σ H:=by
 subst hl
 simp only[Bool.and_eq_true]at hb
 obtain⟨⟨⟨⟨hs,hf⟩,hr⟩,hc⟩,tg⟩:=hb
 obtain⟨h1,h2⟩:=AF tg
 intro a w ha hw
 exact wpAnyL_first hi (Region.noSelect_spec hs) (fun _ _ _ h=>h.elim) h2 h1 fuel listed a w (Region.free_spec hi hf) (by simpa using hr) (yZ hc) (.inl ⟨rfl,fun w hs=>hv a w ha hs⟩) (hS.sat _ hw) (h _ _ (ha.put hd v) hw)
theorem mn {i:Nat}(hr:Region.ready .any ops.toArray listed=[i]){a:Act}{w:World}(h:wpOp X.P ops.toArray (nT (run X.P X.R k .normal)) i (fun a' w'=>(i≠L∧¬ki ops.toArray listed L→Sat X.W w' S)∧wpAnyL X.P .any ops.toArray (nT (run X.P X.R k .normal)) (fun w=>Sat X.W w S) L fuel (listed.setIfInBounds i true) a' w') a w):
  wpAnyL X.P .any ops.toArray (nT (run X.P X.R k .normal)) (fun w=>Sat X.W w S) L (fuel+1) listed a w:=
 ⟨fun h0=>(by rw[hr]at h0;cases h0),fun j hj=>by
  rw[hr,List.mem_singleton]at hj
  subst hj
  exact h⟩
theorem Jd {α:Type}{r:α→Value}{H':α→SL}{d:Nat}{op:Op}{ty:TypeId}{pos:String}{aft:Array Edge}{i:Nat}(hn:ku listed.toList 0 0=some i)(hi:ops.toArray[i]? =some ⟨some d,op,ty,pos,aft,none⟩)(hd:Nat.blt d X.N=true)
  (hv:aV X σ H ⟨some d,op,ty,pos,aft,none⟩ r H') (hr:Region.ready .any ops.toArray listed=[i]) {ls:Array Bool} (hl:listed.setIfInBounds i true=ls)
  (hS:∀x,U (H' x) S) (h:∀x,EG X k ops S L fuel ls ((d,r x)::σ) (H' x)):EG X k ops S L (fuel+1) listed σ H:=by
 subst hl
 intro a w ha hw
 refine mn hr ?_
 obtain⟨x,w',h1,h2⟩:=hv a w ha hw
 unfold wpOp
 rw[hi]
 simp only[Region.wanted,Oper.wp,h1,Oper.upon,if_true]
 exact .inl ⟨fun _=>(hS x).sat _ h2,h x _ _ (ha.put hd _) h2⟩
theorem Jg {v:Value}{d:Nat}{op:Op}{ty:TypeId}{pos:String}{aft:Array Edge}{i:Nat}(hn:ku listed.toList 0 0=some i)(hi:ops.toArray[i]? =some ⟨some d,op,ty,pos,aft,none⟩)(hd:Nat.blt d X.N=true)
  (hv:av X σ H ⟨some d,op,ty,pos,aft,none⟩ v) (hr:Region.ready .any ops.toArray listed=[i]) (hS:U H S) {ls:Array Bool} (hl:listed.setIfInBounds i true=ls)
  (h:EG X k ops S L fuel ls ((d,v)::σ) H):EG X k ops S L (fuel+1) listed σ H:=by
 subst hl
 intro a w ha hw
 refine mn hr ?_
 unfold wpOp
 rw[hi]
 simp only[Region.wanted,Oper.wp,hv a w ha hw,Oper.upon,if_true]
 exact .inl ⟨fun _=>hS.sat _ hw,h _ _ (ha.put hd _) hw⟩
theorem Jf {H':SL}{op:Op}{ty:TypeId}{pos:String}{aft:Array Edge}{i:Nat}(hn:ku listed.toList 0 0=some i)(hi:ops.toArray[i]? =some ⟨none,op,ty,pos,aft,none⟩)
  (hv:aY X σ H ⟨none,op,ty,pos,aft,none⟩ H') (hr:Region.ready .any ops.toArray listed=[i]) (hS:U H' S) {ls:Array Bool} (hl:listed.setIfInBounds i true=ls)
  (h:EG X k ops S L fuel ls σ H'):EG X k ops S L (fuel+1) listed σ H:=by
 subst hl
 intro a w ha hw
 refine mn hr ?_
 obtain⟨w',h1,h2⟩:=hv a w ha hw
 unfold wpOp
 rw[hi]
 simp only[Region.wanted,Oper.wp,h1,Oper.upon,if_true]
 exact .inl ⟨fun _=>hS.sat _ h2,h _ _ ha h2⟩
theorem xm {H':SL}{op:Op}{ty:TypeId}{pos:String}{aft:Array Edge}(hi:ops.toArray[L]? =some ⟨none,op,ty,pos,aft,none⟩)
  (hv:aY X σ H ⟨none,op,ty,pos,aft,none⟩ H') (hr:Region.ready .any ops.toArray listed=[L]) (rH:Region.ready .any ops.toArray (listed.setIfInBounds L true)=[]) (h:EK X k σ H'):EG X k ops S L (fuel+1) listed σ H:=by
 intro a w ha hw
 refine mn hr ?_
 obtain⟨w',h1,h2⟩:=hv a w ha hw
 unfold wpOp
 rw[hi]
 simp only[Region.wanted,Oper.wp,h1,Oper.upon,if_true]
 refine .inl ⟨fun e=>absurd rfl e.1,?_⟩
 have h3:nT (run X.P X.R k .normal) .normal (a.put none undef) w':=h _ _ ha h2
 cases fuel with
 |zero=>exact⟨rH,h3⟩
 |succ f=>exact⟨fun _=>h3,by rw[rH];simp⟩
theorem BF (hr:Region.ready .any ops.toArray listed=[])(h:EK X k σ H):EG X k ops S L fuel listed σ H:=fun a w ha hw=>by
 have h3:nT (run X.P X.R k .normal) .normal a w:=h _ _ ha hw
 cases fuel with
 |zero=>exact⟨hr,h3⟩
 |succ f=>exact⟨fun _=>h3,by rw[hr];simp⟩
theorem eD {X:Cx}{k:List KI}{ops:List Oper}{S H:SL}{L fuel:Nat}{listed:Array Bool}{σ:Env}(h:EK X k σ H)(hr:Region.ready .any ops.toArray listed=[]:=by decide+kernel):EG X k ops S L fuel listed σ H:=BF hr h
end
section
open Go.RowKit
variable {X:Cx} {σ:Env} {H:SL} {ai:TypeId} {ah:String} {ag:Array Edge}
theorem S1 {x:_}{aj:Option Nat}{v_:Value}(h_:av X σ H ⟨aj,.move x,ai,ah,ag,none⟩ v_):av X σ H ⟨aj,.move x,ai,ah,ag,none⟩ v_:=h_
theorem SF {x:_}{aj:Option Nat}{v_:Value}(h_:av X σ H ⟨aj,.assign x,ai,ah,ag,none⟩ v_):av X σ H ⟨aj,.assign x,ai,ah,ag,none⟩ v_:=h_
theorem SJ {i x:_}{aj:Option Nat}{v_:Value}(h_:av X σ H ⟨aj,.extract x i,ai,ah,ag,none⟩ v_):av X σ H ⟨aj,.extract x i,ai,ah,ag,none⟩ v_:=h_
theorem SV {t x:_}{aj:Option Nat}{v_:Value}(h_:av X σ H ⟨aj,.load t x,ai,ah,ag,none⟩ v_):av X σ H ⟨aj,.load t x,ai,ah,ag,none⟩ v_:=h_
theorem SM {i t x:_}{aj:Option Nat}{v_:Value}(h_:av X σ H ⟨aj,.fieldAddr t x i,ai,ah,ag,none⟩ v_):av X σ H ⟨aj,.fieldAddr t x i,ai,ah,ag,none⟩ v_:=h_
theorem S4 {x:_}{aj:Option Nat}{v_:Value}(h_:av X σ H ⟨aj,.nilCheck x,ai,ah,ag,none⟩ v_):av X σ H ⟨aj,.nilCheck x,ai,ah,ag,none⟩ v_:=h_
theorem SI {t u x y:_}{aj:Option Nat}{v_:Value}(h_:av X σ H ⟨aj,.binOp .eql t x y u,ai,ah,ag,none⟩ v_):av X σ H ⟨aj,.binOp .eql t x y u,ai,ah,ag,none⟩ v_:=h_
theorem S3 {t u x y:_}{aj:Option Nat}{v_:Value}(h_:av X σ H ⟨aj,.binOp .neq t x y u,ai,ah,ag,none⟩ v_):av X σ H ⟨aj,.binOp .neq t x y u,ai,ah,ag,none⟩ v_:=h_
theorem SX {t u x y:_}{aj:Option Nat}{v_:Value}(h_:av X σ H ⟨aj,.binOp .lss t x y u,ai,ah,ag,none⟩ v_):av X σ H ⟨aj,.binOp .lss t x y u,ai,ah,ag,none⟩ v_:=h_
theorem SU {t u x y:_}{aj:Option Nat}{v_:Value}(h_:av X σ H ⟨aj,.binOp .leq t x y u,ai,ah,ag,none⟩ v_):av X σ H ⟨aj,.binOp .leq t x y u,ai,ah,ag,none⟩ v_:=h_
theorem SP {t u x y:_}{aj:Option Nat}{v_:Value}(h_:av X σ H ⟨aj,.binOp .gtr t x y u,ai,ah,ag,none⟩ v_):av X σ H ⟨aj,.binOp .gtr t x y u,ai,ah,ag,none⟩ v_:=h_
theorem SO {t u x y:_}{aj:Option Nat}{v_:Value}(h_:av X σ H ⟨aj,.binOp .geq t x y u,ai,ah,ag,none⟩ v_):av X σ H ⟨aj,.binOp .geq t x y u,ai,ah,ag,none⟩ v_:=h_
theorem SC {t u x y:_}{aj:Option Nat}{v_:Value}(h_:av X σ H ⟨aj,.binOp .add t x y u,ai,ah,ag,none⟩ v_):av X σ H ⟨aj,.binOp .add t x y u,ai,ah,ag,none⟩ v_:=h_
theorem Tc {t u x y:_}{aj:Option Nat}{v_:Value}(h_:av X σ H ⟨aj,.binOp .sub t x y u,ai,ah,ag,none⟩ v_):av X σ H ⟨aj,.binOp .sub t x y u,ai,ah,ag,none⟩ v_:=h_
theorem S2 {t u x y:_}{aj:Option Nat}{v_:Value}(h_:av X σ H ⟨aj,.binOp .mul t x y u,ai,ah,ag,none⟩ v_):av X σ H ⟨aj,.binOp .mul t x y u,ai,ah,ag,none⟩ v_:=h_
theorem SD {t u x y:_}{aj:Option Nat}{v_:Value}(h_:av X σ H ⟨aj,.binOp .and t x y u,ai,ah,ag,none⟩ v_):av X σ H ⟨aj,.binOp .and t x y u,ai,ah,ag,none⟩ v_:=h_
theorem S5 {t u x y:_}{aj:Option Nat}{v_:Value}(h_:av X σ H ⟨aj,.binOp .or t x y u,ai,ah,ag,none⟩ v_):av X σ H ⟨aj,.binOp .or t x y u,ai,ah,ag,none⟩ v_:=h_
theorem Te {t u x y:_}{aj:Option Nat}{v_:Value}(h_:av X σ H ⟨aj,.binOp .xor t x y u,ai,ah,ag,none⟩ v_):av X σ H ⟨aj,.binOp .xor t x y u,ai,ah,ag,none⟩ v_:=h_
theorem SE {t u x y:_}{aj:Option Nat}{v_:Value}(h_:av X σ H ⟨aj,.binOp .andNot t x y u,ai,ah,ag,none⟩ v_):av X σ H ⟨aj,.binOp .andNot t x y u,ai,ah,ag,none⟩ v_:=h_
theorem S7 {t u x y:_}{aj:Option Nat}{v_:Value}(h_:av X σ H ⟨aj,.binOp .quo t x y u,ai,ah,ag,none⟩ v_):av X σ H ⟨aj,.binOp .quo t x y u,ai,ah,ag,none⟩ v_:=h_
theorem S8 {t u x y:_}{aj:Option Nat}{v_:Value}(h_:av X σ H ⟨aj,.binOp .rem t x y u,ai,ah,ag,none⟩ v_):av X σ H ⟨aj,.binOp .rem t x y u,ai,ah,ag,none⟩ v_:=h_
theorem Ta {t u x y:_}{aj:Option Nat}{v_:Value}(h_:av X σ H ⟨aj,.binOp .shr t x y u,ai,ah,ag,none⟩ v_):av X σ H ⟨aj,.binOp .shr t x y u,ai,ah,ag,none⟩ v_:=h_
theorem S9 {t u x y:_}{aj:Option Nat}{v_:Value}(h_:av X σ H ⟨aj,.binOp .shl t x y u,ai,ah,ag,none⟩ v_):av X σ H ⟨aj,.binOp .shl t x y u,ai,ah,ag,none⟩ v_:=h_
theorem SR {t x y:_}{aj:Option Nat}{v_:Value}(h_:av X σ H ⟨aj,.indexAddr t x y,ai,ah,ag,none⟩ v_):av X σ H ⟨aj,.indexAddr t x y,ai,ah,ag,none⟩ v_:=h_
theorem SQ {t x y:_}{aj:Option Nat}{v_:Value}(h_:av X σ H ⟨aj,.index t x y,ai,ah,ag,none⟩ v_):av X σ H ⟨aj,.index t x y,ai,ah,ag,none⟩ v_:=h_
theorem SH {t u x:_}{aj:Option Nat}{v_:Value}(h_:av X σ H ⟨aj,.convert t u x,ai,ah,ag,none⟩ v_):av X σ H ⟨aj,.convert t u x,ai,ah,ag,none⟩ v_:=h_
theorem SG {i t:_}{aj:Option Nat}{v_:Value}(h_:av X σ H ⟨aj,.build t i,ai,ah,ag,none⟩ v_):av X σ H ⟨aj,.build t i,ai,ah,ag,none⟩ v_:=h_
theorem SK {i t x:_}{aj:Option Nat}{v_:Value}(h_:av X σ H ⟨aj,.field t x i,ai,ah,ag,none⟩ v_):av X σ H ⟨aj,.field t x i,ai,ah,ag,none⟩ v_:=h_
theorem Tb {i j k t x:_}{aj:Option Nat}{v_:Value}(h_:av X σ H ⟨aj,.slice t x i j k,ai,ah,ag,none⟩ v_):av X σ H ⟨aj,.slice t x i j k,ai,ah,ag,none⟩ v_:=h_
theorem SY {i j k:_}{aj:Option Nat}{v_:Value}(h_:av X σ H ⟨aj,.makeFunc i j k,ai,ah,ag,none⟩ v_):av X σ H ⟨aj,.makeFunc i j k,ai,ah,ag,none⟩ v_:=h_
theorem S6 {c x y:_}{aj:Option Nat}{v_:Value}(h_:av X σ H ⟨aj,.pick c x y,ai,ah,ag,none⟩ v_):av X σ H ⟨aj,.pick c x y,ai,ah,ag,none⟩ v_:=h_
theorem Td {i t x:_}{aj:Option Nat}{v_:Value}(h_:av X σ H ⟨aj,.unOp i t x,ai,ah,ag,none⟩ v_):av X σ H ⟨aj,.unOp i t x,ai,ah,ag,none⟩ v_:=h_
theorem SS {i j:_}{aj:Option Nat}{v_:Value}(h_:av X σ H ⟨aj,.call {callee:= .builtin .len,args:=i,argTypes:=j},ai,ah,ag,none⟩ v_):av X σ H ⟨aj,.call {callee:= .builtin .len,args:=i,argTypes:=j},ai,ah,ag,none⟩ v_:=h_
theorem S0 {i j:_}{aj:Option Nat}{v_:Value}(h_:av X σ H ⟨aj,.call {callee:= .builtin .min,args:=i,argTypes:=j},ai,ah,ag,none⟩ v_):av X σ H ⟨aj,.call {callee:= .builtin .min,args:=i,argTypes:=j},ai,ah,ag,none⟩ v_:=h_
theorem SZ {i j:_}{aj:Option Nat}{v_:Value}(h_:av X σ H ⟨aj,.call {callee:= .builtin .max,args:=i,argTypes:=j},ai,ah,ag,none⟩ v_):av X σ H ⟨aj,.call {callee:= .builtin .max,args:=i,argTypes:=j},ai,ah,ag,none⟩ v_:=h_
theorem SN {f i j:_}{aj:Option Nat}{v_:Value}(h_:av X σ H ⟨aj,.call {callee:= .value (.func f),args:=i,argTypes:=j},ai,ah,ag,none⟩ v_):av X σ H ⟨aj,.call {callee:= .value (.func f),args:=i,argTypes:=j},ai,ah,ag,none⟩ v_:=h_
theorem Lv {t:_}{aj:Option Nat}{α_:Type}{r_:α_→Value}{K_:α_→SL}(h_:aV X σ H ⟨aj,.alloc t,ai,ah,ag,none⟩ r_ K_):aV X σ H ⟨aj,.alloc t,ai,ah,ag,none⟩ r_ K_:=h_
theorem Lx {t x:_}{aj:Option Nat}{α_:Type}{r_:α_→Value}{K_:α_→SL}(h_:aV X σ H ⟨aj,.box t x,ai,ah,ag,none⟩ r_ K_):aV X σ H ⟨aj,.box t x,ai,ah,ag,none⟩ r_ K_:=h_
theorem Lw {i j:_}{aj:Option Nat}{α_:Type}{r_:α_→Value}{K_:α_→SL}(h_:aV X σ H ⟨aj,.call {callee:= .builtin .append,args:=i,argTypes:=j},ai,ah,ag,none⟩ r_ K_):aV X σ H ⟨aj,.call {callee:= .builtin .append,args:=i,argTypes:=j},ai,ah,ag,none⟩ r_ K_:=h_
theorem LB {t x y:_}{aj:Option Nat}{α_:Type}{r_:α_→Value}{K_:α_→SL}(h_:aV X σ H ⟨aj,.makeSlice t x y,ai,ah,ag,none⟩ r_ K_):aV X σ H ⟨aj,.makeSlice t x y,ai,ah,ag,none⟩ r_ K_:=h_
theorem Ly {i j t:_}{aj:Option Nat}{α_:Type}{r_:α_→Value}{K_:α_→SL}(h_:aV X σ H ⟨aj,.buildSlice t i j,ai,ah,ag,none⟩ r_ K_):aV X σ H ⟨aj,.buildSlice t i j,ai,ah,ag,none⟩ r_ K_:=h_
theorem Lz {t u x:_}{aj:Option Nat}{α_:Type}{r_:α_→Value}{K_:α_→SL}(h_:aV X σ H ⟨aj,.convert t u x,ai,ah,ag,none⟩ r_ K_):aV X σ H ⟨aj,.convert t u x,ai,ah,ag,none⟩ r_ K_:=h_
theorem LA {f i j:_}{aj:Option Nat}{α_:Type}{r_:α_→Value}{K_:α_→SL}(h_:aV X σ H ⟨aj,.call {callee:= .value (.func f),args:=i,argTypes:=j},ai,ah,ag,none⟩ r_ K_):aV X σ H ⟨aj,.call {callee:= .value (.func f),args:=i,argTypes:=j},ai,ah,ag,none⟩ r_ K_:=h_
theorem G3 {t x y:_}{aj:Option Nat}{K_:SL}(h_:aY X σ H ⟨aj,.store t x y,ai,ah,ag,none⟩ K_):aY X σ H ⟨aj,.store t x y,ai,ah,ag,none⟩ K_:=h_
theorem gi {o_:Oper}{v_:Value}(h_:av X σ H o_ v_:=by(first|(apply S1;exact fH rfl)|(apply SF;exact fH rfl)|(apply SJ;exact fH rfl)|(apply SV;first|exact oJ rfl rfl rfl|exact yi rfl rfl rfl|exact yl rfl rfl (by omega)|exact yj rfl rfl (by omega) (by omega)|exact yk rfl rfl (by omega))|(apply SM;exact gw rfl rfl)|(apply S4;exact gx rfl rfl)|(apply SI;first|exact pZ rfl (by omega)|exact pY rfl (by omega)|exact hN rfl|exact yf rfl rfl|exact uL rfl rfl rfl (by first|exact .inl rfl|exact .inr rfl)|exact yG rfl rfl rfl|exact xP rfl rfl rfl rfl rfl|exact xS rfl rfl rfl)|(apply S3;first|exact yr rfl (by omega)|exact yq rfl (by omega)|exact hN rfl|exact yt rfl rfl|exact uM rfl rfl rfl (by first|exact .inl rfl|exact .inr rfl)|exact yH rfl rfl rfl|exact xQ rfl rfl rfl rfl rfl|exact xT rfl rfl rfl)|(apply SX;first|exact pZ rfl (by omega)|exact pY rfl (by omega)|exact hN rfl)|(apply SU;first|exact pZ rfl (by omega)|exact pY rfl (by omega)|exact hN rfl)|(apply SP;first|exact pZ rfl (by omega)|exact pY rfl (by omega)|exact hN rfl)|(apply SO;first|exact pZ rfl (by omega)|exact pY rfl (by omega)|exact hN rfl)|(apply SC;first|exact xO rfl rfl rfl (by simp only[bq];omega)|exact hN rfl|exact yF rfl rfl rfl (by first|omega|((try simp only[List.length_cons,List.length_nil,List.length_append,List.length_take,List.length_drop]);omega)))|(apply Tc;first|exact yI rfl rfl rfl (by simp only[bq];omega)|exact hN rfl)|(apply S2;first|exact yp rfl rfl rfl (by simp only[bq];omega)|exact hN rfl)|(apply SD;exact fH rfl)|(apply S5;exact fH rfl)|(apply Te;exact fH rfl)|(apply SE;exact fH rfl)|(apply S7;exact yu rfl rfl rfl (by omega) (by omega) (by simp only[bq];omega))|(apply S8;first|exact yv rfl rfl rfl (by omega) (by omega)|exact yw rfl rfl rfl (by decide))|(apply Ta;exact yC rfl rfl rfl (by first|decide|omega|(simp only[IntKind.bits];omega)) (by first|decide|omega|(simp only[IntKind.bits];omega)))|(apply S9;exact yB rfl rfl rfl (by first|decide|omega|(simp only[IntKind.bits];omega)) (by first|decide|omega|(simp only[IntKind.bits];omega)))|(apply SR;first|exact yb rfl rfl rfl (by omega) (by omega)|exact yd rfl rfl rfl (by omega))|(apply SQ;first|exact ye rfl rfl rfl (by first|omega|((try simp only[List.length_cons,List.length_nil,List.length_append,List.length_take,List.length_drop]);omega))|exact yc rfl rfl rfl (by omega) (by omega))|(apply SH;first|exact xY rfl rfl (by simp only[bq];omega)|exact uK rfl rfl|exact xW rfl rfl (by first|omega|(refine⟨?_,?_⟩<;>omega)) rfl)|(apply SG;first|exact xU rfl rfl|exact xV rfl rfl)|(apply SK;first|exact xZ rfl rfl rfl|exact ya rfl rfl rfl)|(apply Tb;first|exact yE rfl rfl rfl (by first|omega|((try simp only[List.length_cons,List.length_nil,List.length_append,List.length_take,List.length_drop]);omega))|exact yD rfl rfl rfl (by first|omega|((try simp only[List.length_cons,List.length_nil,List.length_append,List.length_take,List.length_drop]);omega))|exact yz rfl rfl rfl (by omega)|exact yy rfl rfl rfl (by omega)|exact yA rfl rfl|exact yx rfl rfl rfl rfl (by omega) (by omega))|(apply SY;exact ym rfl rfl rfl)|(apply S6;exact fH rfl)|(apply Td;first|exact fH rfl|exact xX rfl rfl (by omega)|exact sC rfl rfl)|(apply SS;first|exact yg rfl rfl|exact yh rfl rfl)|(apply S0;exact yo rfl rfl rfl)|(apply SZ;exact yn rfl rfl rfl)|(apply SN;first|exact xR rfl rfl (by omega)|exact xN rfl rfl rfl rfl (by omega) (by omega)))):av X σ H o_ v_:=h_
theorem dT {H_ G_:SL}(h_:U H_ G_:=by(first|exact U.refl _|exact U.last|exact U.drop|(repeat(first|refine U.cons ?_ |refine U.tV ?_ |refine U.wC ?_ |exact U.any|exact U.last)))):U H_ G_:=h_
theorem bJ {G G':Prop}(k:G')(h:nj G'→G:=by intro h;(first|(apply dQ 0;rfl;rfl;rfl;exact gi;decide+kernel;exact dT;rfl)|(apply dQ 1;rfl;rfl;rfl;exact gi;decide+kernel;exact dT;rfl)|(apply dQ 2;rfl;rfl;rfl;exact gi;decide+kernel;exact dT;rfl)|(apply dQ 3;rfl;rfl;rfl;exact gi;decide+kernel;exact dT;rfl)|(apply dQ 4;rfl;rfl;rfl;exact gi;decide+kernel;exact dT;rfl)|(apply dQ 5;rfl;rfl;rfl;exact gi;decide+kernel;exact dT;rfl)|(apply dQ 6;rfl;rfl;rfl;exact gi;decide+kernel;exact dT;rfl));(repeat(first|(apply dQ 0;rfl;rfl;rfl;exact gi;decide+kernel;exact dT;rfl)|(apply dQ 1;rfl;rfl;rfl;exact gi;decide+kernel;exact dT;rfl)|(apply dQ 2;rfl;rfl;rfl;exact gi;decide+kernel;exact dT;rfl)|(apply dQ 3;rfl;rfl;rfl;exact gi;decide+kernel;exact dT;rfl)|(apply dQ 4;rfl;rfl;rfl;exact gi;decide+kernel;exact dT;rfl)|(apply dQ 5;rfl;rfl;rfl;exact gi;decide+kernel;exact dT;rfl)|(apply dQ 6;rfl;rfl;rfl;exact gi;decide+kernel;exact dT;rfl)));exact h.out):G:=h ⟨k⟩
theorem bN {α:Type}{G:Prop}{G':α→Prop}(k:∀x,G' x)(h:B8 G'→G:=by intro h;apply Jd;rfl;rfl;rfl;(first|(apply Lv;exact nm rfl)|(apply Lx;exact Cf rfl rfl rfl)|(apply Lw;first|exact iV rfl rfl rfl (by omega) (by decide)|exact Cd rfl rfl rfl (by first|simp|exact yL.eq) (by omega) (by decide))|(apply LB;exact Ch rfl rfl rfl (by omega) (by decide))|(apply Ly;exact cm rfl rfl rfl (by decide) (by decide))|(apply Lz;exact Cg rfl rfl)|(apply LA;first|exact Ce rfl rfl rfl (by omega) (by omega)|exact Cc rfl rfl rfl rfl (by omega) (by omega) (by omega)));decide+kernel;rfl;(intro _;exact dT);intro x;exact h.out x):G:=h ⟨k⟩
theorem bL {G G':Prop}(k:G')(h:nj G'→G:=by intro h;apply Jf;rfl;rfl;(first|(apply G3;first|exact cK rfl rfl rfl rfl rfl rfl|exact xM rfl rfl rfl rfl (by omega) rfl rfl rfl|exact xL rfl rfl rfl (by omega) rfl rfl));decide+kernel;exact dT;rfl;exact h.out):G:=h ⟨k⟩
theorem bK {G G':Prop}(k:G')(h:nj G'→G:=by intro h;apply xm;rfl;(first|(apply G3;first|exact cK rfl rfl rfl rfl rfl rfl|exact xM rfl rfl rfl rfl (by omega) rfl rfl rfl|exact xL rfl rfl rfl (by omega) rfl rfl));decide+kernel;decide+kernel;exact h.out):G:=h ⟨k⟩
theorem bM {G G':Prop}(k:G')(h:nj G'→G:=by intro h;apply Jg;rfl;rfl;rfl;exact gi;decide+kernel;exact dT;rfl;exact h.out):G:=h ⟨k⟩
end
section
open Go.RowKit
variable {X:Cx} {k:List KI} {σ:Env} {H S:SL} {ops:List Oper} {fuel:Nat} {listed:Array Bool}
instance fp.here (x:Value)(l:List Value):fp (x::l) 0 1 0 x (0≤0):=⟨fun _=>rfl⟩
instance fp.there (x:Value)(l:List Value)(i:Nat)(v:Value)(φ:Prop)[g:fp l i 1 0 v φ]:fp (x::l) (i+1) 1 0 v φ:=⟨fun h=>by
 have:=g.get h
 simpa using this⟩
end
section
open Go.RowKit
set_option maxRecDepth 10000
attribute [local irreducible] EK EX ER EN EL ES EG av aV aY
def bZ (p:Option Addr)(ws:List Nat):SL:=SL.ex fun g:Option Addr=>Obj p 249 [.slice g ws.length ws.length,.int .u32 0,.int .i32 0,.int .u32 0]*an 309 1 g ws.length ws.length (bA .u64 ws)
abbrev oA (p g:Option Addr)(ws:List Nat)(F:SL):SL:=Obj p 249 [.slice g ws.length ws.length,.int .u32 0,.int .i32 0,.int .u32 0]*(an 309 1 g ws.length ws.length (bA .u64 ws)*F)
variable {W:World} {F:SL} {X:Cx} {k:List KI} {σ:Env}
theorem bZ.open {p:Option Addr}{ws:List Nat}(h:∀g,EK X k σ (oA p g ws F)):EK X k σ (bZ p ws*F):=ng fun g=>by
 have:=h g
 unfold oA at this
 rw[SL.bU]
 exact this
theorem bZ.shut {p g:Option Addr}{ws:List Nat}:U (oA p g ws F) (bZ p ws*F):=U.ex g (U.assoc (U.refl _))
instance (priority:=2000)(p:Option Addr)(ws:List Nat)(F:SL):bw (bZ p ws*F) p (bZ p ws) F:=⟨rfl⟩
instance (p:Option Addr)(ws:List Nat):jQ (bZ p ws) p:=⟨fun W w F h=>by
 obtain⟨g,h⟩:=h.gQ
 exact(Obj.root p _ _).nn W w _ (h.ac (SL.bU _ _ _))⟩
theorem yT (p g:Option Addr)(ws:List Nat)(i:Nat)(hi:i<ws.length)(hm:ws.length≤65536):
  Spec Tryz.prog 131 [.pointer p,.int .i64 (i:Int)] W (oA p g ws F) (fun _:Unit=> .pointer (el g i 1)) (fun _=>oA p g ws F):=by
 refine Spec.of Tryz.func131 rfl Tryz.ntmps131 rfl ?_
 repeat first|refine aa ?_ |intro
 exact ae (ar rfl rfl () rfl fun _ h=>h)
theorem Kt (g:Option Addr)(ws:List Nat)(i:Nat)(hi:i<ws.length){e:Nat}:
  Spec Tryz.prog 134 [.pointer (el g i 1)] W (an e 1 g ws.length ws.length (bA .u64 ws)*F) (fun _:Unit=> .int .u64 ((ws.getD i 0:Nat):Int)) (fun _=>an e 1 g ws.length ws.length (bA .u64 ws)*F):=by
 haveI:Pos ws.length:=⟨by omega⟩
 refine Spec.of Tryz.func134 rfl Tryz.ntmps134 rfl ?_
 repeat first|refine aa ?_ |intro
 exact ae (ar rfl rfl () rfl fun _ h=>h)
theorem Ku (g:Option Addr)(ws:List Nat)(i u:Nat)(hi:i<ws.length){e:Nat}:
  Spec Tryz.prog 132 [.pointer (el g i 1),.int .u64 (u:Int)] W (an e 1 g ws.length ws.length (bA .u64 ws)*F) (fun _:Unit=> .tuple #[]) (fun _=>an e 1 g ws.length ws.length (bA .u64 (ws.set i u))*F):=by
 haveI:Pos ws.length:=⟨by omega⟩
 refine Spec.of Tryz.func132 rfl Tryz.ntmps132 rfl ?_
 repeat first|refine aa ?_ |intro
 exact aH (aI rfl () rfl fun _ h=>h)
theorem Ks (g:Option Addr)(ws:List Nat)(i u v:Nat)(hi:i<ws.length){e:Nat}:
  Spec Tryz.prog 239 [.pointer (el g i 1),.int .u64 (u:Int),.int .u64 (v:Int)] W (an e 1 g ws.length ws.length (bA .u64 ws)*F) (fun _:Unit=> .bool (decide (ws.getD i 0=u)))
   (fun _=>an e 1 g ws.length ws.length (bA .u64 (if ws.getD i 0=u then ws.set i v else ws))*F):=by
 haveI:Pos ws.length:=⟨by omega⟩
 by_cases he:ws.getD i 0=u
 all_goals
  refine Spec.of Tryz.func239 rfl Tryz.ntmps239 rfl ?_
  repeat first|refine aa ?_ |intro
 ·exact ae (ar rfl rfl () (by rw[decide_eq_true he]) (by rw[if_pos he];exact fun _ h=>h))
 ·exact ae (ar rfl rfl () (by rw[decide_eq_false he]) (by rw[if_neg he];exact fun _ h=>h))
theorem eJ (p:Option Addr)(ws:List Nat)(i:Nat)(hi:i<ws.length)(hm:ws.length≤65536):
  Spec Tryz.prog 100 [.pointer p,.int .i64 (i:Int)] W (bZ p ws*F) (fun _:Unit=> .int .u64 ((ws.getD i 0:Nat):Int)) (fun _=>bZ p ws*F):=by
 refine Spec.of Tryz.func100 rfl Tryz.ntmps100 rfl ?_
 refine bZ.open fun g=> ?_
 haveI:Pos ws.length:=⟨by omega⟩
 repeat first|refine aa ?_ |intro
 refine af rfl (yT p g ws i hi hm) ?_
 intro
 repeat first|refine aa ?_ |intro
 refine af rfl (Spec.aL g (Kt g ws i hi)) ?_
 intro
 repeat first|refine aa ?_ |intro
 refine ae (ar rfl rfl () rfl (U.sat (U.trans ?_ (bZ.shut (g:=g)))))
 repeat(first|exact U.last|refine U.cons ?_ |refine U.assoc ?_)
theorem uU (p:Option Addr)(ws:List Nat)(i u:Nat)(hi:i<ws.length)(hm:ws.length≤65536):
  Spec Tryz.prog 92 [.pointer p,.int .i64 (i:Int),.int .u64 (u:Int)] W (bZ p ws*F) (fun _:Unit=> .tuple #[]) (fun _=>bZ p (ws.set i u)*F):=by
 refine Spec.of Tryz.func92 rfl Tryz.ntmps92 rfl ?_
 refine bZ.open fun g=> ?_
 haveI:Pos ws.length:=⟨by omega⟩
 repeat first|refine aa ?_ |intro
 refine af rfl (yT p g ws i hi hm) ?_
 intro
 repeat first|refine aa ?_ |intro
 refine af rfl (Spec.aL g (Ku g ws i u hi)) ?_
 intro
 repeat first|refine aa ?_ |intro
 refine aH (aI rfl () rfl (U.sat (U.trans ?_ (bZ.shut (g:=g)))))
 simp only[oA,List.length_set]
 repeat(first|exact U.last|refine U.cons ?_ |refine U.assoc ?_)
theorem kF (p:Option Addr)(ws:List Nat)(i u v:Nat)(hi:i<ws.length)(hm:ws.length≤65536):
  Spec Tryz.prog 193 [.pointer p,.int .i64 (i:Int),.int .u64 (u:Int),.int .u64 (v:Int)] W (bZ p ws*F) (fun _:Unit=> .bool (decide (ws.getD i 0=u))) (fun _=>bZ p (if ws.getD i 0=u then ws.set i v else ws)*F):=by
 refine Spec.of Tryz.func193 rfl Tryz.ntmps193 rfl ?_
 refine bZ.open fun g=> ?_
 haveI:Pos ws.length:=⟨by omega⟩
 repeat first|refine aa ?_ |intro
 refine af rfl (yT p g ws i hi hm) ?_
 intro
 repeat first|refine aa ?_ |intro
 refine af rfl (Spec.aL g (Ks g ws i u v hi)) ?_
 intro
 repeat first|refine aa ?_ |intro
 refine ae (ar rfl rfl () rfl (U.sat (U.trans ?_ (bZ.shut (g:=g)))))
 have hl:(if ws.getD i 0=u then ws.set i v else ws).length=ws.length:=by split<;>simp
 simp only[oA,hl]
 repeat(first|exact U.last|refine U.cons ?_ |refine U.assoc ?_)
theorem uT (p:Option Addr)(ws:List Nat):
  Spec Tryz.prog 93 [.pointer p] W (bZ p ws*F) (fun _:Unit=> .int .i64 (ws.length:Int)) (fun _=>bZ p ws*F):=by
 refine Spec.of Tryz.func93 rfl Tryz.ntmps93 rfl ?_
 refine bZ.open fun g=> ?_
 repeat first|refine aa ?_ |intro
 refine ae (ar rfl rfl () rfl (U.sat (U.trans ?_ (bZ.shut (g:=g)))))
 repeat(first|exact U.last|refine U.cons ?_ |refine U.assoc ?_)
theorem uB (n:Nat)(h1:1≤n)(h2:n≤65536):
  Spec Tryz.prog 90 [.int .i64 (n:Int)] W F (fun p:Option Addr=> .tuple #[.pointer p,.int .i64 0]) (fun p=>bZ p (List.replicate n 0)*F):=by
 refine Spec.of Tryz.func90 rfl Tryz.ntmps90 rfl ?_
 repeat first|refine aa ?_ |intro
 rename_i g p
 refine ae (eZ rfl rfl rfl p rfl (U.sat (U.trans ?_ (bZ.shut (g:=g)))))
 simp only[oA,List.length_replicate]
 refine U.cons (U.row g rfl ?_ (U.refl _))
 rw[GN];simp[bA]
theorem IZ (p:Option Addr)(ws:List Nat)(hm:ws.length≤65536):
  Spec Tryz.prog 88 [.pointer p] W (bZ p ws*F) (fun q:Option Addr×Nat=> .slice q.1 ws.length q.2) (fun q=>an 83 1 q.1 ws.length q.2 (bA .u64 ws)*(bZ p ws*F)):=by
 refine Spec.of Tryz.func88 rfl Tryz.ntmps88 rfl ?_
 repeat first|refine aa ?_ |intro
 refine af rfl (uT p ws) ?_
 intro
 repeat first|refine aa ?_ |intro
 refine ed (γ:=Option Addr×Nat×Nat) (fun g=>g.2.2≤ws.length) (fun g=>[(0,.pointer p),(3,.slice g.1 g.2.2 g.2.1),(6,.int .i64 (ws.length:Int)),(7,.int .i64 (g.2.2:Int))])
  (fun g=>an 83 1 g.1 g.2.2 g.2.1 (bA .u64 (ws.take g.2.2))*(bZ p ws*F)) (fun g=>ws.length-g.2.2) (none,0,0) (Nat.zero_le _) ⟨rfl,rfl,rfl,rfl,trivial⟩ (U.sat (U.none (U.refl _))) ?_
 intro ⟨q,c,i⟩ hi
 dsimp only at hi ⊢
 repeat first|refine aa ?_ |intro
 refine il rfl (fun cN=> ?_) (fun mP=> ?_)
 ·repeat first|refine aa ?_ |intro
  refine af rfl (Spec.aL p (eJ p ws i (by omega) hm)) ?_
  intro
  repeat first|refine aa ?_ |intro
  rename_i r
  refine db (r.1,r.2,i+1) (by dsimp only;omega) (by dsimp only;omega) ⟨rfl,rfl,rfl,rfl,trivial⟩ (U.sat (U.row r.1 rfl ?_ ?_))
  ·rw[AN,uj (by omega)]
  ·repeat(first|exact U.last|refine U.cons ?_ |refine U.assoc ?_)
 ·repeat first|refine aa ?_ |intro
  have e:i=ws.length:=by omega
  subst e
  exact ae (ar rfl rfl (q,c) rfl (U.sat (U.row q rfl (by rw[List.take_length]) (U.refl _))))
end
section
open Go.RowKit
set_option maxRecDepth 10000
attribute [local irreducible] EK EX ER EN EL ES EG av aV aY
variable {W:World} {F:SL} {X:Cx} {k:List KI} {σ:Env}
attribute [local simp] Hl DU pz
def qT (gs:List (List (Nat×Nat)))(ps:Nat→aO)(i:Nat):SL:=an 263 2 (ps i).1 (gs.getD i []).length (ps i).2 (pJ (gs.getD i []))
structure sr where
 c:Option Addr
 g:aO
 ps:Nat→aO
def pW (p:Option Addr)(ws:List Nat)(gs:List (List (Nat×Nat)))(e:sr):SL:=Obj p 197 [.pointer e.c,.slice e.g.1 gs.length e.g.2]*(bZ e.c ws*(an 261 1 e.g.1 gs.length e.g.2 (nD gs e.ps)*aE (qT gs e.ps) gs.length))
def bO (p:Option Addr)(ws:List Nat)(gs:List (List (Nat×Nat))):SL:=SL.ex (pW p ws gs)
abbrev kI (p:Option Addr)(ws:List Nat)(gs:List (List (Nat×Nat)))(e:sr)(F:SL):SL:=Obj p 197 [.pointer e.c,.slice e.g.1 gs.length e.g.2]*(bZ e.c ws*(an 261 1 e.g.1 gs.length e.g.2 (nD gs e.ps)*(aE (qT gs e.ps) gs.length*F)))
theorem pW.eq (p:Option Addr)(ws:List Nat)(gs:List (List (Nat×Nat)))(e:sr)(F:SL):pW p ws gs e*F=kI p ws gs e F:=by
 unfold pW kI
 simp only[SL.bU]
theorem bO.open {p:Option Addr}{ws:List Nat}{gs:List (List (Nat×Nat))}(h:∀e,EK X k σ (kI p ws gs e F)):EK X k σ (bO p ws gs*F):=ng fun e=>by
 rw[pW.eq];exact h e
theorem bO.shut {p:Option Addr}{ws:List Nat}{gs:List (List (Nat×Nat))}(e:sr){F:SL}:U (kI p ws gs e F) (bO p ws gs*F):=
 U.ex e (by rw[pW.eq];exact U.refl _)
instance (priority:=2000)(p:Option Addr)(ws:List Nat)(gs:List (List (Nat×Nat)))(F:SL):bw (bO p ws gs*F) p (bO p ws gs) F:=⟨rfl⟩
instance (p:Option Addr)(ws:List Nat)(gs:List (List (Nat×Nat))):jQ (bO p ws gs) p:=⟨fun W w F H=>by
 obtain⟨g,H⟩:=H.gQ
 rw[pW.eq]at H
 exact(Obj.root p _ _).nn W w _ H⟩
theorem Hd {e sz:Nat}(F:SL):∀n,U F (aE (fun _=>an e sz none 0 0 []) n*F)
 |0=>by
  show U F (1*F)
  rw[SL.qP 1,SL.mj]
  exact U.refl _
 |n+1=>by
  rw[aE.succ,SL.bU]
  exact U.none (Hd F n)
theorem OF (p:Option Addr)(c:Nat)(l:List Nat)(x:Nat)(hl:l.length≤1000000)[Src W F p l.length (bA .u64 l)]:Spec Tryz.prog 135 [.slice p l.length c,.int .u64 (x:Int)] W F (fun z:{z:Int//0≤z↔x∈l}=> .int .i64 z.1) (fun _=>F):=by
 refine Spec.of Tryz.func135 rfl Tryz.ntmps135 rfl ?_
 repeat first|refine aa ?_ |intro
 refine ed (γ:=Nat) (fun i=>i≤l.length∧x∉l.take i) (fun i=>[(0,.slice p l.length c),(1,.int .u64 (x:Int)),(7,.int .i64 (l.length:Int)),(8,.int .i64 (i:Int))]) (fun _=>F) (fun i=>l.length-i) 0 ⟨Nat.zero_le _,by simp⟩ ⟨rfl,rfl,rfl,rfl,trivial⟩ (U.sat (U.refl _)) ?_
 intro i ⟨h1,h2⟩
 by_cases hi:i<l.length
 ·by_cases hx:x=l.getD i 0
  ·have hm:x∈l:=by rw[hx,←zt l 0 hi];exact List.getElem_mem hi
   repeat first|refine aa ?_ |intro
   exact ae (ar rfl rfl ⟨(i:Int),⟨fun _=>hm,fun _=>by omega⟩⟩ rfl (U.sat (ab)))
  ·repeat first|refine aa ?_ |intro
   refine db (i+1) ⟨by omega,?_⟩ (by omega) ⟨rfl,rfl,rfl,rfl,trivial⟩ (U.sat (ab))
   rw[←uj (d:=0) hi,List.mem_append,List.mem_singleton]
   exact fun e=>e.elim h2 hx
 ·have e:i=l.length:=by omega
  subst e
  rw[List.take_length]at h2
  repeat first|refine aa ?_ |intro
  exact ae (ar rfl rfl ⟨-1,⟨fun e=>by omega,fun e=>absurd e h2⟩⟩ rfl (U.sat (ab)))
theorem Ls (p:Option Addr)(c:Nat)(l:List Nat)(x:Nat)(hl:l.length≤1000000)[Src W F p l.length (bA .u64 l)]:Spec Tryz.prog 101 [.slice p l.length c,.int .u64 (x:Int)] W F (fun _:Unit=> .bool (decide (x∈l))) (fun _=>F):=by
 refine Spec.of Tryz.func101 rfl Tryz.ntmps101 rfl ?_
 repeat first|refine aa ?_ |intro
 refine af rfl (OF p c l x hl) ?_
 intro ⟨z,hz⟩
 dsimp only
 by_cases h0:0≤z
 ·repeat first|refine aa ?_ |intro
  exact ae (ar rfl rfl () (by rw[decide_eq_true (hz.1 h0)]) (U.sat (ab)))
 ·repeat first|refine aa ?_ |intro
  exact ae (ar rfl rfl () (by rw[decide_eq_false (fun e=>h0 (hz.2 e))]) (U.sat (ab)))
theorem OG (p:Option Addr)(c:Nat)(l:List Nat)(x:Nat)(hl:l.length≤1000000)[Src W F p l.length (bA .i64 l)]:Spec Tryz.prog 95 [.slice p l.length c,.int .i64 (x:Int)] W F (fun z:{z:Int//0≤z↔x∈l}=> .int .i64 z.1) (fun _=>F):=by
 refine Spec.of Tryz.func95 rfl Tryz.ntmps95 rfl ?_
 repeat first|refine aa ?_ |intro
 refine ed (γ:=Nat) (fun i=>i≤l.length∧x∉l.take i) (fun i=>[(0,.slice p l.length c),(1,.int .i64 (x:Int)),(7,.int .i64 (l.length:Int)),(8,.int .i64 (i:Int))]) (fun _=>F) (fun i=>l.length-i) 0 ⟨Nat.zero_le _,by simp⟩ ⟨rfl,rfl,rfl,rfl,trivial⟩ (U.sat (U.refl _)) ?_
 intro i ⟨h1,h2⟩
 by_cases hi:i<l.length
 ·by_cases hx:x=l.getD i 0
  ·have hm:x∈l:=by rw[hx,←zt l 0 hi];exact List.getElem_mem hi
   repeat first|refine aa ?_ |intro
   exact ae (ar rfl rfl ⟨(i:Int),⟨fun _=>hm,fun _=>by omega⟩⟩ rfl (U.sat (ab)))
  ·repeat first|refine aa ?_ |intro
   refine db (i+1) ⟨by omega,?_⟩ (by omega) ⟨rfl,rfl,rfl,rfl,trivial⟩ (U.sat (ab))
   rw[←uj (d:=0) hi,List.mem_append,List.mem_singleton]
   exact fun e=>e.elim h2 hx
 ·have e:i=l.length:=by omega
  subst e
  rw[List.take_length]at h2
  repeat first|refine aa ?_ |intro
  exact ae (ar rfl rfl ⟨-1,⟨fun e=>by omega,fun e=>absurd e h2⟩⟩ rfl (U.sat (ab)))
theorem qh (p:Option Addr)(c:Nat)(l:List Nat)(x:Nat)(hl:l.length≤1000000)[Src W F p l.length (bA .i64 l)]:Spec Tryz.prog 63 [.slice p l.length c,.int .i64 (x:Int)] W F (fun _:Unit=> .bool (decide (x∈l))) (fun _=>F):=by
 refine Spec.of Tryz.func63 rfl Tryz.ntmps63 rfl ?_
 repeat first|refine aa ?_ |intro
 refine af rfl (OG p c l x hl) ?_
 intro ⟨z,hz⟩
 dsimp only
 by_cases h0:0≤z
 ·repeat first|refine aa ?_ |intro
  exact ae (ar rfl rfl () (by rw[decide_eq_true (hz.1 h0)]) (U.sat (ab)))
 ·repeat first|refine aa ?_ |intro
  exact ae (ar rfl rfl () (by rw[decide_eq_false (fun e=>h0 (hz.2 e))]) (U.sat (ab)))
theorem AE (p:Option Addr){ws:List Nat}{gs:List (List (Nat×Nat))}{e:sr}{w:Nat}(hw:w<gs.length)(hg:gs.length≤64):Spec Tryz.prog 136 [.pointer p,.int .i64 (w:Int)] W (kI p ws gs e F) (fun _:Unit=> .bool true) (fun _=>kI p ws gs e F):=by
 refine Spec.of Tryz.func136 rfl Tryz.ntmps136 rfl ?_
 simp only[kI]
 repeat first|refine aa ?_ |intro
 exact ae (ar rfl rfl () rfl (U.sat (ab)))
theorem Ju {n:Nat}(h1:1≤n)(h2:n≤64):Spec Tryz.prog 55 [.int .i64 (n:Int)] W F (fun p:Option Addr=> .tuple #[.pointer p,.int .i64 0]) (fun p=>bO p (List.replicate (n+1) 0) (List.replicate n [])*F):=by
 refine Spec.of Tryz.func55 rfl Tryz.ntmps55 rfl ?_
 repeat first|refine aa ?_ |intro
 refine af rfl (uB (n+1) (by omega) (by omega)) ?_
 intro c
 repeat first|refine aa ?_ |intro
 rename_i g p
 refine ae (eZ rfl rfl rfl p rfl (U.sat (U.trans ?_ (bO.shut (e:=⟨c,(g,n),fun _=>(none,0)⟩)))))
 have dS:aE (qT (List.replicate n []) fun _=>(none,0)) n=aE (fun _=>an 263 2 none 0 0 []) n:=aE.congr n fun i hi=>by
  unfold qT
  simp[List.getD_eq_getElem?_getD,hi,pJ]
 simp only[kI,List.length_replicate,M6,dS]
 refine U.cons (U.cons (U.cons ?_))
 exact Hd F n
theorem Hk {gs:List (List (Nat×Nat))}{ps:Nat→aO}{w:Nat}(hw:w<gs.length)(F:SL):aE (qT gs ps) gs.length*F=an 263 2 (ps w).1 (gs.getD w []).length (ps w).2 (pJ (gs.getD w []))*(aE (dw (qT gs ps) w) gs.length*F):=by
 rw[aE.at gs.length hw,SL.bU];rfl
theorem JE (p:Option Addr){ws:List Nat}{gs:List (List (Nat×Nat))}{w:Nat}(hw:w<gs.length)(hg:gs.length≤64)(hl:(gs.getD w []).length≤1000000):Spec Tryz.prog 102 [.pointer p,.int .i64 (w:Int)] W (bO p ws gs*F) (fun q:aO=> .slice q.1 (gs.getD w []).length q.2) (fun q=>an 83 1 q.1 (gs.getD w []).length q.2 (bA .u64 ((gs.getD w []).map (·.1)))*(bO p ws gs*F)):=by
 refine Spec.of Tryz.func102 rfl Tryz.ntmps102 rfl ?_
 refine bO.open fun e=> ?_
 repeat first|refine aa ?_ |intro
 refine af rfl (AE p hw hg) ?_
 intro _
 simp only[kI]
 rw[Hk hw]
 repeat first|refine aa ?_ |intro
 refine ed (γ:=Nat×aO) (fun a=>a.1≤(gs.getD w []).length) (fun a=>[(5,.slice a.2.1 a.1 a.2.2),(18,.slice (e.ps w).1 (gs.getD w []).length (e.ps w).2),(19,.int .i64 ((gs.getD w []).length:Int)),(20,.int .i64 (a.1:Int))])
  (fun a=>an 83 1 a.2.1 a.1 a.2.2 (bA .u64 (((gs.getD w []).take a.1).map (·.1)))*(Obj p 197 [.pointer e.c,.slice e.g.1 gs.length e.g.2]*(bZ e.c ws*(an 261 1 e.g.1 gs.length e.g.2 (nD gs e.ps)*(an 263 2 (e.ps w).1 (gs.getD w []).length (e.ps w).2 (pJ (gs.getD w []))*(aE (dw (qT gs e.ps) w) gs.length*F)))))) (fun a=>(gs.getD w []).length-a.1) (0,(none,0)) (Nat.zero_le _) ⟨rfl,rfl,rfl,rfl,trivial⟩ (U.sat (U.none (U.refl _))) ?_
 intro ⟨i,q⟩ h1;dsimp only at h1 ⊢
 by_cases hi:i<(gs.getD w []).length
 ·have Yy:(((gs.getD w []).take i).map (·.1)).length=i:=by rw[List.length_map,List.length_take];omega
  repeat first|refine aa ?_ |intro
  rename_i q2
  refine db (i+1,q2) (by dsimp only;omega) (by dsimp only;omega) ⟨rfl,rfl,rfl,rfl,trivial⟩ (U.sat ?_)
  dsimp only
  rw[←uj (d:=(0,0)) hi,List.map_append,List.map_singleton,←AN]
  exact ab
 ·have e1:i=(gs.getD w []).length:=by omega
  subst e1
  rw[List.take_length]
  repeat first|refine aa ?_ |intro
  refine ae (ar rfl rfl q rfl (U.sat (U.cons (U.trans ?_ (bO.shut (e:=e))))))
  simp only[kI]
  rw[Hk hw]
  exact ab
end
section
open Go.RowKit
variable {X:Cx} {k:List KI} {σ:Env} {H S:SL} {ops:List Oper} {fuel L:Nat} {listed:Array Bool}
def o9 (ops:List Oper)(σ:Env):Option (Nat×Bool)→Option Bool
 |none=>some true
 |some (gj,w)=>match(ops[gj]?).bind (·.dst)with
  |some t=>match σ.get t with
   |some (.bool b)=>some (b==w)
   |_=>none
  |none=>none
theorem sY {a:Act}(ha:Fits X.N a σ){d:Option Nat}{op:Op}{ty:TypeId}{pos:String}{aft:Array Edge}{g:Option (Nat×Bool)}{b:Bool}(h:o9 ops σ g=some b):
  Region.wanted (⟨d,op,ty,pos,aft,g⟩:Oper) (yielded ops.toArray a.tmps)=b:=by
 cases g with
 |none=>
  simp only[o9,Option.some.injEq]at h
  subst h
  rfl
 |some q=>
  obtain⟨gj,w⟩:=q
  simp only[o9]at h
  split at h
  ·rename_i t hj
   split at h
   ·rename_i b' ht
    simp only[Option.some.injEq]at h
    rw[sb ha hj ht rfl,h]
   ·cases h
  ·cases h
theorem oD (n:Nat){d:Nat}{v:Value}{op:Op}{ty:TypeId}{pos:String}{aft:Array Edge}{g:Option (Nat×Bool)}{i:Nat}(hn:ku listed.toList n 0=some i)(hi:ops.toArray[i]? =some ⟨some d,op,ty,pos,aft,g⟩)(hd:Nat.blt d X.N=true)
  (hg:o9 ops σ g=some true) (hv:av X σ S ⟨some d,op,ty,pos,aft,none⟩ v)
  (hb:(Region.noSelect ops.toArray&&Region.free .any ops.toArray listed i&&(Region.ready .any ops.toArray listed).contains i&&u4 .any ops.toArray listed&&tO .any ops.toArray L i)=true) (hS:U H S) {ls:Array Bool} (hl:listed.setIfInBounds i true=ls)
  (h:EG X k ops S L fuel ls ((d,v)::σ) H):EG X k ops S L (fuel+1) listed σ H:=by
 subst hl
 simp only[Bool.and_eq_true]at hb
 obtain⟨⟨⟨⟨hs,hf⟩,hr⟩,hc⟩,tg⟩:=hb
 obtain⟨h1,h2⟩:=AF tg
 intro a w ha hw
 exact wpAnyL_first hi (Region.noSelect_spec hs) (fun _ _ _ h=>h.elim) h2 h1 fuel listed a w (Region.free_spec hi hf) (by simpa using hr) (yZ hc) (.inl ⟨sY ha hg,fun w hs=>hv a w ha hs⟩) (hS.sat _ hw) (h _ _ (ha.put hd v) hw)
theorem oC (n:Nat){d:Nat}{op:Op}{ty:TypeId}{pos:String}{aft:Array Edge}{gj t:Nat}{want:Bool}{i:Nat}(hn:ku listed.toList n 0=some i)(hi:ops.toArray[i]? =some ⟨some d,op,ty,pos,aft,some (gj,want)⟩)(hd:Nat.blt d X.N=true)
  (hj:(ops[gj]?).bind (·.dst)=some t) (ht:σ.get t=some (.bool !want)∨σ.get t=some undef)
  (hb:(Region.noSelect ops.toArray&&Region.free .any ops.toArray listed i&&(Region.ready .any ops.toArray listed).contains i&&u4 .any ops.toArray listed&&tO .any ops.toArray L i)=true) (hS:U H S) {ls:Array Bool} (hl:listed.setIfInBounds i true=ls)
  (h:EG X k ops S L fuel ls ((d,undef)::σ) H):EG X k ops S L (fuel+1) listed σ H:=by
 subst hl
 simp only[Bool.and_eq_true]at hb
 obtain⟨⟨⟨⟨hs,hf⟩,hr⟩,hc⟩,tg⟩:=hb
 obtain⟨h1,h2⟩:=AF tg
 intro a w ha hw
 refine wpAnyL_first hi (Region.noSelect_spec hs) (fun _ _ _ h=>h.elim) h2 h1 fuel listed a w (Region.free_spec hi hf) (by simpa using hr) (yZ hc) (.inr ⟨?_,rfl⟩) (hS.sat _ hw) (h _ _ (ha.put hd undef) hw)
 rcases ht with ht|ht
 ·rw[sb (o:=⟨some d,op,ty,pos,aft,some (gj,want)⟩) ha hj ht rfl]
  cases want<;>rfl
 ·simp only[Region.wanted,yielded,List.getElem?_toArray,hj,Option.bind_some,ha.k9 t _ ht]
  rfl
theorem aC {α:Type}{r:α→Value}{H':α→SL}{f:FuncId}[aw X.P f]{args:Array Operand}{ats:Array TypeId}{vs:List Value}{d:Nat}{ty:TypeId}{pos:String}{aft:Array Edge}{g:Option (Nat×Bool)}{i:Nat}{ls:Array Bool}(hn:ku listed.toList 0 0=some i)
  (hi:ops.toArray[i]? =some ⟨some d,.call {callee:= .value (.func f),args:=args,argTypes:=ats},ty,pos,aft,g⟩) (jU:jw σ args.toList=some vs) (hg:o9 ops σ g=some true) (hl:listed.setIfInBounds i true=ls) (hc:Spec X.P f vs X.W H r H') (hS:∀x,U (H' x) S)
  (h:∀x,EG X k ops S L fuel ls ((d,r x)::σ) (H' x)) (hr:Region.ready .any ops.toArray listed=[i]:=by decide+kernel) (hd:Nat.blt d X.N=true:=by rfl):EG X k ops S L (fuel+1) listed σ H:=by
 subst hl
 intro a w ha hw
 refine mn hr ?_
 unfold wpOp
 rw[hi]
 simp only[sY ha hg,Oper.wp,if_true]
 refine .inl ?_
 have tx:=ue (d:=some d) (ty:=ty) (pos:=pos) (aft:=aft) (ats:=ats) (f:=f) (w:=w) ha jU
 have tA:(execOp a.eval ⟨some d,.call {callee:= .value (.func f),args:=args,argTypes:=ats},ty,pos,aft,g⟩).run X.P w= .ok (.enter f vs.toArray) w:=tx
 rw[tA,Oper.upon_enter]
 refine(hc w hw).mono ?_
 rintro e w' ⟨x,rfl,fK⟩
 exact⟨fun _=>(hS x).sat _ fK,h x _ _ (ha.put hd _) fK⟩
end
section
open Go.RowKit
theorem ak {G G':Prop}(k:G')(h:nj G'→G:=by intro h;(first|(apply oD 0;rfl;rfl;rfl;rfl;exact gi;decide+kernel;exact dT;rfl)|(apply oC 0;rfl;rfl;rfl;rfl;(first|exact .inl rfl|exact .inr rfl);decide+kernel;exact dT;rfl)|(apply oD 1;rfl;rfl;rfl;rfl;exact gi;decide+kernel;exact dT;rfl)|(apply oC 1;rfl;rfl;rfl;rfl;(first|exact .inl rfl|exact .inr rfl);decide+kernel;exact dT;rfl)|(apply oD 2;rfl;rfl;rfl;rfl;exact gi;decide+kernel;exact dT;rfl)|(apply oC 2;rfl;rfl;rfl;rfl;(first|exact .inl rfl|exact .inr rfl);decide+kernel;exact dT;rfl)|(apply oD 3;rfl;rfl;rfl;rfl;exact gi;decide+kernel;exact dT;rfl)|(apply oC 3;rfl;rfl;rfl;rfl;(first|exact .inl rfl|exact .inr rfl);decide+kernel;exact dT;rfl)|(apply oD 4;rfl;rfl;rfl;rfl;exact gi;decide+kernel;exact dT;rfl)|(apply oC 4;rfl;rfl;rfl;rfl;(first|exact .inl rfl|exact .inr rfl);decide+kernel;exact dT;rfl)|(apply oD 5;rfl;rfl;rfl;rfl;exact gi;decide+kernel;exact dT;rfl)|(apply oC 5;rfl;rfl;rfl;rfl;(first|exact .inl rfl|exact .inr rfl);decide+kernel;exact dT;rfl)|(apply oD 6;rfl;rfl;rfl;rfl;exact gi;decide+kernel;exact dT;rfl)|(apply oC 6;rfl;rfl;rfl;rfl;(first|exact .inl rfl|exact .inr rfl);decide+kernel;exact dT;rfl)|(apply oD 7;rfl;rfl;rfl;rfl;exact gi;decide+kernel;exact dT;rfl)|(apply oC 7;rfl;rfl;rfl;rfl;(first|exact .inl rfl|exact .inr rfl);decide+kernel;exact dT;rfl));exact h.out):G:=h ⟨k⟩
end
section
open Go.RowKit
variable {X:Cx} {k:List KI} {σ:Env} {H S:SL} {ops:List Oper} {fuel L:Nat} {listed:Array Bool}
theorem jr {α:Type}{r:α→Value}{H':α→SL}{f:FuncId}[aw X.P f]{args:Array Operand}{ats:Array TypeId}{vs:List Value}{d:Nat}{ty:TypeId}{pos:String}{aft:Array Edge}{g:Option (Nat×Bool)}{ls:Array Bool}
  (hi:ops.toArray[L]? =some ⟨some d,.call {callee:= .value (.func f),args:=args,argTypes:=ats},ty,pos,aft,g⟩) (jU:jw σ args.toList=some vs) (hg:o9 ops σ g=some true) (hl:listed.setIfInBounds L true=ls) (hc:Spec X.P f vs X.W H r H')
  (h:∀x,EG X k ops S L fuel ls ((d,r x)::σ) (H' x)) (hr:Region.ready .any ops.toArray listed=[L]:=by decide+kernel) (hd:Nat.blt d X.N=true:=by rfl):EG X k ops S L (fuel+1) listed σ H:=by
 subst hl
 intro a w ha hw
 refine mn hr ?_
 unfold wpOp
 rw[hi]
 simp only[sY ha hg,Oper.wp,if_true]
 refine .inl ?_
 have tx:=ue (d:=some d) (ty:=ty) (pos:=pos) (aft:=aft) (ats:=ats) (f:=f) (w:=w) ha jU
 have tA:(execOp a.eval ⟨some d,.call {callee:= .value (.func f),args:=args,argTypes:=ats},ty,pos,aft,g⟩).run X.P w= .ok (.enter f vs.toArray) w:=tx
 rw[tA,Oper.upon_enter]
 refine(hc w hw).mono ?_
 rintro e w' ⟨x,rfl,fK⟩
 exact⟨fun e=>absurd rfl e.1,h x _ _ (ha.put hd _) fK⟩
def EI (X:Cx)(k:List KI)(ops:List Oper)(S:SL)(L fuel:Nat)(listed:Array Bool)(i:Nat)(σ:Env)(H:SL):Prop:=
 ∀a w,Fits X.N a σ→Sat X.W w H→wpOp X.P ops.toArray (nT (run X.P X.R k .normal)) i (fun a' w'=>(i≠L∧¬ki ops.toArray listed L→Sat X.W w' S)∧wpAnyL X.P .any ops.toArray (nT (run X.P X.R k .normal)) (fun w=>Sat X.W w S) L fuel (listed.setIfInBounds i true) a' w') a w
theorem oE {i j:Nat}(h1:EI X k ops S L fuel listed i σ H)(h2:EI X k ops S L fuel listed j σ H)(hr:Region.ready .any ops.toArray listed=[i,j]:=by decide+kernel):EG X k ops S L (fuel+1) listed σ H:=fun a w ha hw=>
 ⟨fun h0=>(by rw[hr]at h0;cases h0),fun l hl=>by
  rw[hr]at hl
  rcases List.mem_cons.1 hl with rfl|hl
  ·exact h1 a w ha hw
  ·rw[List.mem_singleton]at hl
   subst hl
   exact h2 a w ha hw⟩
theorem pT {α:Type}{r:α→Value}{H':α→SL}{d:Nat}{op:Op}{ty:TypeId}{pos:String}{aft:Array Edge}{i:Nat}(hi:ops.toArray[i]? =some ⟨some d,op,ty,pos,aft,none⟩)(hd:Nat.blt d X.N=true)
  (hv:aV X σ H ⟨some d,op,ty,pos,aft,none⟩ r H') {ls:Array Bool} (hl:listed.setIfInBounds i true=ls)
  (hS:∀x,U (H' x) S) (h:∀x,EG X k ops S L fuel ls ((d,r x)::σ) (H' x)):EI X k ops S L fuel listed i σ H:=by
 subst hl
 intro a w ha hw
 obtain⟨x,w',h1,h2⟩:=hv a w ha hw
 unfold wpOp
 rw[hi]
 simp only[Region.wanted,Oper.wp,h1,Oper.upon,if_true]
 exact .inl ⟨fun _=>(hS x).sat _ h2,h x _ _ (ha.put hd _) h2⟩
theorem pS {α:Type}{r:α→Value}{H':α→SL}{f:FuncId}[aw X.P f]{args:Array Operand}{ats:Array TypeId}{vs:List Value}{d:Nat}{ty:TypeId}{pos:String}{aft:Array Edge}{g:Option (Nat×Bool)}{i:Nat}{ls:Array Bool}
  (hi:ops.toArray[i]? =some ⟨some d,.call {callee:= .value (.func f),args:=args,argTypes:=ats},ty,pos,aft,g⟩) (jU:jw σ args.toList=some vs) (hg:o9 ops σ g=some true) (hl:listed.setIfInBounds i true=ls) (hc:Spec X.P f vs X.W H r H') (hS:∀x,U (H' x) S)
  (h:∀x,EG X k ops S L fuel ls ((d,r x)::σ) (H' x)) (hd:Nat.blt d X.N=true:=by rfl):EI X k ops S L fuel listed i σ H:=by
 subst hl
 intro a w ha hw
 unfold wpOp
 rw[hi]
 simp only[sY ha hg,Oper.wp,if_true]
 refine .inl ?_
 have tx:=ue (d:=some d) (ty:=ty) (pos:=pos) (aft:=aft) (ats:=ats) (f:=f) (w:=w) ha jU
 have tA:(execOp a.eval ⟨some d,.call {callee:= .value (.func f),args:=args,argTypes:=ats},ty,pos,aft,g⟩).run X.P w= .ok (.enter f vs.toArray) w:=tx
 rw[tA,Oper.upon_enter]
 refine(hc w hw).mono ?_
 rintro e w' ⟨x,rfl,fK⟩
 exact⟨fun _=>(hS x).sat _ fK,h x _ _ (ha.put hd _) fK⟩
theorem Ji {v:Value}{d:Nat}{op:Op}{ty:TypeId}{pos:String}{aft:Array Edge}{i:Nat}(hi:ops.toArray[i]? =some ⟨some d,op,ty,pos,aft,none⟩)(hd:Nat.blt d X.N=true)
  (hv:av X σ H ⟨some d,op,ty,pos,aft,none⟩ v) (hS:U H S) {ls:Array Bool} (hl:listed.setIfInBounds i true=ls)
  (h:EG X k ops S L fuel ls ((d,v)::σ) H):EI X k ops S L fuel listed i σ H:=by
 subst hl
 intro a w ha hw
 unfold wpOp
 rw[hi]
 simp only[Region.wanted,Oper.wp,hv a w ha hw,Oper.upon,if_true]
 exact .inl ⟨fun _=>hS.sat _ hw,h _ _ (ha.put hd _) hw⟩
theorem Jh {H':SL}{op:Op}{ty:TypeId}{pos:String}{aft:Array Edge}(hi:ops.toArray[L]? =some ⟨none,op,ty,pos,aft,none⟩)
  (hv:aY X σ H ⟨none,op,ty,pos,aft,none⟩ H') {ls:Array Bool} (hl:listed.setIfInBounds L true=ls) (h:EG X k ops S L fuel ls σ H'):EI X k ops S L fuel listed L σ H:=by
 subst hl
 intro a w ha hw
 obtain⟨w',h1,h2⟩:=hv a w ha hw
 unfold wpOp
 rw[hi]
 simp only[Region.wanted,Oper.wp,h1,Oper.upon,if_true]
 exact .inl ⟨fun e=>absurd rfl e.1,h _ _ ha h2⟩
theorem Je {v:Value}{d:Nat}{op:Op}{ty:TypeId}{pos:String}{aft:Array Edge}{i:Nat}(hn:ku listed.toList 0 0=some i)(hi:ops.toArray[i]? =some ⟨some d,op,ty,pos,aft,none⟩)(hd:Nat.blt d X.N=true)
  (hv:av X σ H ⟨some d,op,ty,pos,aft,none⟩ v) (kR:ki ops.toArray listed L) {ls:Array Bool} (hl:listed.setIfInBounds i true=ls)
  (h:EG X k ops S L fuel ls ((d,v)::σ) H) (hr:Region.ready .any ops.toArray listed=[i]:=by decide+kernel):EG X k ops S L (fuel+1) listed σ H:=by
 subst hl
 intro a w ha hw
 refine mn hr ?_
 unfold wpOp
 rw[hi]
 simp only[Region.wanted,Oper.wp,hv a w ha hw,Oper.upon,if_true]
 exact .inl ⟨fun e=>absurd kR e.2,h _ _ (ha.put hd _) hw⟩
theorem pR {H':SL}{v:Value}{d i:Nat}{op oq:Op}{ty tz:TypeId}{pos AY:String}{aft yQ:Array Edge}(hi:ops.toArray[i]? =some ⟨some d,op,ty,pos,aft,none⟩)(hd:Nat.blt d X.N=true)
  (hL:ops.toArray[L]? =some ⟨none,oq,tz,AY,yQ,none⟩) (hv:∀H,av X σ H ⟨some d,op,ty,pos,aft,none⟩ v) (h1:aY X σ H ⟨none,oq,tz,AY,yQ,none⟩ H') (h2:aY X ((d,v)::σ) H ⟨none,oq,tz,AY,yQ,none⟩ H') (hS:U H S)
  (h:EK X k ((d,v)::σ) H') (hn:ku (listed.setIfInBounds L true).toList 0 0=some i:=by rfl) (kR:(listed.setIfInBounds L true).getD L false=true:=by rfl) (hr:Region.ready .any ops.toArray listed=[i,L]:=by decide+kernel) (N4:Region.ready .any ops.toArray (listed.setIfInBounds i true)=[L]:=by decide+kernel)
  (rH:Region.ready .any ops.toArray ((listed.setIfInBounds i true).setIfInBounds L true)=[]:=by decide+kernel) (N5:Region.ready .any ops.toArray (listed.setIfInBounds L true)=[i]:=by decide+kernel)
  (N6:Region.ready .any ops.toArray ((listed.setIfInBounds L true).setIfInBounds i true)=[]:=by decide+kernel):EG X k ops S L (fuel+1+1) listed σ H:=
 oE (Ji hi hd (hv H) hS rfl (xm hL h2 N4 rH h)) (Jh hL h1 rfl (Je hn hi hd (hv H') ⟨⟨_,hL⟩,kR⟩ rfl (BF N6 h) N5)) hr
end
section
open Go.RowKit
variable {X:Cx} {k:List KI} {σ:Env} {H S:SL} {ops:List Oper} {fuel L:Nat} {listed:Array Bool}
def sg (X:Cx)(k:List KI)(ops:List Oper)(S:SL)(L fuel:Nat)(listed:Array Bool)(σ:Env)(H:SL):List Nat→Prop
 |[]=>True
 |i::l=>EI X k ops S L fuel listed i σ H∧sg X k ops S L fuel listed σ H l
theorem sg.all:∀ {l:List Nat},sg X k ops S L fuel listed σ H l→∀i∈l,EI X k ops S L fuel listed i σ H
 |[],_,i,hi=>by cases hi
 |j::l,h,i,hi=>by
  rcases List.mem_cons.1 hi with rfl|hi
  ·exact h.1
  ·exact sg.all h.2 i hi
theorem eG {i:Nat}{l:List Nat}(h:sg X k ops S L fuel listed σ H (i::l))(hr:Region.ready .any ops.toArray listed=i::l:=by decide+kernel):EG X k ops S L (fuel+1) listed σ H:=fun a w ha hw=>
 ⟨fun h0=>(by rw[hr]at h0;cases h0),fun j hj=>by
  rw[hr]at hj
  exact h.all j hj a w ha hw⟩
theorem bP {σ':Env}{H':SL}(h:EG X k ops S L fuel listed σ' H')(hw:Env.within σ σ')(he:U H H'):EG X k ops S L fuel listed σ H:=fun a w ha hs=>h a w (ha.within hw) (he.sat _ hs)
theorem BI {φ:Prop}(h:∀w,Sat X.W w H→φ)(q:φ→EK X k σ H):EK X k σ H:=fun a w ha hs=>q (h w hs) a w ha hs
theorem Spec.Pe {P:Program}{f:FuncId}{vs:List Value}{W:World}{H:SL}{α:Type}{r:α→Value}{H':α→SL}(φ:α→Prop)(h:Spec P f vs W H r H')(q:∀x w,Sat W w (H' x)→φ x):Spec P f vs W H (fun x:{x:α//φ x}=>r x.1) (fun x=>H' x.1):=fun w hs=>(h w hs).mono fun _ w' ⟨x,he,hx⟩=>⟨⟨x,q x w' hx⟩,he,hx⟩
theorem eE {γ:Type}{fuel':Nat}{ls':Array Bool}(φ:γ→Prop)(σ':γ→Env)(H':γ→SL)(h1:∀g,φ g→EG X k ops S L fuel' ls' (σ' g) (H' g))(h2:(∀g,φ g→EG X k ops S L fuel' ls' (σ' g) (H' g))→EG X k ops S L fuel listed σ H):EG X k ops S L fuel listed σ H:=h2 h1
theorem bQ {α:Type}{r:α→Value}{H':α→SL}{d:Nat}{op:Op}{ty:TypeId}{pos:String}{aft:Array Edge}{g:Option (Nat×Bool)}{i:Nat}(hi:ops.toArray[i]? =some ⟨some d,op,ty,pos,aft,g⟩)(hd:Nat.blt d X.N=true)
  (hg:o9 ops σ g=some true) (hv:aV X σ H ⟨some d,op,ty,pos,aft,none⟩ r H') {ls:Array Bool} (hl:listed.setIfInBounds i true=ls)
  (hS:∀x,U (H' x) S) (h:∀x,EG X k ops S L fuel ls ((d,r x)::σ) (H' x)):EI X k ops S L fuel listed i σ H:=by
 subst hl
 intro a w ha hw
 obtain⟨x,w',h1,h2⟩:=hv a w ha hw
 have zv:(execOp a.eval ⟨some d,op,ty,pos,aft,g⟩).run X.P w= .ok (.value (r x)) w':=h1
 unfold wpOp
 rw[hi]
 simp only[sY ha hg,Oper.wp,zv,Oper.upon,if_true]
 exact .inl ⟨fun _=>(hS x).sat _ h2,h x _ _ (ha.put hd _) h2⟩
end
section
open Go.RowKit
set_option maxRecDepth 10000
attribute [local irreducible] EK EX ER EN EL ES EG av aV aY
variable {W:World} {F:SL} {X:Cx} {k:List KI} {σ:Env} {p q:Option Addr} {ws:List Nat} {gs:List (List (Nat×Nat))} {s:iT} {w:Nat}
attribute [local simp] Hl DU pz
def cj (q:Option Addr)(s:iT):SL:=Obj q 276 (fW s)
theorem cj.open (H:EK X k σ (Obj q 276 (fW s)*F)):EK X k σ (cj q s*F):=H
theorem cj.ia {ops o:List Oper}(H:EL X k ops o σ (Obj q 276 (fW s)*F)):EL X k ops o σ (cj q s*F):=H
theorem cj.shut {l:List Value}(h:l=fW s):U (Obj q 276 l*F) (cj q s*F):=by subst h;exact U.refl _
theorem cj.bD {l:List Value}{G:SL}(h:l=fW s)(k:U F G):U (Obj q 276 l*F) (cj q s*G):=U.trans (cj.shut h) (U.star (U.refl _) k)
theorem cj.cQ {H F' G:SL}{l:List Value}[r:bw H q (Obj q 276 l) F'](e:l=fW s)(k:U F' G):U H (cj q s*G):=by
 rw[r.eq]
 exact cj.bD e k
instance (priority:=2000)(q:Option Addr)(s:iT)(F:SL):bw (cj q s*F) q (cj q s) F:=⟨rfl⟩
instance (q:Option Addr)(s:iT):jQ (cj q s) q:=⟨fun W w F H=>(Obj.root q _ _).nn W w _ H⟩
theorem BL (hw:w<gs.length)(hg:gs.length≤64):Spec Tryz.prog 145 [.pointer p,.int .i64 (w:Int)] W (bO p ws gs*F) (fun g:Option Addr=> .pointer g) (fun g=>cj g ⟨w,false,0,0,false,false⟩*(bO p ws gs*F)):=by
 refine Spec.of Tryz.func145 rfl Tryz.ntmps145 rfl ?_
 refine bO.open fun e=> ?_
 repeat first|refine aa ?_ |intro
 refine af rfl (AE p hw hg) ?_
 intro _
 repeat first|refine aa ?_ |intro
 rename_i x
 exact ae (ar rfl rfl x rfl (U.sat (cj.bD (by rfl) (bO.shut (e:=e)))))
theorem Jv (hw:w<gs.length)(hg:gs.length≤64)(hl:ws.length=gs.length+1):Spec Tryz.prog 119 [.pointer p,.int .i64 (w:Int)] W (bO p ws gs*F) (fun _:Unit=> .tuple #[]) (fun _=>bO p (ws.set (1+w) 0) gs*F):=by
 refine Spec.of Tryz.func119 rfl Tryz.ntmps119 rfl ?_
 refine bO.open fun e=> ?_
 repeat first|refine aa ?_ |intro
 refine af rfl (AE p hw hg) ?_
 intro _
 simp only[kI]
 repeat first|refine aa ?_ |intro
 rw[show(1:Int)+(w:Int)=((1+w:Nat):Int)by omega]
 refine af rfl (Spec.aL e.c (uU e.c ws (1+w) 0 (by omega) (by omega))) ?_
 intro _
 repeat first|refine aa ?_ |intro
 exact aH (aI rfl () rfl (U.sat (U.trans (ab) (bO.shut (e:=e)))))
theorem Mi (h:sq gs.length ws gs)(hs:s.Ok gs.length)(ha:s.lN=false):Spec Tryz.prog 147 [.pointer p,.pointer q] W (cj q s*(bO p ws gs*F)) (fun _:Unit=> .tuple #[]) (fun _=>cj q (lq ws s).2*(bO p (lq ws s).1 gs*F)):=by
 refine Spec.of Tryz.func147 rfl Tryz.ntmps147 rfl ?_
 have hl:=h.len
 have hn:=h.n1
 have qF:=hs.worker
 have Oc:=hs.seen
 have vP:=h.w 0
 have DZ:=hs.bR ha
 refine cy p (bO.open fun e=> ?_)
 simp only[kI]
 refine cy q (cj.open ?_)
 have hU:s.at_=0∨s.at_=1∨s.at_=2:=by omega
 rcases hU with e0|e0|e0
 ·have es:lq ws s=(ws,{s with seen:=ws.getD 0 0,at_:=1}):=by unfold lq;rw[if_pos e0]
  rw[es]
  simp only[fW,e0]
  repeat first|refine aa ?_ |intro
  refine af rfl (Spec.aL e.c (eJ e.c ws 0 (by omega) (by omega))) ?_
  intro _
  repeat first|refine aa ?_ |intro
  exact aH (aI rfl () rfl (U.sat (cj.cQ (by rfl) (U.trans (ab) (bO.shut (e:=e))))))
 ·have es:lq ws s=(ws.set (1+s.worker) (s.seen+1),{s with at_:=2}):=by unfold lq;rw[if_neg (by omega),if_pos e0]
  rw[es]
  simp only[fW,e0]
  repeat first|refine aa ?_ |intro
  refine aG 99 (Obj p 197 [.pointer e.c,.slice e.g.1 gs.length e.g.2]*(Obj q 276 [.int .i64 (s.worker:Int),.bool s.lN,.int .i64 ((1:Nat):Int),.int .u64 (s.seen:Int),.bool s.done,.bool s.uv]*1)) rfl rfl rfl ?_
  repeat(first|refine ak ?_ |refine eD ?_)
  rw[show(1:Int)+(s.worker:Int)=((1+s.worker:Nat):Int)by omega,show(s.seen:Int)+1=((s.seen+1:Nat):Int)by omega]
  refine aC rfl rfl rfl rfl rfl (Spec.aL e.c (uU e.c ws (1+s.worker) (s.seen+1) (by omega) (by omega))) (fun _=>ab) ?_
  intro _
  repeat(first|refine ak ?_ |refine eD ?_)
  repeat first|refine aa ?_ |intro
  exact aH (aI rfl () rfl (U.sat (cj.cQ (by rfl) (U.trans (ab) (bO.shut (e:=e))))))
 ·have es:lq ws s=(ws,{s with done:=decide (ws.getD 0 0=s.seen),at_:=0}):=by unfold lq;rw[if_neg (by omega),if_neg (by omega)]
  rw[es]
  simp only[fW,e0]
  repeat first|refine aa ?_ |intro
  refine aG 13 (Obj p 197 [.pointer e.c,.slice e.g.1 gs.length e.g.2]*(Obj q 276 [.int .i64 (s.worker:Int),.bool s.lN,.int .i64 ((2:Nat):Int),.int .u64 (s.seen:Int),.bool s.done,.bool s.uv]*1)) rfl rfl rfl ?_
  repeat(first|refine ak ?_ |refine eD ?_)
  refine aC rfl rfl rfl rfl rfl (Spec.aL e.c (eJ e.c ws 0 (by omega) (by omega))) (fun _=>ab) ?_
  intro _
  repeat(first|refine ak ?_ |refine eD ?_)
  repeat(first|refine bJ ?_ |(refine bN ?_;intro)|refine bK ?_ |refine bL ?_ |refine bM ?_ |refine eD ?_)
  repeat first|refine aa ?_ |intro
  refine aH (aI rfl () rfl (U.sat (cj.cQ ?_ (U.trans (ab) (bO.shut (e:=e))))))
  simp only[fW]
  simp[Int.natCast_inj]
theorem L9 (h:sq gs.length ws gs)(hs:s.Ok gs.length)(z7:1≤gs.length):Spec Tryz.prog 146 [.pointer p,.pointer q] W (cj q s*(bO p ws gs*F)) (fun _:Unit=> .tuple #[]) (fun _=>cj q (lV gs.length ws s).2*(bO p (lV gs.length ws s).1 gs*F)):=by
 refine Spec.of Tryz.func146 rfl Tryz.ntmps146 rfl ?_
 have hl:=h.len
 have hn:=h.n1
 have Oc:=hs.seen
 have vP:=h.w 0
 have tG:=h.w s.at_
 have DZ:=hs.at_
 refine cy p (bO.open fun e=> ?_)
 simp only[kI]
 refine cy q (cj.open ?_)
 by_cases e0:s.at_=0
 ·have es:lV gs.length ws s=(ws,{s with seen:=ws.getD 0 0,at_:=1}):=by unfold lV;rw[if_pos e0]
  rw[es]
  simp only[fW,e0]
  repeat first|refine aa ?_ |intro
  refine af rfl (Spec.aL e.c (eJ e.c ws 0 (by omega) (by omega))) ?_
  intro _
  repeat first|refine aa ?_ |intro
  exact aH (aI rfl () rfl (U.sat (cj.cQ (by rfl) (U.trans (ab) (bO.shut (e:=e))))))
 by_cases e1:s.at_≤gs.length
 ·have es:lV gs.length ws s=(ws,{s with done:=decide (ws.getD s.at_ 0≠0)&&decide (ws.getD s.at_ 0≠s.seen+1),at_:=s.at_+1}):=by unfold lV;rw[if_neg e0,if_pos e1]
  rw[es]
  repeat first|refine aa ?_ |intro
  refine aG 99 (Obj p 197 [.pointer e.c,.slice e.g.1 gs.length e.g.2]*(Obj q 276 (fW s)*1)) rfl rfl rfl ?_
  repeat(first|refine ak ?_ |refine eD ?_)
  repeat first|refine aa ?_ |intro
  refine aG 99 (Obj p 197 [.pointer e.c,.slice e.g.1 gs.length e.g.2]*(Obj q 276 (fW s)*1)) rfl rfl rfl ?_
  repeat(first|refine ak ?_ |refine eD ?_)
  refine aC rfl rfl rfl rfl rfl (Spec.aL e.c (eJ e.c ws s.at_ (by omega) (by omega))) (fun _=>ab) ?_
  intro _
  repeat(first|refine ak ?_ |refine eD ?_)
  by_cases h0:ws.getD s.at_ 0=0
  ·rw[decide_eq_false (p:=ws.getD s.at_ 0≠0) (fun z=>z h0),Bool.false_and]
   repeat first|refine aa ?_ |intro
   exact aH (aI rfl () rfl (U.sat (cj.cQ (by simp only[fW];rw[show(s.at_:Int)+1=((s.at_+1:Nat):Int)by omega]) (U.trans (ab) (bO.shut (e:=e))))))
  ·by_cases h2:ws.getD s.at_ 0=s.seen+1
   ·rw[decide_eq_true (p:=ws.getD s.at_ 0≠0) h0,decide_eq_false (p:=ws.getD s.at_ 0≠s.seen+1) (fun z=>z h2),Bool.true_and]
    repeat first|refine aa ?_ |intro
    exact aH (aI rfl () rfl (U.sat (cj.cQ (by simp only[fW];rw[show(s.at_:Int)+1=((s.at_+1:Nat):Int)by omega]) (U.trans (ab) (bO.shut (e:=e))))))
   ·rw[decide_eq_true (p:=ws.getD s.at_ 0≠0) h0,decide_eq_true (p:=ws.getD s.at_ 0≠s.seen+1) h2,Bool.true_and]
    repeat first|refine aa ?_ |intro
    exact aH (aI rfl () rfl (U.sat (cj.cQ (by simp only[fW];rw[show(s.at_:Int)+1=((s.at_+1:Nat):Int)by omega]) (U.trans (ab) (bO.shut (e:=e))))))
 ·have es:lV gs.length ws s=(if ws.getD 0 0=s.seen then ws.set 0 (s.seen+1)else ws,{s with uv:=decide (ws.getD 0 0=s.seen),done:=true,at_:=s.at_+1}):=by unfold lV;rw[if_neg e0,if_neg e1]
  rw[es]
  repeat first|refine aa ?_ |intro
  refine aG 99 (Obj p 197 [.pointer e.c,.slice e.g.1 gs.length e.g.2]*(Obj q 276 (fW s)*1)) rfl rfl rfl ?_
  repeat(first|refine ak ?_ |refine eD ?_)
  repeat first|refine aa ?_ |intro
  refine aG 17 (Obj p 197 [.pointer e.c,.slice e.g.1 gs.length e.g.2]*(Obj q 276 (fW s)*1)) rfl rfl rfl ?_
  repeat(first|refine ak ?_ |refine eD ?_)
  rw[show(s.seen:Int)+1=((s.seen+1:Nat):Int)by omega]
  refine aC rfl rfl rfl rfl rfl (Spec.aL e.c (kF e.c ws 0 s.seen (s.seen+1) (by omega) (by omega))) (fun _=>ab) ?_
  intro _
  repeat(first|refine ak ?_ |refine eD ?_)
  repeat(first|refine bJ ?_ |(refine bN ?_;intro)|refine bK ?_ |refine bL ?_ |refine bM ?_ |refine eD ?_)
  repeat first|refine aa ?_ |intro
  exact aH (aI rfl () rfl (U.sat (cj.cQ (by simp only[fW];rw[show(s.at_:Int)+1=((s.at_+1:Nat):Int)by omega]) (U.trans (ab) (bO.shut (e:=e))))))
theorem Jc (h:sq gs.length ws gs)(hs:s.Ok gs.length)(z7:1≤gs.length)(hd:s.done=false):Spec Tryz.prog 113 [.pointer p,.pointer q] W (cj q s*(bO p ws gs*F)) (fun _:Unit=> .bool (du gs.length ws s).2.done) (fun _=>cj q (du gs.length ws s).2*(bO p (du gs.length ws s).1 gs*F)):=by
 refine Spec.of Tryz.func113 rfl Tryz.ntmps113 rfl ?_
 refine cy q (cj.open ?_)
 cases ha:s.lN with
 |true=>
  have es:du gs.length ws s=lV gs.length ws s:=by unfold du;rw[if_neg (by rw[hd];decide),if_pos ha]
  rw[es]
  simp only[fW,hd,ha]
  repeat first|refine aa ?_ |intro
  refine af rfl (Spec.pre (L9 (p:=p) (q:=q) (s:=s) h hs z7) (cj.bD (by simp only[fW,hd,ha]) (U.refl _))) ?_
  intro _
  generalize lV gs.length ws s=D at*
  refine cj.ia ?_
  repeat first|refine aa ?_ |intro
  exact ae (ar rfl rfl () rfl (U.sat (cj.bD (by rfl) (U.refl _))))
 |false=>
  have es:du gs.length ws s=lq ws s:=by unfold du;rw[if_neg (by rw[hd];decide),if_neg (by rw[ha];decide)]
  rw[es]
  simp only[fW,hd,ha]
  repeat first|refine aa ?_ |intro
  refine af rfl (Spec.pre (Mi (p:=p) (q:=q) (s:=s) h hs ha) (cj.bD (by simp only[fW,hd,ha]) (U.refl _))) ?_
  intro _
  generalize lq ws s=D at*
  refine cj.ia ?_
  repeat first|refine aa ?_ |intro
  exact ae (ar rfl rfl () rfl (U.sat (cj.bD (by rfl) (U.refl _))))
end
section
open Go.RowKit
variable {X:Cx} {σ:Env}
theorem RK {P:Program}{t e:TypeId}{sz bh:Nat}{z:List Value}[h:cn P t e sz bh z](p:Option Addr)(n c:Nat)(w:World):(Op.equal t (.slice p n c) (.slice none 0 0)).run P w= .ok (decide (p=none)) w:=by
 unfold Op.equal
 obtain⟨d,hd⟩:∃d,Op.maxDepth=d+1:=⟨9999,rfl⟩
 rw[hd]
 clear hd
 simp only[Op.equalIn]
 cases p<;>simp[run_underlying h.under,go_sem]
theorem uN {H:SL}{o:Oper}{x:Operand}{t u e:TypeId}{sz bh:Nat}{z:List Value}{p:Option Addr}{n c:Nat}(ho:o.op= .binOp .eql t x (.const (.slice none 0 0)) u)(hx:ev σ x=some (.slice p n c))[h:cn X.P t e sz bh z]:av X σ H o (.bool (decide (p=none))):=by
 intro a' w ha _
 simp only[execOp,ho,ha.eval hx]
 have hg:∀p' q',(eqGuard .eql t p' q' (.slice p n c) (.slice none 0 0)).run X.P w= .ok () w:=fun _ _=>rfl
 simp[Act.eval,Sem.run_bind,hg,binOp,RK p n c w,go_sem]
theorem BG {k:List KI}{e sz n c:Nat}{xs:List Value}{F:SL}(h:n=0→EK X k σ (an e sz none n c xs*F)):EK X k σ (an e sz none n c xs*F):=fun a w ha hs=>h (by
 rcases Nat.eq_zero_or_pos n with g|g
 ·exact g
 ·exact absurd rfl (an.nn hs g)) a w ha hs
theorem Spec.rL {P:Program}{f:FuncId}{vs:List Value}{W:World}{H C F:SL}(p:Option Addr)[r:bw H p C F]{α:Type}{rr:α→Value}(h:Spec P f vs W (C*F) rr (fun _=>C*F)):Spec P f vs W H rr (fun _=>H):=fun w hs=>
 (h w (r.eq▸hs)).mono fun _ _ ⟨x,e,g⟩=>⟨x,e,r.eq.symm▸g⟩
theorem QT (p:Option Addr)(i j:Nat):off (off p i) j=off p (i+j):=by
 cases p with
 |none=>rfl
 |some a=>
  simp only[off,Option.map_some,Addr.add]
  by_cases hi:i=0<;>by_cases hj:j=0<;>simp[hi,hj,Nat.add_assoc]
end
end Go.Proofs.YtimekbpkejemoaaGreatDoor
