/-
  A part of a proof, joined by a program (wip/bundle3.py).
-/
import Derived.OrdersHeld
import Derived.Test.YtakbmjoijcpdmaaGreatDoorG3
set_option linter.unusedVariables false
set_option linter.unusedSimpArgs false
namespace Go.Proofs.YtakbmjoijcpdmaaGreatDoor
section
open Go.RowKit
section
variable {P:Program} {ops:Array Oper} {Q:Exit→Act→World→Prop} {md:Region.Mode} {S:World→Prop} {L:Nat}
def lQ (ops:Array Oper)(listed:Array Bool)(L:Nat):Prop:=(∃o,ops[L]? =some o)∧listed.getD L false=true
def wpAnyL (P:Program)(md:Region.Mode)(ops:Array Oper)(Q:Exit→Act→World→Prop)(S:World→Prop)(L:Nat):Nat→Array Bool→Act→World→Prop
 |0,listed,a,w=>Region.ready md ops listed=[]∧Q .normal a w
 |fuel+1,listed,a,w=>
  (Region.ready md ops listed=[]→Q .normal a w)∧
  ∀i∈Region.ready md ops listed,wpOp P ops Q i (fun a' w'=>(i≠L∧¬lQ ops listed L→S w')∧wpAnyL P md ops Q S L fuel (listed.setIfInBounds i true) a' w') a w
theorem ME:∀(fuel:Nat) (listed:Array Bool) (a:Act) (w:World),wpAnyL P md ops Q S L fuel listed a w→wpAny P md ops Q fuel listed a w
 |0,_,_,_,h=>h
 |fuel+1,_,_,_,h=>⟨h.1,fun i hi=>wpOp_mono (fun a' w' h'=>ME fuel _ a' w' h'.2) (h.2 i hi)⟩
def qM (md:Region.Mode)(ops:Array Oper)(listed:Array Bool):Prop:=∀(k:Nat) (o:Oper),ops[k]? =some o→listed.getD k true=true→∀e∈o.after,Region.binds md e=true→listed.getD e.on false=true
def yM (md:Region.Mode)(ops:Array Oper)(listed:Array Bool):Bool:=
 (List.range ops.size).all fun k=>match ops[k]? with
  |none=>true
  |some o=> !listed.getD k true||o.after.all fun e=> !Region.binds md e||listed.getD e.on false
theorem CD {listed:Array Bool}(h:yM md ops listed=true):qM md ops listed:=by
 intro k o ho hk e he hb
 have ck:=(Array.getElem?_eq_some_iff.1 ho).1
 have h1:=List.all_eq_true.1 h k (List.mem_range.2 ck)
 rw[ho]at h1
 simp only[hk,Bool.not_true,Bool.false_or,Array.all_eq_true']at h1
 have h2:=h1 e he
 simpa[hb]using h2
def sN (md:Region.Mode)(ops:Array Oper)(i:Nat):Nat→Nat→Bool
 |0,_=>false
 |f+1,k=>match ops[k]? with
  |none=>false
  |some o=>o.after.any fun e=>Region.binds md e&&(e.on==i||sN md ops i f e.on)
theorem G6 {listed:Array Bool}{i:Nat}(hc:qM md ops listed):∀(f k:Nat) (o:Oper),ops[k]? =some o→sN md ops i f k=true→(∀e∈o.after,Region.binds md e=true→listed.getD e.on false=true)→listed.getD i false=true
 |0,_,_,_,h,_=>by simp[sN]at h
 |f+1,k,o,ho,h,hl=>by
  simp only[sN,ho,Array.any_eq_true',Bool.and_eq_true,Bool.or_eq_true,beq_iff_eq]at h
  obtain⟨e,he,hb,h|h⟩:=h
  ·rw[←h];exact hl e he hb
  ·have h1:=hl e he hb
   cases DQ:ops[e.on]? with
   |none=>
    cases f with
    |zero=>simp[sN]at h
    |succ f=>simp[sN,DQ]at h
   |some o2=>
    have h2:listed.getD e.on true=true:=by
     rcases Nat.lt_or_ge e.on listed.size with g|g
     ·simpa[g]using h1
     ·simp[Array.getElem?_eq_none g]
    exact G6 hc f e.on o2 DQ h fun e' IV zk=>hc e.on o2 DQ h2 e' IV zk
theorem qM.set {listed:Array Bool}{j:Nat}(hc:qM md ops listed)(hj:j∈Region.ready md ops listed):qM md ops (listed.setIfInBounds j true):=by
 intro k o ho hk e he hb
 obtain⟨_,oj,jO,iC⟩:=mem_ready.1 hj
 by_cases l5:j=k
 ·subst l5
  rw[jO]at ho
  cases ho
  exact getD_set_true (iC e he hb)
 ·rw[getD_set_ne true l5]at hk
  exact getD_set_true (hc k o ho hk e he hb)
theorem Iw {listed:Array Bool}{i:Nat}(h:listed.getD i true=false):listed.getD i false=false:=by
 rcases Nat.lt_or_ge i listed.size with h'|h'
 ·simpa[h']using h
 ·simp[Array.getElem?_eq_none h']at h
theorem wpAnyL_first {i:Nat}{oi:Oper}{v:Value}(hi:ops[i]? =some oi)(kB:∀(j:Nat) (o:Oper) cs b,ops[j]? =some o→o.op≠ .select cs b)
  (hQ:∀c a w,Q (.panic c) (a.put oi.dst v) w→Q (.panic c) a w) (hL:∀(listed:Array Bool),qM md ops listed→L∈Region.ready md ops listed∨lQ ops listed L→i≠L→listed.getD i true=true) (o6:i≠L):
  ∀(fuel:Nat) (listed:Array Bool) (a:Act) (w:World),
   (∀j oj,ops[j]? =some oj→j≠i→listed.getD j true=false→(∀e∈oj.after,Region.binds md e=true→e.on≠i)→oi.apart ops oj=true)→
   i∈Region.ready md ops listed→qM md ops listed→YieldsIf P ops S oi v a→S w→
   wpAnyL P md ops Q S L fuel (listed.setIfInBounds i true) (a.put oi.dst v) w→wpAnyL P md ops Q S L (fuel+1) listed a w:=by
 intro fuel
 induction fuel with
 |zero=>
  intro listed a w _ hr _ hy hS H
  refine⟨fun h=>(by rw[h]at hr;cases hr),fun j hj=> ?_⟩
  by_cases eT:j=i
  ·subst eT;exact hy.wpOp hi hS ⟨fun _=>hS,H⟩
  ·have:=ready_mono hj eT
   rw[H.1]at this
   cases this
 |succ fuel ih=>
  intro listed a w mZ hr hc hy hS H
  refine⟨fun h=>(by rw[h]at hr;cases hr),fun j hj=> ?_⟩
  by_cases eT:j=i
  ·subst eT;exact hy.wpOp hi hS ⟨fun _=>hS,H⟩
  ·have wy:j≠L:=fun e=>by
    subst e
    have h1:=hL listed hc (.inl hj) o6
    rw[(mem_ready.1 hr).1]at h1
    cases h1
   have h1:=H.2 j (ready_mono hj eT)
   obtain⟨nc,oj,jO,iC⟩:=mem_ready.1 hj
   have tj:∀e∈oj.after,Region.binds md e=true→e.on≠i:=fun e he hb heq=>by
    have h1:=iC e he hb
    rw[heq,Iw (mem_ready.1 hr).1]at h1
    cases h1
   have h2:=wpOp_putIf jO (mZ j oj jO eT nc tj) (fun cs b=>kB i oi cs b hi) (fun cs b=>kB j oj cs b jO) hQ hy h1
   have s6:∀k ok,ops[k]? =some ok→k≠i→(listed.setIfInBounds j true).getD k true=false→
     (∀e∈ok.after,Region.binds md e=true→e.on≠i)→oi.apart ops ok=true:=fun k ok hk te jS hY=>by
    refine mZ k ok hk te ?_ hY
    by_cases l5:j=k
    ·subst l5;exact nc
    ·rw[getD_set_ne true l5]at jS;exact jS
   have Ju:¬lQ ops (listed.setIfInBounds i true) L:=fun hl=>by
    have I7:lQ ops listed L:=⟨hl.1,by
     have h0:=hl.2
     rw[Array.getD_eq_getD_getElem?]at h0 ⊢
     rwa[Array.getElem?_setIfInBounds_ne o6]at h0⟩
    have h1:=hL listed hc (.inr I7) o6
    rw[(mem_ready.1 hr).1]at h1
    cases h1
   refine wpOp_mono (fun a' w' h3=>⟨fun _=>h3.2.1 ⟨wy,Ju⟩,ih (listed.setIfInBounds j true) a' w' s6 (ready_mono hr (Ne.symm eT)) (hc.set hj) h3.1 (h3.2.1 ⟨wy,Ju⟩) ?_⟩) h2
   rw[Array.setIfInBounds_comm _ _ eT]
   exact h3.2.2
def xh (md:Region.Mode)(ops:Array Oper)(L i:Nat):Bool:=match ops[L]? with
 |none=> !(i==L)
 |some _=> !(i==L)&&sN md ops i ops.size L
theorem Eh {i:Nat}(h:xh md ops L i=true):i≠L∧∀(listed:Array Bool),qM md ops listed→L∈Region.ready md ops listed∨lQ ops listed L→i≠L→listed.getD i true=true:=by
 unfold xh at h
 cases ho:ops[L]? with
 |none=>
  rw[ho]at h
  refine⟨by simpa using h,fun listed hc hr _=> ?_⟩
  rcases hr with hr|hr
  ·obtain⟨_,o,h1,_⟩:=mem_ready.1 hr
   rw[ho]at h1
   cases h1
  ·obtain⟨⟨o,h1⟩,_⟩:=hr
   rw[ho]at h1
   cases h1
 |some o=>
  rw[ho]at h
  simp only[Bool.and_eq_true,Bool.not_eq_true',beq_eq_false_iff_ne]at h
  refine⟨h.1,fun listed hc hr _=> ?_⟩
  have h2:∀e∈o.after,Region.binds md e=true→listed.getD e.on false=true:=by
   rcases hr with hr|hr
   ·obtain⟨_,o',h1,h2⟩:=mem_ready.1 hr
    rw[ho]at h1
    cases h1
    exact h2
   ·refine hc L o ho ?_
    have h0:=hr.2
    rw[Array.getD_eq_getD_getElem?]at h0 ⊢
    cases hq:listed[L]? with
    |none=>rfl
    |some b=>rw[hq]at h0;exact h0
  have h3:=G6 hc _ L o ho h.2 h2
  rcases Nat.lt_or_ge i listed.size with g|g
  ·simpa[g]using h3
  ·simp[Array.getElem?_eq_none g]
end
def qu (R:Act→World→Prop):Exit→Act→World→Prop
 | .normal,a,w=>R a w
 |_,_,_=>False
def EG (X:Cx)(k:List KI)(ops:List Oper)(S:SL)(L fuel:Nat)(listed:Array Bool)(σ:Env)(H:SL):Prop:=
 ∀a w,Fits X.N a σ→Sat X.W w H→wpAnyL X.P .any ops.toArray (qu (run X.P X.R k .normal)) (fun w=>Sat X.W w S) L fuel listed a w
variable {X:Cx} {k:List KI} {σ:Env} {H S:SL} {ops:List Oper} {fuel L:Nat} {listed:Array Bool}
theorem aL {id n:Nat}{ls:Array Bool}(L:Nat)(S:SL)(hm:X.P.follows .mixedOrders=true)(hn:ops.toArray.size=n)(hl:Array.replicate n false=ls)(h:EG X k ops S L n ls σ H):EK X (.code (.region id ops.toArray true)::k) σ H:=by
 subst hn hl
 intro a w ha hs
 refine Code.wp_mono (Q:=qu (run X.P X.R k .normal)) ?_ (wp_region_any hm (ME _ _ _ _ (h a _ ha hs.drew)))
 intro e a w he
 cases e<;>first|exact he|exact he.elim
def mf:List Bool→Nat→Nat→Option Nat
 |[],_,_=>none
 |true::l,n,i=>mf l n (i+1)
 |false::_,0,i=>some i
 |false::l,n+1,i=>mf l n (i+1)
theorem eX (n:Nat){d:Nat}{v:Value}{op:Op}{ty:TypeId}{pos:String}{aft:Array Edge}{i:Nat}(hn:mf listed.toList n 0=some i)(hi:ops.toArray[i]? =some ⟨some d,op,ty,pos,aft,none⟩)(hd:Nat.blt d X.N=true)
  (hv:az X σ S ⟨some d,op,ty,pos,aft,none⟩ v)
  (hb:(Region.noSelect ops.toArray&&Region.free .any ops.toArray listed i&&(Region.ready .any ops.toArray listed).contains i&&yM .any ops.toArray listed&&xh .any ops.toArray L i)=true) (hS:U H S) {ls:Array Bool} (hl:listed.setIfInBounds i true=ls)
  (h:EG X k ops S L fuel ls ((d,v)::σ) H):EG X k ops S L (fuel+1) listed σ H:=by
 subst hl
 simp only[Bool.and_eq_true]at hb
 obtain⟨⟨⟨⟨hs,hf⟩,hr⟩,hc⟩,wE⟩:=hb
 obtain⟨h1,h2⟩:=Eh wE
 intro a w ha hw
 exact wpAnyL_first hi (Region.noSelect_spec hs) (fun _ _ _ h=>h.elim) h2 h1 fuel listed a w (Region.free_spec hi hf) (by simpa using hr) (CD hc) (.inl ⟨rfl,fun w hs=>hv a w ha hs⟩) (hS.sat _ hw) (h _ _ (ha.put hd v) hw)
theorem oH {i:Nat}(hr:Region.ready .any ops.toArray listed=[i]){a:Act}{w:World}(h:wpOp X.P ops.toArray (qu (run X.P X.R k .normal)) i (fun a' w'=>(i≠L∧¬lQ ops.toArray listed L→Sat X.W w' S)∧wpAnyL X.P .any ops.toArray (qu (run X.P X.R k .normal)) (fun w=>Sat X.W w S) L fuel (listed.setIfInBounds i true) a' w') a w):
  wpAnyL X.P .any ops.toArray (qu (run X.P X.R k .normal)) (fun w=>Sat X.W w S) L (fuel+1) listed a w:=
 ⟨fun h0=>(by rw[hr]at h0;cases h0),fun j hj=>by
  rw[hr,List.mem_singleton]at hj
  subst hj
  exact h⟩
theorem N8 {α:Type}{r:α→Value}{H':α→SL}{d:Nat}{op:Op}{ty:TypeId}{pos:String}{aft:Array Edge}{i:Nat}(hn:mf listed.toList 0 0=some i)(hi:ops.toArray[i]? =some ⟨some d,op,ty,pos,aft,none⟩)(hd:Nat.blt d X.N=true)
  (hv:ba X σ H ⟨some d,op,ty,pos,aft,none⟩ r H') (hr:Region.ready .any ops.toArray listed=[i]) {ls:Array Bool} (hl:listed.setIfInBounds i true=ls)
  (hS:∀x,U (H' x) S) (h:∀x,EG X k ops S L fuel ls ((d,r x)::σ) (H' x)):EG X k ops S L (fuel+1) listed σ H:=by
 subst hl
 intro a w ha hw
 refine oH hr ?_
 obtain⟨x,w',h1,h2⟩:=hv a w ha hw
 unfold wpOp
 rw[hi]
 simp only[Region.wanted,Oper.wp,h1,Oper.upon,if_true]
 exact .inl ⟨fun _=>(hS x).sat _ h2,h x _ _ (ha.put hd _) h2⟩
theorem Ob {v:Value}{d:Nat}{op:Op}{ty:TypeId}{pos:String}{aft:Array Edge}{i:Nat}(hn:mf listed.toList 0 0=some i)(hi:ops.toArray[i]? =some ⟨some d,op,ty,pos,aft,none⟩)(hd:Nat.blt d X.N=true)
  (hv:az X σ H ⟨some d,op,ty,pos,aft,none⟩ v) (hr:Region.ready .any ops.toArray listed=[i]) (hS:U H S) {ls:Array Bool} (hl:listed.setIfInBounds i true=ls)
  (h:EG X k ops S L fuel ls ((d,v)::σ) H):EG X k ops S L (fuel+1) listed σ H:=by
 subst hl
 intro a w ha hw
 refine oH hr ?_
 unfold wpOp
 rw[hi]
 simp only[Region.wanted,Oper.wp,hv a w ha hw,Oper.upon,if_true]
 exact .inl ⟨fun _=>hS.sat _ hw,h _ _ (ha.put hd _) hw⟩
theorem Oa {H':SL}{op:Op}{ty:TypeId}{pos:String}{aft:Array Edge}{i:Nat}(hn:mf listed.toList 0 0=some i)(hi:ops.toArray[i]? =some ⟨none,op,ty,pos,aft,none⟩)
  (hv:bf X σ H ⟨none,op,ty,pos,aft,none⟩ H') (hr:Region.ready .any ops.toArray listed=[i]) (hS:U H' S) {ls:Array Bool} (hl:listed.setIfInBounds i true=ls)
  (h:EG X k ops S L fuel ls σ H'):EG X k ops S L (fuel+1) listed σ H:=by
 subst hl
 intro a w ha hw
 refine oH hr ?_
 obtain⟨w',h1,h2⟩:=hv a w ha hw
 unfold wpOp
 rw[hi]
 simp only[Region.wanted,Oper.wp,h1,Oper.upon,if_true]
 exact .inl ⟨fun _=>hS.sat _ h2,h _ _ ha h2⟩
theorem AZ {H':SL}{op:Op}{ty:TypeId}{pos:String}{aft:Array Edge}(hi:ops.toArray[L]? =some ⟨none,op,ty,pos,aft,none⟩)
  (hv:bf X σ H ⟨none,op,ty,pos,aft,none⟩ H') (hr:Region.ready .any ops.toArray listed=[L]) (rM:Region.ready .any ops.toArray (listed.setIfInBounds L true)=[]) (h:EK X k σ H'):EG X k ops S L (fuel+1) listed σ H:=by
 intro a w ha hw
 refine oH hr ?_
 obtain⟨w',h1,h2⟩:=hv a w ha hw
 unfold wpOp
 rw[hi]
 simp only[Region.wanted,Oper.wp,h1,Oper.upon,if_true]
 refine .inl ⟨fun e=>absurd rfl e.1,?_⟩
 have h3:qu (run X.P X.R k .normal) .normal (a.put none undef) w':=h _ _ ha h2
 cases fuel with
 |zero=>exact⟨rM,h3⟩
 |succ f=>exact⟨fun _=>h3,by rw[rM];simp⟩
theorem FW (hr:Region.ready .any ops.toArray listed=[])(h:EK X k σ H):EG X k ops S L fuel listed σ H:=fun a w ha hw=>by
 have h3:qu (run X.P X.R k .normal) .normal a w:=h _ _ ha hw
 cases fuel with
 |zero=>exact⟨hr,h3⟩
 |succ f=>exact⟨fun _=>h3,by rw[hr];simp⟩
theorem eD {X:Cx}{k:List KI}{ops:List Oper}{S H:SL}{L fuel:Nat}{listed:Array Bool}{σ:Env}(h:EK X k σ H)(hr:Region.ready .any ops.toArray listed=[]:=by decide+kernel):EG X k ops S L fuel listed σ H:=FW hr h
end
section
open Go.RowKit
variable {X:Cx} {σ:Env} {H:SL} {aj:TypeId} {ai:String} {ah:Array Edge}
theorem Ze {x:_}{ak:Option Nat}{v_:Value}(h_:az X σ H ⟨ak,.move x,aj,ai,ah,none⟩ v_):az X σ H ⟨ak,.move x,aj,ai,ah,none⟩ v_:=h_
theorem YV {x:_}{ak:Option Nat}{v_:Value}(h_:az X σ H ⟨ak,.assign x,aj,ai,ah,none⟩ v_):az X σ H ⟨ak,.assign x,aj,ai,ah,none⟩ v_:=h_
theorem YZ {i x:_}{ak:Option Nat}{v_:Value}(h_:az X σ H ⟨ak,.extract x i,aj,ai,ah,none⟩ v_):az X σ H ⟨ak,.extract x i,aj,ai,ah,none⟩ v_:=h_
theorem Y9 {t x:_}{ak:Option Nat}{v_:Value}(h_:az X σ H ⟨ak,.load t x,aj,ai,ah,none⟩ v_):az X σ H ⟨ak,.load t x,aj,ai,ah,none⟩ v_:=h_
theorem Y1 {i t x:_}{ak:Option Nat}{v_:Value}(h_:az X σ H ⟨ak,.fieldAddr t x i,aj,ai,ah,none⟩ v_):az X σ H ⟨ak,.fieldAddr t x i,aj,ai,ah,none⟩ v_:=h_
theorem Zh {x:_}{ak:Option Nat}{v_:Value}(h_:az X σ H ⟨ak,.nilCheck x,aj,ai,ah,none⟩ v_):az X σ H ⟨ak,.nilCheck x,aj,ai,ah,none⟩ v_:=h_
theorem YY {t u x y:_}{ak:Option Nat}{v_:Value}(h_:az X σ H ⟨ak,.binOp .eql t x y u,aj,ai,ah,none⟩ v_):az X σ H ⟨ak,.binOp .eql t x y u,aj,ai,ah,none⟩ v_:=h_
theorem Zg {t u x y:_}{ak:Option Nat}{v_:Value}(h_:az X σ H ⟨ak,.binOp .neq t x y u,aj,ai,ah,none⟩ v_):az X σ H ⟨ak,.binOp .neq t x y u,aj,ai,ah,none⟩ v_:=h_
theorem Za {t u x y:_}{ak:Option Nat}{v_:Value}(h_:az X σ H ⟨ak,.binOp .lss t x y u,aj,ai,ah,none⟩ v_):az X σ H ⟨ak,.binOp .lss t x y u,aj,ai,ah,none⟩ v_:=h_
theorem Y8 {t u x y:_}{ak:Option Nat}{v_:Value}(h_:az X σ H ⟨ak,.binOp .leq t x y u,aj,ai,ah,none⟩ v_):az X σ H ⟨ak,.binOp .leq t x y u,aj,ai,ah,none⟩ v_:=h_
theorem Y4 {t u x y:_}{ak:Option Nat}{v_:Value}(h_:az X σ H ⟨ak,.binOp .gtr t x y u,aj,ai,ah,none⟩ v_):az X σ H ⟨ak,.binOp .gtr t x y u,aj,ai,ah,none⟩ v_:=h_
theorem Y3 {t u x y:_}{ak:Option Nat}{v_:Value}(h_:az X σ H ⟨ak,.binOp .geq t x y u,aj,ai,ah,none⟩ v_):az X σ H ⟨ak,.binOp .geq t x y u,aj,ai,ah,none⟩ v_:=h_
theorem YS {t u x y:_}{ak:Option Nat}{v_:Value}(h_:az X σ H ⟨ak,.binOp .add t x y u,aj,ai,ah,none⟩ v_):az X σ H ⟨ak,.binOp .add t x y u,aj,ai,ah,none⟩ v_:=h_
theorem Zp {t u x y:_}{ak:Option Nat}{v_:Value}(h_:az X σ H ⟨ak,.binOp .sub t x y u,aj,ai,ah,none⟩ v_):az X σ H ⟨ak,.binOp .sub t x y u,aj,ai,ah,none⟩ v_:=h_
theorem Zf {t u x y:_}{ak:Option Nat}{v_:Value}(h_:az X σ H ⟨ak,.binOp .mul t x y u,aj,ai,ah,none⟩ v_):az X σ H ⟨ak,.binOp .mul t x y u,aj,ai,ah,none⟩ v_:=h_
theorem YT {t u x y:_}{ak:Option Nat}{v_:Value}(h_:az X σ H ⟨ak,.binOp .and t x y u,aj,ai,ah,none⟩ v_):az X σ H ⟨ak,.binOp .and t x y u,aj,ai,ah,none⟩ v_:=h_
theorem Zi {t u x y:_}{ak:Option Nat}{v_:Value}(h_:az X σ H ⟨ak,.binOp .or t x y u,aj,ai,ah,none⟩ v_):az X σ H ⟨ak,.binOp .or t x y u,aj,ai,ah,none⟩ v_:=h_
theorem Zr {t u x y:_}{ak:Option Nat}{v_:Value}(h_:az X σ H ⟨ak,.binOp .xor t x y u,aj,ai,ah,none⟩ v_):az X σ H ⟨ak,.binOp .xor t x y u,aj,ai,ah,none⟩ v_:=h_
theorem YU {t u x y:_}{ak:Option Nat}{v_:Value}(h_:az X σ H ⟨ak,.binOp .andNot t x y u,aj,ai,ah,none⟩ v_):az X σ H ⟨ak,.binOp .andNot t x y u,aj,ai,ah,none⟩ v_:=h_
theorem Zk {t u x y:_}{ak:Option Nat}{v_:Value}(h_:az X σ H ⟨ak,.binOp .quo t x y u,aj,ai,ah,none⟩ v_):az X σ H ⟨ak,.binOp .quo t x y u,aj,ai,ah,none⟩ v_:=h_
theorem Zl {t u x y:_}{ak:Option Nat}{v_:Value}(h_:az X σ H ⟨ak,.binOp .rem t x y u,aj,ai,ah,none⟩ v_):az X σ H ⟨ak,.binOp .rem t x y u,aj,ai,ah,none⟩ v_:=h_
theorem Zn {t u x y:_}{ak:Option Nat}{v_:Value}(h_:az X σ H ⟨ak,.binOp .shr t x y u,aj,ai,ah,none⟩ v_):az X σ H ⟨ak,.binOp .shr t x y u,aj,ai,ah,none⟩ v_:=h_
theorem Zm {t u x y:_}{ak:Option Nat}{v_:Value}(h_:az X σ H ⟨ak,.binOp .shl t x y u,aj,ai,ah,none⟩ v_):az X σ H ⟨ak,.binOp .shl t x y u,aj,ai,ah,none⟩ v_:=h_
theorem Y6 {t x y:_}{ak:Option Nat}{v_:Value}(h_:az X σ H ⟨ak,.indexAddr t x y,aj,ai,ah,none⟩ v_):az X σ H ⟨ak,.indexAddr t x y,aj,ai,ah,none⟩ v_:=h_
theorem Y5 {t x y:_}{ak:Option Nat}{v_:Value}(h_:az X σ H ⟨ak,.index t x y,aj,ai,ah,none⟩ v_):az X σ H ⟨ak,.index t x y,aj,ai,ah,none⟩ v_:=h_
theorem YX {t u x:_}{ak:Option Nat}{v_:Value}(h_:az X σ H ⟨ak,.convert t u x,aj,ai,ah,none⟩ v_):az X σ H ⟨ak,.convert t u x,aj,ai,ah,none⟩ v_:=h_
theorem YW {i t:_}{ak:Option Nat}{v_:Value}(h_:az X σ H ⟨ak,.build t i,aj,ai,ah,none⟩ v_):az X σ H ⟨ak,.build t i,aj,ai,ah,none⟩ v_:=h_
theorem Y0 {i t x:_}{ak:Option Nat}{v_:Value}(h_:az X σ H ⟨ak,.field t x i,aj,ai,ah,none⟩ v_):az X σ H ⟨ak,.field t x i,aj,ai,ah,none⟩ v_:=h_
theorem Zo {i j k t x:_}{ak:Option Nat}{v_:Value}(h_:az X σ H ⟨ak,.slice t x i j k,aj,ai,ah,none⟩ v_):az X σ H ⟨ak,.slice t x i j k,aj,ai,ah,none⟩ v_:=h_
theorem Zb {i j k:_}{ak:Option Nat}{v_:Value}(h_:az X σ H ⟨ak,.makeFunc i j k,aj,ai,ah,none⟩ v_):az X σ H ⟨ak,.makeFunc i j k,aj,ai,ah,none⟩ v_:=h_
theorem Zj {c x y:_}{ak:Option Nat}{v_:Value}(h_:az X σ H ⟨ak,.pick c x y,aj,ai,ah,none⟩ v_):az X σ H ⟨ak,.pick c x y,aj,ai,ah,none⟩ v_:=h_
theorem Zq {i t x:_}{ak:Option Nat}{v_:Value}(h_:az X σ H ⟨ak,.unOp i t x,aj,ai,ah,none⟩ v_):az X σ H ⟨ak,.unOp i t x,aj,ai,ah,none⟩ v_:=h_
theorem Y7 {i j:_}{ak:Option Nat}{v_:Value}(h_:az X σ H ⟨ak,.call {callee:= .builtin .len,args:=i,argTypes:=j},aj,ai,ah,none⟩ v_):az X σ H ⟨ak,.call {callee:= .builtin .len,args:=i,argTypes:=j},aj,ai,ah,none⟩ v_:=h_
theorem Zd {i j:_}{ak:Option Nat}{v_:Value}(h_:az X σ H ⟨ak,.call {callee:= .builtin .min,args:=i,argTypes:=j},aj,ai,ah,none⟩ v_):az X σ H ⟨ak,.call {callee:= .builtin .min,args:=i,argTypes:=j},aj,ai,ah,none⟩ v_:=h_
theorem Zc {i j:_}{ak:Option Nat}{v_:Value}(h_:az X σ H ⟨ak,.call {callee:= .builtin .max,args:=i,argTypes:=j},aj,ai,ah,none⟩ v_):az X σ H ⟨ak,.call {callee:= .builtin .max,args:=i,argTypes:=j},aj,ai,ah,none⟩ v_:=h_
theorem Y2 {f i j:_}{ak:Option Nat}{v_:Value}(h_:az X σ H ⟨ak,.call {callee:= .value (.func f),args:=i,argTypes:=j},aj,ai,ah,none⟩ v_):az X σ H ⟨ak,.call {callee:= .value (.func f),args:=i,argTypes:=j},aj,ai,ah,none⟩ v_:=h_
theorem QB {t:_}{ak:Option Nat}{α_:Type}{r_:α_→Value}{K_:α_→SL}(h_:ba X σ H ⟨ak,.alloc t,aj,ai,ah,none⟩ r_ K_):ba X σ H ⟨ak,.alloc t,aj,ai,ah,none⟩ r_ K_:=h_
theorem QD {t x:_}{ak:Option Nat}{α_:Type}{r_:α_→Value}{K_:α_→SL}(h_:ba X σ H ⟨ak,.box t x,aj,ai,ah,none⟩ r_ K_):ba X σ H ⟨ak,.box t x,aj,ai,ah,none⟩ r_ K_:=h_
theorem QC {i j:_}{ak:Option Nat}{α_:Type}{r_:α_→Value}{K_:α_→SL}(h_:ba X σ H ⟨ak,.call {callee:= .builtin .append,args:=i,argTypes:=j},aj,ai,ah,none⟩ r_ K_):ba X σ H ⟨ak,.call {callee:= .builtin .append,args:=i,argTypes:=j},aj,ai,ah,none⟩ r_ K_:=h_
theorem QH {t x y:_}{ak:Option Nat}{α_:Type}{r_:α_→Value}{K_:α_→SL}(h_:ba X σ H ⟨ak,.makeSlice t x y,aj,ai,ah,none⟩ r_ K_):ba X σ H ⟨ak,.makeSlice t x y,aj,ai,ah,none⟩ r_ K_:=h_
theorem QE {i j t:_}{ak:Option Nat}{α_:Type}{r_:α_→Value}{K_:α_→SL}(h_:ba X σ H ⟨ak,.buildSlice t i j,aj,ai,ah,none⟩ r_ K_):ba X σ H ⟨ak,.buildSlice t i j,aj,ai,ah,none⟩ r_ K_:=h_
theorem QF {t u x:_}{ak:Option Nat}{α_:Type}{r_:α_→Value}{K_:α_→SL}(h_:ba X σ H ⟨ak,.convert t u x,aj,ai,ah,none⟩ r_ K_):ba X σ H ⟨ak,.convert t u x,aj,ai,ah,none⟩ r_ K_:=h_
theorem QG {f i j:_}{ak:Option Nat}{α_:Type}{r_:α_→Value}{K_:α_→SL}(h_:ba X σ H ⟨ak,.call {callee:= .value (.func f),args:=i,argTypes:=j},aj,ai,ah,none⟩ r_ K_):ba X σ H ⟨ak,.call {callee:= .value (.func f),args:=i,argTypes:=j},aj,ai,ah,none⟩ r_ K_:=h_
theorem LK {t x y:_}{ak:Option Nat}{K_:SL}(h_:bf X σ H ⟨ak,.store t x y,aj,ai,ah,none⟩ K_):bf X σ H ⟨ak,.store t x y,aj,ai,ah,none⟩ K_:=h_
theorem ie {o_:Oper}{v_:Value}(h_:az X σ H o_ v_:=by(first|(apply Ze;exact gP rfl)|(apply YV;exact gP rfl)|(apply YZ;exact gP rfl)|(apply Y9;first|exact qW rfl rfl rfl|exact BJ rfl rfl rfl|exact BM rfl rfl (by omega)|exact BK rfl rfl (by omega) (by omega)|exact BL rfl rfl (by omega))|(apply Y1;exact ix rfl rfl)|(apply Zh;exact iy rfl rfl)|(apply YY;first|exact sI rfl (by omega)|exact sH rfl (by omega)|exact jm rfl|exact BG rfl rfl|exact yt rfl rfl rfl (by first|exact .inl rfl|exact .inr rfl)|exact B9 rfl rfl rfl|exact Bq rfl rfl rfl rfl rfl|exact Bt rfl rfl rfl)|(apply Zg;first|exact BS rfl (by omega)|exact BR rfl (by omega)|exact jm rfl|exact BT rfl rfl|exact yu rfl rfl rfl (by first|exact .inl rfl|exact .inr rfl)|exact Ca rfl rfl rfl|exact Br rfl rfl rfl rfl rfl|exact Bu rfl rfl rfl)|(apply Za;first|exact sI rfl (by omega)|exact sH rfl (by omega)|exact jm rfl)|(apply Y8;first|exact sI rfl (by omega)|exact sH rfl (by omega)|exact jm rfl)|(apply Y4;first|exact sI rfl (by omega)|exact sH rfl (by omega)|exact jm rfl)|(apply Y3;first|exact sI rfl (by omega)|exact sH rfl (by omega)|exact jm rfl)|(apply YS;first|exact Bp rfl rfl rfl (by simp only[bF];omega)|exact jm rfl|exact B8 rfl rfl rfl (by first|omega|((try simp only[List.length_cons,List.length_nil,List.length_append,List.length_take,List.length_drop]);omega)))|(apply Zp;first|exact Cb rfl rfl rfl (by simp only[bF];omega)|exact jm rfl)|(apply Zf;first|exact BQ rfl rfl rfl (by simp only[bF];omega)|exact jm rfl)|(apply YT;exact gP rfl)|(apply Zi;exact gP rfl)|(apply Zr;exact gP rfl)|(apply YU;exact gP rfl)|(apply Zk;exact BU rfl rfl rfl (by omega) (by omega) (by simp only[bF];omega))|(apply Zl;first|exact BV rfl rfl rfl (by omega) (by omega)|exact BW rfl rfl rfl (by decide))|(apply Zn;exact B5 rfl rfl rfl (by first|decide|omega|(simp only[IntKind.bits];omega)) (by first|decide|omega|(simp only[IntKind.bits];omega)))|(apply Zm;exact B4 rfl rfl rfl (by first|decide|omega|(simp only[IntKind.bits];omega)) (by first|decide|omega|(simp only[IntKind.bits];omega)))|(apply Y6;first|exact BC rfl rfl rfl (by omega) (by omega)|exact BE rfl rfl rfl (by omega))|(apply Y5;first|exact BF rfl rfl rfl (by first|omega|((try simp only[List.length_cons,List.length_nil,List.length_append,List.length_take,List.length_drop]);omega))|exact BD rfl rfl rfl (by omega) (by omega))|(apply YX;first|exact Bz rfl rfl (by simp only[bF];omega)|exact yr rfl rfl|exact Bx rfl rfl (by first|omega|(refine⟨?_,?_⟩<;>omega)) rfl)|(apply YW;first|exact Bv rfl rfl|exact Bw rfl rfl)|(apply Y0;first|exact BA rfl rfl rfl|exact BB rfl rfl rfl)|(apply Zo;first|exact B7 rfl rfl rfl (by first|omega|((try simp only[List.length_cons,List.length_nil,List.length_append,List.length_take,List.length_drop]);omega))|exact B6 rfl rfl rfl (by first|omega|((try simp only[List.length_cons,List.length_nil,List.length_append,List.length_take,List.length_drop]);omega))|exact BZ rfl rfl rfl (by omega)|exact BY rfl rfl rfl (by omega)|exact B0 rfl rfl|exact BX rfl rfl rfl rfl (by omega) (by omega))|(apply Zb;exact BN rfl rfl rfl)|(apply Zj;exact gP rfl)|(apply Zq;first|exact gP rfl|exact By rfl rfl (by omega)|exact vx rfl rfl)|(apply Y7;first|exact BH rfl rfl|exact BI rfl rfl)|(apply Zd;exact BP rfl rfl rfl)|(apply Zc;exact BO rfl rfl rfl)|(apply Y2;first|exact Bs rfl rfl (by omega)|exact Bo rfl rfl rfl rfl (by omega) (by omega)))):az X σ H o_ v_:=h_
theorem fc {H_ G_:SL}(h_:U H_ G_:=by(first|exact U.refl _|exact U.last|exact U.drop|(repeat(first|refine U.cons ?_ |refine U.xy ?_ |refine U.Aq ?_ |exact U.any|exact U.last)))):U H_ G_:=h_
theorem bQ {G G':Prop}(k:G')(h:pL G'→G:=by intro h;(first|(apply eX 0;rfl;rfl;rfl;exact ie;decide+kernel;exact fc;rfl)|(apply eX 1;rfl;rfl;rfl;exact ie;decide+kernel;exact fc;rfl)|(apply eX 2;rfl;rfl;rfl;exact ie;decide+kernel;exact fc;rfl)|(apply eX 3;rfl;rfl;rfl;exact ie;decide+kernel;exact fc;rfl)|(apply eX 4;rfl;rfl;rfl;exact ie;decide+kernel;exact fc;rfl)|(apply eX 5;rfl;rfl;rfl;exact ie;decide+kernel;exact fc;rfl)|(apply eX 6;rfl;rfl;rfl;exact ie;decide+kernel;exact fc;rfl));(repeat(first|(apply eX 0;rfl;rfl;rfl;exact ie;decide+kernel;exact fc;rfl)|(apply eX 1;rfl;rfl;rfl;exact ie;decide+kernel;exact fc;rfl)|(apply eX 2;rfl;rfl;rfl;exact ie;decide+kernel;exact fc;rfl)|(apply eX 3;rfl;rfl;rfl;exact ie;decide+kernel;exact fc;rfl)|(apply eX 4;rfl;rfl;rfl;exact ie;decide+kernel;exact fc;rfl)|(apply eX 5;rfl;rfl;rfl;exact ie;decide+kernel;exact fc;rfl)|(apply eX 6;rfl;rfl;rfl;exact ie;decide+kernel;exact fc;rfl)));exact h.out):G:=h ⟨k⟩
theorem bU {α:Type}{G:Prop}{G':α→Prop}(k:∀x,G' x)(h:Gs G'→G:=by intro h;apply N8;rfl;rfl;rfl;(first|(apply QB;exact pO rfl)|(apply QD;exact GH rfl rfl rfl)|(apply QC;first|exact j6 rfl rfl rfl (by omega) (by decide)|exact GF rfl rfl rfl (by first|simp|exact Ce.eq) (by omega) (by decide))|(apply QH;exact GJ rfl rfl rfl (by omega) (by decide))|(apply QE;exact cG rfl rfl rfl (by decide) (by decide))|(apply QF;exact GI rfl rfl)|(apply QG;first|exact GG rfl rfl rfl (by omega) (by omega)|exact GD rfl rfl rfl rfl (by omega) (by omega) (by omega)));decide+kernel;rfl;(intro _;exact fc);intro x;exact h.out x):G:=h ⟨k⟩
theorem bS {G G':Prop}(k:G')(h:pL G'→G:=by intro h;apply Oa;rfl;rfl;(first|(apply LK;first|exact di rfl rfl rfl rfl rfl rfl|exact Bn rfl rfl rfl rfl (by omega) rfl rfl rfl|exact Bm rfl rfl rfl (by omega) rfl rfl));decide+kernel;exact fc;rfl;exact h.out):G:=h ⟨k⟩
theorem bR {G G':Prop}(k:G')(h:pL G'→G:=by intro h;apply AZ;rfl;(first|(apply LK;first|exact di rfl rfl rfl rfl rfl rfl|exact Bn rfl rfl rfl rfl (by omega) rfl rfl rfl|exact Bm rfl rfl rfl (by omega) rfl rfl));decide+kernel;decide+kernel;exact h.out):G:=h ⟨k⟩
theorem bT {G G':Prop}(k:G')(h:pL G'→G:=by intro h;apply Ob;rfl;rfl;rfl;exact ie;decide+kernel;exact fc;rfl;exact h.out):G:=h ⟨k⟩
end
section
open Go.RowKit
variable {X:Cx} {k:List KI} {σ:Env} {H S:SL} {ops:List Oper} {fuel L:Nat} {listed:Array Bool}
def rD (ops:List Oper)(σ:Env):Option (Nat×Bool)→Option Bool
 |none=>some true
 |some (gj,w)=>match(ops[gj]?).bind (·.dst)with
  |some t=>match σ.get t with
   |some (.bool b)=>some (b==w)
   |_=>none
  |none=>none
theorem vZ {a:Act}(ha:Fits X.N a σ){d:Option Nat}{op:Op}{ty:TypeId}{pos:String}{aft:Array Edge}{g:Option (Nat×Bool)}{b:Bool}(h:rD ops σ g=some b):
  Region.wanted (⟨d,op,ty,pos,aft,g⟩:Oper) (yielded ops.toArray a.tmps)=b:=by
 cases g with
 |none=>
  simp only[rD,Option.some.injEq]at h
  subst h
  rfl
 |some q=>
  obtain⟨gj,w⟩:=q
  simp only[rD]at h
  split at h
  ·rename_i t hj
   split at h
   ·rename_i b' ht
    simp only[Option.some.injEq]at h
    rw[vc ha hj ht rfl,h]
   ·cases h
  ·cases h
theorem qO (n:Nat){d:Nat}{v:Value}{op:Op}{ty:TypeId}{pos:String}{aft:Array Edge}{g:Option (Nat×Bool)}{i:Nat}(hn:mf listed.toList n 0=some i)(hi:ops.toArray[i]? =some ⟨some d,op,ty,pos,aft,g⟩)(hd:Nat.blt d X.N=true)
  (hg:rD ops σ g=some true) (hv:az X σ S ⟨some d,op,ty,pos,aft,none⟩ v)
  (hb:(Region.noSelect ops.toArray&&Region.free .any ops.toArray listed i&&(Region.ready .any ops.toArray listed).contains i&&yM .any ops.toArray listed&&xh .any ops.toArray L i)=true) (hS:U H S) {ls:Array Bool} (hl:listed.setIfInBounds i true=ls)
  (h:EG X k ops S L fuel ls ((d,v)::σ) H):EG X k ops S L (fuel+1) listed σ H:=by
 subst hl
 simp only[Bool.and_eq_true]at hb
 obtain⟨⟨⟨⟨hs,hf⟩,hr⟩,hc⟩,wE⟩:=hb
 obtain⟨h1,h2⟩:=Eh wE
 intro a w ha hw
 exact wpAnyL_first hi (Region.noSelect_spec hs) (fun _ _ _ h=>h.elim) h2 h1 fuel listed a w (Region.free_spec hi hf) (by simpa using hr) (CD hc) (.inl ⟨vZ ha hg,fun w hs=>hv a w ha hs⟩) (hS.sat _ hw) (h _ _ (ha.put hd v) hw)
theorem qN (n:Nat){d:Nat}{op:Op}{ty:TypeId}{pos:String}{aft:Array Edge}{gj t:Nat}{want:Bool}{i:Nat}(hn:mf listed.toList n 0=some i)(hi:ops.toArray[i]? =some ⟨some d,op,ty,pos,aft,some (gj,want)⟩)(hd:Nat.blt d X.N=true)
  (hj:(ops[gj]?).bind (·.dst)=some t) (ht:σ.get t=some (.bool !want)∨σ.get t=some undef)
  (hb:(Region.noSelect ops.toArray&&Region.free .any ops.toArray listed i&&(Region.ready .any ops.toArray listed).contains i&&yM .any ops.toArray listed&&xh .any ops.toArray L i)=true) (hS:U H S) {ls:Array Bool} (hl:listed.setIfInBounds i true=ls)
  (h:EG X k ops S L fuel ls ((d,undef)::σ) H):EG X k ops S L (fuel+1) listed σ H:=by
 subst hl
 simp only[Bool.and_eq_true]at hb
 obtain⟨⟨⟨⟨hs,hf⟩,hr⟩,hc⟩,wE⟩:=hb
 obtain⟨h1,h2⟩:=Eh wE
 intro a w ha hw
 refine wpAnyL_first hi (Region.noSelect_spec hs) (fun _ _ _ h=>h.elim) h2 h1 fuel listed a w (Region.free_spec hi hf) (by simpa using hr) (CD hc) (.inr ⟨?_,rfl⟩) (hS.sat _ hw) (h _ _ (ha.put hd undef) hw)
 rcases ht with ht|ht
 ·rw[vc (o:=⟨some d,op,ty,pos,aft,some (gj,want)⟩) ha hj ht rfl]
  cases want<;>rfl
 ·simp only[Region.wanted,yielded,List.getElem?_toArray,hj,Option.bind_some,ha.nm t _ ht]
  rfl
theorem aI {α:Type}{r:α→Value}{H':α→SL}{f:FuncId}[aB X.P f]{args:Array Operand}{ats:Array TypeId}{vs:List Value}{d:Nat}{ty:TypeId}{pos:String}{aft:Array Edge}{g:Option (Nat×Bool)}{i:Nat}{ls:Array Bool}(hn:mf listed.toList 0 0=some i)
  (hi:ops.toArray[i]? =some ⟨some d,.call {callee:= .value (.func f),args:=args,argTypes:=ats},ty,pos,aft,g⟩) (kx:kr σ args.toList=some vs) (hg:rD ops σ g=some true) (hl:listed.setIfInBounds i true=ls) (hc:Spec X.P f vs X.W H r H') (hS:∀x,U (H' x) S)
  (h:∀x,EG X k ops S L fuel ls ((d,r x)::σ) (H' x)) (hr:Region.ready .any ops.toArray listed=[i]:=by decide+kernel) (hd:Nat.blt d X.N=true:=by rfl):EG X k ops S L (fuel+1) listed σ H:=by
 subst hl
 intro a w ha hw
 refine oH hr ?_
 unfold wpOp
 rw[hi]
 simp only[vZ ha hg,Oper.wp,if_true]
 refine .inl ?_
 have wQ:=xK (d:=some d) (ty:=ty) (pos:=pos) (aft:=aft) (ats:=ats) (f:=f) (w:=w) ha kx
 have wR:(execOp a.eval ⟨some d,.call {callee:= .value (.func f),args:=args,argTypes:=ats},ty,pos,aft,g⟩).run X.P w= .ok (.enter f vs.toArray) w:=wQ
 rw[wR,Oper.upon_enter]
 refine(hc w hw).mono ?_
 rintro e w' ⟨x,rfl,gW⟩
 exact⟨fun _=>(hS x).sat _ gW,h x _ _ (ha.put hd _) gW⟩
end
section
open Go.RowKit
theorem aq {G G':Prop}(k:G')(h:pL G'→G:=by intro h;(first|(apply qO 0;rfl;rfl;rfl;rfl;exact ie;decide+kernel;exact fc;rfl)|(apply qN 0;rfl;rfl;rfl;rfl;(first|exact .inl rfl|exact .inr rfl);decide+kernel;exact fc;rfl)|(apply qO 1;rfl;rfl;rfl;rfl;exact ie;decide+kernel;exact fc;rfl)|(apply qN 1;rfl;rfl;rfl;rfl;(first|exact .inl rfl|exact .inr rfl);decide+kernel;exact fc;rfl)|(apply qO 2;rfl;rfl;rfl;rfl;exact ie;decide+kernel;exact fc;rfl)|(apply qN 2;rfl;rfl;rfl;rfl;(first|exact .inl rfl|exact .inr rfl);decide+kernel;exact fc;rfl)|(apply qO 3;rfl;rfl;rfl;rfl;exact ie;decide+kernel;exact fc;rfl)|(apply qN 3;rfl;rfl;rfl;rfl;(first|exact .inl rfl|exact .inr rfl);decide+kernel;exact fc;rfl)|(apply qO 4;rfl;rfl;rfl;rfl;exact ie;decide+kernel;exact fc;rfl)|(apply qN 4;rfl;rfl;rfl;rfl;(first|exact .inl rfl|exact .inr rfl);decide+kernel;exact fc;rfl)|(apply qO 5;rfl;rfl;rfl;rfl;exact ie;decide+kernel;exact fc;rfl)|(apply qN 5;rfl;rfl;rfl;rfl;(first|exact .inl rfl|exact .inr rfl);decide+kernel;exact fc;rfl)|(apply qO 6;rfl;rfl;rfl;rfl;exact ie;decide+kernel;exact fc;rfl)|(apply qN 6;rfl;rfl;rfl;rfl;(first|exact .inl rfl|exact .inr rfl);decide+kernel;exact fc;rfl)|(apply qO 7;rfl;rfl;rfl;rfl;exact ie;decide+kernel;exact fc;rfl)|(apply qN 7;rfl;rfl;rfl;rfl;(first|exact .inl rfl|exact .inr rfl);decide+kernel;exact fc;rfl));exact h.out):G:=h ⟨k⟩
end
section
open Go.RowKit
variable {X:Cx} {k:List KI} {σ:Env} {H S:SL} {ops:List Oper} {fuel L:Nat} {listed:Array Bool}
theorem kh {α:Type}{r:α→Value}{H':α→SL}{f:FuncId}[aB X.P f]{args:Array Operand}{ats:Array TypeId}{vs:List Value}{d:Nat}{ty:TypeId}{pos:String}{aft:Array Edge}{g:Option (Nat×Bool)}{ls:Array Bool}
  (hi:ops.toArray[L]? =some ⟨some d,.call {callee:= .value (.func f),args:=args,argTypes:=ats},ty,pos,aft,g⟩) (kx:kr σ args.toList=some vs) (hg:rD ops σ g=some true) (hl:listed.setIfInBounds L true=ls) (hc:Spec X.P f vs X.W H r H')
  (h:∀x,EG X k ops S L fuel ls ((d,r x)::σ) (H' x)) (hr:Region.ready .any ops.toArray listed=[L]:=by decide+kernel) (hd:Nat.blt d X.N=true:=by rfl):EG X k ops S L (fuel+1) listed σ H:=by
 subst hl
 intro a w ha hw
 refine oH hr ?_
 unfold wpOp
 rw[hi]
 simp only[vZ ha hg,Oper.wp,if_true]
 refine .inl ?_
 have wQ:=xK (d:=some d) (ty:=ty) (pos:=pos) (aft:=aft) (ats:=ats) (f:=f) (w:=w) ha kx
 have wR:(execOp a.eval ⟨some d,.call {callee:= .value (.func f),args:=args,argTypes:=ats},ty,pos,aft,g⟩).run X.P w= .ok (.enter f vs.toArray) w:=wQ
 rw[wR,Oper.upon_enter]
 refine(hc w hw).mono ?_
 rintro e w' ⟨x,rfl,gW⟩
 exact⟨fun e=>absurd rfl e.1,h x _ _ (ha.put hd _) gW⟩
def EI (X:Cx)(k:List KI)(ops:List Oper)(S:SL)(L fuel:Nat)(listed:Array Bool)(i:Nat)(σ:Env)(H:SL):Prop:=
 ∀a w,Fits X.N a σ→Sat X.W w H→wpOp X.P ops.toArray (qu (run X.P X.R k .normal)) i (fun a' w'=>(i≠L∧¬lQ ops.toArray listed L→Sat X.W w' S)∧wpAnyL X.P .any ops.toArray (qu (run X.P X.R k .normal)) (fun w=>Sat X.W w S) L fuel (listed.setIfInBounds i true) a' w') a w
theorem qP {i j:Nat}(h1:EI X k ops S L fuel listed i σ H)(h2:EI X k ops S L fuel listed j σ H)(hr:Region.ready .any ops.toArray listed=[i,j]:=by decide+kernel):EG X k ops S L (fuel+1) listed σ H:=fun a w ha hw=>
 ⟨fun h0=>(by rw[hr]at h0;cases h0),fun l hl=>by
  rw[hr]at hl
  rcases List.mem_cons.1 hl with rfl|hl
  ·exact h1 a w ha hw
  ·rw[List.mem_singleton]at hl
   subst hl
   exact h2 a w ha hw⟩
theorem sA {α:Type}{r:α→Value}{H':α→SL}{d:Nat}{op:Op}{ty:TypeId}{pos:String}{aft:Array Edge}{i:Nat}(hi:ops.toArray[i]? =some ⟨some d,op,ty,pos,aft,none⟩)(hd:Nat.blt d X.N=true)
  (hv:ba X σ H ⟨some d,op,ty,pos,aft,none⟩ r H') {ls:Array Bool} (hl:listed.setIfInBounds i true=ls)
  (hS:∀x,U (H' x) S) (h:∀x,EG X k ops S L fuel ls ((d,r x)::σ) (H' x)):EI X k ops S L fuel listed i σ H:=by
 subst hl
 intro a w ha hw
 obtain⟨x,w',h1,h2⟩:=hv a w ha hw
 unfold wpOp
 rw[hi]
 simp only[Region.wanted,Oper.wp,h1,Oper.upon,if_true]
 exact .inl ⟨fun _=>(hS x).sat _ h2,h x _ _ (ha.put hd _) h2⟩
theorem sx {α:Type}{r:α→Value}{H':α→SL}{f:FuncId}[aB X.P f]{args:Array Operand}{ats:Array TypeId}{vs:List Value}{d:Nat}{ty:TypeId}{pos:String}{aft:Array Edge}{g:Option (Nat×Bool)}{i:Nat}{ls:Array Bool}
  (hi:ops.toArray[i]? =some ⟨some d,.call {callee:= .value (.func f),args:=args,argTypes:=ats},ty,pos,aft,g⟩) (kx:kr σ args.toList=some vs) (hg:rD ops σ g=some true) (hl:listed.setIfInBounds i true=ls) (hc:Spec X.P f vs X.W H r H') (hS:∀x,U (H' x) S)
  (h:∀x,EG X k ops S L fuel ls ((d,r x)::σ) (H' x)) (hd:Nat.blt d X.N=true:=by rfl):EI X k ops S L fuel listed i σ H:=by
 subst hl
 intro a w ha hw
 unfold wpOp
 rw[hi]
 simp only[vZ ha hg,Oper.wp,if_true]
 refine .inl ?_
 have wQ:=xK (d:=some d) (ty:=ty) (pos:=pos) (aft:=aft) (ats:=ats) (f:=f) (w:=w) ha kx
 have wR:(execOp a.eval ⟨some d,.call {callee:= .value (.func f),args:=args,argTypes:=ats},ty,pos,aft,g⟩).run X.P w= .ok (.enter f vs.toArray) w:=wQ
 rw[wR,Oper.upon_enter]
 refine(hc w hw).mono ?_
 rintro e w' ⟨x,rfl,gW⟩
 exact⟨fun _=>(hS x).sat _ gW,h x _ _ (ha.put hd _) gW⟩
theorem Od {v:Value}{d:Nat}{op:Op}{ty:TypeId}{pos:String}{aft:Array Edge}{i:Nat}(hi:ops.toArray[i]? =some ⟨some d,op,ty,pos,aft,none⟩)(hd:Nat.blt d X.N=true)
  (hv:az X σ H ⟨some d,op,ty,pos,aft,none⟩ v) (hS:U H S) {ls:Array Bool} (hl:listed.setIfInBounds i true=ls)
  (h:EG X k ops S L fuel ls ((d,v)::σ) H):EI X k ops S L fuel listed i σ H:=by
 subst hl
 intro a w ha hw
 unfold wpOp
 rw[hi]
 simp only[Region.wanted,Oper.wp,hv a w ha hw,Oper.upon,if_true]
 exact .inl ⟨fun _=>hS.sat _ hw,h _ _ (ha.put hd _) hw⟩
theorem Oc {H':SL}{op:Op}{ty:TypeId}{pos:String}{aft:Array Edge}(hi:ops.toArray[L]? =some ⟨none,op,ty,pos,aft,none⟩)
  (hv:bf X σ H ⟨none,op,ty,pos,aft,none⟩ H') {ls:Array Bool} (hl:listed.setIfInBounds L true=ls) (h:EG X k ops S L fuel ls σ H'):EI X k ops S L fuel listed L σ H:=by
 subst hl
 intro a w ha hw
 obtain⟨w',h1,h2⟩:=hv a w ha hw
 unfold wpOp
 rw[hi]
 simp only[Region.wanted,Oper.wp,h1,Oper.upon,if_true]
 exact .inl ⟨fun e=>absurd rfl e.1,h _ _ ha h2⟩
theorem N9 {v:Value}{d:Nat}{op:Op}{ty:TypeId}{pos:String}{aft:Array Edge}{i:Nat}(hn:mf listed.toList 0 0=some i)(hi:ops.toArray[i]? =some ⟨some d,op,ty,pos,aft,none⟩)(hd:Nat.blt d X.N=true)
  (hv:az X σ H ⟨some d,op,ty,pos,aft,none⟩ v) (mV:lQ ops.toArray listed L) {ls:Array Bool} (hl:listed.setIfInBounds i true=ls)
  (h:EG X k ops S L fuel ls ((d,v)::σ) H) (hr:Region.ready .any ops.toArray listed=[i]:=by decide+kernel):EG X k ops S L (fuel+1) listed σ H:=by
 subst hl
 intro a w ha hw
 refine oH hr ?_
 unfold wpOp
 rw[hi]
 simp only[Region.wanted,Oper.wp,hv a w ha hw,Oper.upon,if_true]
 exact .inl ⟨fun e=>absurd mV e.2,h _ _ (ha.put hd _) hw⟩
theorem sv {H':SL}{v:Value}{d i:Nat}{op oq:Op}{ty tz:TypeId}{pos EU:String}{aft Cn:Array Edge}(hi:ops.toArray[i]? =some ⟨some d,op,ty,pos,aft,none⟩)(hd:Nat.blt d X.N=true)
  (hL:ops.toArray[L]? =some ⟨none,oq,tz,EU,Cn,none⟩) (hv:∀H,az X σ H ⟨some d,op,ty,pos,aft,none⟩ v) (h1:bf X σ H ⟨none,oq,tz,EU,Cn,none⟩ H') (h2:bf X ((d,v)::σ) H ⟨none,oq,tz,EU,Cn,none⟩ H') (hS:U H S)
  (h:EK X k ((d,v)::σ) H') (hn:mf (listed.setIfInBounds L true).toList 0 0=some i:=by rfl) (mV:(listed.setIfInBounds L true).getD L false=true:=by rfl) (hr:Region.ready .any ops.toArray listed=[i,L]:=by decide+kernel) (DY:Region.ready .any ops.toArray (listed.setIfInBounds i true)=[L]:=by decide+kernel)
  (rM:Region.ready .any ops.toArray ((listed.setIfInBounds i true).setIfInBounds L true)=[]:=by decide+kernel) (TE:Region.ready .any ops.toArray (listed.setIfInBounds L true)=[i]:=by decide+kernel)
  (TF:Region.ready .any ops.toArray ((listed.setIfInBounds L true).setIfInBounds i true)=[]:=by decide+kernel):EG X k ops S L (fuel+1+1) listed σ H:=
 qP (Od hi hd (hv H) hS rfl (AZ hL h2 DY rM h)) (Oc hL h1 rfl (N9 hn hi hd (hv H') ⟨⟨_,hL⟩,mV⟩ rfl (FW TF h) TE)) hr
end
end Go.Proofs.YtakbmjoijcpdmaaGreatDoor
