/-
  A part of a proof, joined by a program (wip/bundle3.py).
-/
import Derived.Test.YtfkngchldmfpfaaGreatDoorG2
set_option linter.unusedVariables false
set_option linter.unusedSimpArgs false
namespace Go.Proofs.YtfkngchldmfpfaaGreatDoor
section
open Go.RowKit
variable {X:Cx} {k:List KI} {σ:Env} {H S:SL} {ops:List Oper} {fuel L:Nat} {listed:Array Bool}
def sS (ops:List Oper)(σ:Env):Option (Nat×Bool)→Option Bool
 |none=>some true
 |some (gj,w)=>match(ops[gj]?).bind (·.dst)with
  |some t=>match σ.get t with
   |some (.bool b)=>some (b==w)
   |_=>none
  |none=>none
theorem xU {a:Act}(ha:Fits X.N a σ){d:Option Nat}{op:Op}{ty:TypeId}{pos:String}{aft:Array Edge}{g:Option (Nat×Bool)}{b:Bool}(h:sS ops σ g=some b):
  Region.wanted (⟨d,op,ty,pos,aft,g⟩:Oper) (yielded ops.toArray a.tmps)=b:=by
 cases g with
 |none=>
  simp only[sS,Option.some.injEq]at h
  subst h
  rfl
 |some q=>
  obtain⟨gj,w⟩:=q
  simp only[sS]at h
  split at h
  ·rename_i t hj
   split at h
   ·rename_i b' ht
    simp only[Option.some.injEq]at h
    rw[wI ha hj ht rfl,h]
   ·cases h
  ·cases h
theorem qR (n:Nat){d:Nat}{v:Value}{op:Op}{ty:TypeId}{pos:String}{aft:Array Edge}{g:Option (Nat×Bool)}{i:Nat}(hn:nh listed.toList n 0=some i)(hi:ops.toArray[i]? =some ⟨some d,op,ty,pos,aft,g⟩)(hd:Nat.blt d X.N=true)
  (hg:sS ops σ g=some true) (hv:an X σ S ⟨some d,op,ty,pos,aft,none⟩ v)
  (hb:(Region.noSelect ops.toArray&&Region.free .any ops.toArray listed i&&(Region.ready .any ops.toArray listed).contains i&&Ac .any ops.toArray listed&&yK .any ops.toArray L i)=true) (hS:U H S) {ls:Array Bool} (hl:listed.setIfInBounds i true=ls)
  (h:EG X k ops S L fuel ls ((d,v)::σ) H):EG X k ops S L (fuel+1) listed σ H:=by
 subst hl
 simp only[Bool.and_eq_true]at hb
 obtain⟨⟨⟨⟨hs,hf⟩,hr⟩,hc⟩,yu⟩:=hb
 obtain⟨h1,h2⟩:=E8 yu
 intro a w ha hw
 exact wpAnyL_first hi (Region.noSelect_spec hs) (fun _ _ _ h=>h.elim) h2 h1 fuel listed a w (Region.free_spec hi hf) (by simpa using hr) (Da hc) (.inl ⟨xU ha hg,fun w hs=>hv a w ha hs⟩) (hS.sat _ hw) (h _ _ (ha.put hd v) hw)
theorem sr (n:Nat){d:Nat}{op:Op}{ty:TypeId}{pos:String}{aft:Array Edge}{gj t:Nat}{want:Bool}{i:Nat}(hn:nh listed.toList n 0=some i)(hi:ops.toArray[i]? =some ⟨some d,op,ty,pos,aft,some (gj,want)⟩)(hd:Nat.blt d X.N=true)
  (hj:(ops[gj]?).bind (·.dst)=some t) (ht:σ.get t=some (.bool !want)∨σ.get t=some undef)
  (hb:(Region.noSelect ops.toArray&&Region.free .any ops.toArray listed i&&(Region.ready .any ops.toArray listed).contains i&&Ac .any ops.toArray listed&&yK .any ops.toArray L i)=true) (hS:U H S) {ls:Array Bool} (hl:listed.setIfInBounds i true=ls)
  (h:EG X k ops S L fuel ls ((d,undef)::σ) H):EG X k ops S L (fuel+1) listed σ H:=by
 subst hl
 simp only[Bool.and_eq_true]at hb
 obtain⟨⟨⟨⟨hs,hf⟩,hr⟩,hc⟩,yu⟩:=hb
 obtain⟨h1,h2⟩:=E8 yu
 intro a w ha hw
 refine wpAnyL_first hi (Region.noSelect_spec hs) (fun _ _ _ h=>h.elim) h2 h1 fuel listed a w (Region.free_spec hi hf) (by simpa using hr) (Da hc) (.inr ⟨?_,rfl⟩) (hS.sat _ hw) (h _ _ (ha.put hd undef) hw)
 rcases ht with ht|ht
 ·rw[wI (o:=⟨some d,op,ty,pos,aft,some (gj,want)⟩) ha hj ht rfl]
  cases want<;>rfl
 ·simp only[Region.wanted,yielded,List.getElem?_toArray,hj,Option.bind_some,ha.n5 t _ ht]
  rfl
theorem aw {α:Type}{r:α→Value}{H':α→SL}{f:FuncId}[ak X.P f]{args:Array Operand}{ats:Array TypeId}{vs:List Value}{d:Nat}{ty:TypeId}{pos:String}{aft:Array Edge}{g:Option (Nat×Bool)}{i:Nat}{ls:Array Bool}(hn:nh listed.toList 0 0=some i)
  (hi:ops.toArray[i]? =some ⟨some d,.call {callee:= .value (.func f),args:=args,argTypes:=ats},ty,pos,aft,g⟩) (iH:bW σ args.toList=some vs) (hg:sS ops σ g=some true) (hl:listed.setIfInBounds i true=ls) (hc:Spec X.P f vs X.W H r H') (hS:∀x,U (H' x) S)
  (h:∀x,EG X k ops S L fuel ls ((d,r x)::σ) (H' x)) (hr:Region.ready .any ops.toArray listed=[i]:=by decide+kernel) (hd:Nat.blt d X.N=true:=by rfl):EG X k ops S L (fuel+1) listed σ H:=by
 subst hl
 intro a w ha hw
 refine pQ hr ?_
 unfold wpOp
 rw[hi]
 simp only[xU ha hg,Oper.wp,if_true]
 refine .inl ?_
 have yB:=u0 (d:=some d) (ty:=ty) (pos:=pos) (aft:=aft) (ats:=ats) (f:=f) (w:=w) ha iH
 have yC:(execOp a.eval ⟨some d,.call {callee:= .value (.func f),args:=args,argTypes:=ats},ty,pos,aft,g⟩).run X.P w= .ok (.enter f vs.toArray) w:=yB
 rw[yC,Oper.upon_enter]
 refine(hc w hw).mono ?_
 rintro e w' ⟨x,rfl,fH⟩
 exact⟨fun _=>(hS x).sat _ fH,h x _ _ (ha.put hd _) fH⟩
end
section
open Go.RowKit
theorem c5 {G G':Prop}(k:G')(h:nu G'→G:=by intro h;(first|(apply qR 0;rfl;rfl;rfl;rfl;exact hJ;decide+kernel;exact fJ;rfl)|(apply sr 0;rfl;rfl;rfl;rfl;(first|exact .inl rfl|exact .inr rfl);decide+kernel;exact fJ;rfl)|(apply qR 1;rfl;rfl;rfl;rfl;exact hJ;decide+kernel;exact fJ;rfl)|(apply sr 1;rfl;rfl;rfl;rfl;(first|exact .inl rfl|exact .inr rfl);decide+kernel;exact fJ;rfl)|(apply qR 2;rfl;rfl;rfl;rfl;exact hJ;decide+kernel;exact fJ;rfl)|(apply sr 2;rfl;rfl;rfl;rfl;(first|exact .inl rfl|exact .inr rfl);decide+kernel;exact fJ;rfl)|(apply qR 3;rfl;rfl;rfl;rfl;exact hJ;decide+kernel;exact fJ;rfl)|(apply sr 3;rfl;rfl;rfl;rfl;(first|exact .inl rfl|exact .inr rfl);decide+kernel;exact fJ;rfl)|(apply qR 4;rfl;rfl;rfl;rfl;exact hJ;decide+kernel;exact fJ;rfl)|(apply sr 4;rfl;rfl;rfl;rfl;(first|exact .inl rfl|exact .inr rfl);decide+kernel;exact fJ;rfl)|(apply qR 5;rfl;rfl;rfl;rfl;exact hJ;decide+kernel;exact fJ;rfl)|(apply sr 5;rfl;rfl;rfl;rfl;(first|exact .inl rfl|exact .inr rfl);decide+kernel;exact fJ;rfl)|(apply qR 6;rfl;rfl;rfl;rfl;exact hJ;decide+kernel;exact fJ;rfl)|(apply sr 6;rfl;rfl;rfl;rfl;(first|exact .inl rfl|exact .inr rfl);decide+kernel;exact fJ;rfl)|(apply qR 7;rfl;rfl;rfl;rfl;exact hJ;decide+kernel;exact fJ;rfl)|(apply sr 7;rfl;rfl;rfl;rfl;(first|exact .inl rfl|exact .inr rfl);decide+kernel;exact fJ;rfl));exact h.out):G:=h ⟨k⟩
theorem ah {G G':Prop}(k:G')(h:nu G'→G:=by intro h;(repeat first|refine c5 ?_ |refine eD ?_);exact h.out):G:=h ⟨k⟩
end
section
open Go.RowKit
variable {X:Cx} {k:List KI} {σ:Env} {H S:SL} {ops:List Oper} {fuel L:Nat} {listed:Array Bool}
theorem lp {α:Type}{r:α→Value}{H':α→SL}{f:FuncId}[ak X.P f]{args:Array Operand}{ats:Array TypeId}{vs:List Value}{d:Nat}{ty:TypeId}{pos:String}{aft:Array Edge}{g:Option (Nat×Bool)}{ls:Array Bool}
  (hi:ops.toArray[L]? =some ⟨some d,.call {callee:= .value (.func f),args:=args,argTypes:=ats},ty,pos,aft,g⟩) (iH:bW σ args.toList=some vs) (hg:sS ops σ g=some true) (hl:listed.setIfInBounds L true=ls) (hc:Spec X.P f vs X.W H r H')
  (h:∀x,EG X k ops S L fuel ls ((d,r x)::σ) (H' x)) (hr:Region.ready .any ops.toArray listed=[L]:=by decide+kernel) (hd:Nat.blt d X.N=true:=by rfl):EG X k ops S L (fuel+1) listed σ H:=by
 subst hl
 intro a w ha hw
 refine pQ hr ?_
 unfold wpOp
 rw[hi]
 simp only[xU ha hg,Oper.wp,if_true]
 refine .inl ?_
 have yB:=u0 (d:=some d) (ty:=ty) (pos:=pos) (aft:=aft) (ats:=ats) (f:=f) (w:=w) ha iH
 have yC:(execOp a.eval ⟨some d,.call {callee:= .value (.func f),args:=args,argTypes:=ats},ty,pos,aft,g⟩).run X.P w= .ok (.enter f vs.toArray) w:=yB
 rw[yC,Oper.upon_enter]
 refine(hc w hw).mono ?_
 rintro e w' ⟨x,rfl,fH⟩
 exact⟨fun e=>absurd rfl e.1,h x _ _ (ha.put hd _) fH⟩
def EI (X:Cx)(k:List KI)(ops:List Oper)(S:SL)(L fuel:Nat)(listed:Array Bool)(i:Nat)(σ:Env)(H:SL):Prop:=
 ∀a w,Fits X.N a σ→Sat X.W w H→wpOp X.P ops.toArray (rQ (run X.P X.R k .normal)) i (fun a' w'=>(i≠L∧¬mM ops.toArray listed L→Sat X.W w' S)∧wpAnyL X.P .any ops.toArray (rQ (run X.P X.R k .normal)) (fun w=>Sat X.W w S) L fuel (listed.setIfInBounds i true) a' w') a w
theorem qS {i j:Nat}(h1:EI X k ops S L fuel listed i σ H)(h2:EI X k ops S L fuel listed j σ H)(hr:Region.ready .any ops.toArray listed=[i,j]:=by decide+kernel):EG X k ops S L (fuel+1) listed σ H:=fun a w ha hw=>
 ⟨fun h0=>(by rw[hr]at h0;cases h0),fun l hl=>by
  rw[hr]at hl
  rcases List.mem_cons.1 hl with rfl|hl
  ·exact h1 a w ha hw
  ·rw[List.mem_singleton]at hl
   subst hl
   exact h2 a w ha hw⟩
theorem tO {α:Type}{r:α→Value}{H':α→SL}{d:Nat}{op:Op}{ty:TypeId}{pos:String}{aft:Array Edge}{i:Nat}(hi:ops.toArray[i]? =some ⟨some d,op,ty,pos,aft,none⟩)(hd:Nat.blt d X.N=true)
  (hv:aR X σ H ⟨some d,op,ty,pos,aft,none⟩ r H') {ls:Array Bool} (hl:listed.setIfInBounds i true=ls)
  (hS:∀x,U (H' x) S) (h:∀x,EG X k ops S L fuel ls ((d,r x)::σ) (H' x)):EI X k ops S L fuel listed i σ H:=by
 subst hl
 intro a w ha hw
 obtain⟨x,w',h1,h2⟩:=hv a w ha hw
 unfold wpOp
 rw[hi]
 simp only[Region.wanted,Oper.wp,h1,Oper.upon,if_true]
 exact .inl ⟨fun _=>(hS x).sat _ h2,h x _ _ (ha.put hd _) h2⟩
theorem su {α:Type}{r:α→Value}{H':α→SL}{f:FuncId}[ak X.P f]{args:Array Operand}{ats:Array TypeId}{vs:List Value}{d:Nat}{ty:TypeId}{pos:String}{aft:Array Edge}{g:Option (Nat×Bool)}{i:Nat}{ls:Array Bool}
  (hi:ops.toArray[i]? =some ⟨some d,.call {callee:= .value (.func f),args:=args,argTypes:=ats},ty,pos,aft,g⟩) (iH:bW σ args.toList=some vs) (hg:sS ops σ g=some true) (hl:listed.setIfInBounds i true=ls) (hc:Spec X.P f vs X.W H r H') (hS:∀x,U (H' x) S)
  (h:∀x,EG X k ops S L fuel ls ((d,r x)::σ) (H' x)) (hd:Nat.blt d X.N=true:=by rfl):EI X k ops S L fuel listed i σ H:=by
 subst hl
 intro a w ha hw
 unfold wpOp
 rw[hi]
 simp only[xU ha hg,Oper.wp,if_true]
 refine .inl ?_
 have yB:=u0 (d:=some d) (ty:=ty) (pos:=pos) (aft:=aft) (ats:=ats) (f:=f) (w:=w) ha iH
 have yC:(execOp a.eval ⟨some d,.call {callee:= .value (.func f),args:=args,argTypes:=ats},ty,pos,aft,g⟩).run X.P w= .ok (.enter f vs.toArray) w:=yB
 rw[yC,Oper.upon_enter]
 refine(hc w hw).mono ?_
 rintro e w' ⟨x,rfl,fH⟩
 exact⟨fun _=>(hS x).sat _ fH,h x _ _ (ha.put hd _) fH⟩
theorem Gw {v:Value}{d:Nat}{op:Op}{ty:TypeId}{pos:String}{aft:Array Edge}{i:Nat}(hi:ops.toArray[i]? =some ⟨some d,op,ty,pos,aft,none⟩)(hd:Nat.blt d X.N=true)
  (hv:an X σ H ⟨some d,op,ty,pos,aft,none⟩ v) (hS:U H S) {ls:Array Bool} (hl:listed.setIfInBounds i true=ls)
  (h:EG X k ops S L fuel ls ((d,v)::σ) H):EI X k ops S L fuel listed i σ H:=by
 subst hl
 intro a w ha hw
 unfold wpOp
 rw[hi]
 simp only[Region.wanted,Oper.wp,hv a w ha hw,Oper.upon,if_true]
 exact .inl ⟨fun _=>hS.sat _ hw,h _ _ (ha.put hd _) hw⟩
theorem Gv {H':SL}{op:Op}{ty:TypeId}{pos:String}{aft:Array Edge}(hi:ops.toArray[L]? =some ⟨none,op,ty,pos,aft,none⟩)
  (hv:aU X σ H ⟨none,op,ty,pos,aft,none⟩ H') {ls:Array Bool} (hl:listed.setIfInBounds L true=ls) (h:EG X k ops S L fuel ls σ H'):EI X k ops S L fuel listed L σ H:=by
 subst hl
 intro a w ha hw
 obtain⟨w',h1,h2⟩:=hv a w ha hw
 unfold wpOp
 rw[hi]
 simp only[Region.wanted,Oper.wp,h1,Oper.upon,if_true]
 exact .inl ⟨fun e=>absurd rfl e.1,h _ _ ha h2⟩
theorem Nt {v:Value}{d:Nat}{op:Op}{ty:TypeId}{pos:String}{aft:Array Edge}{i:Nat}(hn:nh listed.toList 0 0=some i)(hi:ops.toArray[i]? =some ⟨some d,op,ty,pos,aft,none⟩)(hd:Nat.blt d X.N=true)
  (hv:an X σ H ⟨some d,op,ty,pos,aft,none⟩ v) (nK:mM ops.toArray listed L) {ls:Array Bool} (hl:listed.setIfInBounds i true=ls)
  (h:EG X k ops S L fuel ls ((d,v)::σ) H) (hr:Region.ready .any ops.toArray listed=[i]:=by decide+kernel):EG X k ops S L (fuel+1) listed σ H:=by
 subst hl
 intro a w ha hw
 refine pQ hr ?_
 unfold wpOp
 rw[hi]
 simp only[Region.wanted,Oper.wp,hv a w ha hw,Oper.upon,if_true]
 exact .inl ⟨fun e=>absurd nK e.2,h _ _ (ha.put hd _) hw⟩
theorem tN {H':SL}{v:Value}{d i:Nat}{op oq:Op}{ty tz:TypeId}{pos FA:String}{aft C2:Array Edge}(hi:ops.toArray[i]? =some ⟨some d,op,ty,pos,aft,none⟩)(hd:Nat.blt d X.N=true)
  (hL:ops.toArray[L]? =some ⟨none,oq,tz,FA,C2,none⟩) (hv:∀H,an X σ H ⟨some d,op,ty,pos,aft,none⟩ v) (h1:aU X σ H ⟨none,oq,tz,FA,C2,none⟩ H') (h2:aU X ((d,v)::σ) H ⟨none,oq,tz,FA,C2,none⟩ H') (hS:U H S)
  (h:EK X k ((d,v)::σ) H') (hn:nh (listed.setIfInBounds L true).toList 0 0=some i:=by rfl) (nK:(listed.setIfInBounds L true).getD L false=true:=by rfl) (hr:Region.ready .any ops.toArray listed=[i,L]:=by decide+kernel) (yy:Region.ready .any ops.toArray (listed.setIfInBounds i true)=[L]:=by decide+kernel)
  (s6:Region.ready .any ops.toArray ((listed.setIfInBounds i true).setIfInBounds L true)=[]:=by decide+kernel) (Ug:Region.ready .any ops.toArray (listed.setIfInBounds L true)=[i]:=by decide+kernel)
  (Uh:Region.ready .any ops.toArray ((listed.setIfInBounds L true).setIfInBounds i true)=[]:=by decide+kernel):EG X k ops S L (fuel+1+1) listed σ H:=
 qS (Gw hi hd (hv H) hS rfl (Cn hL h2 yy s6 h)) (Gv hL h1 rfl (Nt hn hi hd (hv H') ⟨⟨_,hL⟩,nK⟩ rfl (Gu Uh h) Ug)) hr
end
end Go.Proofs.YtfkngchldmfpfaaGreatDoor
