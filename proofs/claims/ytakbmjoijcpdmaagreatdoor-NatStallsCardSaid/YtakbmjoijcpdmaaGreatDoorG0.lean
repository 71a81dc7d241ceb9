/-
  A part of a proof, joined by a program (wip/bundle3.py).
-/
import Derived.WalkKit
import Derived.Deep.Draws
set_option linter.unusedVariables false
set_option linter.unusedSimpArgs false
namespace Go.Proofs.YtakbmjoijcpdmaaGreatDoor
section
open Go.RowKit
def SL:Type:=(Nat→Option Obj)→Prop
namespace SL
def sep (P Q:SL):SL:=fun h=>∃h1 h2,P h1∧Q h2∧(∀b,h1 b=none∨h2 b=none)∧(∀b,h b=(h1 b).or (h2 b))
instance :Mul SL:=⟨sep⟩
def emp:SL:=fun h=>∀b,h b=none
instance :One SL:=⟨emp⟩
theorem WL {a b:Option Obj}(h:a=none∨b=none):a.or b=b.or a:=by
 rcases h with rfl|rfl<;>simp
theorem tO (P Q:SL):P*Q=Q*P:=by
 have aux:∀(P Q:SL) h,sep P Q h→sep Q P h:=by
  rintro P Q h ⟨h1,h2,p,q,d,e⟩
  exact⟨h2,h1,q,p,fun b=>(d b).symm,fun b=>by rw[e b,WL (d b)]⟩
 exact funext fun h=>propext ⟨aux P Q h,aux Q P h⟩
theorem cb (P Q R:SL):P*Q*R=P*(Q*R):=by
 refine funext fun h=>propext ⟨?_,?_⟩
 ·rintro ⟨qe,h3,⟨h1,h2,p,q,d,e⟩,r,d',e'⟩
  refine⟨h1,fun b=>(h2 b).or (h3 b),p,⟨h2,h3,q,r,fun b=> ?_,fun b=>rfl⟩,fun b=> ?_,fun b=> ?_⟩
  ·have:=d' b;rw[e b]at this;cases hh:h1 b<;>simp_all
  ·have:=d' b;rw[e b]at this;have:=d b;cases hh:h1 b<;>simp_all
  ·rw[e' b,e b,Option.or_assoc]
 ·rintro ⟨h1,sX,p,⟨h2,h3,q,r,d,e⟩,d',e'⟩
  refine⟨fun b=>(h1 b).or (h2 b),h3,⟨h1,h2,p,q,fun b=> ?_,fun b=>rfl⟩,r,fun b=> ?_,fun b=> ?_⟩
  ·have:=d' b;rw[e b]at this;cases hh:h1 b<;>simp_all
  ·have:=d' b;rw[e b]at this;have:=d b;cases hh:h1 b<;>simp_all
  ·rw[e' b,e b,Option.or_assoc]
theorem oD (P:SL):P*(1:SL)=P:=by
 refine funext fun h=>propext ⟨?_,fun p=>⟨h,fun _=>none,p,fun _=>rfl,fun _=> .inr rfl,fun _=>by simp⟩⟩
 rintro ⟨h1,h2,p,q,d,e⟩
 obtain rfl:h=h1:=funext fun b=>by rw[e b,q b];simp
 exact p
theorem HT (P:SL):(1:SL)*P=P:=by rw[tO,oD]
instance :Std.Associative (α:=SL) (· * ·):=⟨cb⟩
instance :Std.Commutative (α:=SL) (· * ·):=⟨tO⟩
instance :Std.LawfulIdentity (α:=SL) (· * ·) (1:SL) where
 left_id:=HT
 right_id:=oD
def cH (b:Nat)(o:Obj):SL:=fun h=>∀k,h k=if k=b then some o else none
def pure (p:Prop):SL:=fun h=>p∧emp h
def ex {α:Sort _}(P:α→SL):SL:=fun h=>∃a,P a h
def mI:List SL→SL
 |[]=>1
 |P::l=>P*mI l
def le (P Q:SL):Prop:=∀h,P h→Q h
theorem P7 (P:SL)(l:List SL):mI (P::l)=P*mI l:=rfl
theorem P8:mI []=1:=rfl
theorem P9 (l:List SL)(k:Nat)(h:k<l.length):mI l=l[k]*mI (l.eraseIdx k):=by
 induction l generalizing k with
 |nil=>simp at h
 |cons P l ih=>
  cases k with
  |zero=>simp[mI]
  |succ k=>
   have hk:k<l.length:=by simpa using h
   simp only[mI,List.getElem_cons_succ,List.eraseIdx_cons_succ]
   rw[ih k hk]
   ac_rfl
theorem le_refl (P:SL):le P P:=fun _ h=>h
theorem XN {P P' Q Q':SL}(h:le P P')(k:le Q Q'):le (P*Q) (P'*Q'):=
 fun _ ⟨h1,h2,p,q,d,e⟩=>⟨h1,h2,h h1 p,k h2 q,d,e⟩
theorem zW {α:Sort _}(P:α→SL)(a:α):le (P a) (ex P):=fun _ p=>⟨a,p⟩
theorem XM {α:Sort _}(P:α→SL)(F:SL):ex P*F=ex fun a=>P a*F:=by
 refine funext fun h=>propext ⟨?_,?_⟩
 ·rintro ⟨h1,h2,⟨a,p⟩,q,d,e⟩;exact⟨a,h1,h2,p,q,d,e⟩
 ·rintro ⟨a,h1,h2,p,q,d,e⟩;exact⟨h1,h2,⟨a,p⟩,q,d,e⟩
end SL
structure Sat (W w:World)(P:SL):Prop where
 below:Below W.heap.size W w
 has:∃h,P h∧∀b o,h b=some o→W.heap.size≤b∧w.heap[b]? =some o
namespace Sat
variable {W w w':World} {P Q R F:SL}
theorem start (W:World):Sat W W 1:=⟨Below.refl _ _,fun _=>none,fun _=>rfl,fun _ _ h=>by simp at h⟩
theorem ac (h:Sat W w P)(e:P=Q):Sat W w Q:=e▸h
theorem mono (h:Sat W w P)(k:SL.le P Q):Sat W w Q:=⟨h.below,let⟨x,p,q⟩:=h.has;⟨x,k x p,q⟩⟩
theorem left (h:Sat W w (P*F))(k:SL.le P Q):Sat W w (Q*F):=h.mono (SL.XN k (SL.le_refl _))
theorem drop (h:Sat W w (P*F)):Sat W w F:=by
 obtain⟨hb,x,⟨h1,h2,p,q,d,e⟩,hx⟩:=h
 refine⟨hb,h2,q,fun b o ho=>hx b o ?_⟩
 have:=d b
 rw[e b]
 cases hh:h1 b<;>simp_all
theorem out {p:Prop}(h:Sat W w (SL.pure p*F)):p∧Sat W w F:=by
 refine⟨?_,h.drop⟩
 obtain⟨_,x,⟨h1,h2,p,q,d,e⟩,hx⟩:=h
 exact p.1
theorem put {p:Prop}(hp:p)(h:Sat W w F):Sat W w (SL.pure p*F):=by
 obtain⟨hb,x,q,hx⟩:=h
 exact⟨hb,x,⟨fun _=>none,x,⟨hp,fun _=>rfl⟩,q,fun _=> .inl rfl,fun _=>by simp⟩,hx⟩
theorem iX {α:Sort _}{P:α→SL}(h:Sat W w (SL.ex P*F)):∃a,Sat W w (P a*F):=by
 rw[SL.XM]at h
 obtain⟨hb,x,⟨a,p⟩,hx⟩:=h
 exact⟨a,hb,x,p,hx⟩
theorem H0 {α:Sort _}{P:α→SL}(a:α)(h:Sat W w (P a*F)):Sat W w (SL.ex P*F):=h.left (SL.zW P a)
theorem get {b:Nat}{o:Obj}(h:Sat W w (SL.cH b o*F)):w.heap[b]? =some o:=by
 obtain⟨_,x,⟨h1,h2,p,q,d,e⟩,hx⟩:=h
 exact(hx b o (by rw[e b,p b];simp)).2
theorem ge {b:Nat}{o:Obj}(h:Sat W w (SL.cH b o*F)):W.heap.size≤b:=by
 obtain⟨_,x,⟨h1,h2,p,q,d,e⟩,hx⟩:=h
 exact(hx b o (by rw[e b,p b];simp)).1
theorem lt {b:Nat}{o:Obj}(h:Sat W w (SL.cH b o*F)):b<w.heap.size:=lt_of_block h.get
theorem ne {b b':Nat}{o o':Obj}(h:Sat W w (SL.cH b o*(SL.cH b' o'*F))):b≠b':=by
 obtain⟨_,x,⟨h1,h2,p,⟨h3,h4,q,r,d',e'⟩,d,e⟩,hx⟩:=h
 intro hb
 subst hb
 have:=d b
 rw[p b,e' b,q b]at this
 simp at this
theorem keep (h:Sat W w F)(hs:w.heap.size≤w'.heap.size)(ho:w'.os=w.os)(ht:w'.tape=w.tape)(hu:w'.output=w.output)(hb:∀k,k<w.heap.size→w'.heap[k]? =w.heap[k]?):Sat W w' F:=by
 obtain⟨qf,x,q,hx⟩:=h
 refine⟨qf.trans ⟨ho,ht,hu,hs,fun k hk=>hb k (by have:=qf.size;omega)⟩,x,q,fun b o h=> ?_⟩
 have:=hx b o h
 exact⟨this.1,by rw[hb b (lt_of_block this.2)];exact this.2⟩
theorem write {b:Nat}{o o':Obj}(h:Sat W w (SL.cH b o*F))(hs:w.heap.size≤w'.heap.size)(ho:w'.os=w.os)(ht:w'.tape=w.tape)(hu:w'.output=w.output)
  (hb:∀k,k<w.heap.size→k≠b→w'.heap[k]? =w.heap[k]?) (hn:w'.heap[b]? =some o'):Sat W w' (SL.cH b o'*F):=by
 have nF:=h.ge
 obtain⟨qf,x,⟨h1,h2,p,q,d,e⟩,hx⟩:=h
 refine⟨qf.trans ⟨ho,ht,hu,hs,fun k hk=>hb k (by have:=qf.size;omega) (by omega)⟩,fun k=>(if k=b then some o' else none:Option Obj).or (h2 k),⟨fun k=>if k=b then some o' else none,h2,fun _=>rfl,q,fun k=> ?_,fun k=>rfl⟩,fun k u hk=> ?_⟩
 ·have:=d k
  rw[p k]at this
  by_cases qk:k=b<;>simp_all
 ·by_cases qk:k=b
  ·subst qk
   simp at hk
   exact⟨nF,by rw[hn,hk]⟩
  ·simp[qk]at hk
   have:=hx k u (by rw[e k,p k];simp[qk,hk])
   exact⟨this.1,by rw[hb k (lt_of_block this.2) qk];exact this.2⟩
theorem new (h:Sat W w F){o:Obj}{b:Nat}(zl:b=w.heap.size)(hs:w.heap.size<w'.heap.size)(ho:w'.os=w.os)(ht:w'.tape=w.tape)(hu:w'.output=w.output)
  (hb:∀k,k<w.heap.size→w'.heap[k]? =w.heap[k]?) (hn:w'.heap[b]? =some o):Sat W w' (SL.cH b o*F):=by
 subst zl
 obtain⟨qf,x,q,hx⟩:=h
 refine⟨qf.trans ⟨ho,ht,hu,by omega,fun k hk=>hb k (by have:=qf.size;omega)⟩,fun k=>(if k=w.heap.size then some o else none:Option Obj).or (x k),⟨fun k=>if k=w.heap.size then some o else none,x,fun _=>rfl,q,fun k=> ?_,fun _=>rfl⟩,fun k u hk=> ?_⟩
 ·by_cases hk:k=w.heap.size
  ·right
   cases D6:x k with
   |none=>rfl
   |some u=>have:=lt_of_block (hx k u D6).2;omega
  ·simp[hk]
 ·by_cases qk:k=w.heap.size
  ·simp[qk]at hk
   exact⟨by have:=qf.size;omega,by rw[qk,hn,hk]⟩
  ·simp[qk]at hk
   have:=hx k u hk
   exact⟨this.1,by rw[hb k (lt_of_block this.2)];exact this.2⟩
theorem set {b:Nat}{c:Array Value}{t:TypeId}(h:Sat W w (SL.cH b (.cells c t (0,0))*F))(i:Nat)(v:Value):
  Sat W (w.setCell ⟨b,i,none⟩ v) (SL.cH b (.cells (c.setIfInBounds i v) t (0,0))*F):=by
 have hg:=h.get
 refine h.write (by simp[World.setCell]) rfl rfl rfl (fun k _ hk=>Below.heap_setCell _ _ _ _ hk) ?_
 simp only[World.setCell,Array.getElem?_modify, ↓reduceIte,hg,Option.map_some]
 simp
theorem alloc (h:Sat W w F)(o:Obj):Sat W (w.alloc o) (SL.cH w.heap.size o*F):=
 h.new rfl (by simp) rfl rfl rfl (fun k hk=>Below.heap_alloc _ _ _ hk) (heap_alloc_new w o)
theorem drew (h:Sat W w F):Sat W w.drew F:=h.keep (Nat.le_refl _) rfl rfl rfl (fun _ _=>rfl)
theorem size (h:Sat W w F):W.heap.size≤w.heap.size:=h.below.size
theorem cell {b:Nat}{c:Array Value}{t:TypeId}(h:Sat W w (SL.cH b (.cells c t (0,0))*F))(i:Nat):w.cell? ⟨b,i,none⟩=c[i]? :=by
 simp[World.cell?,h.get]
theorem free {b:Nat}{c:Array Value}{t:TypeId}(h:Sat W w (SL.cH b (.cells c t (0,0))*F))(i:Nat):w.frozen? ⟨b,i,none⟩=false:=by
 simp[World.frozen?,h.get]
end Sat
end
section
open Go.RowKit
abbrev Env:=List (Nat×Value)
def Env.get:Env→Nat→Option Value
 |[],_=>none
 |(t,v)::σ,s=>match Nat.beq t s with
  |true=>some v
  |false=>Env.get σ s
structure Fits (N:Nat)(a:Act)(σ:Env):Prop where
 size:a.tmps.size=N
 defers:a.defers=[]
 nm:∀t v,σ.get t=some v→a.tmps[t]? =some v
def ev (σ:Env):Operand→Option Value
 | .tmp t=>σ.get t
 | .const v=>some v
 | .global g=>some (.pointer (some ⟨g,0,none⟩))
 | .func f=>some (.func (.func f) #[] #[])
def kr (σ:Env):List Operand→Option (List Value)
 |[]=>some []
 |x::l=>match ev σ x with
  |some v=>match kr σ l with
   |some vs=>some (v::vs)
   |none=>none
  |none=>none
section env
variable {N:Nat} {a:Act} {σ σ':Env}
theorem Fits.eval (h:Fits N a σ){x:Operand}{v:Value}(hx:ev σ x=some v):a.eval x=v:=by
 cases x with
 |tmp t=>
  have:=h.nm t v hx
  simp[Act.eval,this]
 |const u=>simpa[ev,Act.eval]using hx
 |global g=>simpa[ev,Act.eval]using hx
 |func f=>simpa[ev,Act.eval]using hx
theorem Fits.yV (h:Fits N a σ):∀ {l:List Operand} {vs:List Value},kr σ l=some vs→l.map a.eval=vs
 |[],vs,hx=>by simpa[kr]using hx
 |x::l,vs,hx=>by
  simp only[kr]at hx
  split at hx
  ·rename_i v hv
   split at hx
   ·rename_i us D4
    simp only[Option.some.injEq]at hx
    subst hx
    rw[List.map_cons,h.eval hv,h.yV D4]
   ·simp at hx
  ·simp at hx
theorem Env.zd (σ:Env)(d s:Nat)(v:Value):Env.get ((d,v)::σ) s=if d=s then some v else σ.get s:=by
 simp only[Env.get]
 split
 ·rename_i h;rw[if_pos (Nat.eq_of_beq_eq_true h)]
 ·rename_i h;rw[if_neg (Nat.ne_of_beq_eq_false h)]
theorem Fits.put (h:Fits N a σ){d:Nat}(hd:Nat.blt d N=true)(v:Value):Fits N (a.put (some d) v) ((d,v)::σ) where
 size:=by simpa[Act.put]using h.size
 defers:=h.defers
 nm:=fun t u ht=>by
  have hd:d<N:=Nat.le_of_ble_eq_true hd
  rw[Env.zd]at ht
  split at ht
  ·rename_i e
   subst e
   simp only[Option.some.injEq]at ht
   subst ht
   simp[Act.put,h.size,hd]
  ·rename_i e
   simp[Act.put,Array.getElem?_setIfInBounds_ne e,h.nm t u ht]
theorem Fits.sub (h:Fits N a σ)(k:∀t v,σ'.get t=some v→σ.get t=some v):Fits N a σ':=⟨h.size,h.defers,fun t v ht=>h.nm t v (k t v ht)⟩
theorem Fits.fact (h:Fits N a σ){t:Nat}{v u:Value}(ht:σ.get t=some v)(e:v=u):Fits N a ((t,u)::σ):=h.sub fun s w hs=>by
 rw[Env.zd]at hs
 split at hs
 ·rename_i e'
  subst e' e
  rw[ht]
  exact hs
 ·exact hs
def Env.within (σ:Env):Env→Prop
 |[]=>True
 |(t,v)::σ'=>σ.get t=some v∧Env.within σ σ'
theorem Env.My:∀ {σ':Env},Env.within σ σ'→∀t v,σ'.get t=some v→σ.get t=some v
 |[],_,_,_,h=>by simp[Env.get]at h
 |(s,u)::σ',hw,t,v,h=>by
  rw[Env.zd]at h
  split at h
  ·rename_i e
   subst e
   simp only[Option.some.injEq]at h
   subst h
   exact hw.1
  ·exact Env.My hw.2 t v h
theorem Fits.within (h:Fits N a σ)(k:Env.within σ σ'):Fits N a σ':=h.sub (Env.My k)
end env
inductive KI where
 |code (c:Code)
 |block (id:Nat)
 |oG (J:Act→World→Prop)
def run (P:Program)(R:Exit→Act→World→Prop):List KI→Exit→Act→World→Prop
 |[]=>R
 | .code c::k=>Exit.then (fun a w=>c.wp P (run P R k) a w) (run P R k)
 | .block id::k=>Exit.inBlock id (run P R k)
 | .oG J::k=>Exit.then J (run P R k)
structure Cx where
 P:Program
 N:Nat
 W:World
 R:Exit→Act→World→Prop
variable {X:Cx} {k:List KI} {σ:Env} {H:SL}
def EK (X:Cx)(k:List KI)(σ:Env)(H:SL):Prop:=∀a w,Fits X.N a σ→Sat X.W w H→run X.P X.R k .normal a w
def EX (X:Cx)(id:Nat)(k:List KI)(σ:Env)(H:SL):Prop:=∀a w,Fits X.N a σ→Sat X.W w H→run X.P X.R k (.exit id) a w
def ER (X:Cx)(σ:Env)(H:SL):Prop:=∀a w,Fits X.N a σ→Sat X.W w H→X.R .ret a w
def EN (X:Cx)(σ:Env)(H:SL):Prop:=∀a w,Fits X.N a σ→Sat X.W w H→X.R .normal a w
def EL (X:Cx)(k:List KI)(ops:List Oper)(l:List Oper)(σ:Env)(H:SL):Prop:=∀a w,Fits X.N a σ→Sat X.W w H→wpList X.P ops.toArray (run X.P X.R k) l a w
theorem As (P:Program)(R:Exit→Act→World→Prop)(a:Act)(w:World):∀k,run P R k .ret a w=R .ret a w
 |[]=>rfl
 | .code c::k=>As P R a w k
 | .block id::k=>As P R a w k
 | .oG J::k=>As P R a w k
theorem qQ {x y:Code}(h:EK X (.code x:: .code y::k) σ H):EK X (.code (.seq x y)::k) σ H:=fun a w ha hs=>wp_seq (h a w ha hs)
theorem Oh (h:EK X k σ H):EK X (.code .skip::k) σ H:=fun a w ha hs=>wp_skip (h a w ha hs)
theorem Oe {id:Nat}{c:Code}(h:EK X (.code c:: .block id::k) σ H):EK X (.code (.block id c)::k) σ H:=fun a w ha hs=>wp_block (h a w ha hs)
theorem Oi {id:Nat}(h:EK X k σ H):EK X (.block id::k) σ H:=fun a w ha hs=>h a w ha hs
theorem Of {id:Nat}(h:EX X id k σ H):EK X (.code (.exit id)::k) σ H:=fun a w ha hs=>wp_exit (h a w ha hs)
theorem Ow {id:Nat}{c:Code}(h:EX X id k σ H):EX X id (.code c::k) σ H:=fun a w ha hs=>h a w ha hs
theorem Oz {id:Nat}{J:Act→World→Prop}(h:EX X id k σ H):EX X id (.oG J::k) σ H:=fun a w ha hs=>h a w ha hs
theorem Ox {id:Nat}(h:EK X k σ H):EX X id (.block id::k) σ H:=fun a w ha hs=>by
 show Exit.inBlock id _ _ _ _
 simp only[Exit.inBlock,if_true]
 exact h a w ha hs
theorem Oy {id Ea:Nat}(hn:Nat.beq id Ea=false)(h:EX X id k σ H):EX X id (.block Ea::k) σ H:=fun a w ha hs=>by
 show Exit.inBlock Ea _ _ _ _
 simp only[Exit.inBlock,if_neg (Nat.ne_of_beq_eq_false hn)]
 exact h a w ha hs
theorem ae (h:ER X σ H):EK X (.code .ret::k) σ H:=fun a w ha hs=>wp_ret (by
 show run X.P X.R k .ret a w
 rw[As]
 exact h a w ha hs)
theorem aN (h:EN X σ H):EK X [] σ H:=h
theorem FZ {J:Act→World→Prop}(h:∀a w,Fits X.N a σ→Sat X.W w H→J a w):EK X (.oG J::k) σ H:=h
theorem yk {c:Operand}{x y:Code}{b:Bool}(hc:ev σ c=some (.bool b))(h1:b=true→EK X (.code x::k) σ H)(h2:b=false→EK X (.code y::k) σ H):EK X (.code (.cond c x y)::k) σ H:=by
 intro a w ha hs
 refine wp_cond (ha.eval hc) ?_
 cases b with
 |true=>exact h1 rfl a w ha hs
 |false=>exact h2 rfl a w ha hs
theorem vn {c:Operand}{x y:Code}(hc:ev σ c=some (.bool true))(h:EK X (.code x::k) σ H):EK X (.code (.cond c x y)::k) σ H:=yk hc (fun _=>h) (fun e=>by cases e)
theorem vm {c:Operand}{x y:Code}(hc:ev σ c=some (.bool false))(h:EK X (.code y::k) σ H):EK X (.code (.cond c x y)::k) σ H:=yk hc (fun e=>by cases e) (fun _=>h)
theorem mA {c:Operand}{x y:Code}{p:Prop}[Decidable p](hc:ev σ c=some (.bool (decide p)))(h1:p→EK X (.code x::k) σ H)(h2:¬p→EK X (.code y::k) σ H):EK X (.code (.cond c x y)::k) σ H:=
 yk hc (fun e=>h1 (of_decide_eq_true e)) (fun e=>h2 (of_decide_eq_false e))
theorem sB {c:Operand}{x y:Code}{p:Prop}[Decidable p](hc:ev σ c=some (.bool (!decide p)))(h1:¬p→EK X (.code x::k) σ H)(h2:p→EK X (.code y::k) σ H):EK X (.code (.cond c x y)::k) σ H:=
 yk hc (fun e=>h1 (by simpa using e)) (fun e=>h2 (by simpa using e))
theorem Og {id:Nat}{ops:List Oper}(h:EL X k ops ops σ H):EK X (.code (.region id ops.toArray false)::k) σ H:=fun a w ha hs=>wp_region_lit (h a w ha hs)
theorem ym {ops:List Oper}(h:EK X k σ H):EL X k ops [] σ H:=h
def az (X:Cx)(σ:Env)(H:SL)(o:Oper)(v:Value):Prop:=∀a w,Fits X.N a σ→Sat X.W w H→(execOp a.eval o).run X.P w= .ok (.value v) w
def ba (X:Cx)(σ:Env)(H:SL)(o:Oper){α:Type}(r:α→Value)(H':α→SL):Prop:=
 ∀a w,Fits X.N a σ→Sat X.W w H→∃x w',(execOp a.eval o).run X.P w= .ok (.value (r x)) w'∧Sat X.W w' (H' x)
def bf (X:Cx)(σ:Env)(H:SL)(o:Oper)(H':SL):Prop:=∀a w,Fits X.N a σ→Sat X.W w H→∃w',(execOp a.eval o).run X.P w= .ok .skip w'∧Sat X.W w' H'
variable {ops l:List Oper} {o:Oper}
theorem cg {d:Nat}{v:Value}{op:Op}{ty:TypeId}{pos:String}{aft:Array Edge}(hv:az X σ H ⟨some d,op,ty,pos,aft,none⟩ v)(hd:Nat.blt d X.N=true)(h:EL X k ops l ((d,v)::σ) H):
  EL X k ops (⟨some d,op,ty,pos,aft,none⟩::l) σ H:=by
 intro a w ha hs
 refine wpList_plain rfl fun K hK=> ?_
 unfold Oper.wp
 rw[hv a w ha hs]
 exact hK _ _ (h _ _ (ha.put hd v) hs)
theorem oI {α:Type}{r:α→Value}{H':α→SL}{d:Nat}{op:Op}{ty:TypeId}{pos:String}{aft:Array Edge}(hv:ba X σ H ⟨some d,op,ty,pos,aft,none⟩ r H')(hd:Nat.blt d X.N=true)(h:∀x,EL X k ops l ((d,r x)::σ) (H' x)):
  EL X k ops (⟨some d,op,ty,pos,aft,none⟩::l) σ H:=by
 intro a w ha hs
 refine wpList_plain rfl fun K hK=> ?_
 unfold Oper.wp
 obtain⟨x,w',hr,gW⟩:=hv a w ha hs
 rw[hr]
 exact hK _ _ (h x _ _ (ha.put hd _) gW)
theorem A4 {H':SL}{op:Op}{ty:TypeId}{pos:String}{aft:Array Edge}(hv:bf X σ H ⟨none,op,ty,pos,aft,none⟩ H')(h:EL X k ops l σ H'):
  EL X k ops (⟨none,op,ty,pos,aft,none⟩::l) σ H:=by
 intro a w ha hs
 refine wpList_plain rfl fun K hK=> ?_
 unfold Oper.wp
 obtain⟨w',hr,gW⟩:=hv a w ha hs
 rw[hr]
 exact hK _ _ (h _ _ ha gW)
theorem vc {a:Act}(ha:Fits X.N a σ){gj t:Nat}{b want:Bool}(hj:(ops[gj]?).bind (·.dst)=some t)(ht:σ.get t=some (.bool b))(hg:o.guard=some (gj,want)):Region.wanted o (yielded ops.toArray a.tmps)=(b==want):=by
 simp only[Region.wanted,hg,yielded,List.getElem?_toArray,hj,Option.bind_some,ha.nm t _ ht]
 cases b<;>cases want<;>rfl
theorem Oq {d:Option Nat}{op:Op}{ty:TypeId}{pos:String}{aft:Array Edge}{gj t:Nat}{want:Bool}(hj:(ops[gj]?).bind (·.dst)=some t)(ht:σ.get t=some (.bool want))
  (h:EL X k ops (⟨d,op,ty,pos,aft,none⟩::l) σ H):EL X k ops (⟨d,op,ty,pos,aft,some (gj,want)⟩::l) σ H:=by
 intro a w ha hs
 have h1:=h a w ha hs
 unfold wpList at h1 ⊢
 rw[vc (o:=⟨d,op,ty,pos,aft,some (gj,want)⟩) ha hj ht rfl,if_pos (by simp)]
 rw[if_pos (by simp[Region.wanted])]at h1
 exact h1
theorem On {d:Nat}{op:Op}{ty:TypeId}{pos:String}{aft:Array Edge}{gj t:Nat}{want:Bool}(hj:(ops[gj]?).bind (·.dst)=some t)(ht:σ.get t=some (.bool !want))(hd:Nat.blt d X.N=true)
  (h:EL X k ops l ((d,undef)::σ) H):EL X k ops (⟨some d,op,ty,pos,aft,some (gj,want)⟩::l) σ H:=by
 intro a w ha hs
 unfold wpList
 rw[vc (o:=⟨some d,op,ty,pos,aft,some (gj,want)⟩) ha hj ht rfl,if_neg (by cases want<;>simp)]
 exact h _ _ (ha.put hd _) hs
theorem Oo {d:Nat}{op:Op}{ty:TypeId}{pos:String}{aft:Array Edge}{gj t:Nat}{want:Bool}(hj:(ops[gj]?).bind (·.dst)=some t)(ht:σ.get t=some undef)(hd:Nat.blt d X.N=true)
  (h:EL X k ops l ((d,undef)::σ) H):EL X k ops (⟨some d,op,ty,pos,aft,some (gj,want)⟩::l) σ H:=by
 intro a w ha hs
 unfold wpList
 have hw:Region.wanted (⟨some d,op,ty,pos,aft,some (gj,want)⟩:Oper) (yielded ops.toArray a.tmps)=false:=by
  simp only[Region.wanted,yielded,List.getElem?_toArray,hj,Option.bind_some,ha.nm t _ ht]
  rfl
 rw[hw,if_neg (by simp)]
 exact h _ _ (ha.put hd _) hs
theorem A3 {d:Option Nat}{op:Op}{ty:TypeId}{pos:String}{aft:Array Edge}{gj t:Nat}{b want:Bool}(hj:(ops[gj]?).bind (·.dst)=some t)(ht:σ.get t=some (.bool b))
  (h1:b=true→EL X k ops (⟨d,op,ty,pos,aft,some (gj,want)⟩::l) ((t,.bool true)::σ) H) (h2:b=false→EL X k ops (⟨d,op,ty,pos,aft,some (gj,want)⟩::l) ((t,.bool false)::σ) H):
  EL X k ops (⟨d,op,ty,pos,aft,some (gj,want)⟩::l) σ H:=by
 intro a w ha hs
 cases hb:b with
 |true=>exact h1 hb a w (ha.fact ht (by rw[hb])) hs
 |false=>exact h2 hb a w (ha.fact ht (by rw[hb])) hs
def pP (W:World){α:Type}(r:α→Value)(H':α→SL):Ending→World→Prop:=fun e w'=>∃x,e= .returned (r x)∧Sat W w' (H' x)
def Spec (P:Program)(f:FuncId)(vs:List Value)(W:World)(H:SL){α:Type}(r:α→Value)(H':α→SL):Prop:=∀w,Sat W w H→Calls P f vs.toArray w (pP W r H')
class aB (P:Program)(f:FuncId):Prop where
 runs:∀args w,(callFunc f args).run P w= .ok (.enter f args) w
theorem xK {f:FuncId}[aB X.P f]{args:Array Operand}{ats:Array TypeId}{vs:List Value}{d:Option Nat}{ty:TypeId}{pos:String}{aft:Array Edge}{a:Act}{w:World}(ha:Fits X.N a σ)(kx:kr σ args.toList=some vs):
  (execOp a.eval ⟨d,.call {callee:= .value (.func f),args:=args,argTypes:=ats},ty,pos,aft,none⟩).run X.P w= .ok (.enter f vs.toArray) w:=by
 have e1:args.map a.eval=vs.toArray:=by
  have:=ha.yV kx
  rw[←this,←List.map_toArray,Array.toArray_toList]
 simp only[execOp,resolve,e1,Act.eval,Deferred.ofValue,Sem.run_bind,Sem.run_pure,Result.andThen_ok,invoke,Array.empty_append,Array.append_empty]
 exact aB.runs _ _
theorem ag {α:Type}{r:α→Value}{H':α→SL}{f:FuncId}[aB X.P f]{args:Array Operand}{ats:Array TypeId}{vs:List Value}{d:Nat}{ty:TypeId}{pos:String}{aft:Array Edge}
  (kx:kr σ args.toList=some vs) (hc:Spec X.P f vs X.W H r H') (h:∀x,EL X k ops l ((d,r x)::σ) (H' x)) (hd:Nat.blt d X.N=true:=by rfl):
  EL X k ops (⟨some d,.call {callee:= .value (.func f),args:=args,argTypes:=ats},ty,pos,aft,none⟩::l) σ H:=by
 intro a w ha hs
 refine wpList_plain rfl fun K hK=> ?_
 unfold Oper.wp
 rw[xK ha kx,Oper.upon_enter]
 refine(hc w hs).mono ?_
 rintro e w' ⟨x,rfl,gW⟩
 exact hK _ _ (h x _ _ (ha.put hd _) gW)
def vI:Nat→List Value→Env
 |_,[]=>[]
 |i,v::l=>(i,v)::vI (i+1) l
theorem G9:∀(l:List Value) (i t:Nat) (v:Value),(vI i l).get t=some v→i≤t∧l[t-i]? =some v
 |[],_,_,_,h=>by simp[vI,Env.get]at h
 |u::l,i,t,v,h=>by
  rw[vI,Env.zd]at h
  split at h
  ·rename_i e
   subst e
   simp only[Option.some.injEq]at h
   subst h
   simp
  ·have:=G9 l (i+1) t v h
   refine⟨by omega,?_⟩
   rw[show t-i=(t-(i+1))+1 by omega,List.getElem?_cons_succ]
   exact this.2
theorem Spec.of {P:Program}{f:FuncId}{fn:Func}{c:Code}{N:Nat}{W:World}{α:Type}{r:α→Value}{H':α→SL}{vs:List Value}(hf:P.funcs[f]? =some fn)(hb:fn.body=some c)(hn:fn.ntmps=N)(hl:Nat.ble vs.length N=true)
  (h:EK ⟨P,N,W,bodyPost P fn (pP W r H')⟩ [.code c] (vI 0 vs) H):Spec P f vs W H r H':=by
 intro w hs
 subst hn
 have hl:=Nat.le_of_ble_eq_true hl
 refine calls_of_wp hf hb ?_
 refine wp_mono (h _ w ⟨?_,rfl,fun t v ht=> ?_⟩ hs) (fun e a w q=>q)
 ·simp;omega
 ·obtain⟨_,h2⟩:=G9 _ _ _ _ ht
  rw[Nat.sub_zero]at h2
  have ht:t<vs.length:=(List.getElem?_eq_some_iff.1 h2).1
  rw[Array.getElem?_append_left (by simpa using ht)]
  simpa using h2
section leave
variable {P:Program} {N:Nat} {W:World} {fn:Func} {α:Type} {r:α→Value} {H':α→SL}
theorem leaves {a:Act}{w:World}{e:Exit}(he:e= .normal∨e= .ret)(ha:Fits N a σ){v:Value}(hr:(results fn a.tmps).run P w= .ok v w)(x:α)(hx:v=r x)(hs:Sat W w (H' x)):bodyPost P fn (pP W r H') e a w:=by
 subst hx
 rcases he with rfl|rfl<;>exact⟨ha.defers,_,hr,x,rfl,hs⟩
theorem Lu {a:Act}{w:World}(hf:fn.results= #[]):(results fn a.tmps).run P w= .ok (.tuple #[]) w:=by
 simp[results,hf,go_sem]
theorem Xk {a:Act}{w:World}{t:Nat}{v:Value}(ha:Fits N a σ)(hf:fn.results= #[.tmp t])(ht:σ.get t=some v):(results fn a.tmps).run P w= .ok v w:=by
 have:=ha.nm t v ht
 simp[results,hf,go_sem,this]
theorem Xl {a:Act}{w:World}{t s:Nat}{v u:Value}(ha:Fits N a σ)(hf:fn.results= #[.tmp t,.tmp s])(ht:σ.get t=some v)(hs:σ.get s=some u):(results fn a.tmps).run P w= .ok (.tuple #[v,u]) w:=by
 have h1:=ha.nm t v ht
 have h2:=ha.nm s u hs
 simp[results,hf,go_sem,h1,h2]
theorem dB (hf:fn.results= #[])(x:α)(hx: .tuple #[]=r x)(hs:∀w,Sat W w H→Sat W w (H' x)):ER ⟨P,N,W,bodyPost P fn (pP W r H')⟩ σ H:=fun _ w ha h=>leaves (.inr rfl) ha (Lu hf) x hx (hs w h)
theorem aw {t:Nat}{v:Value}(hf:fn.results= #[.tmp t])(ht:σ.get t=some v)(x:α)(hx:v=r x)(hs:∀w,Sat W w H→Sat W w (H' x)):ER ⟨P,N,W,bodyPost P fn (pP W r H')⟩ σ H:=fun _ w ha h=>leaves (.inr rfl) ha (Xk ha hf ht) x hx (hs w h)
theorem eU {t s:Nat}{v u:Value}(hf:fn.results= #[.tmp t,.tmp s])(ht:σ.get t=some v)(TR:σ.get s=some u)(x:α)(hx: .tuple #[v,u]=r x)(hs:∀w,Sat W w H→Sat W w (H' x)):ER ⟨P,N,W,bodyPost P fn (pP W r H')⟩ σ H:=fun _ w ha h=>leaves (.inr rfl) ha (Xl ha hf ht TR) x hx (hs w h)
theorem aO (hf:fn.results= #[])(x:α)(hx: .tuple #[]=r x)(hs:∀w,Sat W w H→Sat W w (H' x)):EN ⟨P,N,W,bodyPost P fn (pP W r H')⟩ σ H:=fun _ w ha h=>leaves (.inl rfl) ha (Lu hf) x hx (hs w h)
end leave
theorem US {p:Nat→Prop}:∀n,p n→∃m,p m∧∀j,p j→m≤j:=by
 intro n
 induction n using Nat.strongRecOn with
 |_ n ih=>
  intro hn
  by_cases h:∃j,j<n∧p j
  ·obtain⟨j,hj,hp⟩:=h
   exact ih j hj hp
  ·exact⟨n,hn,fun j hj=>Nat.le_of_not_lt fun ck=>h ⟨j,ck,hj⟩⟩
theorem ff {c:Code}{γ:Type}(φ:γ→Prop)(E:γ→Env)(G:γ→SL)(μ:γ→Nat)(g0:γ)(h0:φ g0)(he:Env.within σ (E g0))(hh:∀w,Sat X.W w H→Sat X.W w (G g0))
  (round:∀g,φ g→EK X (.code c:: .oG (fun a w=>∃g',φ g'∧μ g'<μ g∧Fits X.N a (E g')∧Sat X.W w (G g'))::k) (E g) (G g)):EK X (.code (.loop c)::k) σ H:=by
 intro a w ha hs
 let q:Act→World→Nat→Prop:=fun a w m=>∃g,μ g=m∧φ g∧Fits X.N a (E g)∧Sat X.W w (G g)
 let I:Act→World→Prop:=fun a w=>∃m,q a w m
 have I8:∀a w,∃m,I a w→q a w m∧∀j,q a w j→m≤j:=fun a w=>by
  by_cases h:I a w
  ·obtain⟨n,hn⟩:=h
   obtain⟨m,h1,h2⟩:=US (p:=q a w) n hn
   exact⟨m,fun _=>⟨h1,h2⟩⟩
  ·exact⟨0,fun h'=>absurd h' h⟩
 let M:Act→World→Nat:=fun a w=>Classical.choose (I8 a w)
 have hM:∀a w,I a w→q a w (M a w)∧∀j,q a w j→M a w≤j:=fun a w=>Classical.choose_spec (I8 a w)
 refine wp_loop I M ⟨_,g0,rfl,h0,ha.within he,hh w hs⟩ ?_
 intro a w hI
 obtain⟨⟨g,h1,h2,h3,h4⟩,_⟩:=hM a w hI
 refine wp_mono (round g h2 a w h3 h4) ?_
 intro e a' w' hq
 cases e with
 |normal=>
  obtain⟨g',k1,k2,k3,k4⟩:=hq
  have IH:I a' w':=⟨_,g',rfl,k1,k3,k4⟩
  have hle:=(hM a' w' IH).2 (μ g') ⟨g',rfl,k1,k3,k4⟩
  exact⟨IH,by omega⟩
 |exit id=>exact hq
 |goto l=>exact hq
 |ret=>exact hq
 |panic ch=>exact hq
 |outgrown=>exact hq
theorem cT {γ:Type}{φ:γ→Prop}{E:γ→Env}{G:γ→SL}{μ:γ→Nat}{m:Nat}(g':γ)(h0:φ g')(hm:μ g'<m)(he:Env.within σ (E g'))(hh:∀w,Sat X.W w H→Sat X.W w (G g')):
  EK X (.oG (fun a w=>∃g',φ g'∧μ g'<m∧Fits X.N a (E g')∧Sat X.W w (G g'))::k) σ H:=
 FZ fun a w ha hs=>⟨g',h0,hm,ha.within he,hh w hs⟩
theorem kN {c:Code}{γ:Type}(φ:γ→Prop)(E:γ→Env)(G:γ→SL)(first:EK X (.code c:: .oG (fun a w=>∃g,φ g∧Fits X.N a (E g)∧Sat X.W w (G g))::k) σ H)(rest:∀g,φ g→EK X k (E g) (G g)):EK X (.code c::k) σ H:=by
 intro a w ha hs
 refine wp_mono (first a w ha hs) ?_
 intro e a' w' q
 cases e with
 |normal=>
  obtain⟨g,h1,h2,h3⟩:=q
  exact rest g h1 a' w' h2 h3
 |exit id=>exact q
 |goto l=>exact q
 |ret=>exact q
 |panic ch=>exact q
 |outgrown=>exact q
theorem ei {γ:Type}{φ:γ→Prop}{E:γ→Env}{G:γ→SL}(g':γ)(h0:φ g')(he:Env.within σ (E g'))(hh:∀w,Sat X.W w H→Sat X.W w (G g')):
  EK X (.oG (fun a w=>∃g',φ g'∧Fits X.N a (E g')∧Sat X.W w (G g'))::k) σ H:=
 FZ fun a w ha hs=>⟨g',h0,ha.within he,hh w hs⟩
theorem FX {H1:SL}(hh:∀w,Sat X.W w H→Sat X.W w H1)(h:EK X k σ H1):EK X k σ H:=fun a w ha hs=>h a w ha (hh w hs)
theorem Ot {H1:SL}(hh:∀w,Sat X.W w H→Sat X.W w H1)(h:EL X k ops l σ H1):EL X k ops l σ H:=fun a w ha hs=>h a w ha (hh w hs)
end
section
open Go.RowKit
class Frame (H P:SL)(F:outParam SL):Prop where eq:H=P*F
instance (priority:=2000) Frame.here (P F:SL):Frame (P*F) P F:=⟨rfl⟩
instance (priority:=900) Frame.there (Q R P F:SL)[h:Frame R P F]:Frame (Q*R) P (Q*F):=⟨by rw[h.eq];ac_rfl⟩
instance (priority:=500) Frame.last (P:SL):Frame P P 1:=⟨(SL.oD P).symm⟩
class bO (H:SL)(p:Option Addr)(C:outParam SL)(F:outParam SL):Prop where eq:H=C*F
class kR (C:SL)(p:outParam (Option Addr)):Prop where
 nn:∀(W w:World) (F:SL),Sat W w (C*F)→p≠none
instance (priority:=900) bO.there (Q R C F:SL)(p:Option Addr)[h:bO R p C F]:bO (Q*R) p C (Q*F):=⟨by rw[h.eq];ac_rfl⟩
def off (p:Option Addr)(i:Nat):Option Addr:=p.map (·.add i)
class Loc (q:Option Addr)(p:outParam (Option Addr))(i:outParam Nat):Prop where eq:q=off p i
instance (priority:=100) Loc.base (p:Option Addr):Loc p p 0:=⟨by cases p<;>simp[off,Addr.add]⟩
instance (priority:=2000) Loc.Jz (q p:Option Addr)(i j:Nat)[h:Loc q p i]:Loc (off q j) p (i+j):=⟨by
 rw[h.eq]
 cases p with
 |none=>rfl
 |some a=>
  simp only[Go.Proofs.YtakbmjoijcpdmaaGreatDoor.off,Option.map_some,Addr.add]
  by_cases hi:i=0<;>by_cases hj:j=0<;>simp[hi,hj,Nat.add_assoc]⟩
class NN (H:SL)(q:Option Addr):Prop where nn:∀(W w:World),Sat W w H→q≠none
def Obj (p:Option Addr)(t:TypeId)(cs:List Value):SL:=SL.ex fun b:Nat=>SL.pure (p=some ⟨b,0,none⟩)*SL.cH b (.cells cs.toArray t (0,0))
instance (priority:=2000) bO.obj (p:Option Addr)(t:TypeId)(cs:List Value)(F:SL):bO (Obj p t cs*F) p (Obj p t cs) F:=⟨rfl⟩
theorem Obj.open {W w:World}{p:Option Addr}{t:TypeId}{cs:List Value}{F:SL}(h:Sat W w (Obj p t cs*F)):∃b,p=some ⟨b,0,none⟩∧Sat W w (SL.cH b (.cells cs.toArray t (0,0))*F):=by
 obtain⟨b,h⟩:=h.iX
 have h:=h.ac (SL.cb _ _ _)
 exact⟨b,h.out⟩
theorem Obj.shut {W w:World}{p:Option Addr}{t:TypeId}{cs:List Value}{F:SL}{b:Nat}(hp:p=some ⟨b,0,none⟩)(h:Sat W w (SL.cH b (.cells cs.toArray t (0,0))*F)):Sat W w (Obj p t cs*F):=
 Sat.H0 (P:=fun b:Nat=>SL.pure (p=some ⟨b,0,none⟩)*SL.cH b (.cells cs.toArray t (0,0))) b ((h.put hp).ac (SL.cb _ _ _).symm)
instance Obj.root (p:Option Addr)(t:TypeId)(cs:List Value):kR (Obj p t cs) p:=⟨fun W w F h=>by
 obtain⟨b,hp,_⟩:=Obj.open h
 simp[hp]⟩
instance NN.root (H C F:SL)(q p:Option Addr)(i:Nat)[hl:Loc q p i][h:bO H p C F][r:kR C p]:NN H q:=⟨fun W w hs=>by
 have:=r.nn W w F (h.eq▸hs)
 rw[hl.eq]
 cases p with
 |none=>exact absurd rfl this
 |some a=>simp[Go.Proofs.YtakbmjoijcpdmaaGreatDoor.off]⟩
theorem Obj.cell {W w:World}{p:Option Addr}{t:TypeId}{cs:List Value}{F:SL}(h:Sat W w (Obj p t cs*F)){i:Nat}{v:Value}(hv:cs[i]? =some v):∃a,off p i=some a∧w.cell? a=some v:=by
 obtain⟨b,rfl,hs⟩:=Obj.open h
 refine⟨(⟨b,0,none⟩:Addr).add i,rfl,?_⟩
 have:(⟨b,0,none⟩:Addr).add i=⟨b,i,none⟩:=by unfold Addr.add;split<;>simp_all
 rw[this,hs.cell]
 simpa using hv
theorem Sat.newObj {W w:World}{F:SL}(h:Sat W w F)(t:TypeId)(cs:List Value):Sat W (w.alloc (.cells cs.toArray t)) (Obj (some ⟨w.heap.size,0,none⟩) t cs*F):=Obj.shut rfl (h.alloc _)
class gU (P:Program)(t:TypeId)(k:outParam IntKind):Prop where h:P.underlying t=some (.int k)
class cX (P:Program)(t:TypeId):Prop where
 agg:∃d,P.underlying t=some d∧(match d with| .struct _=>false| .array .. =>false|_=>true)=true
 size:(P.info? t).map (·.size)=some 1
class gD (P:Program)(t:TypeId)(n:outParam Nat):Prop where
 agg:∃d,P.underlying t=some d∧(match d with| .struct _=>true| .array .. =>true|_=>false)=true
 size:(P.info? t).map (·.size)=some n
class dm (P:Program)(t:TypeId)(cs:outParam (List Value)):Prop where h:∃v,(P.info? t).map (·.zero)=some (some v)∧v.cells=cs.toArray
class aD (P:Program)(s:TypeId)(f:Nat)(o:outParam Nat)(sz:outParam Nat):Prop where
 h:∃fs g,P.underlying s=some (.struct fs)∧fs[f]? =some g∧g.offset=o∧(P.info? g.type).map (·.size)=some sz∧sz≠0
class cL (P:Program)(t:TypeId)(e:outParam TypeId)(sz:outParam Nat)(bw:outParam Nat)(z:outParam (List Value)):Prop where
 under:P.underlying t=some (.slice e)
 info:∃v,(P.info? e).map (fun i=>(i.zero,i.size,i.bytes))=some (some v,sz,bw)∧v.cells=z.toArray
 pos:0<sz
 len:z.length=sz
variable {X:Cx} {k:List KI} {σ:Env} {H:SL}
theorem kD {P:Program}{t:TypeId}{α:Type}{g:TypeInfo→α}{y:α}(h:(P.info? t).map g=some y):∃i,P.info? t=some i∧g i=y:=by
 cases hi:P.info? t with
 |none=>rw[hi]at h;simp at h
 |some i=>rw[hi]at h;exact⟨i,rfl,by simpa using h⟩
def Ef:IntKind→IntKind→Bool
 | .i8,.i8| .i16,.i16| .i32,.i32| .i64,.i64| .u8,.u8| .u16,.u16| .u32,.u32| .u64,.u64=>true
 |_,_=>false
theorem Ul {a b:IntKind}(h:Ef a b=true):a=b:=by cases a<;>cases b<;>first|rfl|cases h
def yU (op:BinOp)(k:IntKind)(a b:Int):Option Value:=
 match op with
 | .add=>some (.int k (k.wrap (a+b)))
 | .sub=>some (.int k (k.wrap (a-b)))
 | .mul=>some (.int k (k.wrap (a*b)))
 | .and=>some (.int k (bits .and k a b))
 | .or=>some (.int k (bits .or k a b))
 | .xor=>some (.int k (bits .xor k a b))
 | .andNot=>some (.int k (bits .andNot k a b))
 | .eql=>some (.bool (decide (a=b)))
 | .neq=>some (.bool (!decide (a=b)))
 | .lss=>some (.bool (decide (a<b)))
 | .leq=>some (.bool (decide (a≤b)))
 | .gtr=>some (.bool (decide (a>b)))
 | .geq=>some (.bool (decide (a≥b)))
 |_=>none
def CO (op:BinOp)(k:IntKind)(a b:Int):Option Value:=
 match op with
 | .and=>some (.int k (bits .and k a b))
 | .or=>some (.int k (bits .or k a b))
 | .xor=>some (.int k (bits .xor k a b))
 | .andNot=>some (.int k (bits .andNot k a b))
 |_=>none
def sS (σ:Env):Op→Option Value
 | .move x=>ev σ x
 | .assign x=>ev σ x
 | .pick c a b=>match ev σ c with
  |some (.bool true)=>ev σ a
  |some (.bool false)=>ev σ b
  |_=>none
 | .extract x i=>match ev σ x with
  |some (.tuple vs)=>vs.toList[i]?
  |_=>none
 | .unOp op _ x=>match op with
  | .not=>match ev σ x with
   |some (.bool b)=>some (.bool (!b))
   |_=>none
  |_=>none
 | .binOp op _ x y _=>match op with
  | .and| .or| .xor| .andNot=>match ev σ x with
   |some (.int k a)=>match ev σ y with
    |some (.int k' b)=>match Ef k k' with
     |true=>CO op k a b
     |false=>none
    |_=>none
   |_=>none
  |_=>none
 |_=>none
def iA (σ:Env):Op→Option Value
 | .move x=>ev σ x
 | .assign x=>ev σ x
 | .pick c a b=>match ev σ c with
  |some (.bool true)=>ev σ a
  |some (.bool false)=>ev σ b
  |_=>none
 | .extract x i=>match ev σ x with
  |some (.tuple vs)=>vs.toList[i]?
  |_=>none
 | .unOp op _ x=>match op with
  | .not=>match ev σ x with
   |some (.bool b)=>some (.bool (!b))
   |_=>none
  |_=>none
 | .binOp op _ x y _=>match ev σ x with
  |some (.int k a)=>match ev σ y with
   |some (.int k' b)=>match Ef k k' with
    |true=>yU op k a b
    |false=>none
   |_=>none
  |_=>none
 |_=>none
theorem RB {P:Program}{w:World}{op:BinOp}{k:IntKind}{a b:Int}{v:Value}(h:yU op k a b=some v):(binOp op 0 (.int k a) (.int k b)).run P w= .ok v w:=by
 unfold yU at h
 split at h<;>simp only[Option.some.injEq,reduceCtorEq]at h<;>subst h<;>simp[binOp,go_sem,Op.intArith,Op.intCmp,Op.intBits,Sem.run,pure,bits]<;>first|rfl|skip
theorem Qa {op:BinOp}{t:TypeId}{k:IntKind}{a b:Int}:binOp op t (.int k a) (.int k b)=binOp op 0 (.int k a) (.int k b):=by
 cases op<;>rfl
theorem jm {o:Oper}{v:Value}(h:iA σ o.op=some v):az X σ H o v:=by
 intro a w ha _
 unfold execOp
 cases ho:o.op<;>rw[ho]at h<;>simp only[iA]at h<;>first|cases h;done|skip
 case move x=>simp only[ha.eval h];rfl
 case assign x=>simp only[ha.eval h];rfl
 case pick c x y=>
  split at h
  ·rename_i hc;simp only[ha.eval hc,ha.eval h];rfl
  ·rename_i hc;simp only[ha.eval hc,ha.eval h];rfl
  ·simp at h
 case extract x i=>
  split at h
  ·rename_i vs hc
   have h':vs[i]? =some v:=by simpa using h
   simp only[ha.eval hc,Instr.extract,h'];rfl
  ·simp at h
 case unOp op t x=>
  split at h
  ·split at h
   ·rename_i hc
    simp only[Option.some.injEq]at h
    subst h
    simp only[ha.eval hc];rfl
   ·simp at h
  ·simp at h
 case binOp op t x y ty=>
  split at h
  ·rename_i k' a' hx
   split at h
   ·rename_i k2 b' hy
    split at h
    ·rename_i hk
     obtain rfl:=Ul hk
     have:=RB (P:=X.P) (w:=w) h
     simp only[ha.eval hx,ha.eval hy,Qa]
     have hg:∀p q,(eqGuard op t p q (.int k' a') (.int k' b')).run X.P w= .ok () w:=fun p q=>by
      unfold eqGuard
      cases op<;>rfl
     simp[Sem.run_bind,hg,this,go_sem]
    ·simp at h
   ·simp at h
  ·simp at h
 all_goals simp at h
theorem RA {op:BinOp}{k:IntKind}{a b:Int}{v:Value}(h:CO op k a b=some v):yU op k a b=some v:=by
 unfold CO at h
 split at h<;>first|exact h|cases h
theorem RD {op:Op}{v:Value}(h:sS σ op=some v):iA σ op=some v:=by
 cases op<;>simp only[sS]at h<;>first|exact h|(cases h;done)|skip
 case binOp op t x y ty=>
  simp only[iA]
  split at h<;>first|(cases h;done)|skip
  all_goals
   split at h<;>first|(cases h;done)|skip
   split at h<;>first|(cases h;done)|skip
   split at h<;>first|(cases h;done)|skip
   exact RA h
theorem gP {o:Oper}{v:Value}(h:sS σ o.op=some v):az X σ H o v:=jm (RD h)
def kK:List Value→Nat→List Value→Option (List Value)
 |cs,0,[]=>some cs
 |_::cs,0,v::vs=>match kK cs 0 vs with
  |some l=>some (v::l)
  |none=>none
 |c::cs,n+1,vs=>match kK cs n vs with
  |some l=>some (c::l)
  |none=>none
 |[],0,_::_=>none
 |[],_+1,_=>none
theorem AB:∀ {cs vs dN:List Value} {i:Nat},kK cs i vs=some dN→i+vs.length≤cs.length∧dN=cs.take i++vs++cs.drop (i+vs.length)
 |cs,[],dN,0,h=>by
  have:cs=dN:=by cases cs<;>simpa[kK]using h
  subst this
  simp
 |c::cs,v::vs,dN,0,h=>by
  simp only[kK]at h
  split at h
  ·rename_i l hl
   simp only[Option.some.injEq]at h
   subst h
   obtain⟨h1,h2⟩:=AB hl
   subst h2
   simp at h1 ⊢
   exact h1
  ·simp at h
 |c::cs,vs,dN,n+1,h=>by
  simp only[kK]at h
  split at h
  ·rename_i l hl
   simp only[Option.some.injEq]at h
   subst h
   obtain⟨h1,h2⟩:=AB hl
   subst h2
   refine⟨by simp only[List.length_cons];omega,?_⟩
   rw[show n+1+vs.length=(n+vs.length)+1 by omega]
   simp
  ·simp at h
 |[],_::_,_,0,h=>by simp[kK]at h
 |[],[],_,n+1,h=>by simp[kK]at h
 |[],_::_,_,n+1,h=>by simp[kK]at h
def kJ:List Value→Nat→Nat→Option (List Value)
 |_,0,0=>some []
 |c::cs,0,n+1=>match kJ cs 0 n with
  |some l=>some (c::l)
  |none=>none
 |_::cs,i+1,n=>kJ cs i n
 |[],0,_+1=>none
 |[],_+1,_=>none
theorem xN:∀ {cs l:List Value} {i n:Nat},kJ cs i n=some l→i+n≤cs.length∧l=(cs.drop i).take n
 |cs,l,0,0,h=>by
  have:[]=l:=by cases cs<;>simpa[kJ]using h
  subst this
  simp
 |c::cs,l,0,n+1,h=>by
  simp only[kJ]at h
  split at h
  ·rename_i m hm
   simp only[Option.some.injEq]at h
   subst h
   obtain⟨h1,h2⟩:=xN hm
   subst h2
   simp at h1 ⊢
   exact h1
  ·simp at h
 |c::cs,l,i+1,n,h=>by
  have h':kJ cs i n=some l:=by cases n<;>simpa[kJ]using h
  obtain⟨h1,h2⟩:=xN h'
  exact⟨by simp only[List.length_cons];omega,by simpa using h2⟩
 |[],_,0,n+1,h=>by simp[kJ]at h
 |[],_,i+1,n,h=>by cases n<;>simp[kJ]at h
def fq:Value→List Value
 | .agg cs=>cs.toList
 |v=>[v]
theorem pX (v:Value):v.cells.toList=fq v:=by cases v<;>rfl
def sQ (v:Value):Option (List Value):=match v with
 | .agg ⟨l⟩=>some l
 |v=>some [v]
theorem Cz {v:Value}{l:List Value}(h:sQ v=some l):fq v=l:=by
 unfold sQ at h
 split at h
 ·simpa[fq]using h
 ·rename_i hn
  simp only[Option.some.injEq]at h
  subst h
  cases v<;>first|rfl|exact absurd rfl (hn _)
def je (l:List Value):Bool:=l.all Value.oneCell'
theorem WJ {l:List Value}(h:je l=true):∀v∈l,v.oneCell'=true:=fun v hv=>List.all_eq_true.1 h v hv
theorem oM (b o i:Nat):(⟨b,o,none⟩:Addr).add i=⟨b,o+i,none⟩:=by unfold Addr.add;split<;>simp_all
theorem Hp {P:Program}{W w:World}{F:SL}{b o n:Nat}{t:TypeId}{cur:List Value}(h:Sat W w (SL.cH b (.cells cur.toArray t (0,0))*F))(hn:o+n≤cur.length):
  (loadCells ⟨b,o,none⟩ n).run P w= .ok ((cur.drop o).take n).toArray w:=by
 have hl:((cur.drop o).take n).length=n:=by simp;omega
 have:=run_loadCells_list (P:=P) w ⟨b,o,none⟩ ((cur.drop o).take n) fun j v hv=>by
  rw[oM,h.cell]
  rw[List.getElem?_take]at hv
  split at hv
  ·rw[List.getElem?_drop]at hv
   simpa using hv
  ·simp at hv
 rwa[hl]at this
theorem Ct {P:Program}{W w:World}{F:SL}{b o:Nat}{t:TypeId}{cur vs:List Value}(h:Sat W w (SL.cH b (.cells cur.toArray t (0,0))*F))(hn:o+vs.length≤cur.length)(h1:je vs=true):
  ∃w',(storeCells ⟨b,o,none⟩ vs).run P w= .ok () w'∧Sat W w' (SL.cH b (.cells (cur.take o++vs++cur.drop (o+vs.length)).toArray t (0,0))*F):=by
 have hg:=h.get
 refine⟨_,run_storeCells_at P b o t vs 0 cur.toArray w hg (by simpa using hn) (WJ h1),?_⟩
 simp only[Nat.add_zero]
 exact h.write (by simp) rfl rfl rfl (fun k _ hk=>setRow_other w b k _ hk) (setRow_heap w b _ _ _ _ hg)
class dF (P:Program)(t:TypeId)(n:outParam Nat):Prop where size:(P.info? t).map (·.size)=some n
variable {o:Oper}
theorem LI {P:Program}{t:TypeId}{n:Nat}[s:dF P t n](w:World):(sizeOf t).run P w= .ok n w:=by
 obtain⟨i,hi,hs⟩:=kD s.size
 simp[sizeOf,typeInfo,hi,hs,go_sem]
theorem iy {x:Operand}{q:Option Addr}(ho:o.op= .nilCheck x)(hx:ev σ x=some (.pointer q))[n:NN H q]:az X σ H o (.pointer q):=by
 intro a w ha hs
 have:=n.nn _ w hs
 cases q with
 |none=>exact absurd rfl this
 |some q=>simp only[execOp,ho,ha.eval hx];rfl
theorem ix {x:Operand}{q:Option Addr}{s:TypeId}{f i sz:Nat}(ho:o.op= .fieldAddr s x f)(hx:ev σ x=some (.pointer q))[n:NN H q][t:aD X.P s f i sz]:az X σ H o (.pointer (off q i)):=by
 intro a w ha hs
 have:=n.nn _ w hs
 cases q with
 |none=>exact absurd rfl this
 |some q=>
  obtain⟨fs,g,h1,h2,h3,h4,h5⟩:=t.h
  obtain⟨j,hj,dW⟩:=kD h4
  simp only[execOp,ho,ha.eval hx]
  simp[Instr.fieldAt,Instr.sureAddr,run_underlying h1,h2,fieldPlace,sizeOf,typeInfo,hj,dW,h5,h3,off,go_sem]
theorem qW {x:Operand}{q p:Option Addr}{t t0:TypeId}{i:Nat}{cs:List Value}{F:SL}{v:Value}(ho:o.op= .load t x)(hx:ev σ x=some (.pointer q))[c:cX X.P t][l:Loc q p i][r:bO H p (Obj p t0 cs) F](hv:cs[i]? =some v):az X σ H o v:=by
 intro a w ha hs
 obtain⟨b,hb,hc⟩:=Obj.cell (r.eq▸hs) hv
 rw[←l.eq]at hb
 subst hb
 obtain⟨d,h1,h2⟩:=c.agg
 simp only[execOp,ho,ha.eval hx]
 cases d<;>simp at h2<;>simp[Instr.loadAt,Instr.sureAddr,loadVar,isAgg,run_underlying h1,load,Sem.run,hc,go_sem]
theorem BJ {x:Operand}{q p:Option Addr}{t t0:TypeId}{i n:Nat}{cs vs:List Value}{F:SL}(ho:o.op= .load t x)(hx:ev σ x=some (.pointer q))[c:gD X.P t n][l:Loc q p i][r:bO H p (Obj p t0 cs) F](hv:kJ cs i n=some vs):az X σ H o (.agg vs.toArray):=by
 intro a w ha hs
 obtain⟨b,hb,gW⟩:=Obj.open (r.eq▸hs)
 have hq:=l.eq
 rw[hb]at hq
 simp only[off,Option.map_some,oM,Nat.zero_add]at hq
 subst hq
 obtain⟨d,h1,h2⟩:=c.agg
 obtain⟨j,hj,dW⟩:=kD c.size
 obtain⟨hl,rfl⟩:=xN hv
 have:=Hp (P:=X.P) gW hl
 unfold loadCells at this
 simp only[execOp,ho,ha.eval hx]
 cases d<;>simp at h2<;>simp[Instr.loadAt,Instr.sureAddr,loadVar,isAgg,run_underlying h1,sizeOf,typeInfo,hj,dW,this,go_sem]
theorem Xx {P:Program}{W w:World}{F:SL}{b i n:Nat}{t t0:TypeId}{cur:List Value}{v:Value}[s:dF P t n](h:Sat W w (SL.cH b (.cells cur.toArray t0 (0,0))*F))(hn:(fq v).length=n)(hi:i+n≤cur.length)(h1:je (fq v)=true):
  ∃w',(storeVar t ⟨b,i,none⟩ v).run P w= .ok () w'∧Sat W w' (SL.cH b (.cells (cur.take i++fq v++cur.drop (i+n)).toArray t0 (0,0))*F):=by
 subst hn
 obtain⟨w',h2,h3⟩:=Ct (P:=P) h hi h1
 refine⟨w',?_,h3⟩
 have hc:v.cells.size=(fq v).length:=by rw[←pX,Array.length_toList]
 simp only[storeVar,Sem.run_bind,LI,Result.andThen_ok,hc,ne_eq,not_true_eq_false,if_false,pX,h2]
theorem di {x y:Operand}{q p:Option Addr}{t t0:TypeId}{i n:Nat}{cs dN:List Value}{F:SL}{v:Value}(ho:o.op= .store t x y)(hx:ev σ x=some (.pointer q))(hy:ev σ y=some v)[c:dF X.P t n][l:Loc q p i][r:bO H p (Obj p t0 cs) F]
  (hv:kK cs i (fq v)=some dN) (hn:Nat.beq (fq v).length n=true) (h1:je (fq v)=true):bf X σ H o (Obj p t0 dN*F):=by
 intro a w ha hs
 obtain⟨b,hb,gW⟩:=Obj.open (r.eq▸hs)
 have hq:=l.eq
 rw[hb]at hq
 simp only[off,Option.map_some,oM,Nat.zero_add]at hq
 subst hq
 obtain⟨hl,rfl⟩:=AB hv
 have hn:=Nat.eq_of_beq_eq_true hn
 subst hn
 obtain⟨w',h2,h3⟩:=Xx (P:=X.P) (t:=t) gW rfl hl h1
 refine⟨w',?_,Obj.shut hb h3⟩
 simp only[execOp,ho,ha.eval hx,ha.eval hy,Instr.storeAt,Instr.sureAddr,Sem.run_bind,Sem.run_pure,Result.andThen_ok,h2]
theorem pO {t:TypeId}{cs:List Value}(ho:o.op= .alloc t)[z:dm X.P t cs]:ba X σ H o (fun p:Option Addr=> .pointer p) (fun p=>Obj p t cs*H):=by
 intro a w ha hs
 obtain⟨v,h1,h2⟩:=z.h
 obtain⟨j,hj,hz⟩:=kD h1
 refine⟨_,_,?_,hs.newObj t cs⟩
 simp only[execOp,ho]
 simp[Instr.alloc,zeroValue,typeInfo,hj,hz,newVar,newRow,go_sem]
 exact congrArg (fun c=>w.alloc (.cells c t)) h2
theorem GH {t:TypeId}{x:Operand}{v:Value}{cs:List Value}(ho:o.op= .box t x)(hx:ev σ x=some v)(hv:sQ v=some cs):ba X σ H o (fun p:Option Addr=> .pointer p) (fun p=>Obj p t cs*H):=by
 intro a w ha hs
 obtain rfl:=Cz hv
 refine⟨_,_,?_,hs.newObj t (fq v)⟩
 have hc:v.cells=(fq v).toArray:=by rw[←pX,Array.toArray_toList]
 simp only[execOp,ho,ha.eval hx]
 simp[Instr.box,newVar,newRow,go_sem]
 exact congrArg (fun c=>w.alloc (.cells c t)) hc
end
section
open Go.RowKit
class iT (P:Program)(t:TypeId):Prop where h:P.underlying t=some .string
class q8 (P:Program)(t:TypeId):Prop where h:P.underlying t=some .bool
class fN (P:Program)(t:TypeId)(e:outParam TypeId):Prop where h:P.underlying t=some (.pointer e)
class kl (P:Program)(t:TypeId)(n:outParam Nat)(sz:outParam Nat):Prop where
 h:∃e,P.underlying t=some (.array n e)∧(P.info? e).map (·.size)=some sz
 pos:0<sz
class bo (z:Int)(i:outParam Nat):Prop where eq:z=(i:Int)
instance (priority:=1500) bo.cast (i:Nat):bo (i:Int) i:=⟨rfl⟩
instance bo.add (a b:Int)(i j:Nat)[h:bo a i][g:bo b j]:bo (a+b) (i+j):=⟨by rw[h.eq,g.eq,Int.natCast_add]⟩
instance bo.mul (a b:Int)(i j:Nat)[h:bo a i][g:bo b j]:bo (a*b) (i*j):=⟨by rw[h.eq,g.eq,Int.natCast_mul]⟩
instance bo.div (a b:Int)(i j:Nat)[h:bo a i][g:bo b j]:bo (a/b) (i/j):=⟨by rw[h.eq,g.eq,Int.natCast_ediv]⟩
instance bo.mod (a b:Int)(i j:Nat)[h:bo a i][g:bo b j]:bo (a%b) (i%j):=⟨by rw[h.eq,g.eq,Int.natCast_emod]⟩
instance (priority:=1600) bo.l0:bo 0 0:=⟨rfl⟩
instance (priority:=1600) bo.l1:bo 1 1:=⟨rfl⟩
instance (priority:=1600) bo.l2:bo 2 2:=⟨rfl⟩
instance (priority:=1600) bo.l3:bo 3 3:=⟨rfl⟩
instance (priority:=1600) bo.l4:bo 4 4:=⟨rfl⟩
instance (priority:=1600) bo.l6:bo 6 6:=⟨rfl⟩
instance (priority:=1600) bo.l7:bo 7 7:=⟨rfl⟩
instance (priority:=1600) bo.l8:bo 8 8:=⟨rfl⟩
instance (priority:=1600) bo.l9:bo 9 9:=⟨rfl⟩
instance (priority:=1600) bo.l10:bo 10 10:=⟨rfl⟩
instance (priority:=1600) bo.l11:bo 11 11:=⟨rfl⟩
instance (priority:=1600) bo.l12:bo 12 12:=⟨rfl⟩
instance (priority:=1600) bo.l13:bo 13 13:=⟨rfl⟩
instance (priority:=1600) bo.l16:bo 16 16:=⟨rfl⟩
instance (priority:=1600) bo.l17:bo 17 17:=⟨rfl⟩
instance (priority:=1600) bo.l20:bo 20 20:=⟨rfl⟩
instance (priority:=1600) bo.l28:bo 28 28:=⟨rfl⟩
instance (priority:=1600) bo.l40:bo 40 40:=⟨rfl⟩
def ao (e sz:Nat)(p:Option Addr)(n cap:Nat)(xs:List Value):SL:=fun h=>
 (xs.length=n*sz∧n≤cap∧cap≤maxLen)∧((True∧cap=0∧SL.emp h)∨
  ∃(g o:Nat) (cur:List Value),p=some ⟨g,o,none⟩∧o+cap*sz≤cur.length∧(cur.drop o).take (n*sz)=xs∧SL.cH g (.cells cur.toArray e (0,0)) h)
instance (priority:=2000) bO.row (e sz:Nat)(p:Option Addr)(n cap:Nat)(xs:List Value)(F:SL):bO (ao e sz p n cap xs*F) p (ao e sz p n cap xs) F:=⟨rfl⟩
section rows
variable {W w:World} {F:SL} {e sz n cap:Nat} {p:Option Addr} {xs:List Value}
theorem ao.open (h:Sat W w (ao e sz p n cap xs*F)):(xs.length=n*sz∧n≤cap∧cap≤maxLen)∧((True∧cap=0∧Sat W w F)∨
  ∃(g o:Nat) (cur:List Value),p=some ⟨g,o,none⟩∧o+cap*sz≤cur.length∧(cur.drop o).take (n*sz)=xs∧Sat W w (SL.cH g (.cells cur.toArray e (0,0))*F)):=by
 have hd:=h.drop
 obtain⟨hb,x,⟨h1,h2,⟨hl,⟨hp,hc,he⟩|⟨g,o,cur,a1,a2,a3,a4⟩⟩,q,d,e'⟩,hx⟩:=h
 ·exact⟨hl,.inl ⟨hp,hc,hd⟩⟩
 ·exact⟨hl,.inr ⟨g,o,cur,a1,a2,a3,hb,x,⟨h1,h2,a4,q,d,e'⟩,hx⟩⟩
theorem ao.len (h:Sat W w (ao e sz p n cap xs*F)):xs.length=n*sz∧n≤cap∧cap≤maxLen:=(ao.open h).1
theorem ao.aaa (e sz:Nat)(p:Option Addr)(h:Sat W w F):Sat W w (ao e sz p 0 0 []*F):=by
 obtain⟨hb,x,q,hx⟩:=h
 exact⟨hb,x,⟨fun _=>none,x,⟨by simp,.inl ⟨trivial,rfl,fun _=>rfl⟩⟩,q,fun _=> .inl rfl,fun _=>by simp⟩,hx⟩
theorem ao.Wc (e sz:Nat)(h:Sat W w F):Sat W w (ao e sz none 0 0 []*F):=ao.aaa e sz none h
theorem ao.shut {g o:Nat}{cur:List Value}(hl:n≤cap)(hm:cap≤maxLen)(h1:o+cap*sz≤cur.length)(h2:(cur.drop o).take (n*sz)=xs)(h:Sat W w (SL.cH g (.cells cur.toArray e (0,0))*F)):Sat W w (ao e sz (some ⟨g,o,none⟩) n cap xs*F):=by
 refine h.left fun x hx=>⟨⟨?_,hl,hm⟩,.inr ⟨g,o,cur,rfl,h1,h2,hx⟩⟩
 rw[←h2,List.length_take,List.length_drop]
 have:=Nat.mul_le_mul_right sz hl
 omega
theorem ao.cell (h:Sat W w (ao e sz p n cap xs*F)){i:Nat}{v:Value}(hv:xs[i]? =some v):∃a,off p i=some a∧w.cell? a=some v:=by
 obtain⟨⟨hl,hn,hm⟩,⟨_,hc,_⟩|⟨g,o,cur,rfl,h1,h2,hs⟩⟩:=ao.open h
 ·have h0:n=0:=by omega
  subst h0
  have:xs=[]:=List.eq_nil_of_length_eq_zero (by simpa using hl)
  subst this
  simp at hv
 ·refine⟨(⟨g,o,none⟩:Addr).add i,rfl,?_⟩
  rw[oM,hs.cell]
  rw[←h2,List.getElem?_take]at hv
  split at hv
  ·rw[List.getElem?_drop]at hv
   simpa using hv
  ·simp at hv
theorem ao.nn (h:Sat W w (ao e sz p n cap xs*F))(hn:0<n):p≠none:=by
 obtain⟨⟨_,nG,_⟩,⟨_,hc,_⟩|⟨g,o,cur,rfl,_⟩⟩:=ao.open h
 ·omega
 ·simp
theorem ao.write {P:Program}(h:Sat W w (ao e sz p n cap xs*F)){i:Nat}{vs:List Value}(hi:i+vs.length≤n*sz)(hv:0<vs.length)(h1:je vs=true):
  ∃a w',off p i=some a∧(storeCells a vs).run P w= .ok () w'∧Sat W w' (ao e sz p n cap (xs.take i++vs++xs.drop (i+vs.length))*F):=by
 obtain⟨⟨hl,hn,hm⟩,⟨_,hc,_⟩|⟨g,o,cur,rfl,h2,h3,hs⟩⟩:=ao.open h
 ·have h0:n=0:=by omega
  subst h0
  omega
 ·have hle:=Nat.mul_le_mul_right sz hn
  obtain⟨w',h4,h5⟩:=Ct (P:=P) (o:=o+i) hs (by omega) h1
  refine⟨(⟨g,o,none⟩:Addr).add i,w',rfl,by rw[oM];exact h4,ao.shut hn hm ?_ ?_ h5⟩
  ·simp;omega
  ·subst h3
   apply List.ext_getElem?
   intro j
   simp only[List.getElem?_take,List.getElem?_drop,List.getElem?_append,List.length_append,List.length_take,List.length_drop]
   repeat' split
   all_goals first
    |rfl
    |omega
    |(congr 1;omega)
    |skip
end rows
def el (p:Option Addr)(i sz:Nat):Option Addr:=off p (i*sz)
class kQ (q:Option Addr)(p:outParam (Option Addr))(i sz j:outParam Nat):Prop where eq:q=off p (i*sz+j)
instance (priority:=2000) kQ.iEl (p:Option Addr)(i sz:Nat):kQ (el p i sz) p i sz 0:=⟨rfl⟩
instance (priority:=3000) kQ.ad2 (p:Option Addr)(i sz k:Nat):kQ (off (el p i sz) k) p i sz k:=⟨(@Loc.eq _ _ _ (@Loc.Jz (Go.Proofs.YtakbmjoijcpdmaaGreatDoor.off p (i*sz)) p (i*sz) k ⟨rfl⟩))⟩
class eK (xs:List Value)(i sz j:Nat)(v:outParam Value)(φ:outParam Prop):Prop where get:φ→xs[i*sz+j]? =some v
class sK (xs:List Value)(i sz j:Nat)(vs:List Value)(ys:outParam (List Value))(φ:outParam Prop):Prop where
 set:φ→i*sz+j+vs.length≤xs.length∧ys=xs.take (i*sz+j)++vs++xs.drop (i*sz+j+vs.length)
class sJ (xs:List Value)(i sz:Nat)(vs:outParam (List Value))(φ:outParam Prop):Prop where all:φ→vs.length=sz∧∀j v,vs[j]? =some v→xs[i*sz+j]? =some v
class jG (xs:List Value):Prop where je:je xs=true
instance jG.nil:jG []:=⟨rfl⟩
instance jG.int (k:IntKind)(z:Int)(l:List Value)[h:jG l]:jG (.int k z::l):=⟨by have:=h.je;simpa[Go.Proofs.YtakbmjoijcpdmaaGreatDoor.je,Value.oneCell']using this⟩
instance jG.ptr (z:Option Addr)(l:List Value)[h:jG l]:jG (.pointer z::l):=⟨by have:=h.je;simpa[Go.Proofs.YtakbmjoijcpdmaaGreatDoor.je,Value.oneCell']using this⟩
class Src (W:World)(H:SL)(p:Option Addr)(n:outParam Nat)(xs:outParam (List Value)):Prop where
 cells:∀w,Sat W w H→∀i v,xs[i]? =some v→∃a,off p i=some a∧w.cell? a=some v
 nn:∀w,Sat W w H→0<n→p≠none
instance (priority:=900) Src.row (W:World)(H F:SL)(e sz n cap:Nat)(p:Option Addr)(xs:List Value)[r:bO H p (ao e sz p n cap xs) F]:Src W H p n xs where
 cells:=fun w hs i v hv=>ao.cell (r.eq▸hs) hv
 nn:=fun w hs hn=>ao.nn (r.eq▸hs) hn
class Ro (W:World)(p:Option Addr)(n:outParam Nat)(xs:outParam (List Value)):Prop where
 cells:∀i v,xs[i]? =some v→∃a,off p i=some a∧a.block<W.heap.size∧W.cell? a=some v
 nn:0<n→p≠none
instance (priority:=2000) Src.ro (W:World)(H:SL)(n:Nat)(p:Option Addr)(xs:List Value)[r:Ro W p n xs]:Src W H p n xs where
 cells:=fun w hs i v hv=>by
  obtain⟨a,h1,h2,h3⟩:=r.cells i v hv
  exact⟨a,h1,by rw[hs.below.cell h2];exact h3⟩
 nn:=fun _ _ hn=>r.nn hn
variable {X:Cx} {k:List KI} {σ:Env} {H:SL} {o:Oper}
theorem BH {x:Operand}{p:Option Addr}{n cap:Nat}{t e sz bw:Nat}{z:List Value}(ho:o.op= .call {callee:= .builtin .len,args:= #[x],argTypes:= #[t]})(hx:ev σ x=some (.slice p n cap))[s:cL X.P t e sz bw z]:az X σ H o (.int .i64 (n:Int)):=by
 intro a w ha hs
 simp only[execOp,ho,resolve,invoke,builtin,Sem.run_bind,Sem.run_pure,Result.andThen_ok,List.map_toArray,List.map_cons,List.map_nil,ha.eval hx]
 simp[Builtin.len_,run_underlying s.under,go_sem]
theorem BC {x y:Operand}{p:Option Addr}{n cap i:Nat}{zi:Int}{ik:IntKind}{t e sz bw:Nat}{z xs:List Value}(ho:o.op= .indexAddr t x y)(hx:ev σ x=some (.slice p n cap))(hy:ev σ y=some (.int ik zi))[s:cL X.P t e sz bw z][m:bo zi i]
  {n0:Nat} [r:Src X.W H p n0 xs] (hi:i<n) (na:i<n0):az X σ H o (.pointer (el p i sz)):=by
 intro a w ha hs
 have hp:=r.nn w hs (by omega)
 have hz:=m.eq
 subst hz
 obtain⟨v,h1,h2⟩:=s.info
 obtain⟨j,hj,dW⟩:=kD h1
 have zu:j.size=sz:=by
  have:=congrArg (fun q=>q.2.1) dW
  simpa using this
 cases p with
 |none=>exact absurd rfl hp
 |some g=>
  simp only[execOp,ho,ha.eval hx,ha.eval hy]
  have e1:(0:Int)≤(i:Int)∧(i:Int)<(n:Int):=by omega
  simp[Instr.indexAt,asIntOf,run_underlying s.under,sizeOf,typeInfo,hj,zu,e1,el,off,go_sem]
  intro;omega
theorem BM {x:Operand}{q p:Option Addr}{t i sz j n:Nat}{xs:List Value}{v:Value}{φ:Prop}(ho:o.op= .load t x)(hx:ev σ x=some (.pointer q))[c:cX X.P t][l:kQ q p i sz j][r:Src X.W H p n xs][g:eK xs i sz j v φ](hφ:φ):az X σ H o v:=by
 intro a w ha hs
 obtain⟨b,hb,hc⟩:=r.cells w hs _ _ (g.get hφ)
 rw[←l.eq]at hb
 subst hb
 obtain⟨d,h1,h2⟩:=c.agg
 simp only[execOp,ho,ha.eval hx]
 cases d<;>simp at h2<;>simp[Instr.loadAt,Instr.sureAddr,loadVar,isAgg,run_underlying h1,load,Sem.run,hc,go_sem]
end
section
open Go.RowKit
variable {X:Cx} {k:List KI} {σ:Env} {H:SL} {o:Oper}
def bF (k:IntKind)(z:Int):Prop:=match k with
 | .i8=> -128≤z∧z≤127
 | .i16=> -32768≤z∧z≤32767
 | .i32=> -2147483648≤z∧z≤2147483647
 | .i64=> -9223372036854775808≤z∧z≤9223372036854775807
 | .u8=>0≤z∧z≤255
 | .u16=>0≤z∧z≤65535
 | .u32=>0≤z∧z≤4294967295
 | .u64=>0≤z∧z≤18446744073709551615
theorem bF.wrap {k:IntKind}{z:Int}(h:bF k z):k.wrap z=z:=by
 cases k<;>simp only[bF]at h<;>simp[IntKind.wrap,IntKind.bits,IntKind.signed]<;>first|omega|(split<;>omega)
theorem yx {k:IntKind}{z z':Int}(h:az X σ H o (.int k z))(e:z=z'):az X σ H o (.int k z'):=e▸h
theorem Bp {x y:Operand}{t u:TypeId}{k:IntKind}{a b:Int}(ho:o.op= .binOp .add t x y u)(hx:ev σ x=some (.int k a))(hy:ev σ y=some (.int k b))(hr:bF k (a+b)):az X σ H o (.int k (a+b)):=
 yx (jm (by rw[ho];simp only[iA,hx,hy];cases k<;>rfl)) hr.wrap
theorem Cb {x y:Operand}{t u:TypeId}{k:IntKind}{a b:Int}(ho:o.op= .binOp .sub t x y u)(hx:ev σ x=some (.int k a))(hy:ev σ y=some (.int k b))(hr:bF k (a-b)):az X σ H o (.int k (a-b)):=
 yx (jm (by rw[ho];simp only[iA,hx,hy];cases k<;>rfl)) hr.wrap
theorem BQ {x y:Operand}{t u:TypeId}{k:IntKind}{a b:Int}(ho:o.op= .binOp .mul t x y u)(hx:ev σ x=some (.int k a))(hy:ev σ y=some (.int k b))(hr:bF k (a*b)):az X σ H o (.int k (a*b)):=
 yx (jm (by rw[ho];simp only[iA,hx,hy];cases k<;>rfl)) hr.wrap
theorem Rw {op:BinOp}{t:TypeId}{p q:Operand}{k k':IntKind}{a b:Int}{P:Program}{w:World}:(eqGuard op t p q (.int k a) (.int k' b)).run P w= .ok () w:=by
 unfold eqGuard
 cases op<;>rfl
theorem vw {op:BinOp}{x y:Operand}{t u:TypeId}{k k':IntKind}{a b:Int}{v:Value}(ho:o.op= .binOp op t x y u)(hx:ev σ x=some (.int k a))(hy:ev σ y=some (.int k' b))(hv:∀P w,(binOp op t (.int k a) (.int k' b)).run P w= .ok v w):az X σ H o v:=by
 intro a' w ha hs
 simp only[execOp,ho,ha.eval hx,ha.eval hy]
 simp[Sem.run_bind,Rw,hv,go_sem]
theorem BU {x y:Operand}{t u:TypeId}{k:IntKind}{a b:Int}(ho:o.op= .binOp .quo t x y u)(hx:ev σ x=some (.int k a))(hy:ev σ y=some (.int k b))(ha:0≤a)(hb:0<b)(hr:bF k a):az X σ H o (.int k (a/b)):=by
 refine vw ho hx hy fun P w=> ?_
 have h1:¬b=0:=by omega
 have h3:a/b≤a:=Int.ediv_le_self _ ha
 have h4:0≤a/b:=Int.ediv_nonneg ha (by omega)
 have h2:k.wrap (a.tdiv b)=a/b:=by
  rw[Int.tdiv_eq_ediv_of_nonneg ha]
  refine bF.wrap ?_
  cases k<;>simp only[bF]at hr ⊢ <;>omega
 simp[binOp,Op.intDiv,h1,h2,go_sem]
theorem BV {x y:Operand}{t u:TypeId}{k:IntKind}{a b:Int}(ho:o.op= .binOp .rem t x y u)(hx:ev σ x=some (.int k a))(hy:ev σ y=some (.int k b))(ha:0≤a)(hb:0<b):az X σ H o (.int k (a%b)):=by
 refine vw ho hx hy fun P w=> ?_
 have h1:¬b=0:=by omega
 simp[binOp,Op.intDiv,h1,Int.tmod_eq_emod_of_nonneg ha,go_sem]
theorem BW {x y:Operand}{t u:TypeId}{k:IntKind}{a b:Int}(ho:o.op= .binOp .rem t x y u)(hx:ev σ x=some (.int k a))(hy:ev σ y=some (.int k b))(hb:b≠0):az X σ H o (.int k (a.tmod b)):=by
 refine vw ho hx hy fun P w=> ?_
 simp[binOp,Op.intDiv,hb,go_sem]
theorem B5 {x y:Operand}{t u:TypeId}{k k':IntKind}{a b:Int}(ho:o.op= .binOp .shr t x y u)(hx:ev σ x=some (.int k a))(hy:ev σ y=some (.int k' b))(h0:0≤b)(h1:b≤k.bits):az X σ H o (.int k (a/2^b.toNat)):=by
 refine vw ho hx hy fun P w=> ?_
 simp[binOp,shift_shr k k' a b h0 h1,go_sem]
theorem B4 {x y:Operand}{t u:TypeId}{k k':IntKind}{a b:Int}(ho:o.op= .binOp .shl t x y u)(hx:ev σ x=some (.int k a))(hy:ev σ y=some (.int k' b))(h0:0≤b)(h1:b≤k.bits):az X σ H o (.int k (k.wrap (a*2^b.toNat))):=by
 refine vw ho hx hy fun P w=> ?_
 simp[binOp,shift_shl k k' a b h0 h1,go_sem]
theorem yr {x:Operand}{s t:TypeId}{k k' k2:IntKind}{a:Int}(ho:o.op= .convert s t x)(hx:ev σ x=some (.int k a))[hs:gU X.P s k2][ht:gU X.P t k']:az X σ H o (.int k' (k'.wrap a)):=by
 intro a' w ha _
 simp only[execOp,ho,ha.eval hx]
 simp[convert,run_underlying hs.h,run_underlying ht.h,Conv.intToInt,go_sem]
theorem Bz {x:Operand}{s t:TypeId}{k k' k2:IntKind}{a:Int}(ho:o.op= .convert s t x)(hx:ev σ x=some (.int k a))[hs:gU X.P s k2][ht:gU X.P t k'](hr:bF k' a):az X σ H o (.int k' a):=
 yx (yr ho hx) hr.wrap
theorem LD {P:Program}{t e:TypeId}[h:fN P t e](p q:Option Addr)(w:World)(hn:p=none∨q=none):(Op.equal t (.pointer p) (.pointer q)).run P w= .ok (decide (p=q)) w:=by
 unfold Op.equal
 obtain⟨d,hd⟩:∃d,Op.maxDepth=d+1:=⟨9999,rfl⟩
 rw[hd]
 clear hd
 simp only[Op.equalIn]
 rcases hn with rfl|rfl
 ·cases q<;>simp[run_underlying h.h,go_sem]
 ·cases p<;>simp[run_underlying h.h,go_sem]
theorem yt {x y:Operand}{t u e:TypeId}{p q:Option Addr}(ho:o.op= .binOp .eql t x y u)(hx:ev σ x=some (.pointer p))(hy:ev σ y=some (.pointer q))[h:fN X.P t e](hn:p=none∨q=none):az X σ H o (.bool (decide (p=q))):=by
 intro a' w ha _
 simp only[execOp,ho,ha.eval hx,ha.eval hy]
 have hg:∀p' q',(eqGuard .eql t p' q' (.pointer p) (.pointer q)).run X.P w= .ok () w:=fun _ _=>rfl
 simp[Sem.run_bind,hg,binOp,LD p q w hn,go_sem]
theorem yu {x y:Operand}{t u e:TypeId}{p q:Option Addr}(ho:o.op= .binOp .neq t x y u)(hx:ev σ x=some (.pointer p))(hy:ev σ y=some (.pointer q))[h:fN X.P t e](hn:p=none∨q=none):az X σ H o (.bool (!decide (p=q))):=by
 intro a' w ha _
 simp only[execOp,ho,ha.eval hx,ha.eval hy]
 have hg:∀p' q',(eqGuard .neq t p' q' (.pointer p) (.pointer q)).run X.P w= .ok () w:=fun _ _=>rfl
 simp[Sem.run_bind,hg,binOp,LD p q w hn,go_sem]
theorem BG {x:Operand}{t u e:TypeId}{p:Option Addr}(ho:o.op= .binOp .eql t x (.const (.pointer none)) u)(hx:ev σ x=some (.pointer p))[h:fN X.P t e][n:NN H p]:az X σ H o (.bool false):=by
 intro a' w ha hs
 have:=yt (X:=X) (σ:=σ) (H:=H) (q:=none) ho hx rfl (.inr rfl) a' w ha hs
 rwa[decide_eq_false (n.nn _ w hs)]at this
theorem BT {x:Operand}{t u e:TypeId}{p:Option Addr}(ho:o.op= .binOp .neq t x (.const (.pointer none)) u)(hx:ev σ x=some (.pointer p))[h:fN X.P t e][n:NN H p]:az X σ H o (.bool true):=by
 intro a' w ha hs
 have:=yu (X:=X) (σ:=σ) (H:=H) (q:=none) ho hx rfl (.inr rfl) a' w ha hs
 rwa[decide_eq_false (n.nn _ w hs)]at this
theorem Bn {x y:Operand}{q p:Option Addr}{t e i sz j n cap m:Nat}{xs ys:List Value}{F:SL}{v:Value}{φ:Prop}(ho:o.op= .store t x y)(hx:ev σ x=some (.pointer q))(hy:ev σ y=some v)[c:dF X.P t m][l:kQ q p i sz j][r:bO H p (ao e sz p n cap xs) F]
  {vs:List Value} (hc:sQ v=some vs) [g:sK xs i sz j vs ys φ] (hφ:φ) (hm:Nat.beq (fq v).length m=true) (h0:Nat.blt 0 m=true) (h1:je (fq v)=true):bf X σ H o (ao e sz p n cap ys*F):=by
 intro a w ha hs
 obtain rfl:=Cz hc
 obtain⟨h2,rfl⟩:=g.set hφ
 have hm:=Nat.eq_of_beq_eq_true hm
 subst hm
 have h0:0<(fq v).length:=Nat.le_of_ble_eq_true h0
 have hr:=r.eq▸hs
 obtain⟨b,w',h3,h4,h5⟩:=ao.write (P:=X.P) hr (by rw[←(ao.len hr).1];exact h2) h0 h1
 have hq:=l.eq
 rw[h3]at hq
 subst hq
 refine⟨w',?_,h5⟩
 have hc:v.cells.size=(fq v).length:=by rw[←pX,Array.length_toList]
 simp only[execOp,ho,ha.eval hx,ha.eval hy,Instr.storeAt,Instr.sureAddr,Sem.run_bind,Sem.run_pure,Result.andThen_ok,storeVar,LI,hc,ne_eq,not_true_eq_false,if_false,pX,h4]
theorem BK {x:Operand}{q p:Option Addr}{t i sz n:Nat}{xs vs:List Value}{φ:Prop}(ho:o.op= .load t x)(hx:ev σ x=some (.pointer q))[c:gD X.P t sz][l:kQ q p i sz 0][r:Src X.W H p n xs][g:sJ xs i sz vs φ](hφ:φ)(hn:0<n):az X σ H o (.agg vs.toArray):=by
 intro a w ha hs
 obtain⟨hl,iC⟩:=g.all hφ
 have hp:=r.nn w hs hn
 cases p with
 |none=>exact absurd rfl hp
 |some b=>
  have hq:=l.eq
  simp only[off,Option.map_some]at hq
  subst hq
  obtain⟨d,h1,h2⟩:=c.agg
  obtain⟨j,hj,dW⟩:=kD c.size
  have:=run_loadCells_list (P:=X.P) w (b.add (i*sz+0)) vs fun j' v hv=>by
   obtain⟨b',h3,h4⟩:=r.cells w hs _ _ (iC j' v hv)
   simp only[off,Option.map_some,Option.some.injEq]at h3
   subst h3
   have e1:(b.add (i*sz+0)).add j'=b.add (i*sz+j'):=by
    have:=(@Loc.Jz (Go.Proofs.YtakbmjoijcpdmaaGreatDoor.off (some b) (i*sz+0)) (some b) (i*sz+0) j' ⟨rfl⟩).eq
    simp only[off,Option.map_some,Option.some.injEq]at this
    rw[this];simp
   rw[e1];exact h4
  rw[hl]at this
  unfold loadCells at this
  simp only[execOp,ho,ha.eval hx]
  cases d<;>simp at h2<;>simp at this<;>simp[Instr.loadAt,Instr.sureAddr,loadVar,isAgg,run_underlying h1,sizeOf,typeInfo,hj,dW,this,go_sem]
end
end Go.Proofs.YtakbmjoijcpdmaaGreatDoor
