/-
  A part of a proof, joined by a program (wip/bundle3.py).
-/
import Derived.WalkKit
import Derived.Deep.Draws
set_option linter.unusedVariables false
set_option linter.unusedSimpArgs false
namespace Go.Proofs.YtfkngchldmfpfaaGreatDoor
section
open Go.RowKit
def SL:Type:=(Nat→Option Obj)→Prop
namespace SL
def sep (P Q:SL):SL:=fun h=>∃h1 h2,P h1∧Q h2∧(∀b,h1 b=none∨h2 b=none)∧(∀b,h b=(h1 b).or (h2 b))
instance :Mul SL:=⟨sep⟩
def emp:SL:=fun h=>∀b,h b=none
instance :One SL:=⟨emp⟩
theorem WU {a b:Option Obj}(h:a=none∨b=none):a.or b=b.or a:=by
 rcases h with rfl|rfl<;>simp
theorem u4 (P Q:SL):P*Q=Q*P:=by
 have aux:∀(P Q:SL) h,sep P Q h→sep Q P h:=by
  rintro P Q h ⟨h1,h2,p,q,d,e⟩
  exact⟨h2,h1,q,p,fun b=>(d b).symm,fun b=>by rw[e b,WU (d b)]⟩
 exact funext fun h=>propext ⟨aux P Q h,aux Q P h⟩
theorem bP (P Q R:SL):P*Q*R=P*(Q*R):=by
 refine funext fun h=>propext ⟨?_,?_⟩
 ·rintro ⟨Az,h3,⟨h1,h2,p,q,d,e⟩,r,d',e'⟩
  refine⟨h1,fun b=>(h2 b).or (h3 b),p,⟨h2,h3,q,r,fun b=> ?_,fun b=>rfl⟩,fun b=> ?_,fun b=> ?_⟩
  ·have:=d' b;rw[e b]at this;cases hh:h1 b<;>simp_all
  ·have:=d' b;rw[e b]at this;have:=d b;cases hh:h1 b<;>simp_all
  ·rw[e' b,e b,Option.or_assoc]
 ·rintro ⟨h1,uo,p,⟨h2,h3,q,r,d,e⟩,d',e'⟩
  refine⟨fun b=>(h1 b).or (h2 b),h3,⟨h1,h2,p,q,fun b=> ?_,fun b=>rfl⟩,r,fun b=> ?_,fun b=> ?_⟩
  ·have:=d' b;rw[e b]at this;cases hh:h1 b<;>simp_all
  ·have:=d' b;rw[e b]at this;have:=d b;cases hh:h1 b<;>simp_all
  ·rw[e' b,e b,Option.or_assoc]
theorem pL (P:SL):P*(1:SL)=P:=by
 refine funext fun h=>propext ⟨?_,fun p=>⟨h,fun _=>none,p,fun _=>rfl,fun _=> .inr rfl,fun _=>by simp⟩⟩
 rintro ⟨h1,h2,p,q,d,e⟩
 obtain rfl:h=h1:=funext fun b=>by rw[e b,q b];simp
 exact p
theorem It (P:SL):(1:SL)*P=P:=by rw[u4,pL]
instance :Std.Associative (α:=SL) (· * ·):=⟨bP⟩
instance :Std.Commutative (α:=SL) (· * ·):=⟨u4⟩
instance :Std.LawfulIdentity (α:=SL) (· * ·) (1:SL) where
 left_id:=It
 right_id:=pL
def cO (b:Nat)(o:Obj):SL:=fun h=>∀k,h k=if k=b then some o else none
def pure (p:Prop):SL:=fun h=>p∧emp h
def ex {α:Sort _}(P:α→SL):SL:=fun h=>∃a,P a h
def nC:List SL→SL
 |[]=>1
 |P::l=>P*nC l
def le (P Q:SL):Prop:=∀h,P h→Q h
theorem QA (P:SL)(l:List SL):nC (P::l)=P*nC l:=rfl
theorem QB:nC []=1:=rfl
theorem QC (l:List SL)(k:Nat)(h:k<l.length):nC l=l[k]*nC (l.eraseIdx k):=by
 induction l generalizing k with
 |nil=>simp at h
 |cons P l ih=>
  cases k with
  |zero=>simp[nC]
  |succ k=>
   have hk:k<l.length:=by simpa using h
   simp only[nC,List.getElem_cons_succ,List.eraseIdx_cons_succ]
   rw[ih k hk]
   ac_rfl
theorem le_refl (P:SL):le P P:=fun _ h=>h
theorem XX {P P' Q Q':SL}(h:le P P')(k:le Q Q'):le (P*Q) (P'*Q'):=
 fun _ ⟨h1,h2,p,q,d,e⟩=>⟨h1,h2,h h1 p,k h2 q,d,e⟩
theorem Bp {α:Sort _}(P:α→SL)(a:α):le (P a) (ex P):=fun _ p=>⟨a,p⟩
theorem XW {α:Sort _}(P:α→SL)(F:SL):ex P*F=ex fun a=>P a*F:=by
 refine funext fun h=>propext ⟨?_,?_⟩
 ·rintro ⟨h1,h2,⟨a,p⟩,q,d,e⟩;exact⟨a,h1,h2,p,q,d,e⟩
 ·rintro ⟨a,h1,h2,p,q,d,e⟩;exact⟨h1,h2,⟨a,p⟩,q,d,e⟩
end SL
structure Sat (W w:World)(P:SL):Prop where
 below:Below W.heap.size W w
 has:∃h,P h∧∀b o,h b=some o→W.heap.size≤b∧w.heap[b]? =some o
namespace Sat
variable {W w w':World} {P Q R F:SL}
theorem start (W:World):Sat W W 1:=⟨Below.refl _ _,fun _=>none,fun _=>rfl,fun _ _ h=>by simp at h⟩
theorem ac (h:Sat W w P)(e:P=Q):Sat W w Q:=e▸h
theorem mono (h:Sat W w P)(k:SL.le P Q):Sat W w Q:=⟨h.below,let⟨x,p,q⟩:=h.has;⟨x,k x p,q⟩⟩
theorem left (h:Sat W w (P*F))(k:SL.le P Q):Sat W w (Q*F):=h.mono (SL.XX k (SL.le_refl _))
theorem drop (h:Sat W w (P*F)):Sat W w F:=by
 obtain⟨hb,x,⟨h1,h2,p,q,d,e⟩,hx⟩:=h
 refine⟨hb,h2,q,fun b o ho=>hx b o ?_⟩
 have:=d b
 rw[e b]
 cases hh:h1 b<;>simp_all
theorem out {p:Prop}(h:Sat W w (SL.pure p*F)):p∧Sat W w F:=by
 refine⟨?_,h.drop⟩
 obtain⟨_,x,⟨h1,h2,p,q,d,e⟩,hx⟩:=h
 exact p.1
theorem put {p:Prop}(hp:p)(h:Sat W w F):Sat W w (SL.pure p*F):=by
 obtain⟨hb,x,q,hx⟩:=h
 exact⟨hb,x,⟨fun _=>none,x,⟨hp,fun _=>rfl⟩,q,fun _=> .inl rfl,fun _=>by simp⟩,hx⟩
theorem jA {α:Sort _}{P:α→SL}(h:Sat W w (SL.ex P*F)):∃a,Sat W w (P a*F):=by
 rw[SL.XW]at h
 obtain⟨hb,x,⟨a,p⟩,hx⟩:=h
 exact⟨a,hb,x,p,hx⟩
theorem Iz {α:Sort _}{P:α→SL}(a:α)(h:Sat W w (P a*F)):Sat W w (SL.ex P*F):=h.left (SL.Bp P a)
theorem get {b:Nat}{o:Obj}(h:Sat W w (SL.cO b o*F)):w.heap[b]? =some o:=by
 obtain⟨_,x,⟨h1,h2,p,q,d,e⟩,hx⟩:=h
 exact(hx b o (by rw[e b,p b];simp)).2
theorem ge {b:Nat}{o:Obj}(h:Sat W w (SL.cO b o*F)):W.heap.size≤b:=by
 obtain⟨_,x,⟨h1,h2,p,q,d,e⟩,hx⟩:=h
 exact(hx b o (by rw[e b,p b];simp)).1
theorem lt {b:Nat}{o:Obj}(h:Sat W w (SL.cO b o*F)):b<w.heap.size:=lt_of_block h.get
theorem ne {b b':Nat}{o o':Obj}(h:Sat W w (SL.cO b o*(SL.cO b' o'*F))):b≠b':=by
 obtain⟨_,x,⟨h1,h2,p,⟨h3,h4,q,r,d',e'⟩,d,e⟩,hx⟩:=h
 intro hb
 subst hb
 have:=d b
 rw[p b,e' b,q b]at this
 simp at this
theorem Bm (h:Sat W w F)(hs:w.heap.size≤w'.heap.size)(ho:w'.os=w.os)(ht:w'.tape=w.tape)(hu:w'.output=w.output)(hb:∀k,k<w.heap.size→w'.heap[k]? =w.heap[k]?):Sat W w' F:=by
 obtain⟨rz,x,q,hx⟩:=h
 refine⟨rz.trans ⟨ho,ht,hu,hs,fun k hk=>hb k (by have:=rz.size;omega)⟩,x,q,fun b o h=> ?_⟩
 have:=hx b o h
 exact⟨this.1,by rw[hb b (lt_of_block this.2)];exact this.2⟩
theorem write {b:Nat}{o o':Obj}(h:Sat W w (SL.cO b o*F))(hs:w.heap.size≤w'.heap.size)(ho:w'.os=w.os)(ht:w'.tape=w.tape)(hu:w'.output=w.output)
  (hb:∀k,k<w.heap.size→k≠b→w'.heap[k]? =w.heap[k]?) (hn:w'.heap[b]? =some o'):Sat W w' (SL.cO b o'*F):=by
 have mU:=h.ge
 obtain⟨rz,x,⟨h1,h2,p,q,d,e⟩,hx⟩:=h
 refine⟨rz.trans ⟨ho,ht,hu,hs,fun k hk=>hb k (by have:=rz.size;omega) (by omega)⟩,fun k=>(if k=b then some o' else none:Option Obj).or (h2 k),⟨fun k=>if k=b then some o' else none,h2,fun _=>rfl,q,fun k=> ?_,fun k=>rfl⟩,fun k u hk=> ?_⟩
 ·have:=d k
  rw[p k]at this
  by_cases rG:k=b<;>simp_all
 ·by_cases rG:k=b
  ·subst rG
   simp at hk
   exact⟨mU,by rw[hn,hk]⟩
  ·simp[rG]at hk
   have:=hx k u (by rw[e k,p k];simp[rG,hk])
   exact⟨this.1,by rw[hb k (lt_of_block this.2) rG];exact this.2⟩
theorem new (h:Sat W w F){o:Obj}{b:Nat}(AG:b=w.heap.size)(hs:w.heap.size<w'.heap.size)(ho:w'.os=w.os)(ht:w'.tape=w.tape)(hu:w'.output=w.output)
  (hb:∀k,k<w.heap.size→w'.heap[k]? =w.heap[k]?) (hn:w'.heap[b]? =some o):Sat W w' (SL.cO b o*F):=by
 subst AG
 obtain⟨rz,x,q,hx⟩:=h
 refine⟨rz.trans ⟨ho,ht,hu,by omega,fun k hk=>hb k (by have:=rz.size;omega)⟩,fun k=>(if k=w.heap.size then some o else none:Option Obj).or (x k),⟨fun k=>if k=w.heap.size then some o else none,x,fun _=>rfl,q,fun k=> ?_,fun _=>rfl⟩,fun k u hk=> ?_⟩
 ·by_cases hk:k=w.heap.size
  ·right
   cases vZ:x k with
   |none=>rfl
   |some u=>have:=lt_of_block (hx k u vZ).2;omega
  ·simp[hk]
 ·by_cases rG:k=w.heap.size
  ·simp[rG]at hk
   exact⟨by have:=rz.size;omega,by rw[rG,hn,hk]⟩
  ·simp[rG]at hk
   have:=hx k u hk
   exact⟨this.1,by rw[hb k (lt_of_block this.2)];exact this.2⟩
theorem set {b:Nat}{c:Array Value}{t:TypeId}(h:Sat W w (SL.cO b (.cells c t (0,0))*F))(i:Nat)(v:Value):
  Sat W (w.setCell ⟨b,i,none⟩ v) (SL.cO b (.cells (c.setIfInBounds i v) t (0,0))*F):=by
 have hg:=h.get
 refine h.write (by simp[World.setCell]) rfl rfl rfl (fun k _ hk=>Below.heap_setCell _ _ _ _ hk) ?_
 simp only[World.setCell,Array.getElem?_modify, ↓reduceIte,hg,Option.map_some]
 simp
theorem alloc (h:Sat W w F)(o:Obj):Sat W (w.alloc o) (SL.cO w.heap.size o*F):=
 h.new rfl (by simp) rfl rfl rfl (fun k hk=>Below.heap_alloc _ _ _ hk) (heap_alloc_new w o)
theorem drew (h:Sat W w F):Sat W w.drew F:=h.Bm (Nat.le_refl _) rfl rfl rfl (fun _ _=>rfl)
theorem drewN (h:Sat W w F)(n:Nat):Sat W (w.drewN n) F:=h.Bm (Nat.le_refl _) rfl rfl rfl (fun _ _=>rfl)
theorem size (h:Sat W w F):W.heap.size≤w.heap.size:=h.below.size
theorem cell {b:Nat}{c:Array Value}{t:TypeId}(h:Sat W w (SL.cO b (.cells c t (0,0))*F))(i:Nat):w.cell? ⟨b,i,none⟩=c[i]? :=by
 simp[World.cell?,h.get]
theorem free {b:Nat}{c:Array Value}{t:TypeId}(h:Sat W w (SL.cO b (.cells c t (0,0))*F))(i:Nat):w.frozen? ⟨b,i,none⟩=false:=by
 simp[World.frozen?,h.get]
end Sat
end
section
open Go.RowKit
abbrev Env:=List (Nat×Value)
def Env.get:Env→Nat→Option Value
 |[],_=>none
 |(t,v)::σ,s=>match Nat.beq t s with
  |true=>some v
  |false=>Env.get σ s
structure Fits (N:Nat)(a:Act)(σ:Env):Prop where
 size:a.tmps.size=N
 defers:a.defers=[]
 n5:∀t v,σ.get t=some v→a.tmps[t]? =some v
def ev (σ:Env):Operand→Option Value
 | .tmp t=>σ.get t
 | .const v=>some v
 | .global g=>some (.pointer (some ⟨g,0,none⟩))
 | .func f=>some (.func (.func f) #[] #[])
def bW (σ:Env):List Operand→Option (List Value)
 |[]=>some []
 |x::l=>match ev σ x with
  |some v=>match bW σ l with
   |some vs=>some (v::vs)
   |none=>none
  |none=>none
section env
variable {N:Nat} {a:Act} {σ σ':Env}
theorem Fits.eval (h:Fits N a σ){x:Operand}{v:Value}(hx:ev σ x=some v):a.eval x=v:=by
 cases x with
 |tmp t=>
  have:=h.n5 t v hx
  simp[Act.eval,this]
 |const u=>simpa[ev,Act.eval]using hx
 |global g=>simpa[ev,Act.eval]using hx
 |func f=>simpa[ev,Act.eval]using hx
theorem Fits.xL (h:Fits N a σ):∀ {l:List Operand} {vs:List Value},bW σ l=some vs→l.map a.eval=vs
 |[],vs,hx=>by simpa[bW]using hx
 |x::l,vs,hx=>by
  simp only[bW]at hx
  split at hx
  ·rename_i v hv
   split at hx
   ·rename_i us EJ
    simp only[Option.some.injEq]at hx
    subst hx
    rw[List.map_cons,h.eval hv,h.xL EJ]
   ·simp at hx
  ·simp at hx
theorem Env.Au (σ:Env)(d s:Nat)(v:Value):Env.get ((d,v)::σ) s=if d=s then some v else σ.get s:=by
 simp only[Env.get]
 split
 ·rename_i h;rw[if_pos (Nat.eq_of_beq_eq_true h)]
 ·rename_i h;rw[if_neg (Nat.ne_of_beq_eq_false h)]
theorem Fits.put (h:Fits N a σ){d:Nat}(hd:Nat.blt d N=true)(v:Value):Fits N (a.put (some d) v) ((d,v)::σ) where
 size:=by simpa[Act.put]using h.size
 defers:=h.defers
 n5:=fun t u ht=>by
  have hd:d<N:=Nat.le_of_ble_eq_true hd
  rw[Env.Au]at ht
  split at ht
  ·rename_i e
   subst e
   simp only[Option.some.injEq]at ht
   subst ht
   simp[Act.put,h.size,hd]
  ·rename_i e
   simp[Act.put,Array.getElem?_setIfInBounds_ne e,h.n5 t u ht]
theorem Fits.sub (h:Fits N a σ)(k:∀t v,σ'.get t=some v→σ.get t=some v):Fits N a σ':=⟨h.size,h.defers,fun t v ht=>h.n5 t v (k t v ht)⟩
theorem Fits.fact (h:Fits N a σ){t:Nat}{v u:Value}(ht:σ.get t=some v)(e:v=u):Fits N a ((t,u)::σ):=h.sub fun s w hs=>by
 rw[Env.Au]at hs
 split at hs
 ·rename_i e'
  subst e' e
  rw[ht]
  exact hs
 ·exact hs
def Env.within (σ:Env):Env→Prop
 |[]=>True
 |(t,v)::σ'=>σ.get t=some v∧Env.within σ σ'
theorem Env.MF:∀ {σ':Env},Env.within σ σ'→∀t v,σ'.get t=some v→σ.get t=some v
 |[],_,_,_,h=>by simp[Env.get]at h
 |(s,u)::σ',hw,t,v,h=>by
  rw[Env.Au]at h
  split at h
  ·rename_i e
   subst e
   simp only[Option.some.injEq]at h
   subst h
   exact hw.1
  ·exact Env.MF hw.2 t v h
theorem Fits.within (h:Fits N a σ)(k:Env.within σ σ'):Fits N a σ':=h.sub (Env.MF k)
end env
inductive KI where
 |code (c:Code)
 |block (id:Nat)
 |pO (J:Act→World→Prop)
def run (P:Program)(R:Exit→Act→World→Prop):List KI→Exit→Act→World→Prop
 |[]=>R
 | .code c::k=>Exit.then (fun a w=>c.wp P (run P R k) a w) (run P R k)
 | .block id::k=>Exit.inBlock id (run P R k)
 | .pO J::k=>Exit.then J (run P R k)
structure Cx where
 P:Program
 N:Nat
 W:World
 R:Exit→Act→World→Prop
variable {X:Cx} {k:List KI} {σ:Env} {H:SL}
def EK (X:Cx)(k:List KI)(σ:Env)(H:SL):Prop:=∀a w,Fits X.N a σ→Sat X.W w H→run X.P X.R k .normal a w
def EX (X:Cx)(id:Nat)(k:List KI)(σ:Env)(H:SL):Prop:=∀a w,Fits X.N a σ→Sat X.W w H→run X.P X.R k (.exit id) a w
def ER (X:Cx)(σ:Env)(H:SL):Prop:=∀a w,Fits X.N a σ→Sat X.W w H→X.R .ret a w
def EN (X:Cx)(σ:Env)(H:SL):Prop:=∀a w,Fits X.N a σ→Sat X.W w H→X.R .normal a w
def EL (X:Cx)(k:List KI)(ops:List Oper)(l:List Oper)(σ:Env)(H:SL):Prop:=∀a w,Fits X.N a σ→Sat X.W w H→wpList X.P ops.toArray (run X.P X.R k) l a w
theorem y5 (P:Program)(R:Exit→Act→World→Prop)(a:Act)(w:World):∀k,run P R k .ret a w=R .ret a w
 |[]=>rfl
 | .code c::k=>y5 P R a w k
 | .block id::k=>y5 P R a w k
 | .pO J::k=>y5 P R a w k
theorem pS {x y:Code}(h:EK X (.code x:: .code y::k) σ H):EK X (.code (.seq x y)::k) σ H:=fun a w ha hs=>wp_seq (h a w ha hs)
theorem NB (h:EK X k σ H):EK X (.code .skip::k) σ H:=fun a w ha hs=>wp_skip (h a w ha hs)
theorem Nx {id:Nat}{c:Code}(h:EK X (.code c:: .block id::k) σ H):EK X (.code (.block id c)::k) σ H:=fun a w ha hs=>wp_block (h a w ha hs)
theorem ND {id:Nat}(h:EK X k σ H):EK X (.block id::k) σ H:=fun a w ha hs=>h a w ha hs
theorem Ny {id:Nat}(h:EX X id k σ H):EK X (.code (.exit id)::k) σ H:=fun a w ha hs=>wp_exit (h a w ha hs)
theorem NT {id:Nat}{c:Code}(h:EX X id k σ H):EX X id (.code c::k) σ H:=fun a w ha hs=>h a w ha hs
theorem NW {id:Nat}{J:Act→World→Prop}(h:EX X id k σ H):EX X id (.pO J::k) σ H:=fun a w ha hs=>h a w ha hs
theorem NU {id:Nat}(h:EK X k σ H):EX X id (.block id::k) σ H:=fun a w ha hs=>by
 show Exit.inBlock id _ _ _ _
 simp only[Exit.inBlock,if_true]
 exact h a w ha hs
theorem NV {id EY:Nat}(hn:Nat.beq id EY=false)(h:EX X id k σ H):EX X id (.block EY::k) σ H:=fun a w ha hs=>by
 show Exit.inBlock EY _ _ _ _
 simp only[Exit.inBlock,if_neg (Nat.ne_of_beq_eq_false hn)]
 exact h a w ha hs
theorem ae (h:ER X σ H):EK X (.code .ret::k) σ H:=fun a w ha hs=>wp_ret (by
 show run X.P X.R k .ret a w
 rw[y5]
 exact h a w ha hs)
theorem aE (h:EN X σ H):EK X [] σ H:=h
theorem Gx {J:Act→World→Prop}(h:∀a w,Fits X.N a σ→Sat X.W w H→J a w):EK X (.pO J::k) σ H:=h
theorem zB {c:Operand}{x y:Code}{b:Bool}(hc:ev σ c=some (.bool b))(h1:b=true→EK X (.code x::k) σ H)(h2:b=false→EK X (.code y::k) σ H):EK X (.code (.cond c x y)::k) σ H:=by
 intro a w ha hs
 refine wp_cond (ha.eval hc) ?_
 cases b with
 |true=>exact h1 rfl a w ha hs
 |false=>exact h2 rfl a w ha hs
theorem vi {c:Operand}{x y:Code}(hc:ev σ c=some (.bool true))(h:EK X (.code x::k) σ H):EK X (.code (.cond c x y)::k) σ H:=zB hc (fun _=>h) (fun e=>by cases e)
theorem vh {c:Operand}{x y:Code}(hc:ev σ c=some (.bool false))(h:EK X (.code y::k) σ H):EK X (.code (.cond c x y)::k) σ H:=zB hc (fun e=>by cases e) (fun _=>h)
theorem iB {c:Operand}{x y:Code}{p:Prop}[Decidable p](hc:ev σ c=some (.bool (decide p)))(h1:p→EK X (.code x::k) σ H)(h2:¬p→EK X (.code y::k) σ H):EK X (.code (.cond c x y)::k) σ H:=
 zB hc (fun e=>h1 (of_decide_eq_true e)) (fun e=>h2 (of_decide_eq_false e))
theorem sv {c:Operand}{x y:Code}{p:Prop}[Decidable p](hc:ev σ c=some (.bool (!decide p)))(h1:¬p→EK X (.code x::k) σ H)(h2:p→EK X (.code y::k) σ H):EK X (.code (.cond c x y)::k) σ H:=
 zB hc (fun e=>h1 (by simpa using e)) (fun e=>h2 (by simpa using e))
theorem NA {id:Nat}{ops:List Oper}(h:EL X k ops ops σ H):EK X (.code (.region id ops.toArray false)::k) σ H:=fun a w ha hs=>wp_region_lit (h a w ha hs)
theorem zE {ops:List Oper}(h:EK X k σ H):EL X k ops [] σ H:=h
def an (X:Cx)(σ:Env)(H:SL)(o:Oper)(v:Value):Prop:=∀a w,Fits X.N a σ→Sat X.W w H→(execOp a.eval o).run X.P w= .ok (.value v) w
def aR (X:Cx)(σ:Env)(H:SL)(o:Oper){α:Type}(r:α→Value)(H':α→SL):Prop:=
 ∀a w,Fits X.N a σ→Sat X.W w H→∃x w',(execOp a.eval o).run X.P w= .ok (.value (r x)) w'∧Sat X.W w' (H' x)
def aU (X:Cx)(σ:Env)(H:SL)(o:Oper)(H':SL):Prop:=∀a w,Fits X.N a σ→Sat X.W w H→∃w',(execOp a.eval o).run X.P w= .ok .skip w'∧Sat X.W w' H'
variable {ops l:List Oper} {o:Oper}
theorem oS {d:Nat}{v:Value}{op:Op}{ty:TypeId}{pos:String}{aft:Array Edge}(hv:an X σ H ⟨some d,op,ty,pos,aft,none⟩ v)(hd:Nat.blt d X.N=true)(h:EL X k ops l ((d,v)::σ) H):
  EL X k ops (⟨some d,op,ty,pos,aft,none⟩::l) σ H:=by
 intro a w ha hs
 refine wpList_plain rfl fun K hK=> ?_
 unfold Oper.wp
 rw[hv a w ha hs]
 exact hK _ _ (h _ _ (ha.put hd v) hs)
theorem Gy {α:Type}{r:α→Value}{H':α→SL}{d:Nat}{op:Op}{ty:TypeId}{pos:String}{aft:Array Edge}(hv:aR X σ H ⟨some d,op,ty,pos,aft,none⟩ r H')(hd:Nat.blt d X.N=true)(h:∀x,EL X k ops l ((d,r x)::σ) (H' x)):
  EL X k ops (⟨some d,op,ty,pos,aft,none⟩::l) σ H:=by
 intro a w ha hs
 refine wpList_plain rfl fun K hK=> ?_
 unfold Oper.wp
 obtain⟨x,w',hr,fH⟩:=hv a w ha hs
 rw[hr]
 exact hK _ _ (h x _ _ (ha.put hd _) fH)
theorem NP {H':SL}{op:Op}{ty:TypeId}{pos:String}{aft:Array Edge}(hv:aU X σ H ⟨none,op,ty,pos,aft,none⟩ H')(h:EL X k ops l σ H'):
  EL X k ops (⟨none,op,ty,pos,aft,none⟩::l) σ H:=by
 intro a w ha hs
 refine wpList_plain rfl fun K hK=> ?_
 unfold Oper.wp
 obtain⟨w',hr,fH⟩:=hv a w ha hs
 rw[hr]
 exact hK _ _ (h _ _ ha fH)
theorem wI {a:Act}(ha:Fits X.N a σ){gj t:Nat}{b want:Bool}(hj:(ops[gj]?).bind (·.dst)=some t)(ht:σ.get t=some (.bool b))(hg:o.guard=some (gj,want)):Region.wanted o (yielded ops.toArray a.tmps)=(b==want):=by
 simp only[Region.wanted,hg,yielded,List.getElem?_toArray,hj,Option.bind_some,ha.n5 t _ ht]
 cases b<;>cases want<;>rfl
theorem NO {d:Option Nat}{op:Op}{ty:TypeId}{pos:String}{aft:Array Edge}{gj t:Nat}{want:Bool}(hj:(ops[gj]?).bind (·.dst)=some t)(ht:σ.get t=some (.bool want))
  (h:EL X k ops (⟨d,op,ty,pos,aft,none⟩::l) σ H):EL X k ops (⟨d,op,ty,pos,aft,some (gj,want)⟩::l) σ H:=by
 intro a w ha hs
 have h1:=h a w ha hs
 unfold wpList at h1 ⊢
 rw[wI (o:=⟨d,op,ty,pos,aft,some (gj,want)⟩) ha hj ht rfl,if_pos (by simp)]
 rw[if_pos (by simp[Region.wanted])]at h1
 exact h1
theorem NL {d:Nat}{op:Op}{ty:TypeId}{pos:String}{aft:Array Edge}{gj t:Nat}{want:Bool}(hj:(ops[gj]?).bind (·.dst)=some t)(ht:σ.get t=some (.bool !want))(hd:Nat.blt d X.N=true)
  (h:EL X k ops l ((d,undef)::σ) H):EL X k ops (⟨some d,op,ty,pos,aft,some (gj,want)⟩::l) σ H:=by
 intro a w ha hs
 unfold wpList
 rw[wI (o:=⟨some d,op,ty,pos,aft,some (gj,want)⟩) ha hj ht rfl,if_neg (by cases want<;>simp)]
 exact h _ _ (ha.put hd _) hs
theorem NM {d:Nat}{op:Op}{ty:TypeId}{pos:String}{aft:Array Edge}{gj t:Nat}{want:Bool}(hj:(ops[gj]?).bind (·.dst)=some t)(ht:σ.get t=some undef)(hd:Nat.blt d X.N=true)
  (h:EL X k ops l ((d,undef)::σ) H):EL X k ops (⟨some d,op,ty,pos,aft,some (gj,want)⟩::l) σ H:=by
 intro a w ha hs
 unfold wpList
 have hw:Region.wanted (⟨some d,op,ty,pos,aft,some (gj,want)⟩:Oper) (yielded ops.toArray a.tmps)=false:=by
  simp only[Region.wanted,yielded,List.getElem?_toArray,hj,Option.bind_some,ha.n5 t _ ht]
  rfl
 rw[hw,if_neg (by simp)]
 exact h _ _ (ha.put hd _) hs
theorem Cq {d:Option Nat}{op:Op}{ty:TypeId}{pos:String}{aft:Array Edge}{gj t:Nat}{b want:Bool}(hj:(ops[gj]?).bind (·.dst)=some t)(ht:σ.get t=some (.bool b))
  (h1:b=true→EL X k ops (⟨d,op,ty,pos,aft,some (gj,want)⟩::l) ((t,.bool true)::σ) H) (h2:b=false→EL X k ops (⟨d,op,ty,pos,aft,some (gj,want)⟩::l) ((t,.bool false)::σ) H):
  EL X k ops (⟨d,op,ty,pos,aft,some (gj,want)⟩::l) σ H:=by
 intro a w ha hs
 cases hb:b with
 |true=>exact h1 hb a w (ha.fact ht (by rw[hb])) hs
 |false=>exact h2 hb a w (ha.fact ht (by rw[hb])) hs
def qV (W:World){α:Type}(r:α→Value)(H':α→SL):Ending→World→Prop:=fun e w'=>∃x,e= .returned (r x)∧Sat W w' (H' x)
def Spec (P:Program)(f:FuncId)(vs:List Value)(W:World)(H:SL){α:Type}(r:α→Value)(H':α→SL):Prop:=∀w,Sat W w H→Calls P f vs.toArray w (qV W r H')
class ak (P:Program)(f:FuncId):Prop where
 runs:∀args w,(callFunc f args).run P w= .ok (.enter f args) w
theorem u0 {f:FuncId}[ak X.P f]{args:Array Operand}{ats:Array TypeId}{vs:List Value}{d:Option Nat}{ty:TypeId}{pos:String}{aft:Array Edge}{a:Act}{w:World}(ha:Fits X.N a σ)(iH:bW σ args.toList=some vs):
  (execOp a.eval ⟨d,.call {callee:= .value (.func f),args:=args,argTypes:=ats},ty,pos,aft,none⟩).run X.P w= .ok (.enter f vs.toArray) w:=by
 have e1:args.map a.eval=vs.toArray:=by
  have:=ha.xL iH
  rw[←this,←List.map_toArray,Array.toArray_toList]
 simp only[execOp,resolve,e1,Act.eval,Deferred.ofValue,Sem.run_bind,Sem.run_pure,Result.andThen_ok,invoke,Array.empty_append,Array.append_empty]
 exact ak.runs _ _
theorem af {α:Type}{r:α→Value}{H':α→SL}{f:FuncId}[ak X.P f]{args:Array Operand}{ats:Array TypeId}{vs:List Value}{d:Nat}{ty:TypeId}{pos:String}{aft:Array Edge}
  (iH:bW σ args.toList=some vs) (hc:Spec X.P f vs X.W H r H') (h:∀x,EL X k ops l ((d,r x)::σ) (H' x)) (hd:Nat.blt d X.N=true:=by rfl):
  EL X k ops (⟨some d,.call {callee:= .value (.func f),args:=args,argTypes:=ats},ty,pos,aft,none⟩::l) σ H:=by
 intro a w ha hs
 refine wpList_plain rfl fun K hK=> ?_
 unfold Oper.wp
 rw[u0 ha iH,Oper.upon_enter]
 refine(hc w hs).mono ?_
 rintro e w' ⟨x,rfl,fH⟩
 exact hK _ _ (h x _ _ (ha.put hd _) fH)
def vw:Nat→List Value→Env
 |_,[]=>[]
 |i,v::l=>(i,v)::vw (i+1) l
theorem C4:∀(l:List Value) (i t:Nat) (v:Value),(vw i l).get t=some v→i≤t∧l[t-i]? =some v
 |[],_,_,_,h=>by simp[vw,Env.get]at h
 |u::l,i,t,v,h=>by
  rw[vw,Env.Au]at h
  split at h
  ·rename_i e
   subst e
   simp only[Option.some.injEq]at h
   subst h
   simp
  ·have:=C4 l (i+1) t v h
   refine⟨by omega,?_⟩
   rw[show t-i=(t-(i+1))+1 by omega,List.getElem?_cons_succ]
   exact this.2
theorem Spec.of {P:Program}{f:FuncId}{fn:Func}{c:Code}{N:Nat}{W:World}{α:Type}{r:α→Value}{H':α→SL}{vs:List Value}(hf:P.funcs[f]? =some fn)(hb:fn.body=some c)(hn:fn.ntmps=N)(hl:Nat.ble vs.length N=true)
  (h:EK ⟨P,N,W,bodyPost P fn (qV W r H')⟩ [.code c] (vw 0 vs) H):Spec P f vs W H r H':=by
 intro w hs
 subst hn
 have hl:=Nat.le_of_ble_eq_true hl
 refine calls_of_wp hf hb ?_
 refine wp_mono (h _ w ⟨?_,rfl,fun t v ht=> ?_⟩ hs) (fun e a w q=>q)
 ·simp;omega
 ·obtain⟨_,h2⟩:=C4 _ _ _ _ ht
  rw[Nat.sub_zero]at h2
  have ht:t<vs.length:=(List.getElem?_eq_some_iff.1 h2).1
  rw[Array.getElem?_append_left (by simpa using ht)]
  simpa using h2
section leave
variable {P:Program} {N:Nat} {W:World} {fn:Func} {α:Type} {r:α→Value} {H':α→SL}
theorem leaves {a:Act}{w:World}{e:Exit}(he:e= .normal∨e= .ret)(ha:Fits N a σ){v:Value}(hr:(results fn a.tmps).run P w= .ok v w)(x:α)(hx:v=r x)(hs:Sat W w (H' x)):bodyPost P fn (qV W r H') e a w:=by
 subst hx
 rcases he with rfl|rfl<;>exact⟨ha.defers,_,hr,x,rfl,hs⟩
theorem LD {a:Act}{w:World}(hf:fn.results= #[]):(results fn a.tmps).run P w= .ok (.tuple #[]) w:=by
 simp[results,hf,go_sem]
theorem LF {a:Act}{w:World}{t:Nat}{v:Value}(ha:Fits N a σ)(hf:fn.results= #[.tmp t])(ht:σ.get t=some v):(results fn a.tmps).run P w= .ok v w:=by
 have:=ha.n5 t v ht
 simp[results,hf,go_sem,this]
theorem Xx {a:Act}{w:World}{t s:Nat}{v u:Value}(ha:Fits N a σ)(hf:fn.results= #[.tmp t,.tmp s])(ht:σ.get t=some v)(hs:σ.get s=some u):(results fn a.tmps).run P w= .ok (.tuple #[v,u]) w:=by
 have h1:=ha.n5 t v ht
 have h2:=ha.n5 s u hs
 simp[results,hf,go_sem,h1,h2]
theorem dm (hf:fn.results= #[])(x:α)(hx: .tuple #[]=r x)(hs:∀w,Sat W w H→Sat W w (H' x)):ER ⟨P,N,W,bodyPost P fn (qV W r H')⟩ σ H:=fun _ w ha h=>leaves (.inr rfl) ha (LD hf) x hx (hs w h)
theorem aj {t:Nat}{v:Value}(hf:fn.results= #[.tmp t])(ht:σ.get t=some v)(x:α)(hx:v=r x)(hs:∀w,Sat W w H→Sat W w (H' x)):ER ⟨P,N,W,bodyPost P fn (qV W r H')⟩ σ H:=fun _ w ha h=>leaves (.inr rfl) ha (LF ha hf ht) x hx (hs w h)
theorem fz {t s:Nat}{v u:Value}(hf:fn.results= #[.tmp t,.tmp s])(ht:σ.get t=some v)(A9:σ.get s=some u)(x:α)(hx: .tuple #[v,u]=r x)(hs:∀w,Sat W w H→Sat W w (H' x)):ER ⟨P,N,W,bodyPost P fn (qV W r H')⟩ σ H:=fun _ w ha h=>leaves (.inr rfl) ha (Xx ha hf ht A9) x hx (hs w h)
theorem aF (hf:fn.results= #[])(x:α)(hx: .tuple #[]=r x)(hs:∀w,Sat W w H→Sat W w (H' x)):EN ⟨P,N,W,bodyPost P fn (qV W r H')⟩ σ H:=fun _ w ha h=>leaves (.inl rfl) ha (LD hf) x hx (hs w h)
end leave
theorem VB {p:Nat→Prop}:∀n,p n→∃m,p m∧∀j,p j→m≤j:=by
 intro n
 induction n using Nat.strongRecOn with
 |_ n ih=>
  intro hn
  by_cases h:∃j,j<n∧p j
  ·obtain⟨j,hj,hp⟩:=h
   exact ih j hj hp
  ·exact⟨n,hn,fun j hj=>Nat.le_of_not_lt fun bY=>h ⟨j,bY,hj⟩⟩
theorem fy {c:Code}{γ:Type}(φ:γ→Prop)(E:γ→Env)(G:γ→SL)(μ:γ→Nat)(g0:γ)(h0:φ g0)(he:Env.within σ (E g0))(hh:∀w,Sat X.W w H→Sat X.W w (G g0))
  (round:∀g,φ g→EK X (.code c:: .pO (fun a w=>∃g',φ g'∧μ g'<μ g∧Fits X.N a (E g')∧Sat X.W w (G g'))::k) (E g) (G g)):EK X (.code (.loop c)::k) σ H:=by
 intro a w ha hs
 let q:Act→World→Nat→Prop:=fun a w m=>∃g,μ g=m∧φ g∧Fits X.N a (E g)∧Sat X.W w (G g)
 let I:Act→World→Prop:=fun a w=>∃m,q a w m
 have JE:∀a w,∃m,I a w→q a w m∧∀j,q a w j→m≤j:=fun a w=>by
  by_cases h:I a w
  ·obtain⟨n,hn⟩:=h
   obtain⟨m,h1,h2⟩:=VB (p:=q a w) n hn
   exact⟨m,fun _=>⟨h1,h2⟩⟩
  ·exact⟨0,fun h'=>absurd h' h⟩
 let M:Act→World→Nat:=fun a w=>Classical.choose (JE a w)
 have hM:∀a w,I a w→q a w (M a w)∧∀j,q a w j→M a w≤j:=fun a w=>Classical.choose_spec (JE a w)
 refine wp_loop I M ⟨_,g0,rfl,h0,ha.within he,hh w hs⟩ ?_
 intro a w hI
 obtain⟨⟨g,h1,h2,h3,h4⟩,_⟩:=hM a w hI
 refine wp_mono (round g h2 a w h3 h4) ?_
 intro e a' w' hq
 cases e with
 |normal=>
  obtain⟨g',k1,k2,k3,k4⟩:=hq
  have Jc:I a' w':=⟨_,g',rfl,k1,k3,k4⟩
  have hle:=(hM a' w' Jc).2 (μ g') ⟨g',rfl,k1,k3,k4⟩
  exact⟨Jc,by omega⟩
 |exit id=>exact hq
 |goto l=>exact hq
 |ret=>exact hq
 |panic ch=>exact hq
 |outgrown=>exact hq
theorem cJ {γ:Type}{φ:γ→Prop}{E:γ→Env}{G:γ→SL}{μ:γ→Nat}{m:Nat}(g':γ)(h0:φ g')(hm:μ g'<m)(he:Env.within σ (E g'))(hh:∀w,Sat X.W w H→Sat X.W w (G g')):
  EK X (.pO (fun a w=>∃g',φ g'∧μ g'<m∧Fits X.N a (E g')∧Sat X.W w (G g'))::k) σ H:=
 Gx fun a w ha hs=>⟨g',h0,hm,ha.within he,hh w hs⟩
theorem kh {c:Code}{γ:Type}(φ:γ→Prop)(E:γ→Env)(G:γ→SL)(first:EK X (.code c:: .pO (fun a w=>∃g,φ g∧Fits X.N a (E g)∧Sat X.W w (G g))::k) σ H)(rest:∀g,φ g→EK X k (E g) (G g)):EK X (.code c::k) σ H:=by
 intro a w ha hs
 refine wp_mono (first a w ha hs) ?_
 intro e a' w' q
 cases e with
 |normal=>
  obtain⟨g,h1,h2,h3⟩:=q
  exact rest g h1 a' w' h2 h3
 |exit id=>exact q
 |goto l=>exact q
 |ret=>exact q
 |panic ch=>exact q
 |outgrown=>exact q
theorem dI {γ:Type}{φ:γ→Prop}{E:γ→Env}{G:γ→SL}(g':γ)(h0:φ g')(he:Env.within σ (E g'))(hh:∀w,Sat X.W w H→Sat X.W w (G g')):
  EK X (.pO (fun a w=>∃g',φ g'∧Fits X.N a (E g')∧Sat X.W w (G g'))::k) σ H:=
 Gx fun a w ha hs=>⟨g',h0,ha.within he,hh w hs⟩
theorem Nz {H1:SL}(hh:∀w,Sat X.W w H→Sat X.W w H1)(h:EK X k σ H1):EK X k σ H:=fun a w ha hs=>h a w ha (hh w hs)
theorem zD {H1:SL}(hh:∀w,Sat X.W w H→Sat X.W w H1)(h:EL X k ops l σ H1):EL X k ops l σ H:=fun a w ha hs=>h a w ha (hh w hs)
end
section
open Go.RowKit
class Frame (H P:SL)(F:outParam SL):Prop where eq:H=P*F
instance (priority:=2000) Frame.here (P F:SL):Frame (P*F) P F:=⟨rfl⟩
instance (priority:=900) Frame.there (Q R P F:SL)[h:Frame R P F]:Frame (Q*R) P (Q*F):=⟨by rw[h.eq];ac_rfl⟩
instance (priority:=500) Frame.last (P:SL):Frame P P 1:=⟨(SL.pL P).symm⟩
class bZ (H:SL)(p:Option Addr)(C:outParam SL)(F:outParam SL):Prop where eq:H=C*F
class lT (C:SL)(p:outParam (Option Addr)):Prop where
 nn:∀(W w:World) (F:SL),Sat W w (C*F)→p≠none
instance (priority:=900) bZ.there (Q R C F:SL)(p:Option Addr)[h:bZ R p C F]:bZ (Q*R) p C (Q*F):=⟨by rw[h.eq];ac_rfl⟩
def off (p:Option Addr)(i:Nat):Option Addr:=p.map (·.add i)
class Loc (q:Option Addr)(p:outParam (Option Addr))(i:outParam Nat):Prop where eq:q=off p i
instance (priority:=100) Loc.base (p:Option Addr):Loc p p 0:=⟨by cases p<;>simp[off,Addr.add]⟩
instance (priority:=2000) Loc.Bg (q p:Option Addr)(i j:Nat)[h:Loc q p i]:Loc (off q j) p (i+j):=⟨by
 rw[h.eq]
 cases p with
 |none=>rfl
 |some a=>
  simp only[Go.Proofs.YtfkngchldmfpfaaGreatDoor.off,Option.map_some,Addr.add]
  by_cases hi:i=0<;>by_cases hj:j=0<;>simp[hi,hj,Nat.add_assoc]⟩
class NN (H:SL)(q:Option Addr):Prop where nn:∀(W w:World),Sat W w H→q≠none
def Obj (p:Option Addr)(t:TypeId)(cs:List Value):SL:=SL.ex fun b:Nat=>SL.pure (p=some ⟨b,0,none⟩)*SL.cO b (.cells cs.toArray t (0,0))
instance (priority:=2000) bZ.obj (p:Option Addr)(t:TypeId)(cs:List Value)(F:SL):bZ (Obj p t cs*F) p (Obj p t cs) F:=⟨rfl⟩
theorem Obj.open {W w:World}{p:Option Addr}{t:TypeId}{cs:List Value}{F:SL}(h:Sat W w (Obj p t cs*F)):∃b,p=some ⟨b,0,none⟩∧Sat W w (SL.cO b (.cells cs.toArray t (0,0))*F):=by
 obtain⟨b,h⟩:=h.jA
 have h:=h.ac (SL.bP _ _ _)
 exact⟨b,h.out⟩
theorem Obj.shut {W w:World}{p:Option Addr}{t:TypeId}{cs:List Value}{F:SL}{b:Nat}(hp:p=some ⟨b,0,none⟩)(h:Sat W w (SL.cO b (.cells cs.toArray t (0,0))*F)):Sat W w (Obj p t cs*F):=
 Sat.Iz (P:=fun b:Nat=>SL.pure (p=some ⟨b,0,none⟩)*SL.cO b (.cells cs.toArray t (0,0))) b ((h.put hp).ac (SL.bP _ _ _).symm)
instance Obj.root (p:Option Addr)(t:TypeId)(cs:List Value):lT (Obj p t cs) p:=⟨fun W w F h=>by
 obtain⟨b,hp,_⟩:=Obj.open h
 simp[hp]⟩
instance NN.root (H C F:SL)(q p:Option Addr)(i:Nat)[hl:Loc q p i][h:bZ H p C F][r:lT C p]:NN H q:=⟨fun W w hs=>by
 have:=r.nn W w F (h.eq▸hs)
 rw[hl.eq]
 cases p with
 |none=>exact absurd rfl this
 |some a=>simp[Go.Proofs.YtfkngchldmfpfaaGreatDoor.off]⟩
theorem Obj.cell {W w:World}{p:Option Addr}{t:TypeId}{cs:List Value}{F:SL}(h:Sat W w (Obj p t cs*F)){i:Nat}{v:Value}(hv:cs[i]? =some v):∃a,off p i=some a∧w.cell? a=some v:=by
 obtain⟨b,rfl,hs⟩:=Obj.open h
 refine⟨(⟨b,0,none⟩:Addr).add i,rfl,?_⟩
 have:(⟨b,0,none⟩:Addr).add i=⟨b,i,none⟩:=by unfold Addr.add;split<;>simp_all
 rw[this,hs.cell]
 simpa using hv
theorem Sat.newObj {W w:World}{F:SL}(h:Sat W w F)(t:TypeId)(cs:List Value):Sat W (w.alloc (.cells cs.toArray t)) (Obj (some ⟨w.heap.size,0,none⟩) t cs*F):=Obj.shut rfl (h.alloc _)
class mH (P:Program)(t:TypeId)(k:outParam IntKind):Prop where h:P.underlying t=some (.int k)
class dK (P:Program)(t:TypeId):Prop where
 agg:∃d,P.underlying t=some d∧(match d with| .struct _=>false| .array .. =>false|_=>true)=true
 size:(P.info? t).map (·.size)=some 1
class ia (P:Program)(t:TypeId)(n:outParam Nat):Prop where
 agg:∃d,P.underlying t=some d∧(match d with| .struct _=>true| .array .. =>true|_=>false)=true
 size:(P.info? t).map (·.size)=some n
class dq (P:Program)(t:TypeId)(cs:outParam (List Value)):Prop where h:∃v,(P.info? t).map (·.zero)=some (some v)∧v.cells=cs.toArray
class au (P:Program)(s:TypeId)(f:Nat)(o:outParam Nat)(sz:outParam Nat):Prop where
 h:∃fs g,P.underlying s=some (.struct fs)∧fs[f]? =some g∧g.offset=o∧(P.info? g.type).map (·.size)=some sz∧sz≠0
class eY (P:Program)(t:TypeId)(e:outParam TypeId)(sz:outParam Nat)(cL:outParam Nat)(z:outParam (List Value)):Prop where
 under:P.underlying t=some (.slice e)
 info:∃v,(P.info? e).map (fun i=>(i.zero,i.size,i.bytes))=some (some v,sz,cL)∧v.cells=z.toArray
 pos:0<sz
 len:z.length=sz
variable {X:Cx} {k:List KI} {σ:Env} {H:SL}
theorem lf {P:Program}{t:TypeId}{α:Type}{g:TypeInfo→α}{y:α}(h:(P.info? t).map g=some y):∃i,P.info? t=some i∧g i=y:=by
 cases hi:P.info? t with
 |none=>rw[hi]at h;simp at h
 |some i=>rw[hi]at h;exact⟨i,rfl,by simpa using h⟩
def E7:IntKind→IntKind→Bool
 | .i8,.i8| .i16,.i16| .i32,.i32| .i64,.i64| .u8,.u8| .u16,.u16| .u32,.u32| .u64,.u64=>true
 |_,_=>false
theorem U4 {a b:IntKind}(h:E7 a b=true):a=b:=by cases a<;>cases b<;>first|rfl|cases h
def Ai (op:BinOp)(k:IntKind)(a b:Int):Option Value:=
 match op with
 | .add=>some (.int k (k.wrap (a+b)))
 | .sub=>some (.int k (k.wrap (a-b)))
 | .mul=>some (.int k (k.wrap (a*b)))
 | .and=>some (.int k (bits .and k a b))
 | .or=>some (.int k (bits .or k a b))
 | .xor=>some (.int k (bits .xor k a b))
 | .andNot=>some (.int k (bits .andNot k a b))
 | .eql=>some (.bool (decide (a=b)))
 | .neq=>some (.bool (!decide (a=b)))
 | .lss=>some (.bool (decide (a<b)))
 | .leq=>some (.bool (decide (a≤b)))
 | .gtr=>some (.bool (decide (a>b)))
 | .geq=>some (.bool (decide (a≥b)))
 |_=>none
def Dp (op:BinOp)(k:IntKind)(a b:Int):Option Value:=
 match op with
 | .and=>some (.int k (bits .and k a b))
 | .or=>some (.int k (bits .or k a b))
 | .xor=>some (.int k (bits .xor k a b))
 | .andNot=>some (.int k (bits .andNot k a b))
 |_=>none
def ue (σ:Env):Op→Option Value
 | .move x=>ev σ x
 | .assign x=>ev σ x
 | .pick c a b=>match ev σ c with
  |some (.bool true)=>ev σ a
  |some (.bool false)=>ev σ b
  |_=>none
 | .extract x i=>match ev σ x with
  |some (.tuple vs)=>vs.toList[i]?
  |_=>none
 | .unOp op _ x=>match op with
  | .not=>match ev σ x with
   |some (.bool b)=>some (.bool (!b))
   |_=>none
  |_=>none
 | .binOp op _ x y _=>match op with
  | .and| .or| .xor| .andNot=>match ev σ x with
   |some (.int k a)=>match ev σ y with
    |some (.int k' b)=>match E7 k k' with
     |true=>Dp op k a b
     |false=>none
    |_=>none
   |_=>none
  |_=>none
 |_=>none
def pb (σ:Env):Op→Option Value
 | .move x=>ev σ x
 | .assign x=>ev σ x
 | .pick c a b=>match ev σ c with
  |some (.bool true)=>ev σ a
  |some (.bool false)=>ev σ b
  |_=>none
 | .extract x i=>match ev σ x with
  |some (.tuple vs)=>vs.toList[i]?
  |_=>none
 | .unOp op _ x=>match op with
  | .not=>match ev σ x with
   |some (.bool b)=>some (.bool (!b))
   |_=>none
  |_=>none
 | .binOp op _ x y _=>match ev σ x with
  |some (.int k a)=>match ev σ y with
   |some (.int k' b)=>match E7 k k' with
    |true=>Ai op k a b
    |false=>none
   |_=>none
  |_=>none
 |_=>none
theorem R6 {P:Program}{w:World}{op:BinOp}{k:IntKind}{a b:Int}{v:Value}(h:Ai op k a b=some v):(binOp op 0 (.int k a) (.int k b)).run P w= .ok v w:=by
 unfold Ai at h
 split at h<;>simp only[Option.some.injEq,reduceCtorEq]at h<;>subst h<;>simp[binOp,go_sem,Op.intArith,Op.intCmp,Op.intBits,Sem.run,pure,bits]<;>first|rfl|skip
theorem QD {op:BinOp}{t:TypeId}{k:IntKind}{a b:Int}:binOp op t (.int k a) (.int k b)=binOp op 0 (.int k a) (.int k b):=by
 cases op<;>rfl
theorem kQ {o:Oper}{v:Value}(h:pb σ o.op=some v):an X σ H o v:=by
 intro a w ha _
 unfold execOp
 cases ho:o.op<;>rw[ho]at h<;>simp only[pb]at h<;>first|cases h;done|skip
 case move x=>simp only[ha.eval h];rfl
 case assign x=>simp only[ha.eval h];rfl
 case pick c x y=>
  split at h
  ·rename_i hc;simp only[ha.eval hc,ha.eval h];rfl
  ·rename_i hc;simp only[ha.eval hc,ha.eval h];rfl
  ·simp at h
 case extract x i=>
  split at h
  ·rename_i vs hc
   have h':vs[i]? =some v:=by simpa using h
   simp only[ha.eval hc,Instr.extract,h'];rfl
  ·simp at h
 case unOp op t x=>
  split at h
  ·split at h
   ·rename_i hc
    simp only[Option.some.injEq]at h
    subst h
    simp only[ha.eval hc];rfl
   ·simp at h
  ·simp at h
 case binOp op t x y ty=>
  split at h
  ·rename_i k' a' hx
   split at h
   ·rename_i k2 b' hy
    split at h
    ·rename_i hk
     obtain rfl:=U4 hk
     have:=R6 (P:=X.P) (w:=w) h
     simp only[ha.eval hx,ha.eval hy,QD]
     have hg:∀p q,(eqGuard op t p q (.int k' a') (.int k' b')).run X.P w= .ok () w:=fun p q=>by
      unfold eqGuard
      cases op<;>rfl
     simp[Sem.run_bind,hg,this,go_sem]
    ·simp at h
   ·simp at h
  ·simp at h
 all_goals simp at h
theorem R5 {op:BinOp}{k:IntKind}{a b:Int}{v:Value}(h:Dp op k a b=some v):Ai op k a b=some v:=by
 unfold Dp at h
 split at h<;>first|exact h|cases h
theorem R8 {op:Op}{v:Value}(h:ue σ op=some v):pb σ op=some v:=by
 cases op<;>simp only[ue]at h<;>first|exact h|(cases h;done)|skip
 case binOp op t x y ty=>
  simp only[pb]
  split at h<;>first|(cases h;done)|skip
  all_goals
   split at h<;>first|(cases h;done)|skip
   split at h<;>first|(cases h;done)|skip
   split at h<;>first|(cases h;done)|skip
   exact R5 h
theorem gQ {o:Oper}{v:Value}(h:ue σ o.op=some v):an X σ H o v:=kQ (R8 h)
def mC:List Value→Nat→List Value→Option (List Value)
 |cs,0,[]=>some cs
 |_::cs,0,v::vs=>match mC cs 0 vs with
  |some l=>some (v::l)
  |none=>none
 |c::cs,n+1,vs=>match mC cs n vs with
  |some l=>some (c::l)
  |none=>none
 |[],0,_::_=>none
 |[],_+1,_=>none
theorem B1:∀ {cs vs eG:List Value} {i:Nat},mC cs i vs=some eG→i+vs.length≤cs.length∧eG=cs.take i++vs++cs.drop (i+vs.length)
 |cs,[],eG,0,h=>by
  have:cs=eG:=by cases cs<;>simpa[mC]using h
  subst this
  simp
 |c::cs,v::vs,eG,0,h=>by
  simp only[mC]at h
  split at h
  ·rename_i l hl
   simp only[Option.some.injEq]at h
   subst h
   obtain⟨h1,h2⟩:=B1 hl
   subst h2
   simp at h1 ⊢
   exact h1
  ·simp at h
 |c::cs,vs,eG,n+1,h=>by
  simp only[mC]at h
  split at h
  ·rename_i l hl
   simp only[Option.some.injEq]at h
   subst h
   obtain⟨h1,h2⟩:=B1 hl
   subst h2
   refine⟨by simp only[List.length_cons];omega,?_⟩
   rw[show n+1+vs.length=(n+vs.length)+1 by omega]
   simp
  ·simp at h
 |[],_::_,_,0,h=>by simp[mC]at h
 |[],[],_,n+1,h=>by simp[mC]at h
 |[],_::_,_,n+1,h=>by simp[mC]at h
def oP:List Value→Nat→Nat→Option (List Value)
 |_,0,0=>some []
 |c::cs,0,n+1=>match oP cs 0 n with
  |some l=>some (c::l)
  |none=>none
 |_::cs,i+1,n=>oP cs i n
 |[],0,_+1=>none
 |[],_+1,_=>none
theorem za:∀ {cs l:List Value} {i n:Nat},oP cs i n=some l→i+n≤cs.length∧l=(cs.drop i).take n
 |cs,l,0,0,h=>by
  have:[]=l:=by cases cs<;>simpa[oP]using h
  subst this
  simp
 |c::cs,l,0,n+1,h=>by
  simp only[oP]at h
  split at h
  ·rename_i m hm
   simp only[Option.some.injEq]at h
   subst h
   obtain⟨h1,h2⟩:=za hm
   subst h2
   simp at h1 ⊢
   exact h1
  ·simp at h
 |c::cs,l,i+1,n,h=>by
  have h':oP cs i n=some l:=by cases n<;>simpa[oP]using h
  obtain⟨h1,h2⟩:=za h'
  exact⟨by simp only[List.length_cons];omega,by simpa using h2⟩
 |[],_,0,n+1,h=>by simp[oP]at h
 |[],_,i+1,n,h=>by cases n<;>simp[oP]at h
def gR:Value→List Value
 | .agg cs=>cs.toList
 |v=>[v]
theorem qd (v:Value):v.cells.toList=gR v:=by cases v<;>rfl
def vD (v:Value):Option (List Value):=match v with
 | .agg ⟨l⟩=>some l
 |v=>some [v]
theorem Aa {v:Value}{l:List Value}(h:vD v=some l):gR v=l:=by
 unfold vD at h
 split at h
 ·simpa[gR]using h
 ·rename_i hn
  simp only[Option.some.injEq]at h
  subst h
  cases v<;>first|rfl|exact absurd rfl (hn _)
def dA (l:List Value):Bool:=l.all Value.oneCell'
theorem WS {l:List Value}(h:dA l=true):∀v∈l,v.oneCell'=true:=fun v hv=>List.all_eq_true.1 h v hv
theorem pZ (b o i:Nat):(⟨b,o,none⟩:Addr).add i=⟨b,o+i,none⟩:=by unfold Addr.add;split<;>simp_all
theorem HQ {P:Program}{W w:World}{F:SL}{b o n:Nat}{t:TypeId}{cur:List Value}(h:Sat W w (SL.cO b (.cells cur.toArray t (0,0))*F))(hn:o+n≤cur.length):
  (loadCells ⟨b,o,none⟩ n).run P w= .ok ((cur.drop o).take n).toArray w:=by
 have hl:((cur.drop o).take n).length=n:=by simp;omega
 have:=run_loadCells_list (P:=P) w ⟨b,o,none⟩ ((cur.drop o).take n) fun j v hv=>by
  rw[pZ,h.cell]
  rw[List.getElem?_take]at hv
  split at hv
  ·rw[List.getElem?_drop]at hv
   simpa using hv
  ·simp at hv
 rwa[hl]at this
theorem C7 {P:Program}{W w:World}{F:SL}{b o:Nat}{t:TypeId}{cur vs:List Value}(h:Sat W w (SL.cO b (.cells cur.toArray t (0,0))*F))(hn:o+vs.length≤cur.length)(h1:dA vs=true):
  ∃w',(storeCells ⟨b,o,none⟩ vs).run P w= .ok () w'∧Sat W w' (SL.cO b (.cells (cur.take o++vs++cur.drop (o+vs.length)).toArray t (0,0))*F):=by
 have hg:=h.get
 refine⟨_,run_storeCells_at P b o t vs 0 cur.toArray w hg (by simpa using hn) (WS h1),?_⟩
 simp only[Nat.add_zero]
 exact h.write (by simp) rfl rfl rfl (fun k _ hk=>setRow_other w b k _ hk) (setRow_heap w b _ _ _ _ hg)
class cV (P:Program)(t:TypeId)(n:outParam Nat):Prop where size:(P.info? t).map (·.size)=some n
variable {o:Oper}
theorem LS {P:Program}{t:TypeId}{n:Nat}[s:cV P t n](w:World):(sizeOf t).run P w= .ok n w:=by
 obtain⟨i,hi,hs⟩:=lf s.size
 simp[sizeOf,typeInfo,hi,hs,go_sem]
theorem fY {x:Operand}{q:Option Addr}(ho:o.op= .nilCheck x)(hx:ev σ x=some (.pointer q))[n:NN H q]:an X σ H o (.pointer q):=by
 intro a w ha hs
 have:=n.nn _ w hs
 cases q with
 |none=>exact absurd rfl this
 |some q=>simp only[execOp,ho,ha.eval hx];rfl
theorem eX {x:Operand}{q:Option Addr}{s:TypeId}{f i sz:Nat}(ho:o.op= .fieldAddr s x f)(hx:ev σ x=some (.pointer q))[n:NN H q][t:au X.P s f i sz]:an X σ H o (.pointer (off q i)):=by
 intro a w ha hs
 have:=n.nn _ w hs
 cases q with
 |none=>exact absurd rfl this
 |some q=>
  obtain⟨fs,g,h1,h2,h3,h4,h5⟩:=t.h
  obtain⟨j,hj,du⟩:=lf h4
  simp only[execOp,ho,ha.eval hx]
  simp[Instr.fieldAt,Instr.sureAddr,run_underlying h1,h2,fieldPlace,sizeOf,typeInfo,hj,du,h5,h3,off,go_sem]
theorem oc {x:Operand}{q p:Option Addr}{t t0:TypeId}{i:Nat}{cs:List Value}{F:SL}{v:Value}(ho:o.op= .load t x)(hx:ev σ x=some (.pointer q))[c:dK X.P t][l:Loc q p i][r:bZ H p (Obj p t0 cs) F](hv:cs[i]? =some v):an X σ H o v:=by
 intro a w ha hs
 obtain⟨b,hb,hc⟩:=Obj.cell (r.eq▸hs) hv
 rw[←l.eq]at hb
 subst hb
 obtain⟨d,h1,h2⟩:=c.agg
 simp only[execOp,ho,ha.eval hx]
 cases d<;>simp at h2<;>simp[Instr.loadAt,Instr.sureAddr,loadVar,isAgg,run_underlying h1,load,Sem.run,hc,go_sem]
theorem O4 {x:Operand}{q p:Option Addr}{t t0:TypeId}{i n:Nat}{cs vs:List Value}{F:SL}(ho:o.op= .load t x)(hx:ev σ x=some (.pointer q))[c:ia X.P t n][l:Loc q p i][r:bZ H p (Obj p t0 cs) F](hv:oP cs i n=some vs):an X σ H o (.agg vs.toArray):=by
 intro a w ha hs
 obtain⟨b,hb,fH⟩:=Obj.open (r.eq▸hs)
 have hq:=l.eq
 rw[hb]at hq
 simp only[off,Option.map_some,pZ,Nat.zero_add]at hq
 subst hq
 obtain⟨d,h1,h2⟩:=c.agg
 obtain⟨j,hj,du⟩:=lf c.size
 obtain⟨hl,rfl⟩:=za hv
 have:=HQ (P:=X.P) fH hl
 unfold loadCells at this
 simp only[execOp,ho,ha.eval hx]
 cases d<;>simp at h2<;>simp[Instr.loadAt,Instr.sureAddr,loadVar,isAgg,run_underlying h1,sizeOf,typeInfo,hj,du,this,go_sem]
theorem XL {P:Program}{W w:World}{F:SL}{b i n:Nat}{t t0:TypeId}{cur:List Value}{v:Value}[s:cV P t n](h:Sat W w (SL.cO b (.cells cur.toArray t0 (0,0))*F))(hn:(gR v).length=n)(hi:i+n≤cur.length)(h1:dA (gR v)=true):
  ∃w',(storeVar t ⟨b,i,none⟩ v).run P w= .ok () w'∧Sat W w' (SL.cO b (.cells (cur.take i++gR v++cur.drop (i+n)).toArray t0 (0,0))*F):=by
 subst hn
 obtain⟨w',h2,h3⟩:=C7 (P:=P) h hi h1
 refine⟨w',?_,h3⟩
 have hc:v.cells.size=(gR v).length:=by rw[←qd,Array.length_toList]
 simp only[storeVar,Sem.run_bind,LS,Result.andThen_ok,hc,ne_eq,not_true_eq_false,if_false,qd,h2]
theorem cr {x y:Operand}{q p:Option Addr}{t t0:TypeId}{i n:Nat}{cs eG:List Value}{F:SL}{v:Value}(ho:o.op= .store t x y)(hx:ev σ x=some (.pointer q))(hy:ev σ y=some v)[c:cV X.P t n][l:Loc q p i][r:bZ H p (Obj p t0 cs) F]
  (hv:mC cs i (gR v)=some eG) (hn:Nat.beq (gR v).length n=true) (h1:dA (gR v)=true):aU X σ H o (Obj p t0 eG*F):=by
 intro a w ha hs
 obtain⟨b,hb,fH⟩:=Obj.open (r.eq▸hs)
 have hq:=l.eq
 rw[hb]at hq
 simp only[off,Option.map_some,pZ,Nat.zero_add]at hq
 subst hq
 obtain⟨hl,rfl⟩:=B1 hv
 have hn:=Nat.eq_of_beq_eq_true hn
 subst hn
 obtain⟨w',h2,h3⟩:=XL (P:=X.P) (t:=t) fH rfl hl h1
 refine⟨w',?_,Obj.shut hb h3⟩
 simp only[execOp,ho,ha.eval hx,ha.eval hy,Instr.storeAt,Instr.sureAddr,Sem.run_bind,Sem.run_pure,Result.andThen_ok,h2]
theorem sF {t:TypeId}{cs:List Value}(ho:o.op= .alloc t)[z:dq X.P t cs]:aR X σ H o (fun p:Option Addr=> .pointer p) (fun p=>Obj p t cs*H):=by
 intro a w ha hs
 obtain⟨v,h1,h2⟩:=z.h
 obtain⟨j,hj,hz⟩:=lf h1
 refine⟨_,_,?_,hs.newObj t cs⟩
 simp only[execOp,ho]
 simp[Instr.alloc,zeroValue,typeInfo,hj,hz,newVar,newRow,go_sem]
 exact congrArg (fun c=>w.alloc (.cells c t)) h2
theorem OC {t:TypeId}{x:Operand}{v:Value}{cs:List Value}(ho:o.op= .box t x)(hx:ev σ x=some v)(hv:vD v=some cs):aR X σ H o (fun p:Option Addr=> .pointer p) (fun p=>Obj p t cs*H):=by
 intro a w ha hs
 obtain rfl:=Aa hv
 refine⟨_,_,?_,hs.newObj t (gR v)⟩
 have hc:v.cells=(gR v).toArray:=by rw[←qd,Array.toArray_toList]
 simp only[execOp,ho,ha.eval hx]
 simp[Instr.box,newVar,newRow,go_sem]
 exact congrArg (fun c=>w.alloc (.cells c t)) hc
end
section
open Go.RowKit
class q9 (P:Program)(t:TypeId):Prop where h:P.underlying t=some .string
class zR (P:Program)(t:TypeId):Prop where h:P.underlying t=some .bool
class iT (P:Program)(t:TypeId)(e:outParam TypeId):Prop where h:P.underlying t=some (.pointer e)
class pY (P:Program)(t:TypeId)(n:outParam Nat)(sz:outParam Nat):Prop where
 h:∃e,P.underlying t=some (.array n e)∧(P.info? e).map (·.size)=some sz
 pos:0<sz
class bQ (z:Int)(i:outParam Nat):Prop where eq:z=(i:Int)
instance (priority:=1500) bQ.cast (i:Nat):bQ (i:Int) i:=⟨rfl⟩
instance bQ.add (a b:Int)(i j:Nat)[h:bQ a i][g:bQ b j]:bQ (a+b) (i+j):=⟨by rw[h.eq,g.eq,Int.natCast_add]⟩
instance bQ.mul (a b:Int)(i j:Nat)[h:bQ a i][g:bQ b j]:bQ (a*b) (i*j):=⟨by rw[h.eq,g.eq,Int.natCast_mul]⟩
instance bQ.div (a b:Int)(i j:Nat)[h:bQ a i][g:bQ b j]:bQ (a/b) (i/j):=⟨by rw[h.eq,g.eq,Int.natCast_ediv]⟩
instance bQ.mod (a b:Int)(i j:Nat)[h:bQ a i][g:bQ b j]:bQ (a%b) (i%j):=⟨by rw[h.eq,g.eq,Int.natCast_emod]⟩
instance (priority:=1600) bQ.l0:bQ 0 0:=⟨rfl⟩
instance (priority:=1600) bQ.l1:bQ 1 1:=⟨rfl⟩
instance (priority:=1600) bQ.l2:bQ 2 2:=⟨rfl⟩
instance (priority:=1600) bQ.l3:bQ 3 3:=⟨rfl⟩
instance (priority:=1600) bQ.l4:bQ 4 4:=⟨rfl⟩
instance (priority:=1600) bQ.l6:bQ 6 6:=⟨rfl⟩
instance (priority:=1600) bQ.l7:bQ 7 7:=⟨rfl⟩
instance (priority:=1600) bQ.l8:bQ 8 8:=⟨rfl⟩
instance (priority:=1600) bQ.l9:bQ 9 9:=⟨rfl⟩
instance (priority:=1600) bQ.l10:bQ 10 10:=⟨rfl⟩
instance (priority:=1600) bQ.l11:bQ 11 11:=⟨rfl⟩
instance (priority:=1600) bQ.l12:bQ 12 12:=⟨rfl⟩
instance (priority:=1600) bQ.l13:bQ 13 13:=⟨rfl⟩
instance (priority:=1600) bQ.l16:bQ 16 16:=⟨rfl⟩
instance (priority:=1600) bQ.l17:bQ 17 17:=⟨rfl⟩
instance (priority:=1600) bQ.l20:bQ 20 20:=⟨rfl⟩
instance (priority:=1600) bQ.l28:bQ 28 28:=⟨rfl⟩
instance (priority:=1600) bQ.l40:bQ 40 40:=⟨rfl⟩
def ad (e sz:Nat)(p:Option Addr)(n cap:Nat)(xs:List Value):SL:=fun h=>
 (xs.length=n*sz∧n≤cap∧cap≤maxLen)∧((True∧cap=0∧SL.emp h)∨
  ∃(g o:Nat) (cur:List Value),p=some ⟨g,o,none⟩∧o+cap*sz≤cur.length∧(cur.drop o).take (n*sz)=xs∧SL.cO g (.cells cur.toArray e (0,0)) h)
instance (priority:=2000) bZ.row (e sz:Nat)(p:Option Addr)(n cap:Nat)(xs:List Value)(F:SL):bZ (ad e sz p n cap xs*F) p (ad e sz p n cap xs) F:=⟨rfl⟩
section rows
variable {W w:World} {F:SL} {e sz n cap:Nat} {p:Option Addr} {xs:List Value}
theorem ad.open (h:Sat W w (ad e sz p n cap xs*F)):(xs.length=n*sz∧n≤cap∧cap≤maxLen)∧((True∧cap=0∧Sat W w F)∨
  ∃(g o:Nat) (cur:List Value),p=some ⟨g,o,none⟩∧o+cap*sz≤cur.length∧(cur.drop o).take (n*sz)=xs∧Sat W w (SL.cO g (.cells cur.toArray e (0,0))*F)):=by
 have hd:=h.drop
 obtain⟨hb,x,⟨h1,h2,⟨hl,⟨hp,hc,he⟩|⟨g,o,cur,a1,a2,a3,a4⟩⟩,q,d,e'⟩,hx⟩:=h
 ·exact⟨hl,.inl ⟨hp,hc,hd⟩⟩
 ·exact⟨hl,.inr ⟨g,o,cur,a1,a2,a3,hb,x,⟨h1,h2,a4,q,d,e'⟩,hx⟩⟩
theorem ad.len (h:Sat W w (ad e sz p n cap xs*F)):xs.length=n*sz∧n≤cap∧cap≤maxLen:=(ad.open h).1
theorem ad.ZZ (e sz:Nat)(p:Option Addr)(h:Sat W w F):Sat W w (ad e sz p 0 0 []*F):=by
 obtain⟨hb,x,q,hx⟩:=h
 exact⟨hb,x,⟨fun _=>none,x,⟨by simp,.inl ⟨trivial,rfl,fun _=>rfl⟩⟩,q,fun _=> .inl rfl,fun _=>by simp⟩,hx⟩
theorem ad.Wq (e sz:Nat)(h:Sat W w F):Sat W w (ad e sz none 0 0 []*F):=ad.ZZ e sz none h
theorem ad.shut {g o:Nat}{cur:List Value}(hl:n≤cap)(hm:cap≤maxLen)(h1:o+cap*sz≤cur.length)(h2:(cur.drop o).take (n*sz)=xs)(h:Sat W w (SL.cO g (.cells cur.toArray e (0,0))*F)):Sat W w (ad e sz (some ⟨g,o,none⟩) n cap xs*F):=by
 refine h.left fun x hx=>⟨⟨?_,hl,hm⟩,.inr ⟨g,o,cur,rfl,h1,h2,hx⟩⟩
 rw[←h2,List.length_take,List.length_drop]
 have:=Nat.mul_le_mul_right sz hl
 omega
theorem ad.cell (h:Sat W w (ad e sz p n cap xs*F)){i:Nat}{v:Value}(hv:xs[i]? =some v):∃a,off p i=some a∧w.cell? a=some v:=by
 obtain⟨⟨hl,hn,hm⟩,⟨_,hc,_⟩|⟨g,o,cur,rfl,h1,h2,hs⟩⟩:=ad.open h
 ·have h0:n=0:=by omega
  subst h0
  have:xs=[]:=List.eq_nil_of_length_eq_zero (by simpa using hl)
  subst this
  simp at hv
 ·refine⟨(⟨g,o,none⟩:Addr).add i,rfl,?_⟩
  rw[pZ,hs.cell]
  rw[←h2,List.getElem?_take]at hv
  split at hv
  ·rw[List.getElem?_drop]at hv
   simpa using hv
  ·simp at hv
theorem ad.nn (h:Sat W w (ad e sz p n cap xs*F))(hn:0<n):p≠none:=by
 obtain⟨⟨_,qy,_⟩,⟨_,hc,_⟩|⟨g,o,cur,rfl,_⟩⟩:=ad.open h
 ·omega
 ·simp
theorem ad.write {P:Program}(h:Sat W w (ad e sz p n cap xs*F)){i:Nat}{vs:List Value}(hi:i+vs.length≤n*sz)(hv:0<vs.length)(h1:dA vs=true):
  ∃a w',off p i=some a∧(storeCells a vs).run P w= .ok () w'∧Sat W w' (ad e sz p n cap (xs.take i++vs++xs.drop (i+vs.length))*F):=by
 obtain⟨⟨hl,hn,hm⟩,⟨_,hc,_⟩|⟨g,o,cur,rfl,h2,h3,hs⟩⟩:=ad.open h
 ·have h0:n=0:=by omega
  subst h0
  omega
 ·have hle:=Nat.mul_le_mul_right sz hn
  obtain⟨w',h4,h5⟩:=C7 (P:=P) (o:=o+i) hs (by omega) h1
  refine⟨(⟨g,o,none⟩:Addr).add i,w',rfl,by rw[pZ];exact h4,ad.shut hn hm ?_ ?_ h5⟩
  ·simp;omega
  ·subst h3
   apply List.ext_getElem?
   intro j
   simp only[List.getElem?_take,List.getElem?_drop,List.getElem?_append,List.length_append,List.length_take,List.length_drop]
   repeat' split
   all_goals first
    |rfl
    |omega
    |(congr 1;omega)
    |skip
end rows
def el (p:Option Addr)(i sz:Nat):Option Addr:=off p (i*sz)
class lS (q:Option Addr)(p:outParam (Option Addr))(i sz j:outParam Nat):Prop where eq:q=off p (i*sz+j)
instance (priority:=2000) lS.iEl (p:Option Addr)(i sz:Nat):lS (el p i sz) p i sz 0:=⟨rfl⟩
instance (priority:=3000) lS.aeC (p:Option Addr)(i sz k:Nat):lS (off (el p i sz) k) p i sz k:=⟨(@Loc.eq _ _ _ (@Loc.Bg (Go.Proofs.YtfkngchldmfpfaaGreatDoor.off p (i*sz)) p (i*sz) k ⟨rfl⟩))⟩
instance (priority:=1000) lS.Bg (q p:Option Addr)(i sz j k:Nat)[h:lS q p i sz j]:lS (off q k) p i sz (j+k):=⟨by
 rw[h.eq]
 have:= @Loc.eq _ _ _ (@Loc.Bg (Go.Proofs.YtfkngchldmfpfaaGreatDoor.off p (i*sz+j)) p (i*sz+j) k ⟨rfl⟩)
 rw[this,Nat.add_assoc]⟩
class hU (xs:List Value)(i sz j:Nat)(v:outParam Value)(φ:outParam Prop):Prop where get:φ→xs[i*sz+j]? =some v
class kR (xs:List Value)(i sz j:Nat)(vs:List Value)(ys:outParam (List Value))(φ:outParam Prop):Prop where
 set:φ→i*sz+j+vs.length≤xs.length∧ys=xs.take (i*sz+j)++vs++xs.drop (i*sz+j+vs.length)
class oV (xs:List Value)(i sz:Nat)(vs:outParam (List Value))(φ:outParam Prop):Prop where all:φ→vs.length=sz∧∀j v,vs[j]? =some v→xs[i*sz+j]? =some v
class gP (xs:List Value):Prop where dA:dA xs=true
instance gP.nil:gP []:=⟨rfl⟩
instance gP.int (k:IntKind)(z:Int)(l:List Value)[h:gP l]:gP (.int k z::l):=⟨by have:=h.dA;simpa[Go.Proofs.YtfkngchldmfpfaaGreatDoor.dA,Value.oneCell']using this⟩
instance gP.bool (z:Bool)(l:List Value)[h:gP l]:gP (.bool z::l):=⟨by have:=h.dA;simpa[Go.Proofs.YtfkngchldmfpfaaGreatDoor.dA,Value.oneCell']using this⟩
instance gP.ptr (z:Option Addr)(l:List Value)[h:gP l]:gP (.pointer z::l):=⟨by have:=h.dA;simpa[Go.Proofs.YtfkngchldmfpfaaGreatDoor.dA,Value.oneCell']using this⟩
instance gP.slice (z:Option Addr)(n c:Nat)(l:List Value)[h:gP l]:gP (.slice z n c::l):=⟨by have:=h.dA;simpa[Go.Proofs.YtfkngchldmfpfaaGreatDoor.dA,Value.oneCell']using this⟩
class Src (W:World)(H:SL)(p:Option Addr)(n:outParam Nat)(xs:outParam (List Value)):Prop where
 cells:∀w,Sat W w H→∀i v,xs[i]? =some v→∃a,off p i=some a∧w.cell? a=some v
 nn:∀w,Sat W w H→0<n→p≠none
instance (priority:=900) Src.row (W:World)(H F:SL)(e sz n cap:Nat)(p:Option Addr)(xs:List Value)[r:bZ H p (ad e sz p n cap xs) F]:Src W H p n xs where
 cells:=fun w hs i v hv=>ad.cell (r.eq▸hs) hv
 nn:=fun w hs hn=>ad.nn (r.eq▸hs) hn
class Ro (W:World)(p:Option Addr)(n:outParam Nat)(xs:outParam (List Value)):Prop where
 cells:∀i v,xs[i]? =some v→∃a,off p i=some a∧a.block<W.heap.size∧W.cell? a=some v
 nn:0<n→p≠none
instance (priority:=2000) Src.ro (W:World)(H:SL)(n:Nat)(p:Option Addr)(xs:List Value)[r:Ro W p n xs]:Src W H p n xs where
 cells:=fun w hs i v hv=>by
  obtain⟨a,h1,h2,h3⟩:=r.cells i v hv
  exact⟨a,h1,by rw[hs.below.cell h2];exact h3⟩
 nn:=fun _ _ hn=>r.nn hn
variable {X:Cx} {k:List KI} {σ:Env} {H:SL} {o:Oper}
theorem O2 {x:Operand}{p:Option Addr}{n cap:Nat}{t e sz cL:Nat}{z:List Value}(ho:o.op= .call {callee:= .builtin .len,args:= #[x],argTypes:= #[t]})(hx:ev σ x=some (.slice p n cap))[s:eY X.P t e sz cL z]:an X σ H o (.int .i64 (n:Int)):=by
 intro a w ha hs
 simp only[execOp,ho,resolve,invoke,builtin,Sem.run_bind,Sem.run_pure,Result.andThen_ok,List.map_toArray,List.map_cons,List.map_nil,ha.eval hx]
 simp[Builtin.len_,run_underlying s.under,go_sem]
theorem OX {x y:Operand}{p:Option Addr}{n cap i:Nat}{zi:Int}{ik:IntKind}{t e sz cL:Nat}{z xs:List Value}(ho:o.op= .indexAddr t x y)(hx:ev σ x=some (.slice p n cap))(hy:ev σ y=some (.int ik zi))[s:eY X.P t e sz cL z][m:bQ zi i]
  {n0:Nat} [r:Src X.W H p n0 xs] (hi:i<n) (pv:i<n0):an X σ H o (.pointer (el p i sz)):=by
 intro a w ha hs
 have hp:=r.nn w hs (by omega)
 have hz:=m.eq
 subst hz
 obtain⟨v,h1,h2⟩:=s.info
 obtain⟨j,hj,du⟩:=lf h1
 have D3:j.size=sz:=by
  have:=congrArg (fun q=>q.2.1) du
  simpa using this
 cases p with
 |none=>exact absurd rfl hp
 |some g=>
  simp only[execOp,ho,ha.eval hx,ha.eval hy]
  have e1:(0:Int)≤(i:Int)∧(i:Int)<(n:Int):=by omega
  simp[Instr.indexAt,asIntOf,run_underlying s.under,sizeOf,typeInfo,hj,D3,e1,el,off,go_sem]
  intro;omega
theorem O7 {x:Operand}{q p:Option Addr}{t i sz j n:Nat}{xs:List Value}{v:Value}{φ:Prop}(ho:o.op= .load t x)(hx:ev σ x=some (.pointer q))[c:dK X.P t][l:lS q p i sz j][r:Src X.W H p n xs][g:hU xs i sz j v φ](hφ:φ):an X σ H o v:=by
 intro a w ha hs
 obtain⟨b,hb,hc⟩:=r.cells w hs _ _ (g.get hφ)
 rw[←l.eq]at hb
 subst hb
 obtain⟨d,h1,h2⟩:=c.agg
 simp only[execOp,ho,ha.eval hx]
 cases d<;>simp at h2<;>simp[Instr.loadAt,Instr.sureAddr,loadVar,isAgg,run_underlying h1,load,Sem.run,hc,go_sem]
end
section
open Go.RowKit
variable {X:Cx} {k:List KI} {σ:Env} {H:SL} {o:Oper}
def cG (k:IntKind)(z:Int):Prop:=match k with
 | .i8=> -128≤z∧z≤127
 | .i16=> -32768≤z∧z≤32767
 | .i32=> -2147483648≤z∧z≤2147483647
 | .i64=> -9223372036854775808≤z∧z≤9223372036854775807
 | .u8=>0≤z∧z≤255
 | .u16=>0≤z∧z≤65535
 | .u32=>0≤z∧z≤4294967295
 | .u64=>0≤z∧z≤18446744073709551615
theorem cG.wrap {k:IntKind}{z:Int}(h:cG k z):k.wrap z=z:=by
 cases k<;>simp only[cG]at h<;>simp[IntKind.wrap,IntKind.bits,IntKind.signed]<;>first|omega|(split<;>omega)
theorem zI {k:IntKind}{z z':Int}(h:an X σ H o (.int k z))(e:z=z'):an X σ H o (.int k z'):=e▸h
theorem OJ {x y:Operand}{t u:TypeId}{k:IntKind}{a b:Int}(ho:o.op= .binOp .add t x y u)(hx:ev σ x=some (.int k a))(hy:ev σ y=some (.int k b))(hr:cG k (a+b)):an X σ H o (.int k (a+b)):=
 zI (kQ (by rw[ho];simp only[pb,hx,hy];cases k<;>rfl)) hr.wrap
theorem Pv {x y:Operand}{t u:TypeId}{k:IntKind}{a b:Int}(ho:o.op= .binOp .sub t x y u)(hx:ev σ x=some (.int k a))(hy:ev σ y=some (.int k b))(hr:cG k (a-b)):an X σ H o (.int k (a-b)):=
 zI (kQ (by rw[ho];simp only[pb,hx,hy];cases k<;>rfl)) hr.wrap
theorem Pc {x y:Operand}{t u:TypeId}{k:IntKind}{a b:Int}(ho:o.op= .binOp .mul t x y u)(hx:ev σ x=some (.int k a))(hy:ev σ y=some (.int k b))(hr:cG k (a*b)):an X σ H o (.int k (a*b)):=
 zI (kQ (by rw[ho];simp only[pb,hx,hy];cases k<;>rfl)) hr.wrap
theorem R1 {op:BinOp}{t:TypeId}{p q:Operand}{k k':IntKind}{a b:Int}{P:Program}{w:World}:(eqGuard op t p q (.int k a) (.int k' b)).run P w= .ok () w:=by
 unfold eqGuard
 cases op<;>rfl
theorem wW {op:BinOp}{x y:Operand}{t u:TypeId}{k k':IntKind}{a b:Int}{v:Value}(ho:o.op= .binOp op t x y u)(hx:ev σ x=some (.int k a))(hy:ev σ y=some (.int k' b))(hv:∀P w,(binOp op t (.int k a) (.int k' b)).run P w= .ok v w):an X σ H o v:=by
 intro a' w ha hs
 simp only[execOp,ho,ha.eval hx,ha.eval hy]
 simp[Sem.run_bind,R1,hv,go_sem]
theorem Pg {x y:Operand}{t u:TypeId}{k:IntKind}{a b:Int}(ho:o.op= .binOp .quo t x y u)(hx:ev σ x=some (.int k a))(hy:ev σ y=some (.int k b))(ha:0≤a)(hb:0<b)(hr:cG k a):an X σ H o (.int k (a/b)):=by
 refine wW ho hx hy fun P w=> ?_
 have h1:¬b=0:=by omega
 have h3:a/b≤a:=Int.ediv_le_self _ ha
 have h4:0≤a/b:=Int.ediv_nonneg ha (by omega)
 have h2:k.wrap (a.tdiv b)=a/b:=by
  rw[Int.tdiv_eq_ediv_of_nonneg ha]
  refine cG.wrap ?_
  cases k<;>simp only[cG]at hr ⊢ <;>omega
 simp[binOp,Op.intDiv,h1,h2,go_sem]
theorem Ph {x y:Operand}{t u:TypeId}{k:IntKind}{a b:Int}(ho:o.op= .binOp .rem t x y u)(hx:ev σ x=some (.int k a))(hy:ev σ y=some (.int k b))(ha:0≤a)(hb:0<b):an X σ H o (.int k (a%b)):=by
 refine wW ho hx hy fun P w=> ?_
 have h1:¬b=0:=by omega
 simp[binOp,Op.intDiv,h1,Int.tmod_eq_emod_of_nonneg ha,go_sem]
theorem Pj {x y:Operand}{t u:TypeId}{k:IntKind}{a b:Int}(ho:o.op= .binOp .rem t x y u)(hx:ev σ x=some (.int k a))(hy:ev σ y=some (.int k b))(hb:b≠0):an X σ H o (.int k (a.tmod b)):=by
 refine wW ho hx hy fun P w=> ?_
 simp[binOp,Op.intDiv,hb,go_sem]
theorem Pp {x y:Operand}{t u:TypeId}{k k':IntKind}{a b:Int}(ho:o.op= .binOp .shr t x y u)(hx:ev σ x=some (.int k a))(hy:ev σ y=some (.int k' b))(h0:0≤b)(h1:b≤k.bits):an X σ H o (.int k (a/2^b.toNat)):=by
 refine wW ho hx hy fun P w=> ?_
 simp[binOp,shift_shr k k' a b h0 h1,go_sem]
theorem Po {x y:Operand}{t u:TypeId}{k k':IntKind}{a b:Int}(ho:o.op= .binOp .shl t x y u)(hx:ev σ x=some (.int k a))(hy:ev σ y=some (.int k' b))(h0:0≤b)(h1:b≤k.bits):an X σ H o (.int k (k.wrap (a*2^b.toNat))):=by
 refine wW ho hx hy fun P w=> ?_
 simp[binOp,shift_shl k k' a b h0 h1,go_sem]
theorem Hf {x:Operand}{s t:TypeId}{k k' k2:IntKind}{a:Int}(ho:o.op= .convert s t x)(hx:ev σ x=some (.int k a))[hs:mH X.P s k2][ht:mH X.P t k']:an X σ H o (.int k' (k'.wrap a)):=by
 intro a' w ha _
 simp only[execOp,ho,ha.eval hx]
 simp[convert,run_underlying hs.h,run_underlying ht.h,Conv.intToInt,go_sem]
theorem OT {x:Operand}{s t:TypeId}{k k' k2:IntKind}{a:Int}(ho:o.op= .convert s t x)(hx:ev σ x=some (.int k a))[hs:mH X.P s k2][ht:mH X.P t k'](hr:cG k' a):an X σ H o (.int k' a):=
 zI (Hf ho hx) hr.wrap
theorem LO {P:Program}{t e:TypeId}[h:iT P t e](p q:Option Addr)(w:World)(hn:p=none∨q=none):(Op.equal t (.pointer p) (.pointer q)).run P w= .ok (decide (p=q)) w:=by
 unfold Op.equal
 obtain⟨d,hd⟩:∃d,Op.maxDepth=d+1:=⟨9999,rfl⟩
 rw[hd]
 clear hd
 simp only[Op.equalIn]
 rcases hn with rfl|rfl
 ·cases q<;>simp[run_underlying h.h,go_sem]
 ·cases p<;>simp[run_underlying h.h,go_sem]
theorem Hg {x y:Operand}{t u e:TypeId}{p q:Option Addr}(ho:o.op= .binOp .eql t x y u)(hx:ev σ x=some (.pointer p))(hy:ev σ y=some (.pointer q))[h:iT X.P t e](hn:p=none∨q=none):an X σ H o (.bool (decide (p=q))):=by
 intro a' w ha _
 simp only[execOp,ho,ha.eval hx,ha.eval hy]
 have hg:∀p' q',(eqGuard .eql t p' q' (.pointer p) (.pointer q)).run X.P w= .ok () w:=fun _ _=>rfl
 simp[Sem.run_bind,hg,binOp,LO p q w hn,go_sem]
theorem Hh {x y:Operand}{t u e:TypeId}{p q:Option Addr}(ho:o.op= .binOp .neq t x y u)(hx:ev σ x=some (.pointer p))(hy:ev σ y=some (.pointer q))[h:iT X.P t e](hn:p=none∨q=none):an X σ H o (.bool (!decide (p=q))):=by
 intro a' w ha _
 simp only[execOp,ho,ha.eval hx,ha.eval hy]
 have hg:∀p' q',(eqGuard .neq t p' q' (.pointer p) (.pointer q)).run X.P w= .ok () w:=fun _ _=>rfl
 simp[Sem.run_bind,hg,binOp,LO p q w hn,go_sem]
theorem O1 {x:Operand}{t u e:TypeId}{p:Option Addr}(ho:o.op= .binOp .eql t x (.const (.pointer none)) u)(hx:ev σ x=some (.pointer p))[h:iT X.P t e][n:NN H p]:an X σ H o (.bool false):=by
 intro a' w ha hs
 have:=Hg (X:=X) (σ:=σ) (H:=H) (q:=none) ho hx rfl (.inr rfl) a' w ha hs
 rwa[decide_eq_false (n.nn _ w hs)]at this
theorem Pf {x:Operand}{t u e:TypeId}{p:Option Addr}(ho:o.op= .binOp .neq t x (.const (.pointer none)) u)(hx:ev σ x=some (.pointer p))[h:iT X.P t e][n:NN H p]:an X σ H o (.bool true):=by
 intro a' w ha hs
 have:=Hh (X:=X) (σ:=σ) (H:=H) (q:=none) ho hx rfl (.inr rfl) a' w ha hs
 rwa[decide_eq_false (n.nn _ w hs)]at this
theorem OH {x y:Operand}{q p:Option Addr}{t e i sz j n cap m:Nat}{xs ys:List Value}{F:SL}{v:Value}{φ:Prop}(ho:o.op= .store t x y)(hx:ev σ x=some (.pointer q))(hy:ev σ y=some v)[c:cV X.P t m][l:lS q p i sz j][r:bZ H p (ad e sz p n cap xs) F]
  {vs:List Value} (hc:vD v=some vs) [g:kR xs i sz j vs ys φ] (hφ:φ) (hm:Nat.beq (gR v).length m=true) (h0:Nat.blt 0 m=true) (h1:dA (gR v)=true):aU X σ H o (ad e sz p n cap ys*F):=by
 intro a w ha hs
 obtain rfl:=Aa hc
 obtain⟨h2,rfl⟩:=g.set hφ
 have hm:=Nat.eq_of_beq_eq_true hm
 subst hm
 have h0:0<(gR v).length:=Nat.le_of_ble_eq_true h0
 have hr:=r.eq▸hs
 obtain⟨b,w',h3,h4,h5⟩:=ad.write (P:=X.P) hr (by rw[←(ad.len hr).1];exact h2) h0 h1
 have hq:=l.eq
 rw[h3]at hq
 subst hq
 refine⟨w',?_,h5⟩
 have hc:v.cells.size=(gR v).length:=by rw[←qd,Array.length_toList]
 simp only[execOp,ho,ha.eval hx,ha.eval hy,Instr.storeAt,Instr.sureAddr,Sem.run_bind,Sem.run_pure,Result.andThen_ok,storeVar,LS,hc,ne_eq,not_true_eq_false,if_false,qd,h4]
theorem O5 {x:Operand}{q p:Option Addr}{t i sz n:Nat}{xs vs:List Value}{φ:Prop}(ho:o.op= .load t x)(hx:ev σ x=some (.pointer q))[c:ia X.P t sz][l:lS q p i sz 0][r:Src X.W H p n xs][g:oV xs i sz vs φ](hφ:φ)(hn:0<n):an X σ H o (.agg vs.toArray):=by
 intro a w ha hs
 obtain⟨hl,lC⟩:=g.all hφ
 have hp:=r.nn w hs hn
 cases p with
 |none=>exact absurd rfl hp
 |some b=>
  have hq:=l.eq
  simp only[off,Option.map_some]at hq
  subst hq
  obtain⟨d,h1,h2⟩:=c.agg
  obtain⟨j,hj,du⟩:=lf c.size
  have:=run_loadCells_list (P:=X.P) w (b.add (i*sz+0)) vs fun j' v hv=>by
   obtain⟨b',h3,h4⟩:=r.cells w hs _ _ (lC j' v hv)
   simp only[off,Option.map_some,Option.some.injEq]at h3
   subst h3
   have e1:(b.add (i*sz+0)).add j'=b.add (i*sz+j'):=by
    have:=(@Loc.Bg (Go.Proofs.YtfkngchldmfpfaaGreatDoor.off (some b) (i*sz+0)) (some b) (i*sz+0) j' ⟨rfl⟩).eq
    simp only[off,Option.map_some,Option.some.injEq]at this
    rw[this];simp
   rw[e1];exact h4
  rw[hl]at this
  unfold loadCells at this
  simp only[execOp,ho,ha.eval hx]
  cases d<;>simp at h2<;>simp at this<;>simp[Instr.loadAt,Instr.sureAddr,loadVar,isAgg,run_underlying h1,sizeOf,typeInfo,hj,du,this,go_sem]
end
end Go.Proofs.YtfkngchldmfpfaaGreatDoor
