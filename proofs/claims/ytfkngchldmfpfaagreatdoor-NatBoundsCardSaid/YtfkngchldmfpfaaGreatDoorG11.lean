/-
  A part of a proof, joined by a program (wip/bundle3.py).
-/
import Derived.WalkKit
import Derived.Shelf.Spec.TrailingZeros
import Derived.Laws.BitsAllLaws
import Derived.Test.YtfkngchldmfpfaaGreatDoorG2
import Derived.Test.YtfkngchldmfpfaaGreatDoorG4
import Derived.Test.YtfkngchldmfpfaaGreatDoorG5
import Derived.Test.YtfkngchldmfpfaaGreatDoorG7
import Derived.Test.YtfkngchldmfpfaaGreatDoorG8
set_option linter.unusedVariables false
set_option linter.unusedSimpArgs false
namespace Go.Proofs.YtfkngchldmfpfaaGreatDoor
section
open Go.RowKit
set_option maxRecDepth 10000
attribute [local irreducible] EK EX ER EN EL ES EG an aR aU
variable {W:World} {F:SL} {X:Cx} {k:List KI} {σ:Env}
def nS (x:Nat×Nat):List Value:=[.int .i64 (x.1:Int),.int .u64 (x.2:Int)]
def gZ (l:List (Nat×Nat)):List Value:=l.flatMap nS
theorem W6 (l:List (Nat×Nat)):(gZ l).length=l.length*2:=by
 induction l with
 |nil=>rfl
 |cons x l ih=>
  simp only[gZ,List.flatMap_cons,List.length_append,List.length_cons]at ih ⊢
  rw[ih];simp[nS];omega
theorem Fy:∀ {l:List (Nat×Nat)} {i j:Nat} {v:Value},i<l.length→(nS (l.getD i (0,0)))[j]? =some v→(gZ l)[i*2+j]? =some v
 |[],_,_,_,h,_=>by simp at h
 |x::l,0,j,v,_,h=>by
  have hj:j<2:=by
   have:=(List.getElem?_eq_some_iff.1 h).1
   simpa[nS]using this
  simp only[gZ,List.flatMap_cons,Nat.zero_mul,Nat.zero_add]
  rw[List.getElem?_append_left (by simpa[nS]using hj)]
  simpa using h
 |x::l,i+1,j,v,hi,h=>by
  have ih:=Fy (l:=l) (i:=i) (j:=j) (v:=v) (by simpa using hi) (by simpa using h)
  simp only[gZ,List.flatMap_cons]at ih ⊢
  rw[List.getElem?_append_right (by simp[nS];omega),show(i+1)*2+j-(nS x).length=i*2+j by simp[nS];omega]
  exact ih
instance hU.W1 (l:List (Nat×Nat))(i:Nat):hU (gZ l) i 2 1 (.int .u64 ((l.getD i (0,0)).2:Int)) (i<l.length):=⟨fun h=>Fy h rfl⟩
instance oV.part (l:List (Nat×Nat))(i:Nat):oV (gZ l) i 2 [.int .i64 ((l.getD i (0,0)).1:Int),.int .u64 ((l.getD i (0,0)).2:Int)] (i<l.length):=⟨fun h=>⟨rfl,fun _ _ hv=>Fy h hv⟩⟩
theorem W7 (l:List (Nat×Nat))(x:Nat×Nat):gZ l++nS x=gZ (l++[x]):=by simp[gZ]
def Hm (p:Option Addr)(n:Nat)(ws:List Nat)(c:Option Addr):SL:=Obj p 167 [.pointer c,.int .i64 (n:Int)]*cB c ws
def bC (p:Option Addr)(n:Nat)(ws:List Nat):SL:=SL.ex (Hm p n ws)
abbrev ki (p:Option Addr)(n:Nat)(ws:List Nat)(c:Option Addr)(F:SL):SL:=Obj p 167 [.pointer c,.int .i64 (n:Int)]*(cB c ws*F)
variable {p:Option Addr} {n:Nat} {ws:List Nat} {s:bM}
theorem bC.open (h:∀c,EK X k σ (ki p n ws c F)):EK X k σ (bC p n ws*F):=pR fun c=>by
 have:=h c
 unfold ki at this
 unfold Hm
 rw[SL.bP]
 exact this
theorem bC.shut {c:Option Addr}:U (ki p n ws c F) (bC p n ws*F):=U.ex c (U.assoc (U.refl _))
instance (priority:=2000)(p:Option Addr)(n:Nat)(ws:List Nat)(F:SL):bZ (bC p n ws*F) p (bC p n ws) F:=⟨rfl⟩
instance (p:Option Addr)(n:Nat)(ws:List Nat):lT (bC p n ws) p:=⟨fun W w F h=>by
 obtain⟨g,h⟩:=h.jA
 exact(Obj.root p _ _).nn W w _ (h.ac (SL.bP _ _ _))⟩
abbrev fT (s:bM)(q:az×az×az):List Value:=
 [.int .i64 (s.kind:Int),.int .i64 (s.word:Int),.int .i64 (s.left:Int),.int .i64 (s.most:Int),.bool s.read,.int .u64 (s.seen:Int),.slice q.1.1 s.words.length q.1.2,.slice q.2.1.1 s.parts.length q.2.1.2,.slice q.2.2.1 s.bK.length q.2.2.2,.bool s.done,.bool s.alike]
abbrev gB (p:Option Addr)(s:bM)(q:az×az×az)(F:SL):SL:=
 Obj p 322 (fT s q)*(ad 61 1 q.1.1 s.words.length q.1.2 (ba .u64 s.words)*(ad 339 2 q.2.1.1 s.parts.length q.2.1.2 (gZ s.parts)*(ad 3 1 q.2.2.1 s.bK.length q.2.2.2 (ba .i64 s.bK)*F)))
def sI (p:Option Addr)(s:bM)(q:az×az×az):SL:=Obj p 322 (fT s q)*(ad 61 1 q.1.1 s.words.length q.1.2 (ba .u64 s.words)*(ad 339 2 q.2.1.1 s.parts.length q.2.1.2 (gZ s.parts)*ad 3 1 q.2.2.1 s.bK.length q.2.2.2 (ba .i64 s.bK)))
def bc (p:Option Addr)(s:bM):SL:=SL.ex (sI p s)
theorem sI.eq (p:Option Addr)(s:bM)(q:az×az×az)(F:SL):sI p s q*F=gB p s q F:=by
 unfold sI gB
 rw[SL.bP,SL.bP,SL.bP]
theorem bc.open (h:∀q,EK X k σ (gB p s q F)):EK X k σ (bc p s*F):=pR fun q=>by
 rw[sI.eq]
 exact h q
theorem bc.shut {q:az×az×az}:U (gB p s q F) (bc p s*F):=U.ex q (by rw[sI.eq];exact U.refl _)
instance (priority:=2000)(p:Option Addr)(s:bM)(F:SL):bZ (bc p s*F) p (bc p s) F:=⟨rfl⟩
instance (p:Option Addr)(s:bM):lT (bc p s) p:=⟨fun W w F h=>by
 obtain⟨g,h⟩:=h.jA
 rw[sI.eq]at h
 exact(Obj.root p _ _).nn W w _ h⟩
theorem QX {u low:Nat}(hu:u<18446744073709551616)(hl:low<4294967296):
  bits .or .u64 (IntKind.u64.wrap (IntKind.u64.wrap ((u:Int)/2^(32:Int).toNat+1)*2^(32:Int).toNat)) (low:Int)=((mL u low:Nat):Int):=by
 have e:IntKind.u64.wrap (IntKind.u64.wrap ((u:Int)/2^(32:Int).toNat+1)*2^(32:Int).toNat)=(((u/4294967296+1)*4294967296%18446744073709551616:Nat):Int):=by
  rw[IntKind.wrap_u64,IntKind.wrap_u64,show(32:Int).toNat=32 from rfl]
  omega
 rw[e,u64_or_nat _ _ (Nat.mod_lt _ (by decide)) (by omega),QV hu hl]
theorem H9 (u low:Nat)(hu:u<18446744073709551616)(hl:low<4294967296):Spec Tryz.prog 244 [.int .u64 (u:Int),.int .u64 (low:Int)] W F (fun _:Unit=> .int .u64 ((mL u low:Nat):Int)) (fun _=>F):=by
 refine Spec.of Tryz.func244 rfl Tryz.ntmps244 rfl ?_
 refine aa ?_;intros
 refine ae (aj rfl rfl () ?_ (U.sat U.last))
 rw[QX hu hl]
end
section
open Go.RowKit
variable {W w:World} {F:SL}
def gC (W:World):Prop:=TabAt 0 Lib.deBruijn64tab W
theorem gC.at (hT:gC W)(h:Sat W w F):gC w:=fun j hj=>by
 have:=hT j hj
 rw[h.below.cell (World.block_lt_of_cell? _ _ this)]
 exact this
set_option maxHeartbeats 400000 in
theorem YV (x k idx:Nat)(w:World)(uP:((x:Int)==0)=false)
  (key:IntKind.u64.wrap (bits BinOp.and IntKind.u64 (x:Int) (IntKind.u64.wrap (-(x:Int)))*285870213051353865)/288230376151711744=(idx:Int))
  (hi:idx<64) (hk:k<64) (uv:w.cell? ⟨0,idx,none⟩=some (.int .u8 k)):
  Calls Tryz.prog 264 #[.int .u64 x] w fun e w'=>e= .returned (.int .i64 k)∧w=w':=by
 go_enter Tryz.func264,Tryz.ntmps264
 go_wp2_with (simp only[key])
 go_ret
 exact⟨rfl,rfl⟩
theorem YU (x:Nat)(hx:x<18446744073709551616)(uP:¬x=0)(w:World)(hT:gC w):
  Calls Tryz.prog 264 #[.int .u64 x] w fun e w'=>e= .returned (.int .i64 (Lib.ctz 64 x:Nat))∧w=w':=by
 obtain⟨yv,hk⟩:=Lib.lowest_bit 64 x uP hx
 obtain⟨hi,Ut⟩:=Lib.deBruijn64_at _ hk
 have uv:=hT _ hi
 rw[Ut]at uv
 exact YV x _ _ w (by simp;omega) (tz64_key x _ hx uP yv) hi hk uv
theorem YW (hT:gC W)(x:Nat)(hx:x<18446744073709551616)(uP:¬x=0):Spec Tryz.prog 264 [.int .u64 (x:Int)] W F (fun _:Unit=> .int .i64 ((Lib.ctz 64 x:Nat):Int)) (fun _=>F):=by
 intro w h
 refine(YU x hx uP w (hT.at h)).mono ?_
 rintro e w' ⟨rfl,rfl⟩
 exact⟨(),rfl,h⟩
end
section
open Go.RowKit
set_option maxRecDepth 10000
attribute [local irreducible] EK EX ER EN EL ES EG an aR aU
variable {W:World} {F:SL} {X:Cx} {k:List KI} {σ:Env} {p sp:Option Addr} {n m:Nat} {ws:List Nat} {s:bM}
theorem ot {H:SL}{c:Option Addr}{q:az×az×az}(h:U H (ki p n ws c (gB sp s q F))):U H (bC p n ws*(bc sp s*F)):=
 h.trans ((bC.shut (c:=c)).trans (U.cons bc.shut))
theorem S6 (hT:gC W)(hw:ic m ws)(hs:s.Ok m)(hk:s.kind=0):
  Spec Tryz.prog 243 [.pointer p,.pointer sp] W (bC p n ws*(bc sp s*F)) (fun _:Unit=> .tuple #[]) (fun _=>bC p n (vM ws s).1*(bc sp (vM ws s).2*F)):=by
 obtain⟨ft,yG,hl,Ec,AU,rH⟩:=hs.nq hk
 have Ed:=hw.most
 have hu:=hs.seen
 have Vk:=Sx hu
 have hlen:=hw.len
 refine Spec.of Tryz.func243 rfl Tryz.ntmps243 rfl ?_
 refine bC.open fun c=> ?_
 refine dc sp (bc.open fun q=> ?_)
 simp only[gB,fT]
 have Vl:bits .and .u64 (bits .xor .u64 (if IntKind.u64.signed=true then-1 else IntKind.u64.max) (s.seen:Int)) 4294967295=((ofBits (dD s.seen):Nat):Int):=Vk
 have Bn:=Fb hu
 have Ti:=Li s.seen s.most
 refine aa ?_;intros
 try refine oS (CR rfl rfl) rfl ?_
 refine aa ?_;intros
 rw[Vl,Bn]
 refine zC (γ:=az) (fun _=>True) (fun g=>[(0,.pointer p),(1,.pointer sp),(4,.slice g.1 (fD s.seen s.most).length g.2),(6,.int .u64 ((s.seen%4294967296|||ofBits (fD s.seen s.most):Nat):Int))])
  (fun g=>ad 3 1 g.1 (fD s.seen s.most).length g.2 (ba .i64 ((fD s.seen s.most).map (s.word*32+ ·)))*gB sp s q (ki p n ws c F)) ?_ ?_
 ·refine fy (γ:=Nat×az) (fun g=>g.1≤(fD s.seen s.most).length) (fun g=>[(0,.pointer p),(1,.pointer sp),(4,.slice g.2.1 g.1 g.2.2),(5,.int .u64 ((ofBits ((dD s.seen).drop g.1):Nat):Int)),(6,.int .u64 ((s.seen%4294967296|||ofBits ((dD s.seen).take g.1):Nat):Int))])
   (fun g=>ad 3 1 g.2.1 g.1 g.2.2 (ba .i64 (((dD s.seen).take g.1).map (s.word*32+ ·)))*gB sp s q (ki p n ws c F)) (fun g=>32-g.1) (0,(none,0)) (Nat.zero_le _) ⟨rfl,rfl,rfl,rfl,by simp[ofBits];rfl,trivial⟩ (U.sat (U.none (U.refl _))) ?_
  intro ⟨k,o⟩ nN;dsimp only at nN ⊢
  simp only[gB,fT,ki]
  by_cases hkP:k<(fD s.seen s.most).length
  ·have TZ:k<s.most:=by omega
   have D6:k<(dD s.seen).length:=by omega
   obtain⟨t1,t2,t3⟩:=S5 D6
   have DL:¬ofBits ((dD s.seen).drop k)=0:=by rw[Fm,List.drop_eq_nil_iff];omega
   have hXl:=Sy s.seen k
   have Tl:¬((ofBits ((dD s.seen).drop k):Nat):Int)=0:=by omega
   have yi:(dD s.seen).getD k 0=(dD s.seen)[k]:=by rw[List.getD_eq_getElem?_getD,List.getElem?_eq_getElem D6];rfl
   have qA:=tv (l:=dD s.seen) (d:=0) D6
   rw[yi]at qA
   refine aa ?_;intros
   refine af rfl (YW hT _ (by omega) DL) ?_
   intro _
   rw[t1]
   generalize (dD s.seen)[k]=i at*
   have hYl:s.seen%4294967296|||ofBits ((dD s.seen).take k)<4294967296:=yW (Nat.mod_lt _ (by decide)) (WE _ _)
   have hpi:(2:Nat)^i<4294967296:=yX t2
   have ei:IntKind.u64.wrap (1*2^(i:Int).toNat)=((2^i:Nat):Int):=by
    rw[Int.one_mul,Int.toNat_natCast];exact Gj t2
   refine aa ?_;intros
   rename_i o2
   refine cJ (k+1,o2) (by dsimp only;omega) (by dsimp only;omega) ⟨rfl,rfl,rfl,?_,?_,trivial⟩ (U.sat ?_)
   ·rw[ei,u64_andNot_nat _ _ (by omega) (by omega),t3]
    rfl
   ·rw[ei,u64_or_nat _ _ (by omega) (by omega)]
    dsimp only
    rw[←qA,WC,←Nat.or_assoc]
    rfl
   ·dsimp only
    refine U.row o2.1 rfl ?_ ?_
    ·rw[←qA,List.map_append,List.map_cons,List.map_nil,←BA]
     congr 3
    ·repeat(first|exact U.last|refine U.cons ?_ |refine U.assoc ?_)
  ·have JD:k=(fD s.seen s.most).length:=by omega
   have hp:(dD s.seen).take k=fD s.seen s.most:=by
    rw[JD,Ti,fD,←List.take_eq_take_min]
   rw[hp]
   subst JD
   by_cases DL:ofBits ((dD s.seen).drop (fD s.seen s.most).length)=0
   ·rw[DL]
    refine aa ?_;intros
    exact dI o trivial ⟨rfl,rfl,rfl,rfl,trivial⟩ (U.sat (U.refl _))
   ·have Tl:¬((ofBits ((dD s.seen).drop (fD s.seen s.most).length):Nat):Int)=0:=by omega
    have TZ:s.most≤(fD s.seen s.most).length:=by
     have:=(not_congr (S4 (u:=s.seen) (most:=s.most) (k:=(fD s.seen s.most).length))).2 (by omega)
     omega
    refine aa ?_;intros
    exact dI o trivial ⟨rfl,rfl,rfl,rfl,trivial⟩ (U.sat (U.refl _))
 intro o _
 simp only[gB,fT,ki]
 have yv:s.seen%4294967296|||ofBits (fD s.seen s.most)<4294967296:=yW (Nat.mod_lt _ (by decide)) (yU _ 32 fun i hi=>(qE.1 (List.mem_of_mem_take hi)).1)
 refine aa ?_;intros
 refine kM 18 rfl (by kernel_rfl) rfl rfl ?_
 repeat(refine cD ?_)
 refine ob rfl (H9 s.seen _ hu yv) ?_
 repeat(refine cD ?_)
 refine af rfl (Spec.aL c (ns c ws s.word s.seen _ (by omega) (by omega))) ?_
 intro _
 by_cases he:ws.getD s.word 0=s.seen
 ·rw[decide_eq_true he,if_pos he]
  have eg:vM ws s=(ws.set s.word (mL s.seen (s.seen%4294967296|||ofBits (fD s.seen s.most))),{s with bK:=(fD s.seen s.most).map (s.word*32+ ·),done:=true}):=if_pos he
  rw[eg]
  refine aa ?_;intros
  refine aE (aF rfl () rfl (U.sat (ot (c:=c) (q:=(q.1,q.2.1,o)) ?_)))
  refine U.obj p rfl (U.cons (U.obj sp (by simp) (U.row q.1.1 rfl rfl (U.row q.2.1.1 rfl rfl (U.row o.1 (by simp) rfl ?_)))))
  repeat(first|exact U.last|refine U.cons ?_ |refine U.assoc ?_)
 ·rw[decide_eq_false he,if_neg he]
  have eg:vM ws s=(ws,s):=if_neg he
  rw[eg]
  refine aa ?_;intros
  refine aE (aF rfl () rfl (U.sat (ot (c:=c) (q:=q) ?_)))
  repeat(first|exact U.last|refine U.cons ?_ |refine U.assoc ?_)
theorem YB (hT:gC W)(hw:ic m ws)(hs:s.Ok m)(hk:s.kind=0)(hd:s.done=false):
  Spec Tryz.prog 215 [.pointer p,.pointer sp] W (bC p n ws*(bc sp s*F)) (fun _:Unit=> .tuple #[]) (fun _=>bC p n (kf ws s).1*(bc sp (kf ws s).2*F)):=by
 obtain⟨ft,yG,hl,Ec,AU,rH⟩:=hs.nq hk
 have rH:=rH hd
 have Ed:=hw.most
 have hlen:=hw.len
 have bY:=(hw.get yG).2
 refine Spec.of Tryz.func215 rfl Tryz.ntmps215 rfl ?_
 refine bC.open fun c=> ?_
 refine dc sp (bc.open fun q=> ?_)
 simp only[gB,fT,ki]
 by_cases hr:s.read=true
 ·rw[hr]
  rw[Yz hr]
  refine aa ?_;intros
  refine af rfl (Spec.pre (S6 (p:=p) (sp:=sp) (n:=n) (s:={s with read:=false}) hT hw ⟨hs.kind,hs.seen,hs.words,hs.nq,hs.qK,hs.parts,hs.bK⟩ hk (F:=F)) (ot (c:=c) (q:=q) (by repeat(first|exact U.last|refine U.cons ?_ |refine U.assoc ?_)))) ?_
  intro _
  refine aa ?_;intros
  exact ae (dm rfl () rfl (U.sat (U.refl _)))
 ·have hr:s.read=false:=by simpa using hr
  rw[hr]
  have Bn:=Fb bY
  by_cases hf:dD (ws.getD s.word 0)=[]
  ·have et:kf ws s=(ws,{s with seen:=ws.getD s.word 0,words:=s.words.set s.word (ws.getD s.word 0),word:=(s.word+1)%s.words.length,left:=s.left-1,done:=decide (s.left-1=0)}):=by
    unfold kf
    rw[if_neg (by simp[hr]),if_pos hf]
   have aed:=(IW _).1 hf
   rw[et]
   refine aa ?_;intros
   refine kM 12 rfl (by kernel_rfl) rfl rfl ?_
   repeat(refine cD ?_)
   refine ob rfl (Spec.wa c (fM c ws s.word (by omega) (by omega))) ?_
   repeat(refine cD ?_)
   refine aa ?_;intros
   refine kM 13 rfl (by kernel_rfl) rfl rfl ?_
   repeat(refine cD ?_)
   refine aa ?_;intros
   refine kM 14 rfl (by kernel_rfl) rfl rfl ?_
   repeat(refine cD ?_)
   refine aa ?_;intros
   have e1:((s.word:Int)+1)%(s.words.length:Int)=(((s.word+1)%s.words.length:Nat):Int):=by rw[Int.natCast_emod,Int.natCast_add];rfl
   have e2:(s.left:Int)-1=((s.left-1:Nat):Int):=by omega
   have e3:decide ((s.left:Int)-1=0)=decide (s.left-1=0):=decide_eq_decide.2 (by omega)
   rw[e3,e1,e2]
   refine aE (aF rfl () rfl (U.sat (ot (c:=c) (q:=q) ?_)))
   refine U.at p rfl (U.at c rfl (U.obj sp (by simp only[fT,hr,List.length_set]) (U.row q.1.1 (by rw[List.length_set]) rfl ?_)))
   repeat(first|exact U.last|refine U.cons ?_ |refine U.assoc ?_)
  ·have et:kf ws s=(ws,{s with seen:=ws.getD s.word 0,read:=true}):=by
    unfold kf
    rw[if_neg (by simp[hr]),if_neg hf]
   have hnf:¬ws.getD s.word 0%4294967296=4294967295:=fun e=>hf ((IW _).2 e)
   rw[et]
   refine aa ?_;intros
   refine kM 12 rfl (by kernel_rfl) rfl rfl ?_
   repeat(refine cD ?_)
   refine ob rfl (Spec.wa c (fM c ws s.word (by omega) (by omega))) ?_
   repeat(refine cD ?_)
   refine aa ?_;intros
   refine ae (dm rfl () rfl (U.sat (ot (c:=c) (q:=q) ?_)))
   refine U.at p rfl (U.at c rfl (U.obj sp rfl ?_))
   repeat(first|exact U.last|refine U.cons ?_ |refine U.assoc ?_)
end
section
open Go.RowKit
set_option maxRecDepth 10000
attribute [local irreducible] EK EX ER EN EL ES EG an aR aU
variable {W:World} {F:SL} {X:Cx} {k:List KI} {σ:Env} {p sp:Option Addr} {n m:Nat} {ws:List Nat} {s:bM}
theorem XQ (hw:ic m ws)(hs:s.Ok m)(hk:s.kind=1)(hd:s.done=false):
  Spec Tryz.prog 216 [.pointer p,.pointer sp] W (bC p n ws*(bc sp s*F)) (fun _:Unit=> .tuple #[]) (fun _=>bC p n (qJ ws s).1*(bc sp (qJ ws s).2*F)):=by
 obtain⟨ft,hwm,yG⟩:=hs.qK hk
 have yG:=yG hd
 have Ed:=hw.most
 have hlen:=hw.len
 refine Spec.of Tryz.func216 rfl Tryz.ntmps216 rfl ?_
 refine bC.open fun c=> ?_
 refine dc sp (bc.open fun q=> ?_)
 simp only[gB,fT,ki]
 haveI:Pos s.words.length:=⟨by omega⟩
 by_cases he:ws.getD s.word 0=s.words.getD s.word 0
 ·have et:qJ ws s=(ws,{s with word:=s.word+1,done:=decide (s.word+1=s.words.length),alike:=decide (s.word+1=s.words.length)}):=if_pos he
  rw[et]
  refine aa ?_;intros
  refine jf rfl (by kernel_rfl) ?_
  repeat(refine cD ?_)
  refine ob rfl (Spec.wa c (fM c ws s.word (by omega) (by omega))) ?_
  repeat(refine cD ?_)
  refine aa ?_;intros
  refine kM 13 rfl (by kernel_rfl) rfl rfl ?_
  repeat(refine cD ?_)
  refine aa ?_;intros
  have e3:decide ((s.word:Int)+1=(s.words.length:Int))=decide (s.word+1=s.words.length):=decide_eq_decide.2 (by omega)
  rw[e3]
  refine aE (aF rfl () rfl (U.sat (ot (c:=c) (q:=q) ?_)))
  refine U.at p rfl (U.at c rfl (U.obj sp rfl ?_))
  repeat(first|exact U.last|refine U.cons ?_ |refine U.assoc ?_)
 ·have et:qJ ws s=(ws,{s with done:=true}):=if_neg he
  rw[et]
  have Jq:¬((ws.getD s.word 0:Nat):Int)=((s.words.getD s.word 0:Nat):Int):=by omega
  refine aa ?_;intros
  refine jf rfl (by kernel_rfl) ?_
  repeat(refine cD ?_)
  refine ob rfl (Spec.wa c (fM c ws s.word (by omega) (by omega))) ?_
  repeat(refine cD ?_)
  refine aa ?_;intros
  refine ae (dm rfl () rfl (U.sat (ot (c:=c) (q:=q) ?_)))
  refine U.at p rfl (U.at c rfl (U.obj sp rfl ?_))
  repeat(first|exact U.last|refine U.cons ?_ |refine U.assoc ?_)
theorem Dd {α:Type}[DecidableEq α](l:List α):decide (l=[])=decide (((l.length:Nat):Int)=0):=decide_eq_decide.2 (by
 cases l with
 |nil=>simp
 |cons a l=>simp;omega)
theorem Qr (hw:ic m ws)(hs:s.Ok m):
  Spec Tryz.prog 217 [.pointer p,.pointer sp] W (bC p n ws*(bc sp s*F)) (fun _:Unit=> .tuple #[]) (fun _=>bC p n (lY ws s).1*(bc sp (lY ws s).2*F)):=by
 have Ed:=hw.most
 have hlen:=hw.len
 refine Spec.of Tryz.func217 rfl Tryz.ntmps217 rfl ?_
 refine bC.open fun c=> ?_
 refine dc sp (bc.open fun q=> ?_)
 simp only[gB,fT,ki]
 rcases hp:s.parts with _|⟨⟨j,mask⟩,rest⟩
 ·rw[xy hp]
  refine aa ?_;intros
  refine ae (dm rfl () rfl (U.sat (ot (c:=c) (q:=q) ?_)))
  refine U.at p rfl (U.at c rfl (U.obj sp (by simp only[fT,hp]) (U.row q.1.1 rfl rfl (U.row q.2.1.1 (by rw[hp]) (by rw[hp]) ?_))))
  repeat(first|exact U.last|refine U.cons ?_ |refine U.assoc ?_)
 ·rw[xx hp]
  obtain⟨hj,yx⟩:=hs.parts (j,mask) (by rw[hp];simp)
  dsimp only at hj yx
  have bY:=(hw.get hj).2
  have hu:=hs.seen
  have AP:j<ws.length:=by omega
  have jD:((j,mask)::rest).length=rest.length+1:=rfl
  by_cases hr:s.read=true
  ·rw[if_pos hr,hr]
   have key:=Fb hu
   have Bn:=Qi hu yx
   have sZ:s.seen%4294967296&&& (18446744073709551615-mask)<4294967296:=Nat.lt_of_le_of_lt Nat.and_le_left (Nat.mod_lt _ (by decide))
   refine aa ?_;intros
   rename_i px
   rw[show((j,mask)::rest).getD 0 (0,0)=(j,mask)from rfl]
   dsimp only
   refine kM 23 rfl (by kernel_rfl) rfl rfl ?_
   repeat(refine cD ?_)
   have Vm:bits .andNot .u64 (bits .and .u64 (s.seen:Int) 4294967295) (mask:Int)=((s.seen%4294967296&&& (18446744073709551615-mask):Nat):Int):=by
    rw[key,Int.natCast_emod];exact Bn
   rw[Vm]
   refine ob rfl (H9 s.seen _ hu sZ) ?_
   repeat(refine cD ?_)
   refine af rfl (Spec.aL c (ns c ws j s.seen _ (by omega) (by omega))) ?_
   intro _
   by_cases he:ws.getD j 0=s.seen
   ·rw[decide_eq_true he,if_pos he,if_pos he]
    refine aa ?_;intros
    rw[show((j,mask)::rest).length-1=rest.length from rfl,←Dd rest]
    refine aE (aF rfl () rfl (U.sat (ot (c:=c) (q:=(q.1,(cZ q.2.1.1 1 q.2.1.2 2,q.2.1.2-1),q.2.2)) ?_)))
    refine U.at p rfl (U.at c rfl (U.obj sp rfl (U.row q.1.1 rfl rfl (U.BP q.2.1.1 1 (by omega) (U.row (cZ q.2.1.1 1 q.2.1.2 2) rfl rfl ?_)))))
    repeat(first|exact U.last|refine U.cons ?_ |refine U.assoc ?_)
   ·rw[decide_eq_false he,if_neg he,if_neg he]
    refine aa ?_;intros
    refine ae (dm rfl () rfl (U.sat (ot (c:=c) (q:=q) ?_)))
    refine U.at p rfl (U.at c rfl (U.obj sp (by simp only[fT,hp]) (U.row q.1.1 rfl rfl (U.row q.2.1.1 (by rw[hp]) (by rw[hp]) ?_))))
    repeat(first|exact U.last|refine U.cons ?_ |refine U.assoc ?_)
  ·have hr:s.read=false:=by simpa using hr
   rw[if_neg (by simp[hr]),hr]
   have key:=Qj bY yx
   by_cases hz:ws.getD j 0&&& mask=0
   ·have ET:bits .and .u64 ((ws.getD j 0:Nat):Int) (mask:Int)=0:=by rw[key,hz];rfl
    rw[if_pos hz]
    refine aa ?_;intros
    rename_i px
    rw[show((j,mask)::rest).getD 0 (0,0)=(j,mask)from rfl]
    dsimp only
    refine kM 10 rfl (by kernel_rfl) rfl rfl ?_
    repeat(refine cD ?_)
    refine ob rfl (Spec.wa c (fM c ws j (by omega) (by omega))) ?_
    repeat(refine cD ?_)
    refine aa ?_;intros
    refine kM 11 rfl (by kernel_rfl) rfl rfl ?_
    repeat(refine cD ?_)
    refine aa ?_;intros
    rw[show((j,mask)::rest).length-1=rest.length from rfl,←Dd rest]
    refine aE (aF rfl () rfl (U.sat (ot (c:=c) (q:=(q.1,(cZ q.2.1.1 1 q.2.1.2 2,q.2.1.2-1),q.2.2)) ?_)))
    refine U.at p rfl (U.at c rfl (U.obj sp rfl (U.row q.1.1 rfl rfl (U.BP q.2.1.1 1 (by omega) (U.row (cZ q.2.1.1 1 q.2.1.2 2) rfl rfl ?_)))))
    repeat(first|exact U.last|refine U.cons ?_ |refine U.assoc ?_)
   ·have ET:¬bits .and .u64 ((ws.getD j 0:Nat):Int) (mask:Int)=0:=by rw[key];omega
    rw[if_neg hz]
    refine aa ?_;intros
    rename_i px
    rw[show((j,mask)::rest).getD 0 (0,0)=(j,mask)from rfl]
    dsimp only
    refine kM 10 rfl (by kernel_rfl) rfl rfl ?_
    repeat(refine cD ?_)
    refine ob rfl (Spec.wa c (fM c ws j (by omega) (by omega))) ?_
    repeat(refine cD ?_)
    refine aa ?_;intros
    refine kM 11 rfl (by kernel_rfl) rfl rfl ?_
    repeat(refine cD ?_)
    refine aa ?_;intros
    refine ae (dm rfl () rfl (U.sat (ot (c:=c) (q:=q) ?_)))
    refine U.at p rfl (U.at c rfl (U.obj sp (by simp only[fT,hp]) (U.row q.1.1 rfl rfl (U.row q.2.1.1 (by rw[hp]) (by rw[hp]) ?_))))
    repeat(first|exact U.last|refine U.cons ?_ |refine U.assoc ?_)
theorem Cm (hT:gC W)(hw:ic m ws)(hs:s.Ok m):
  Spec Tryz.prog 166 [.pointer p,.pointer sp] W (bC p n ws*(bc sp s*F)) (fun _:Unit=> .bool (bp ws s).2.done) (fun _=>bC p n (bp ws s).1*(bc sp (bp ws s).2*F)):=by
 refine Spec.of Tryz.func166 rfl Tryz.ntmps166 rfl ?_
 refine dc sp (bc.open fun q=> ?_)
 simp only[gB,fT]
 by_cases hd:s.done=true
 ·have e:bp ws s=(ws,s):=if_pos hd
  rw[e,hd]
  refine aa ?_;intros
  refine ae (aj rfl rfl () rfl (U.sat ?_))
  refine U.cons (U.trans ?_ (bc.shut (q:=q)))
  refine U.obj sp (by simp only[fT,hd]) ?_
  repeat(first|exact U.last|refine U.cons ?_ |refine U.assoc ?_)
 have hd:s.done=false:=by simpa using hd
 have e:bp ws s=if s.kind=0 then kf ws s else if s.kind=1 then qJ ws s else lY ws s:=by
  unfold bp
  rw[if_neg (by simp[hd])]
 have ei:U (Obj sp 322 (fT s q)*(ad 61 1 q.1.1 s.words.length q.1.2 (ba .u64 s.words)*(ad 339 2 q.2.1.1 s.parts.length q.2.1.2 (gZ s.parts)*(ad 3 1 q.2.2.1 s.bK.length q.2.2.2 (ba .i64 s.bK)*(bC p n ws*F))))) (bC p n ws*(bc sp s*F)):=by
  refine U.at p rfl (U.trans ?_ (bc.shut (q:=q)))
  repeat(first|exact U.last|refine U.cons ?_ |refine U.assoc ?_)
 simp only[fT]at ei
 rw[hd]at ei ⊢
 rcases hs.kind with hk|hk|hk
 ·rw[if_pos hk]at e
  rw[e]
  have JB:((s.kind:Nat):Int)=0:=by omega
  refine aa ?_;intros
  refine af rfl (Spec.pre (YB hT hw hs hk hd) ei) ?_
  intro _
  generalize (kf ws s)=g
  refine zE ?_
  refine dc sp (bc.open fun q=> ?_)
  simp only[gB,fT]
  refine aa ?_;intros
  refine ae (aj rfl rfl () rfl (U.sat ?_))
  refine U.at p rfl (U.trans ?_ (bc.shut (q:=q)))
  repeat(first|exact U.last|refine U.cons ?_ |refine U.assoc ?_)
 ·rw[if_neg (by omega),if_pos hk]at e
  rw[e]
  have JB:((s.kind:Nat):Int)=1:=by omega
  refine aa ?_;intros
  refine af rfl (Spec.pre (XQ hw hs hk hd) ei) ?_
  intro _
  generalize (qJ ws s)=g
  refine zE ?_
  refine dc sp (bc.open fun q=> ?_)
  simp only[gB,fT]
  refine aa ?_;intros
  refine ae (aj rfl rfl () rfl (U.sat ?_))
  refine U.at p rfl (U.trans ?_ (bc.shut (q:=q)))
  repeat(first|exact U.last|refine U.cons ?_ |refine U.assoc ?_)
 ·rw[if_neg (by omega),if_neg (by omega)]at e
  rw[e]
  have JB:((s.kind:Nat):Int)=2:=by omega
  refine aa ?_;intros
  refine af rfl (Spec.pre (Qr hw hs) ei) ?_
  intro _
  generalize (lY ws s)=g
  refine zE ?_
  refine dc sp (bc.open fun q=> ?_)
  simp only[gB,fT]
  refine aa ?_;intros
  refine ae (aj rfl rfl () rfl (U.sat ?_))
  refine U.at p rfl (U.trans ?_ (bc.shut (q:=q)))
  repeat(first|exact U.last|refine U.cons ?_ |refine U.assoc ?_)
end
section
open Go.RowKit
set_option maxRecDepth 10000
attribute [local irreducible] EK EX ER EN EL ES EG an aR aU
variable {W:World} {F:SL} {X:Cx} {k:List KI} {σ:Env} {p sp:Option Addr} {n m:Nat} {ws:List Nat} {s:bM}
theorem Gp (q:Option Addr)(n c:Nat)(xs:List Value)[h1:gP xs](hl:xs.length=n)(hn:n≤1000000):
  Spec Tryz.prog 224 [.slice q n c] W (ad 3 1 q n c xs*F) (fun g:az=> .slice g.1 n g.2)
   (fun g=>ad 3 1 g.1 n g.2 xs*(ad 3 1 q n c xs*F)):=by
 subst hl
 refine Spec.of Tryz.func224 rfl Tryz.ntmps224 rfl ?_
 refine aa ?_;intros
 refine oS (wZ rfl rfl) rfl ?_
 refine aa ?_;intros
 refine iB rfl (fun hp=> ?_) (fun hp=> ?_)
 ·subst hp
  refine Co fun h0=> ?_
  obtain rfl:=List.eq_nil_of_length_eq_zero h0
  refine aa ?_;intros
  exact ae (aj rfl rfl ((none,0):az) rfl (U.sat (U.none (U.refl _))))
 ·refine aa ?_;intros
  rename_i q0 g
  refine ae (aj rfl rfl g ?_ (U.sat (U.row g.1 ?_ ?_ ?_)))
  ·simp
  ·simp
  ·simp
  ·repeat(first|exact U.last|refine U.cons ?_ |refine U.assoc ?_)
theorem Nj (q:Option Addr)(n c:Nat)(xs:List Value)[h1:gP xs](hl:xs.length=n)(hn:n≤1000000):
  Spec Tryz.prog 221 [.slice q n c] W (ad 61 1 q n c xs*F) (fun g:az=> .slice g.1 n g.2)
   (fun g=>ad 61 1 g.1 n g.2 xs*(ad 61 1 q n c xs*F)):=by
 subst hl
 refine Spec.of Tryz.func221 rfl Tryz.ntmps221 rfl ?_
 refine aa ?_;intros
 refine oS (wZ rfl rfl) rfl ?_
 refine aa ?_;intros
 refine iB rfl (fun hp=> ?_) (fun hp=> ?_)
 ·subst hp
  refine Co fun h0=> ?_
  obtain rfl:=List.eq_nil_of_length_eq_zero h0
  refine aa ?_;intros
  exact ae (aj rfl rfl ((none,0):az) rfl (U.sat (U.none (U.refl _))))
 ·refine aa ?_;intros
  rename_i q0 g
  refine ae (aj rfl rfl g ?_ (U.sat (U.row g.1 ?_ ?_ ?_)))
  ·simp
  ·simp
  ·simp
  ·repeat(first|exact U.last|refine U.cons ?_ |refine U.assoc ?_)
theorem Hd (sp:Option Addr)(s:bM):Spec Tryz.prog 168 [.pointer sp] W (bc sp s*F) (fun _:Unit=> .bool (j6 s)) (fun _=>bc sp s*F):=by
 refine Spec.of Tryz.func168 rfl Tryz.ntmps168 rfl ?_
 refine bc.open fun q=> ?_
 simp only[gB,fT]
 have hpn:=Dd s.bK
 have Jo:∀b c:Bool,j6 s=b→b=c→some (Value.bool c)=some (Value.bool (j6 s)):=fun b c h1 h2=>by rw[h1,h2]
 by_cases hk:s.kind=0
 ·cases hd:s.done with
  |false=>
   refine aa ?_;intros
   refine ae (aj rfl rfl () (by unfold j6;rw[hd];simp) (U.sat (U.trans ?_ (bc.shut (q:=q)))))
   refine U.obj sp (by simp only[fT,hd]) ?_
   repeat(first|exact U.last|refine U.cons ?_ |refine U.assoc ?_)
  |true=>
   by_cases h0:s.bK=[]
   ·have qq:((s.bK.length:Nat):Int)=0:=by rw[h0];rfl
    refine aa ?_;intros
    refine ae (aj rfl rfl () (by unfold j6;simp[hd,hk,h0]) (U.sat (U.trans ?_ (bc.shut (q:=q)))))
    refine U.obj sp (by simp only[fT,hd]) ?_
    repeat(first|exact U.last|refine U.cons ?_ |refine U.assoc ?_)
   ·have qq:¬((s.bK.length:Nat):Int)=0:=by
     intro e
     exact h0 (List.eq_nil_of_length_eq_zero (by omega))
    refine aa ?_;intros
    refine ae (aj rfl rfl () (by unfold j6;simp[hd,hk,h0]) (U.sat (U.trans ?_ (bc.shut (q:=q)))))
    refine U.obj sp (by simp only[fT,hd]) ?_
    repeat(first|exact U.last|refine U.cons ?_ |refine U.assoc ?_)
 ·have hk':¬((s.kind:Nat):Int)=0:=by omega
  refine aa ?_;intros
  refine ae (aj rfl rfl () (by unfold j6;simp[hk]) (U.sat (U.trans ?_ (bc.shut (q:=q)))))
  repeat(first|exact U.last|refine U.cons ?_ |refine U.assoc ?_)
theorem PM (sp:Option Addr)(s:bM):Spec Tryz.prog 170 [.pointer sp] W (bc sp s*F) (fun _:Unit=> .bool s.alike) (fun _=>bc sp s*F):=by
 refine Spec.of Tryz.func170 rfl Tryz.ntmps170 rfl ?_
 refine bc.open fun q=> ?_
 simp only[gB,fT]
 refine aa ?_;intros
 refine ae (aj rfl rfl () rfl (U.sat (U.trans ?_ (bc.shut (q:=q)))))
 repeat(first|exact U.last|refine U.cons ?_ |refine U.assoc ?_)
theorem P5 (sp:Option Addr)(s:bM):Spec Tryz.prog 220 [.pointer sp] W (bc sp s*F) (fun _:Unit=> .int .i64 (if s.bK=[]then-1 else(s.word:Int))) (fun _=>bc sp s*F):=by
 refine Spec.of Tryz.func220 rfl Tryz.ntmps220 rfl ?_
 refine bc.open fun q=> ?_
 simp only[gB,fT]
 by_cases h0:s.bK=[]
 ·have qq:((s.bK.length:Nat):Int)=0:=by rw[h0];rfl
  rw[if_pos h0]
  refine aa ?_;intros
  refine ae (aj rfl rfl () rfl (U.sat (U.trans ?_ (bc.shut (q:=q)))))
  repeat(first|exact U.last|refine U.cons ?_ |refine U.assoc ?_)
 ·have qq:¬((s.bK.length:Nat):Int)=0:=by
   intro e
   exact h0 (List.eq_nil_of_length_eq_zero (by omega))
  rw[if_neg h0]
  refine aa ?_;intros
  refine ae (aj rfl rfl () rfl (U.sat (U.trans ?_ (bc.shut (q:=q)))))
  repeat(first|exact U.last|refine U.cons ?_ |refine U.assoc ?_)
theorem N4 (sp:Option Addr)(s:bM)(hn:s.bK.length≤1000):Spec Tryz.prog 218 [.pointer sp] W (bc sp s*F) (fun g:az=> .slice g.1 s.bK.length g.2)
  (fun g=>ad 3 1 g.1 s.bK.length g.2 (ba .i64 s.bK)*(bc sp s*F)):=by
 refine Spec.of Tryz.func218 rfl Tryz.ntmps218 rfl ?_
 refine bc.open fun q=> ?_
 simp only[gB,fT]
 refine aa ?_;intros
 refine af rfl (Spec.aL q.2.2.1 (Gp q.2.2.1 s.bK.length q.2.2.2 (ba .i64 s.bK) (qF _ _) (by omega))) ?_
 intro g
 refine aa ?_;intros
 refine ae (aj rfl rfl g rfl (U.sat (U.cons (U.trans ?_ (bc.shut (q:=q))))))
 repeat(first|exact U.last|refine U.cons ?_ |refine U.assoc ?_)
end
section
open Go.RowKit
set_option maxRecDepth 10000
attribute [local irreducible] EK EX ER EN EL ES EG an aR aU
variable {W:World} {F:SL} {X:Cx} {k:List KI} {σ:Env} {p sp:Option Addr} {n m:Nat} {ws:List Nat} {s:bM}
theorem Gz {α:Sort _}{ops l:List Oper}{F:SL}{P:α→SL}(h:∀a,EL X k ops l σ (P a*F)):EL X k ops l σ (SL.ex P*F):=by
 unfold EL at h ⊢
 exact fun a w ha hs=>let⟨x,hx⟩:=hs.jA;h x a w ha hx
theorem bc.iK {ops l:List Oper}(h:∀q,EL X k ops l σ (gB p s q F)):EL X k ops l σ (bc p s*F):=Gz fun q=>by
 rw[sI.eq]
 exact h q
theorem ZM (fr:Int){m:Nat}(h1:1≤m)(h2:m≤32):IntKind.i64.wrap (IntKind.u64.wrap fr%(m:Int))=(((fr%18446744073709551616).toNat%m:Nat):Int):=by
 rw[IntKind.wrap_u64,Int.natCast_emod,Int.toNat_of_nonneg (by omega)]
 have h3:0≤fr%18446744073709551616%(m:Int):=Int.emod_nonneg _ (by omega)
 have h4:fr%18446744073709551616%(m:Int)<m:=Int.emod_lt_of_pos _ (by omega)
 generalize fr%18446744073709551616%(m:Int)=z at*
 rw[IntKind.wrap_i64];omega
theorem PY (fr mo:Int)(hw:ic m ws):Spec Tryz.prog 213 [.pointer p,.int .i64 fr,.int .i64 mo] W (bC p n ws*F) (fun g:Option Addr=> .pointer g) (fun g=>bc g (ke fr mo m)*(bC p n ws*F)):=by
 obtain⟨hlen,uJ,T5,bY⟩:=hw
 subst hlen
 refine Spec.of Tryz.func213 rfl Tryz.ntmps213 rfl ?_
 refine bC.open fun c=> ?_
 simp only[ki]
 refine aa ?_;intros
 refine af rfl (Spec.aL c (zO c ws)) ?_
 intro _
 refine aa ?_;intros
 haveI:Pos ws.length:=⟨by omega⟩
 have eh:0≤IntKind.u64.wrap fr:=by rw[IntKind.wrap_u64];omega
 refine ay 99 1 rfl rfl rfl ?_
 refine bD ?_;intros
 rename_i t g
 refine ae (aj rfl rfl g rfl (U.sat (U.trans ?_ (bc.shut (q:=((t,ws.length),(none,0),(none,0)))))))
 refine U.obj g ?_ (U.row t ?_ ?_ (U.none (U.none (U.trans ?_ (bC.shut (c:=c))))))
 ·simp only[fT,ke,List.length_replicate,List.length_nil]
  rw[ZM fr uJ T5,Int.toNat_of_nonneg (by omega)]
  rfl
 ·simp[ke]
 ·simp only[ke];rw[FJ];simp[ba]
 ·repeat(first|exact U.last|refine U.cons ?_ |refine U.assoc ?_)
theorem PO {t:bM}(hn:j6 t=true)(ht:t.words.length≤1000):Spec Tryz.prog 169 [.pointer p,.pointer sp] W (bC p n ws*(bc sp t*F)) (fun g:Option Addr=> .pointer g) (fun g=>bc g (pK t)*(bc sp t*(bC p n ws*F))):=by
 refine Spec.of Tryz.func169 rfl Tryz.ntmps169 rfl ?_
 refine bC.open fun c=> ?_
 simp only[ki]
 refine aa ?_;intros
 refine af rfl (Spec.aL sp (Hd sp t)) ?_
 intro _
 rw[hn]
 refine aa ?_;intros
 refine bc.iK fun q=> ?_
 simp only[gB,fT]
 refine aa ?_;intros
 refine af rfl (Spec.aL q.1.1 (Nj q.1.1 t.words.length q.1.2 (ba .u64 t.words) (qF _ _) (by omega))) ?_
 intro g
 refine aa ?_;intros
 rename_i x
 refine ae (aj rfl rfl x rfl (U.sat (U.trans ?_ (bc.shut (q:=(g,(none,0),(none,0)))))))
 refine U.obj x rfl (U.row g.1 rfl rfl (U.none (U.none (U.trans ?_ (bc.shut (q:=q))))))
 refine U.obj sp rfl (U.row q.1.1 rfl rfl (U.row q.2.1.1 rfl rfl (U.row q.2.2.1 rfl rfl (U.trans ?_ (bC.shut (c:=c))))))
 repeat(first|exact U.last|refine U.cons ?_ |refine U.assoc ?_)
theorem X3 {u i:Nat}(hu:u<18446744073709551616):bits .and .u64 ((u:Int)/2^(i:Int).toNat) 1=(if u.testBit i then 1 else 0:Int):=by
 rw[Int.toNat_natCast,show(u:Int)/2^i=((u/2^i:Nat):Int)by norm_cast]
 have h1:u/2^i<18446744073709551616:=Nat.lt_of_le_of_lt (Nat.div_le_self _ _) hu
 have h2:=u64_and_nat (u/2^i) 1 h1 (by decide)
 rw[show((1:Nat):Int)=1 from rfl]at h2
 rw[h2,Nat.and_one_is_mod,Nat.testBit_eq_decide_div_mod_eq]
 by_cases h:u/2^i%2=1
 ·simp[h]
 ·have:u/2^i%2=0:=by omega
  simp[this]
end
end Go.Proofs.YtfkngchldmfpfaaGreatDoor
