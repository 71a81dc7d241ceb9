/-
  A part of a proof, joined by a program (wip/bundle3.py).
-/
import Derived.MapKept
import Derived.Lib.ItoaNum
import Derived.Lib.LaidTab
import Derived.Lib.Join
import Derived.Test.YtfkngchldmfpfaaGreatDoorG1
import Derived.Test.YtfkngchldmfpfaaGreatDoorG2
import Derived.Test.YtfkngchldmfpfaaGreatDoorG4
import Derived.Test.YtfkngchldmfpfaaGreatDoorG5
import Derived.Test.YtfkngchldmfpfaaGreatDoorG6
import Derived.Test.YtfkngchldmfpfaaGreatDoorG7
import Derived.Test.YtfkngchldmfpfaaGreatDoorG12
import Derived.Test.YtfkngchldmfpfaaGreatDoorG13
set_option linter.unusedVariables false
set_option linter.unusedSimpArgs false
namespace Go.Proofs.YtfkngchldmfpfaaGreatDoor
section
open Go.RowKit
set_option maxRecDepth 10000
attribute [local irreducible] EK EX ER EN EL ES EG an aR aU
variable {W:World} {F:SL} {X:Cx} {k:List KI} {σ:Env}
section
variable {p:Option Addr} {c i j:Nat} {l:List UInt8}
theorem ZH {l:List UInt8}{i:Nat}:w2 l i=0↔b1 l i=0∧b1 l (i+1)=0:=by
 unfold w2
 omega
set_option maxHeartbeats 2000000 in
theorem Xq [s:Src W F p l.length (ar l)][r:Room W F p l.length c](hd:fL)(h:pV hd l.length):Spec Tryz.prog 33 [.agg (cT hd).toArray,.slice p l.length c] W F (fun _:Unit=>tq (pH hd l) (j9 hd l)) (fun _=>F):=by
 refine Spec.of Tryz.func33 rfl Tryz.ntmps33 rfl ?_
 obtain⟨h1,h2,h3,h4,h5,h6,h7,h8⟩:=h
 have e0:j9 hd l=_:=rfl
 conv at e0=>rhs;unfold j9
 have sy:=Src.cut s r h3 h4
 have ry:=Room.cut (i:=hd.size) r h4
 have ey:=jj l (i:=hd.size) h4
 rw[xA]at e0
 have eP:nT hd l=_:=rfl
 conv at eP=>rhs;unfold nT
 rw[xA]at eP
 obtain⟨y,hy⟩:∃y,gu l hd.size hd.len=y:=⟨_,rfl⟩
 rw[hy]at sy ry ey e0 eP
 have ey:=ey.symm
 unfold pH
 have s7:=dZ y 0
 have oF:=dZ y 2
 have Bb:=dZ y 4
 have hb6:=dM y 6
 have hb7:=dM y 7
 by_cases g1:hd.proto=17
 ·have gI:(hd.proto:Int)=17:=by omega
  rw[if_pos g1]at e0 eP
  rw[e0,eP]
  have e1:sb hd.src hd.dst y=_:=rfl
  conv at e1=>rhs;unfold sb
  refine aa ?_;intros
  rename_i x2 x4 x7
  rw[ey,gI]
  obtain⟨q,hq⟩:∃q,cZ p hd.size c 1=q:=⟨_,rfl⟩
  obtain⟨cc,pg⟩:∃cc,c-hd.size=cc:=⟨_,rfl⟩
  rw[hq,pg]at ry
  rw[hq]at sy
  rw[hq,pg]
  haveI:=sy
  haveI:=ry
  by_cases k1:y.length<8
  ·rw[if_pos k1]at e1
   rw[e1,decide_eq_true (show((y.length:Nat):Int)<8 by omega)]
   refine aa ?_;intros
   exact ae (bu (rs:=[.cell 4 93,.tmp 5]) (v:= .agg (bR bG).toArray) (u:= .int .i64 ((2:Nat):Int)) (vs:=[]) rfl ⟨⟨_,rfl,aX.agg rfl⟩,rfl,trivial⟩ () rfl (U.sat (aV)))
  rw[if_neg k1]at e1
  rw[decide_eq_false (show ¬((y.length:Nat):Int)<8 by omega)]
  refine aa ?_;intros
  refine af rfl (pI (l:=y) (j:=6) inferInstance inferInstance rfl (by omega) _ _ rfl) ?_
  intro _
  by_cases k2:w2 y 4≠y.length
  ·rw[if_pos k2]at e1
   rw[e1]
   refine aa ?_;intros
   exact ae (bu (rs:=[.cell 4 93,.tmp 5]) (v:= .agg (bR bG).toArray) (u:= .int .i64 ((3:Nat):Int)) (vs:=[]) rfl ⟨⟨_,rfl,aX.agg rfl⟩,rfl,trivial⟩ () rfl (U.sat (aV)))
  rw[if_neg k2]at e1
  have hz:=ZH (l:=y) (i:=6)
  have hp:=tj hd.src hd.dst 17 y
  by_cases k3:w2 y 6=0
  ·rw[if_neg (fun g=>g.1 k3)]at e1
   rw[e1,if_pos rfl,show qN y={bG with proto:=17,sp:=w2 y 0,dp:=w2 y 2,bare:=true}by unfold qN;rw[decide_eq_true k3]]
   obtain⟨k4,U3⟩:=hz.1 k3
   have k5:b1 y 7=0:=U3
   refine aa ?_;intros
   refine ay 11 (iS x7 93*F) rfl rfl rfl ?_
   refine ah ?_
   refine aw rfl rfl rfl rfl rfl (yY (l:=y) inferInstance (by omega) _) (fun _=>aV) ?_
   intro _
   refine ah ?_
   refine aw rfl rfl rfl rfl rfl (pI (l:=y) (j:=4) inferInstance inferInstance rfl (by omega) _ _ rfl) (fun _=>aV) ?_
   intro _
   refine ah ?_
   refine bD ?_;intros
   refine aa ?_;intros
   exact ae (bu (rs:=[.cell 4 93,.tmp 5]) (v:= .agg (bR {bG with proto:=17,sp:=w2 y 0,dp:=w2 y 2,bare:=true}).toArray) (u:= .int .i64 ((0:Nat):Int)) (vs:=[]) rfl ⟨⟨_,rfl,aX.agg rfl⟩,rfl,trivial⟩ () rfl (U.sat (aV)))
  have eB:qN y={bG with proto:=17,sp:=w2 y 0,dp:=w2 y 2,bare:=false}:=by unfold qN;rw[decide_eq_false k3]
  by_cases k6:iy hd.src hd.dst 17 y=0
  ·rw[if_neg (fun g=>g.2 k6)]at e1
   rw[e1,if_pos rfl,eB]
   by_cases k4:b1 y 6=0
   ·have k5:b1 y 7≠0:=fun g=>k3 (hz.2 ⟨k4,g⟩)
    refine aa ?_;intros
    refine af rfl (rT (l:=y) hd.src hd.dst 17 (by decide) (by omega)) ?_
    intro _
    refine aa ?_;intros
    refine ay 11 (iS x7 93*F) rfl rfl rfl ?_
    refine ah ?_
    refine aw rfl rfl rfl rfl rfl (yY (l:=y) inferInstance (by omega) _) (fun _=>aV) ?_
    intro _
    refine ah ?_
    refine aw rfl rfl rfl rfl rfl (pI (l:=y) (j:=4) inferInstance inferInstance rfl (by omega) _ _ rfl) (fun _=>aV) ?_
    intro _
    refine ah ?_
    refine bD ?_;intros
    refine aa ?_;intros
    exact ae (bu (rs:=[.cell 4 93,.tmp 5]) (v:= .agg (bR {bG with proto:=17,sp:=w2 y 0,dp:=w2 y 2,bare:=false}).toArray) (u:= .int .i64 ((0:Nat):Int)) (vs:=[]) rfl ⟨⟨_,rfl,aX.agg rfl⟩,rfl,trivial⟩ () rfl (U.sat (aV)))
   ·refine aa ?_;intros
    refine af rfl (rT (l:=y) hd.src hd.dst 17 (by decide) (by omega)) ?_
    intro _
    refine aa ?_;intros
    refine ay 11 (iS x7 93*F) rfl rfl rfl ?_
    refine ah ?_
    refine aw rfl rfl rfl rfl rfl (yY (l:=y) inferInstance (by omega) _) (fun _=>aV) ?_
    intro _
    refine ah ?_
    refine aw rfl rfl rfl rfl rfl (pI (l:=y) (j:=4) inferInstance inferInstance rfl (by omega) _ _ rfl) (fun _=>aV) ?_
    intro _
    refine ah ?_
    refine bD ?_;intros
    refine aa ?_;intros
    exact ae (bu (rs:=[.cell 4 93,.tmp 5]) (v:= .agg (bR {bG with proto:=17,sp:=w2 y 0,dp:=w2 y 2,bare:=false}).toArray) (u:= .int .i64 ((0:Nat):Int)) (vs:=[]) rfl ⟨⟨_,rfl,aX.agg rfl⟩,rfl,trivial⟩ () rfl (U.sat (aV)))
  ·rw[if_pos ⟨k3,k6⟩]at e1
   rw[e1]
   by_cases k4:b1 y 6=0
   ·have k5:b1 y 7≠0:=fun g=>k3 (hz.2 ⟨k4,g⟩)
    refine aa ?_;intros
    refine af rfl (rT (l:=y) hd.src hd.dst 17 (by decide) (by omega)) ?_
    intro _
    refine aa ?_;intros
    exact ae (bu (rs:=[.cell 4 93,.tmp 5]) (v:= .agg (bR bG).toArray) (u:= .int .i64 ((4:Nat):Int)) (vs:=[]) rfl ⟨⟨_,rfl,aX.agg rfl⟩,rfl,trivial⟩ () rfl (U.sat (aV)))
   ·refine aa ?_;intros
    refine af rfl (rT (l:=y) hd.src hd.dst 17 (by decide) (by omega)) ?_
    intro _
    refine aa ?_;intros
    exact ae (bu (rs:=[.cell 4 93,.tmp 5]) (v:= .agg (bR bG).toArray) (u:= .int .i64 ((4:Nat):Int)) (vs:=[]) rfl ⟨⟨_,rfl,aX.agg rfl⟩,rfl,trivial⟩ () rfl (U.sat (aV)))
 rw[if_neg g1]at e0 eP
 by_cases g2:hd.proto=6
 ·have gI:(hd.proto:Int)=6:=by omega
  rw[if_pos g2]at e0 eP
  rw[e0,eP]
  have e1:rY hd.src hd.dst y=_:=rfl
  conv at e1=>rhs;unfold rY
  have ad8:=dM y 12
  have ad9:=dM y 13
  have hp:=tj hd.src hd.dst 6 y
  refine aa ?_;intros
  rename_i x2 x4 x7
  rw[ey,gI]
  obtain⟨q,hq⟩:∃q,cZ p hd.size c 1=q:=⟨_,rfl⟩
  obtain⟨cc,pg⟩:∃cc,c-hd.size=cc:=⟨_,rfl⟩
  rw[hq,pg]at ry
  rw[hq]at sy
  rw[hq,pg]
  haveI:=sy
  haveI:=ry
  by_cases k1:y.length<20
  ·rw[if_pos k1]at e1
   rw[e1,decide_eq_true (show((y.length:Nat):Int)<20 by omega)]
   refine aa ?_;intros
   exact ae (bu (rs:=[.cell 4 93,.tmp 5]) (v:= .agg (bR bG).toArray) (u:= .int .i64 ((2:Nat):Int)) (vs:=[]) rfl ⟨⟨_,rfl,aX.agg rfl⟩,rfl,trivial⟩ () rfl (U.sat (aV)))
  rw[if_neg k1]at e1
  rw[decide_eq_false (show ¬((y.length:Nat):Int)<20 by omega)]
  by_cases k2:b1 y 12/16*4<20
  ·rw[if_pos (Or.inl k2)]at e1
   rw[e1]
   refine aa ?_;intros
   exact ae (bu (rs:=[.cell 4 93,.tmp 5]) (v:= .agg (bR bG).toArray) (u:= .int .i64 ((3:Nat):Int)) (vs:=[]) rfl ⟨⟨_,rfl,aX.agg rfl⟩,rfl,trivial⟩ () rfl (U.sat (aV)))
  by_cases k3:b1 y 12/16*4>y.length
  ·rw[if_pos (Or.inr k3)]at e1
   rw[e1]
   refine aa ?_;intros
   exact ae (bu (rs:=[.cell 4 93,.tmp 5]) (v:= .agg (bR bG).toArray) (u:= .int .i64 ((3:Nat):Int)) (vs:=[]) rfl ⟨⟨_,rfl,aX.agg rfl⟩,rfl,trivial⟩ () rfl (U.sat (aV)))
  rw[if_neg (fun g=>g.elim k2 k3)]at e1
  refine aa ?_;intros
  refine af rfl (rT (l:=y) hd.src hd.dst 6 (by decide) (by omega)) ?_
  intro _
  by_cases k4:iy hd.src hd.dst 6 y≠0
  ·rw[if_pos k4]at e1
   rw[e1]
   refine aa ?_;intros
   exact ae (bu (rs:=[.cell 4 93,.tmp 5]) (v:= .agg (bR bG).toArray) (u:= .int .i64 ((4:Nat):Int)) (vs:=[]) rfl ⟨⟨_,rfl,aX.agg rfl⟩,rfl,trivial⟩ () rfl (U.sat (aV)))
  rw[if_neg k4]at e1
  rw[e1,if_pos rfl]
  refine aa ?_;intros
  refine ay 11 (iS x7 93*F) rfl rfl rfl ?_
  refine ah ?_
  refine aw rfl rfl rfl rfl rfl (yY (l:=y) inferInstance (by omega) _) (fun _=>aV) ?_
  intro _
  refine ah ?_
  refine aw rfl rfl rfl rfl rfl (pI (l:=y) (j:=4) inferInstance inferInstance rfl (by omega) _ _ rfl) (fun _=>aV) ?_
  intro _
  refine ah ?_
  refine bD ?_;intros
  refine aa ?_;intros
  exact ae (bu (rs:=[.cell 4 93,.tmp 5]) (v:= .agg (bR (B8 y)).toArray) (u:= .int .i64 ((0:Nat):Int)) (vs:=[]) rfl ⟨⟨_,rfl,aX.agg rfl⟩,rfl,trivial⟩ () rfl (U.sat (aV)))
 rw[if_neg g2]at e0 eP
 by_cases g3:hd.proto=1
 ·rw[if_pos g3]at e0
  rw[e0,eP]
  refine aa ?_;intros
  rw[ey]
  haveI:=sy
  haveI:=ry
  refine af rfl (Xz (l:=y) (hd.proto:Int) (by omega) hd h2 (by omega)) ?_
  intro _
  refine aa ?_;intros
  exact ae (bu (rs:=[.cell 4 93,.tmp 5]) (v:= .agg (bR _).toArray) (u:= .int .i64 ((oG y:Nat):Int)) (vs:=[]) rfl ⟨⟨_,rfl,aX.agg rfl⟩,rfl,trivial⟩ () rfl (U.sat (aV)))
 rw[if_neg g3]at e0
 rw[e0]
 refine aa ?_;intros
 exact ae (bu (rs:=[.cell 4 93,.tmp 5]) (v:= .agg (bR bG).toArray) (u:= .int .i64 ((6:Nat):Int)) (vs:=[]) rfl ⟨⟨_,rfl,aX.agg rfl⟩,rfl,trivial⟩ () rfl (U.sat (aV)))
end
end
section
open Go.RowKit
set_option maxRecDepth 10000
attribute [local irreducible] EK EX ER EN EL ES EG an aR aU
variable {W:World} {F:SL} {X:Cx} {k:List KI} {σ:Env}
attribute [local simp] mJ
abbrev xa (q:az)(l:List UInt8)(F:SL):SL:=ad 5 1 q.1 l.length q.2 (ar l)*F
section
variable {q:az} {l:List UInt8}
theorem Px {p:Option Addr}{c:Nat}(hl:l.length≤140737488355328)[s:Src W F p l.length (ar l)][r:Room W F p l.length c](addr port:Nat)(ha:addr<4294967296)(hp:port<65536):Spec Tryz.prog 165 [.slice p l.length c,.int .u32 (addr:Int),.int .u16 (port:Int)] W F (fun z:az=>FP z (kF l true addr port) (eA l)) (fun z=>xa z (kF l true addr port) F):=by
 refine Spec.of Tryz.func165 rfl Tryz.ntmps165 rfl ?_
 refine aa ?_;intros
 refine af rfl (H6 (out:=true) hl addr port ha hp) ?_
 intro z
 refine aa ?_;intros
 exact ae (fz rfl rfl rfl z rfl (U.sat (ag)))
theorem GO {p:Option Addr}{c:Nat}(hl:l.length≤140737488355328)[s:Src W F p l.length (ar l)][r:Room W F p l.length c](addr port:Nat)(ha:addr<4294967296)(hp:port<65536):Spec Tryz.prog 132 [.slice p l.length c,.int .u32 (addr:Int),.int .u16 (port:Int)] W F (fun z:az=>FP z (kF l false addr port) (eA l)) (fun z=>xa z (kF l false addr port) F):=by
 refine Spec.of Tryz.func132 rfl Tryz.ntmps132 rfl ?_
 refine aa ?_;intros
 refine af rfl (H6 (out:=false) hl addr port ha hp) ?_
 intro z
 refine aa ?_;intros
 exact ae (fz rfl rfl rfl z rfl (U.sat (ag)))
end
end
section
open Go.RowKit
def GK (P:Program)(kt:TypeId)(k:Value)(es:List MapEntry)(w:World):Prop:=
 ((Instr.findKey kt k es).run P w= .ok none w∧∀e∈es,e.key≠k)∨∃j e,(Instr.findKey kt k es).run P w= .ok (some (j,e.val)) w∧es[j]? =some e∧e.key=k
class sC (P:Program)(kt:TypeId){κ:Type}(ek:κ→Value):Prop where
 inj:∀a b,ek a=ek b→a=b
 check:∀e k w,(Instr.checkKey e 10000 kt (ek k)).run P w= .ok () w
 find:∀(k:κ) (es:List MapEntry) w,(∀e∈es,∃a,e.key=ek a)→GK P kt (ek k) es w
 stays:∀k,Instr.sameBits 10000 (ek k) (ek k)=true
theorem Si {P:Program}{kt:TypeId}{d:TypeDesc}(hu:P.underlying kt=some d){k:Value}(hk:MapKept.IsKey d k){es:List MapEntry}(h:∀e∈es,MapKept.IsKey d e.key)(w:World):GK P kt k es w:=by
 rcases MapKept.findNow_spec hk es 0 h with ⟨h1,h2⟩|⟨j,e,h1,h2,h3⟩
 ·exact .inl ⟨MapKept.run_findKey hu h1,h2⟩
 ·rw[Nat.zero_add]at h1
  exact .inr ⟨j,e,MapKept.run_findKey hu h1,h2,h3⟩
theorem IE {P:Program}{kt:TypeId}{k:Value}{w:World}:∀(es:List MapEntry) (i:Nat),(∀e∈es,∃b:Bool,(Op.equal kt k e.key).run P w= .ok b w∧(b=true↔k=e.key))→
  ((Instr.findAsking kt k es i).run P w= .ok none w∧∀e∈es,e.key≠k)∨∃j e,(Instr.findAsking kt k es i).run P w= .ok (some (i+j,e.val)) w∧es[j]? =some e∧e.key=k
 |[],i,_=> .inl ⟨rfl,by simp⟩
 |e::es,i,ho=>by
  obtain⟨b,h1,h2⟩:=ho e List.mem_cons_self
  cases b with
  |true=>exact .inr ⟨0,e,by unfold Instr.findAsking;simp[Sem.run_bind,h1,Result.andThen_ok,go_sem],rfl,(h2.1 rfl).symm⟩
  |false=>
   have gK:e.key≠k:=fun q=>by have:=h2.2 q.symm;cases this
   rcases IE es (i+1) fun x hx=>ho x (List.mem_cons_of_mem _ hx)with ⟨h3,h4⟩|⟨j,x,h3,h4,h5⟩
   ·refine .inl ⟨by unfold Instr.findAsking;simp[Sem.run_bind,h1,Result.andThen_ok,h3],fun x hx=> ?_⟩
    rcases List.mem_cons.1 hx with rfl|hx
    ·exact gK
    ·exact h4 x hx
   ·refine .inr ⟨j+1,x,?_,by simpa using h4,h5⟩
    unfold Instr.findAsking
    simp[Sem.run_bind,h1,Result.andThen_ok,h3]
    omega
def dQ (z:Int):Value:= .int .i64 z
instance sC.int (P:Program)(kt:TypeId)[h:mH P kt .i64]:sC P kt dQ where
 inj:=fun a b e=>by simpa[dQ]using e
 check:=fun e k w=>MapKept.run_checkKey h.h (by simp[MapKept.IsKey,dQ]) e 9999
 find:=fun k es w ho=>Si h.h (by simp[MapKept.IsKey,dQ]) (fun e he=>by
  obtain⟨a,e'⟩:=ho e he
  rw[e']
  simp[MapKept.IsKey,dQ]) w
 stays:=fun k=>by
  unfold dQ Instr.sameBits
  simp
variable {κ ν:Type} [DecidableEq κ]
structure iD (ek:κ→Value)(ev:ν→Value)(es:Array MapEntry)(clock:Nat)(l:List (κ×ν)):Prop where
 eq:es.toList.map (fun e=>(e.key,e.val))=l.map fun p=>(ek p.1,ev p.2)
 keys:(l.map (·.1)).Nodup
 born:(es.toList.map (·.born)).Nodup
 clock:∀e∈es.toList,e.born<clock
def cQ (ek:κ→Value)(ev:ν→Value)(m:Nat)(l:List (κ×ν)):SL:=SL.ex fun q:Array MapEntry×Nat=>SL.pure (iD ek ev q.1 q.2 l)*SL.cO m (.map q.1 q.2)
class qQ (H:SL)(m:Nat)(C:outParam SL)(F:outParam SL):Prop where eq:H=C*F
instance (priority:=2000) qQ.here (ek:κ→Value)(ev:ν→Value)(m:Nat)(l:List (κ×ν))(F:SL):qQ (cQ ek ev m l*F) m (cQ ek ev m l) F:=⟨rfl⟩
instance (priority:=900) qQ.there (Q R C F:SL)(m:Nat)[h:qQ R m C F]:qQ (Q*R) m C (Q*F):=⟨by rw[h.eq];ac_rfl⟩
section maps
variable {ek:κ→Value} {ev:ν→Value} {m:Nat} {l:List (κ×ν)} {W w:World} {F H:SL} {X:Cx} {σ:Env} {o:Oper}
omit [DecidableEq κ] in
theorem cQ.open (h:Sat W w (cQ ek ev m l*F)):∃es clock,iD ek ev es clock l∧w.heap[m]? =some (.map es clock)∧Sat W w (SL.cO m (.map es clock)*F):=by
 obtain⟨q,h⟩:=h.jA
 obtain⟨hf,h⟩:=(h.ac (SL.bP _ _ _)).out
 exact⟨q.1,q.2,hf,h.get,h⟩
omit [DecidableEq κ] in
theorem cQ.shut {es:Array MapEntry}{clock:Nat}(hf:iD ek ev es clock l)(h:Sat W w (SL.cO m (.map es clock)*F)):Sat W w (cQ ek ev m l*F):=
 Sat.Iz (P:=fun q:Array MapEntry×Nat=>SL.pure (iD ek ev q.1 q.2 l)*SL.cO m (.map q.1 q.2)) (es,clock) ((h.put hf).ac (SL.bP _ _ _).symm)
omit [DecidableEq κ] in
theorem iD.nil:iD ek ev #[] 0 ([]:List (κ×ν)):=⟨rfl,List.nodup_nil,List.nodup_nil,by simp⟩
omit [DecidableEq κ] in
theorem iD.at_ {es:Array MapEntry}{clock:Nat}(hf:iD ek ev es clock l)(i:Nat):(es.toList[i]?).map (fun e=>(e.key,e.val))=(l[i]?).map fun p=>(ek p.1,ev p.2):=by
 have:=congrArg (fun q=>q[i]?) hf.eq
 simpa using this
omit [DecidableEq κ] in
theorem iD.keyed {es:Array MapEntry}{clock:Nat}(hf:iD ek ev es clock l):∀e∈es.toList,∃a,e.key=ek a:=fun e he=>by
 obtain⟨i,hi⟩:=List.getElem?_of_mem he
 have:=hf.at_ i
 rw[hi]at this
 cases hl:l[i]? with
 |none=>rw[hl]at this;simp at this
 |some p=>
  rw[hl]at this
  simp only[Option.map_some,Option.some.injEq,Prod.mk.injEq]at this
  exact⟨p.1,this.1⟩
theorem Kv:∀ {l:List (κ×ν)} {i:Nat} {p:κ×ν},(l.map (·.1)).Nodup→l[i]? =some p→l.lookup p.1=some p.2
 |[],i,p,_,h=>by simp at h
 |q::l,0,p,_,h=>by
  simp only[List.getElem?_cons_zero,Option.some.injEq]at h
  subst h
  simp[List.lookup]
 |q::l,i+1,p,hn,h=>by
  simp only[List.getElem?_cons_succ]at h
  simp only[List.map_cons,List.nodup_cons]at hn
  have gK:p.1≠q.1:=fun e=>hn.1 (by rw[←e];exact List.mem_map.2 ⟨p,List.mem_of_getElem? h,rfl⟩)
  have:(p.1==q.1)=false:=by simpa using gK
  simp only[List.lookup,this]
  exact Kv hn.2 h
theorem Kw:∀ {l:List (κ×ν)} {k:κ},(∀p∈l,p.1≠k)→l.lookup k=none
 |[],_,_=>rfl
 |q::l,k,h=>by
  have:(k==q.1)=false:=by simpa using fun e=>h q List.mem_cons_self e.symm
  simp only[List.lookup,this]
  exact Kw fun p hp=>h p (List.mem_cons_of_mem _ hp)
theorem iD.find {P:Program}{kt:TypeId}[K:sC P kt ek]{es:Array MapEntry}{clock:Nat}(hf:iD ek ev es clock l)(k:κ)(w:World):
  ((Instr.findKey kt (ek k) es.toList).run P w= .ok none w∧l.lookup k=none∧∀p∈l,p.1≠k)∨
  ∃i e b,(Instr.findKey kt (ek k) es.toList).run P w= .ok (some (i,ev b)) w∧es[i]? =some e∧e.key=ek k∧l[i]? =some (k,b)∧l.lookup k=some b:=by
 rcases K.find k es.toList w hf.keyed with ⟨h1,h2⟩|⟨i,e,h1,h3,h4⟩
 ·have h3:∀p∈l,p.1≠k:=fun p hp e=>by
   obtain⟨i,hi⟩:=List.getElem?_of_mem hp
   have:=hf.at_ i
   rw[hi]at this
   cases he:es.toList[i]? with
   |none=>rw[he]at this;simp at this
   |some x=>
    rw[he]at this
    simp only[Option.map_some,Option.some.injEq,Prod.mk.injEq]at this
    exact h2 x (List.mem_of_getElem? he) (by rw[this.1,e])
  exact .inl ⟨h1,Kw h3,h3⟩
 ·have:=hf.at_ i
  rw[h3]at this
  cases hl:l[i]? with
  |none=>rw[hl]at this;simp at this
  |some p=>
   rw[hl]at this
   simp only[Option.map_some,Option.some.injEq,Prod.mk.injEq]at this
   have hk:p.1=k:=K.inj _ _ (by rw[←this.1,h4])
   subst hk
   exact .inr ⟨i,e,p.2,by rw[←this.2];exact h1,by simpa using h3,h4,hl,Kv hf.keys hl⟩
class xj (P:Program)(t:TypeId)(kt:outParam TypeId)(et:outParam TypeId):Prop where h:P.underlying t=some (.map kt et)
class vt (P:Program)(t:TypeId)(z:outParam Value):Prop where h:(P.info? t).map (·.zero)=some (some z)
theorem XM {P:Program}{t:TypeId}{z:Value}[h:vt P t z](w:World):(zeroValue t).run P w= .ok z w:=by
 obtain⟨j,hj,hz⟩:=lf h.h
 simp[zeroValue,typeInfo,hj,hz,go_sem]
theorem O8 {x y:Operand}{t kt et:TypeId}{z:Value}{k:κ}(c:Bool)(ho:o.op= .lookup t x y c)(hx:Go.Proofs.YtfkngchldmfpfaaGreatDoor.ev σ x=some (.map (some m)))(hy:Go.Proofs.YtfkngchldmfpfaaGreatDoor.ev σ y=some (ek k))[T:xj X.P t kt et][Z:vt X.P et z][A:qQ H m (cQ ek ev m l) F][K:sC X.P kt ek]:
  an X σ H o (match l.lookup k with
   |some b=>if c then .tuple #[ev b,.bool true]else ev b
   |none=>if c then .tuple #[z,.bool false]else z):=by
 intro a w ha hs
 obtain⟨es,clock,hf,hb,_⟩:=cQ.open (A.eq▸hs)
 simp only[execOp,ho,ha.eval hx,ha.eval hy]
 unfold Instr.lookup
 rcases hf.find (P:=X.P) (kt:=kt) k w with ⟨h1,h2,_⟩|⟨i,e,b,h1,_,_,_,h2⟩
 ·simp only[Sem.run_bind,run_underlying T.h,Result.andThen_ok,MapKept.run_getObj_map hb,Sem.run_pure,K.check,h1,XM,h2]
 ·simp only[Sem.run_bind,run_underlying T.h,Result.andThen_ok,MapKept.run_getObj_map hb,Sem.run_pure,K.check,h1,h2]
def lg:List (κ×ν)→κ→ν→List (κ×ν)
 |[],k,v=>[(k,v)]
 |p::l,k,v=>if p.1=k then(k,v)::l else p::lg l k v
theorem Lr:∀(l:List (κ×ν)) (k:κ) (v:ν) (x:κ),x∈(lg l k v).map (·.1)↔x=k∨x∈l.map (·.1)
 |[],k,v,x=>by simp[lg]
 |p::l,k,v,x=>by
  unfold lg
  split
  ·rename_i h
   subst h
   simp
  ·simp only[List.map_cons,List.mem_cons,Lr l k v x]
   constructor
   ·rintro (h|h|h)
    ·exact .inr (.inl h)
    ·exact .inl h
    ·exact .inr (.inr h)
   ·rintro (h|h|h)
    ·exact .inr (.inl h)
    ·exact .inl h
    ·exact .inr (.inr h)
theorem Lt:∀(l:List (κ×ν)) (k:κ) (v:ν),(l.map (·.1)).Nodup→((lg l k v).map (·.1)).Nodup
 |[],k,v,_=>by simp[lg]
 |p::l,k,v,h=>by
  simp only[List.map_cons,List.nodup_cons]at h
  unfold lg
  split
  ·rename_i e
   subst e
   simp only[List.map_cons,List.nodup_cons]
   exact h
  ·rename_i e
   simp only[List.map_cons,List.nodup_cons]
   refine⟨fun g=> ?_,Lt l k v h.2⟩
   rcases(Lr l k v _).1 g with g|g
   ·exact e g
   ·exact h.1 g
theorem Ls:∀ {l:List (κ×ν)} {k:κ} (v:ν),(∀p∈l,p.1≠k)→lg l k v=l++[(k,v)]
 |[],k,v,_=>rfl
 |p::l,k,v,h=>by
  unfold lg
  rw[if_neg (h p List.mem_cons_self),Ls v fun q hq=>h q (List.mem_cons_of_mem _ hq)]
  rfl
theorem Lu:∀ {l:List (κ×ν)} {k:κ} {b:ν} {i:Nat} (v:ν),(l.map (·.1)).Nodup→l[i]? =some (k,b)→lg l k v=l.set i (k,v)
 |[],k,b,i,v,_,h=>by simp at h
 |p::l,k,b,0,v,_,h=>by
  simp only[List.getElem?_cons_zero,Option.some.injEq]at h
  subst h
  simp[lg]
 |p::l,k,b,i+1,v,hn,h=>by
  simp only[List.getElem?_cons_succ]at h
  simp only[List.map_cons,List.nodup_cons]at hn
  have gK:p.1≠k:=fun e=>hn.1 (by rw[e];exact List.mem_map.2 ⟨(k,b),List.mem_of_getElem? h,rfl⟩)
  simp only[lg,if_neg gK,List.set_cons_succ,Lu v hn.2 h]
def ri (l:List (κ×ν))(k:κ):List (κ×ν):=l.filter fun p=>p.1≠k
theorem Ih {l:List (κ×ν)}{k:κ}(h:∀p∈l,p.1≠k):ri l k=l:=List.filter_eq_self.2 fun p hp=>by simpa using h p hp
theorem Ii:∀ {l:List (κ×ν)} {k:κ} {b:ν} {i:Nat},(l.map (·.1)).Nodup→l[i]? =some (k,b)→ri l k=l.eraseIdx i
 |[],k,b,i,_,h=>by simp at h
 |p::l,k,b,0,hn,h=>by
  simp only[List.getElem?_cons_zero,Option.some.injEq]at h
  subst h
  simp only[List.map_cons,List.nodup_cons]at hn
  simp only[ri,List.eraseIdx_cons_zero]
  rw[List.filter_cons_of_neg (by simp)]
  exact Ih fun q hq e=>hn.1 (List.mem_map.2 ⟨q,hq,e⟩)
 |p::l,k,b,i+1,hn,h=>by
  simp only[List.getElem?_cons_succ]at h
  simp only[List.map_cons,List.nodup_cons]at hn
  have gK:p.1≠k:=fun e=>hn.1 (by rw[e];exact List.mem_map.2 ⟨(k,b),List.mem_of_getElem? h,rfl⟩)
  simp only[ri,List.eraseIdx_cons_succ]
  rw[List.filter_cons_of_pos (by simpa using gK)]
  exact congrArg _ (Ii hn.2 h)
theorem iD.set {es:Array MapEntry}{clock:Nat}(hf:iD ek ev es clock l){i:Nat}{k:κ}{b:ν}(h:l[i]? =some (k,b))(v:ν):iD ek ev (es.modify i fun e=>{e with key:=ek k,val:=ev v}) clock (lg l k v):=by
 rw[Lu v hf.keys h]
 refine⟨?_,?_,?_,?_⟩
 ·rw[List.map_set,←hf.eq]
  apply List.ext_getElem?
  intro j
  simp only[Array.toList_modify,List.getElem?_map,List.getElem?_modify,List.getElem?_set,List.length_map,Array.length_toList]
  by_cases hj:i=j
  ·subst hj
   have hl:i<es.size:=by
    have:=hf.at_ i
    rw[h]at this
    cases he:es.toList[i]? with
    |none=>rw[he]at this;simp at this
    |some x=>simpa using(List.getElem?_eq_some_iff.1 he).1
   simp[hl]
  ·simp[hj]
 ·have:=hf.keys
  rw[List.map_set]
  rwa[show(l.map (·.1)).set i k=l.map (·.1)from List.ext_getElem? fun j=>by
   rw[List.getElem?_set]
   split
   ·rename_i e
    subst e
    have hl:=(List.getElem?_eq_some_iff.1 h).1
    simp only[List.length_map,if_pos hl,List.getElem?_map,h,Option.map_some]
   ·rfl]
 ·have:=hf.born
  rwa[show(es.modify i fun e=>{e with key:=ek k,val:=ev v}).toList.map (·.born)=es.toList.map (·.born)from List.ext_getElem? fun j=>by
   simp only[Array.toList_modify,List.getElem?_map,List.getElem?_modify]
   split
   ·cases es.toList[j]? <;>simp
   ·simp]
 ·intro e he
  obtain⟨j,hj⟩:=List.getElem?_of_mem he
  simp only[Array.toList_modify,List.getElem?_modify]at hj
  cases hx:es.toList[j]? with
  |none=>rw[hx]at hj;simp at hj
  |some x=>
   rw[hx]at hj
   have hc:=hf.clock x (List.mem_of_getElem? hx)
   split at hj<;>simp only[Option.map_eq_map,Option.map_some,Option.some.injEq]at hj<;>subst hj<;>exact hc
theorem iD.push {es:Array MapEntry}{clock:Nat}(hf:iD ek ev es clock l){k:κ}(h:∀p∈l,p.1≠k)(v:ν):iD ek ev (es.push ⟨ek k,ev v,clock⟩) (clock+1) (lg l k v):=by
 refine⟨?_,Lt l k v hf.keys,?_,?_⟩
 ·rw[Ls v h]
  simp[hf.eq]
 ·simp only[Array.toList_push,List.map_append,List.map_cons,List.map_nil]
  refine List.nodup_append.2 ⟨hf.born,by simp,?_⟩
  intro a ha b hb e
  obtain⟨x,hx,rfl⟩:=List.mem_map.1 ha
  have:=hf.clock x hx
  simp only[List.mem_singleton]at hb
  omega
 ·intro e he
  simp only[Array.toList_push,List.mem_append,List.mem_singleton]at he
  rcases he with he|rfl
  ·have:=hf.clock e he
   omega
  ·exact Nat.lt_succ_self _
theorem yM {α β:Type}(f:α→β):∀(l:List α) (i:Nat),(l.eraseIdx i).map f=(l.map f).eraseIdx i
 |[],_=>rfl
 |_::_,0=>rfl
 |a::l,i+1=>by simp only[List.eraseIdx_cons_succ,List.map_cons,yM f l i]
theorem iD.erase {es:Array MapEntry}{clock:Nat}(hf:iD ek ev es clock l){i:Nat}{k:κ}{b:ν}(h:l[i]? =some (k,b)):iD ek ev (es.eraseIdxIfInBounds i) clock (ri l k):=by
 rw[Ii hf.keys h]
 have he:(es.eraseIdxIfInBounds i).toList=es.toList.eraseIdx i:=by
  rw[Array.toList_eraseIdxIfInBounds]
 refine⟨?_,?_,?_,?_⟩
 ·rw[he,yM,yM,hf.eq]
 ·rw[yM];exact hf.keys.sublist (List.eraseIdx_sublist _ _)
 ·rw[he,yM];exact hf.born.sublist (List.eraseIdx_sublist _ _)
 ·intro e hx
  rw[he]at hx
  exact hf.clock e (List.mem_of_mem_eraseIdx hx)
omit [DecidableEq κ] in
theorem Bv {P:Program}{es es':Array MapEntry}{clock clock':Nat}{l':List (κ×ν)}(hs:Sat W w (SL.cO m (.map es clock)*F))(hf:iD ek ev es' clock' l'):∃w',(setObj m (.map es' clock')).run P w= .ok () w'∧Sat W w' (cQ ek ev m l'*F):=by
 have hb:=hs.get
 refine⟨_,MapKept.run_setObj_map _ hb,cQ.shut hf (hs.write (by simp) rfl rfl rfl (fun k _ hk=>by simp[Array.getElem?_setIfInBounds,hk.symm]) ?_)⟩
 have:=lt_of_block hb
 simp[this]
theorem OF {x y z:Operand}{t kt et:TypeId}{k:κ}{v:ν}(ho:o.op= .mapUpdate t x y z)(hx:Go.Proofs.YtfkngchldmfpfaaGreatDoor.ev σ x=some (.map (some m)))(hy:Go.Proofs.YtfkngchldmfpfaaGreatDoor.ev σ y=some (ek k))(hz:Go.Proofs.YtfkngchldmfpfaaGreatDoor.ev σ z=some (ev v))[T:xj X.P t kt et][A:qQ H m (cQ ek ev m l) F][K:sC X.P kt ek]:
  aU X σ H o (cQ ek ev m (lg l k v)*F):=by
 intro a w ha hs
 obtain⟨es,clock,hf,hb,fH⟩:=cQ.open (A.eq▸hs)
 simp only[execOp,ho,ha.eval hx,ha.eval hy,ha.eval hz]
 unfold Instr.mapUpdate
 rcases hf.find (P:=X.P) (kt:=kt) k w with ⟨h1,_,h2⟩|⟨i,e,b,h1,c1,c2,c4,_⟩
 ·obtain⟨w',g1,g2⟩:=Bv (P:=X.P) fH (hf.push h2 v)
  refine⟨w',?_,g2⟩
  simp only[Sem.run_bind,run_underlying T.h,Result.andThen_ok,MapKept.run_getObj_map hb,K.check,h1,g1,Sem.run_pure]
 ·obtain⟨w',g1,g2⟩:=Bv (P:=X.P) fH (hf.set c4 v)
  refine⟨w',?_,g2⟩
  simp only[Sem.run_bind,run_underlying T.h,Result.andThen_ok,MapKept.run_getObj_map hb,K.check,h1,c1,Option.map_some,Option.getD_some,c2,Instr.keyThatStays,K.stays,if_true,g1,Sem.run_pure]
theorem OE {x y:Operand}{t u kt et:TypeId}{k:κ}(ho:o.op= .call {callee:= .builtin .delete,args:= #[x,y],argTypes:= #[t,u]})(hx:Go.Proofs.YtfkngchldmfpfaaGreatDoor.ev σ x=some (.map (some m)))(hy:Go.Proofs.YtfkngchldmfpfaaGreatDoor.ev σ y=some (ek k))[T:xj X.P t kt et][A:qQ H m (cQ ek ev m l) F][K:sC X.P kt ek]:
  aR X σ H o (fun _:Unit=> .tuple #[]) (fun _=>cQ ek ev m (ri l k)*F):=by
 intro a w ha hs
 obtain⟨es,clock,hf,hb,fH⟩:=cQ.open (A.eq▸hs)
 simp only[execOp,ho,resolve,invoke,builtin,Sem.run_bind,Sem.run_pure,Result.andThen_ok,List.map_toArray,List.map_cons,List.map_nil,ha.eval hx,ha.eval hy]
 unfold Builtin.delete_
 rcases hf.find (P:=X.P) (kt:=kt) k w with ⟨h1,_,h2⟩|⟨i,e,b,h1,c1,c2,c4,_⟩
 ·obtain⟨w',g1,g2⟩:=Bv (P:=X.P) fH (es':=es) (clock':=clock) (l':=ri l k) (by rw[Ih h2];exact hf)
  refine⟨(),w',?_,g2⟩
  simp[Sem.run_bind,run_underlying T.h,Result.andThen_ok,MapKept.run_getObj_map hb,K.check,h1,g1,Sem.run_pure]
 ·obtain⟨w',g1,g2⟩:=Bv (P:=X.P) fH (hf.erase c4)
  refine⟨(),w',?_,g2⟩
  simp[Sem.run_bind,run_underlying T.h,Result.andThen_ok,MapKept.run_getObj_map hb,K.check,h1,g1,Sem.run_pure]
end maps
section
variable {H:SL} {X:Cx} {σ:Env} {k:List KI} {ops l:List Oper} {S:SL} {L fuel:Nat} {listed:Array Bool}
theorem NI {α:Type}{r:α→Value}{H':α→SL}{op:Op}{ty:TypeId}{pos:String}{aft:Array Edge}(hv:aR X σ H ⟨none,op,ty,pos,aft,none⟩ r H')(h:∀x,EL X k ops l σ (H' x)):
  EL X k ops (⟨none,op,ty,pos,aft,none⟩::l) σ H:=by
 intro a w ha hs
 refine wpList_plain rfl fun K hK=> ?_
 unfold Oper.wp
 obtain⟨x,w',hr,fH⟩:=hv a w ha hs
 rw[hr]
 exact hK _ _ (h x _ _ ha fH)
end
end
section
open Go.RowKit
set_option maxRecDepth 10000
attribute [local irreducible] EK EX ER EN EL ES EG an aR aU
variable {W:World} {F:SL}
abbrev str (l:List UInt8):Value:= .string (bs l)
end
section
open Go.RowKit
set_option maxRecDepth 10000
attribute [local irreducible] EK EX ER EN EL ES EG an aR aU
variable {W:World} {F:SL} {X:Cx} {k:List KI} {σ:Env}
abbrev gz.val (c:gz):Value:= .agg #[.int .i64 c.w,.int .u32 c.o,.int .i64 c.lo,.int .i64 c.hi,.int .i64 c.b,.int .i64 c.r]
theorem xz (n a b:Int):
  Spec Tryz.prog 68 [.int .i64 n,.int .i64 a,.int .i64 b] W F (fun _:Unit=> .bool (decide (a≤n∧n≤b))) (fun _=>F):=by
 refine Spec.of Tryz.func68 rfl Tryz.ntmps68 rfl ?_
 refine aa ?_;intros
 refine Cq rfl rfl (fun h=> ?_) (fun h=> ?_)
 ·refine aa ?_;intros
  exact ae (aj rfl rfl () (by simp_all) fun _ h=>h)
 ·refine aa ?_;intros
  exact ae (aj rfl rfl () (by simp_all;omega) fun _ h=>h)
theorem wr {c:gz}{l:List UInt8}(h:jb c=l):Value.string ⟨l.toArray⟩=str (jb c):=by rw[h];rfl
theorem pG {b:Int}(h:jK b):¬ ¬jK b:=fun g=>g h
theorem HP {b:Int}(h:2≤b∧b≤1024):bits BinOp.and IntKind.i64 b (b-1)=0↔jK b:=by
 have:∀m:Fin 1025,(bits BinOp.and IntKind.i64 (m.val:Int) ((m.val:Int)-1)=0)↔(jK (m.val:Int)∨m.val<2):=by decide+kernel
 obtain⟨n,rfl⟩:∃n:Nat,b=n:=⟨b.toNat,by omega⟩
 have:=this ⟨n,by omega⟩
 simp only[show ¬n<2 by omega,or_false]at this
 exact this
def pp (i:Nat):Int:=2^(i+1)
def pw (b:Int)(i:Nat):Bool:=(List.range i).any fun j=>decide (pp j=b)
theorem C0 (c:gz)(hc:c.Fit):
  Spec Tryz.prog 42 [c.val] W F (fun _:Unit=>str (jb c)) (fun _=>F):=by
 obtain⟨⟨w1,w2⟩,⟨o1,o2⟩,⟨l1,l2⟩,⟨h1,h2⟩,⟨b1,b2⟩,⟨r1,r2⟩⟩:=hc
 refine Spec.of Tryz.func42 rfl Tryz.ntmps42 rfl ?_
 refine aa ?_;intros
 refine af rfl (xz _ _ _) ?_
 intro
 refine aa ?_;intros
 refine sv rfl (fun hw=> ?_) (fun hw=> ?_)
 ·refine aa ?_;intros
  exact ae (aj rfl rfl () (wr (by unfold jb;repeat(first|rfl|rw[if_pos (by first|omega|assumption)]|rw[if_neg (by first|omega|exact pG (by assumption))]))) (U.sat U.last))
 refine aa ?_;intros
 refine sx rfl rfl (fun ho=> ?_) (fun ho=> ?_)
 ·refine aa ?_;intros
  exact ae (aj rfl rfl () (wr (by unfold jb;repeat(first|rfl|rw[if_pos (by first|omega|assumption)]|rw[if_neg (by first|omega|exact pG (by assumption))]))) (U.sat U.last))
 refine aa ?_;intros
 refine iB rfl (fun Ua=> ?_) (fun Ua=> ?_)
 ·refine aa ?_;intros
  exact ae (aj rfl rfl () (wr (by unfold jb;repeat(first|rfl|rw[if_pos (by first|omega|assumption)]|rw[if_neg (by first|omega|exact pG (by assumption))]))) (U.sat U.last))
 refine aa ?_;intros
 refine sx rfl rfl (fun hp=> ?_) (fun hp=> ?_)
 ·refine aa ?_;intros
  exact ae (aj rfl rfl () (wr (by unfold jb;repeat(first|rfl|rw[if_pos (by first|omega|assumption)]|rw[if_neg (by first|omega|exact pG (by assumption))]))) (U.sat U.last))
 refine aa ?_;intros
 refine sx rfl rfl (fun vX=> ?_) (fun vX=> ?_)
 ·refine aa ?_;intros
  exact ae (aj rfl rfl () (wr (by unfold jb;repeat(first|rfl|rw[if_pos (by first|omega|assumption)]|rw[if_neg (by first|omega|exact pG (by assumption))]))) (U.sat U.last))
 refine aa ?_;intros
 refine sx rfl rfl (fun AZ=> ?_) (fun AZ=> ?_)
 ·refine aa ?_;intros
  exact ae (aj rfl rfl () (wr (by unfold jb;repeat(first|rfl|rw[if_pos (by first|omega|assumption)]|rw[if_neg (by first|omega|exact pG (by assumption))]))) (U.sat U.last))
 refine aa ?_;intros
 refine iB rfl (fun Ud=> ?_) (fun Ud=> ?_)
 ·refine aa ?_;intros
  exact ae (aj rfl rfl () (wr (by unfold jb;repeat(first|rfl|rw[if_pos (by first|omega|assumption)]|rw[if_neg (by first|omega|exact pG (by assumption))]))) (U.sat U.last))
 refine aa ?_;intros
 refine af rfl (xz _ _ _) ?_
 intro
 refine aa ?_;intros
 refine NK rfl rfl (fun hb=> ?_) (fun hb=> ?_)
 ·have AE:¬jK c.b:=by unfold jK;omega
  refine aa ?_;intros
  exact ae (aj rfl rfl () (wr (by unfold jb;repeat(first|rfl|rw[if_pos (by first|omega|assumption)]|rw[if_neg (by first|omega|exact pG (by assumption))]))) (U.sat U.last))
 refine aa ?_;intros
 refine sv rfl (fun hq=> ?_) (fun hq=> ?_)
 ·have AE:¬jK c.b:=fun h=>hq ((HP hb).2 h)
  refine aa ?_;intros
  exact ae (aj rfl rfl () (wr (by unfold jb;repeat(first|rfl|rw[if_pos (by first|omega|assumption)]|rw[if_neg (by first|omega|exact pG (by assumption))]))) (U.sat U.last))
 have AE:jK c.b:=(HP hb).1 hq
 refine aa ?_;intros
 refine af rfl (xz _ _ _) ?_
 intro
 refine aa ?_;intros
 refine sv rfl (fun hr=> ?_) (fun hr=> ?_)
 ·refine aa ?_;intros
  exact ae (aj rfl rfl () (wr (by unfold jb;repeat(first|rfl|rw[if_pos (by first|omega|assumption)]|rw[if_neg (by first|omega|exact pG (by assumption))]))) (U.sat U.last))
 refine aa ?_;intros
 exact ae (aj rfl rfl () (wr (by unfold jb;repeat(first|rfl|rw[if_pos (by first|omega|assumption)]|rw[if_neg (by first|omega|exact pG (by assumption))]))) (U.sat U.last))
end
section
open Go.RowKit
set_option maxRecDepth 10000
attribute [local irreducible] EK EX ER EN EL ES EG an aR aU
variable {W:World} {F:SL} {X:Cx} {k:List KI} {σ:Env}
theorem w8 (c:gz)(hc:c.Fit):
  Spec Tryz.prog 45 [c.val] W F (fun _:Unit=> .int .i64 (gM c)) (fun _=>F):=by
 have h0:=hc
 obtain⟨⟨w1,w2⟩,⟨o1,o2⟩,⟨l1,l2⟩,⟨h1,h2⟩,⟨b1,b2⟩,⟨r1,r2⟩⟩:=hc
 refine Spec.of Tryz.func45 rfl Tryz.ntmps45 rfl ?_
 refine aa ?_;intros
 refine af rfl (C0 c h0) ?_
 intro
 refine aa ?_;intros
 refine sv rfl (fun hw=> ?_) (fun hw=> ?_)
 ·refine aa ?_;intros
  exact ae (aj rfl rfl () (by rw[gM,if_neg hw]) (U.sat U.last))
 have hg:=(ve.1 hw).p
 refine aa ?_;intros
 exact ae (aj rfl rfl () (by rw[gM,if_pos hw]) (U.sat U.last))
theorem PE (c:gz)(hc:c.Fit):
  Spec Tryz.prog 48 [c.val] W F (fun _:Unit=> .int .i64 (3*gM c)) (fun _=>F):=by
 obtain⟨n1,n2⟩:=uY c
 refine Spec.of Tryz.func48 rfl Tryz.ntmps48 rfl ?_
 refine aa ?_;intros
 refine af rfl (w8 c hc) ?_
 intro
 refine aa ?_;intros
 exact ae (aj rfl rfl () rfl (U.sat U.last))
theorem P6 (c:gz)(hc:c.Fit):
  Spec Tryz.prog 43 [c.val] W F (fun _:Unit=> .int .i64 (zq c)) (fun _=>F):=by
 obtain⟨n1,n2⟩:=uY c
 refine Spec.of Tryz.func43 rfl Tryz.ntmps43 rfl ?_
 refine aa ?_;intros
 refine af rfl (w8 c hc) ?_
 intro
 refine aa ?_;intros
 exact ae (aj rfl rfl () (by rw[zq,show gM c+32-1=gM c+31 by omega]) (U.sat U.last))
def tX (c:gz):Int:=if jb c=[]then 2000+20*zq c else 0
theorem M7 (c:gz)(hc:c.Fit):
  Spec Tryz.prog 18 [c.val] W F (fun _:Unit=> .int .i64 (tX c)) (fun _=>F):=by
 obtain⟨n1,n2⟩:=uY c
 refine Spec.of Tryz.func18 rfl Tryz.ntmps18 rfl ?_
 refine aa ?_;intros
 refine af rfl (C0 c hc) ?_
 intro
 refine aa ?_;intros
 refine sv rfl (fun hw=> ?_) (fun hw=> ?_)
 ·refine aa ?_;intros
  exact ae (aj rfl rfl () (by rw[tX,if_neg hw]) (U.sat U.last))
 refine aa ?_;intros
 refine af rfl (P6 c hc) ?_
 intro
 have gV:zq c=(gM c+31)/32:=rfl
 refine aa ?_;intros
 exact ae (aj rfl rfl () (by rw[tX,if_pos hw]) (U.sat U.last))
theorem CI (p:Int):
  Spec Tryz.prog 126 [.int .i64 p] W F (fun _:Unit=> .int .i64 (gX p)) (fun _=>F):=by
 refine Spec.of Tryz.func126 rfl Tryz.ntmps126 rfl ?_
 refine aa ?_;intros
 refine iB rfl (fun h1=> ?_) (fun h1=> ?_)
 ·refine aa ?_;intros
  exact ae (aj rfl rfl () (by rw[gX,if_pos h1]) (U.sat U.last))
 refine aa ?_;intros
 refine iB rfl (fun h2=> ?_) (fun h2=> ?_)
 ·refine aa ?_;intros
  exact ae (aj rfl rfl () (by rw[gX,if_neg h1,if_pos h2]) (U.sat U.last))
 refine aa ?_;intros
 refine iB rfl (fun h3=> ?_) (fun h3=> ?_)
 ·refine aa ?_;intros
  exact ae (aj rfl rfl () (by rw[gX,if_neg h1,if_neg h2,if_pos h3]) (U.sat U.last))
 refine aa ?_;intros
 exact ae (aj rfl rfl () (by rw[gX,if_neg h1,if_neg h2,if_neg h3]) (U.sat U.last))
theorem Xg (p:Int):
  Spec Tryz.prog 78 [.int .i64 p] W F (fun _:Unit=> .int .i64 (wm p)) (fun _=>F):=by
 refine Spec.of Tryz.func78 rfl Tryz.ntmps78 rfl ?_
 refine aa ?_;intros
 refine iB rfl (fun h1=> ?_) (fun h1=> ?_)
 ·refine aa ?_;intros
  exact ae (aj rfl rfl () (by rw[wm,if_pos h1]) (U.sat U.last))
 refine aa ?_;intros
 refine iB rfl (fun h2=> ?_) (fun h2=> ?_)
 ·refine aa ?_;intros
  exact ae (aj rfl rfl () (by rw[wm,if_neg h1,if_pos h2]) (U.sat U.last))
 refine aa ?_;intros
 exact ae (aj rfl rfl () (by rw[wm,if_neg h1,if_neg h2]) (U.sat U.last))
end
section
open Go.RowKit
set_option maxRecDepth 10000
attribute [local irreducible] EK EX ER EN EL ES EG an aR aU
variable {W:World} {F:SL} {X:Cx} {k:List KI} {σ:Env}
theorem Vr (p:Int): -1≤gX p∧gX p≤2:=by unfold gX;repeat' split<;>omega
theorem Vs (c:gz)(p:Int): -1024≤gX p*gM c∧gX p*gM c≤2048:=by
 have h1:=Vr p
 have h2:=uY c
 have:gX p= -1∨gX p=0∨gX p=1∨gX p=2:=by omega
 rcases this with h|h|h|h<;>rw[h]<;>omega
theorem PD (c:gz)(hc:c.Fit)(p q:Int)(hq:nt q):
  Spec Tryz.prog 106 [c.val,.int .i64 p,.int .i64 q] W F (fun _:Unit=> .int .i64 (ka c p q)) (fun _=>F):=by
 have h0:=hc
 obtain⟨⟨w1,w2⟩,⟨o1,o2⟩,⟨l1,l2⟩,⟨h1,h2⟩,⟨b1,b2⟩,⟨r1,r2⟩⟩:=hc
 obtain⟨q1,q2⟩:=hq
 obtain⟨n1,n2⟩:=uY c
 obtain⟨m1,m2⟩:=Vs c p
 refine Spec.of Tryz.func106 rfl Tryz.ntmps106 rfl ?_
 refine aa ?_;intros
 refine af rfl (w8 c h0) ?_
 intro
 refine aa ?_;intros
 refine af rfl (CI p) ?_
 intro
 refine aa ?_;intros
 refine sx rfl rfl (fun hn=> ?_) (fun hn=> ?_)
 ·refine aa ?_;intros
  exact ae (aj rfl rfl () (by rw[ka,if_pos (.inl hn)]) (U.sat U.last))
 refine aa ?_;intros
 refine sx rfl rfl (fun hk=> ?_) (fun hk=> ?_)
 ·refine aa ?_;intros
  exact ae (aj rfl rfl () (by rw[ka,if_pos (.inr (.inl hk))]) (U.sat U.last))
 refine aa ?_;intros
 refine af rfl (xz _ _ _) ?_
 intro
 refine aa ?_;intros
 refine sv rfl (fun hb=> ?_) (fun hb=> ?_)
 ·refine aa ?_;intros
  exact ae (aj rfl rfl () (by rw[ka,if_pos (.inr (.inr hb))]) (U.sat U.last))
 have hp:gM c=c.hi-c.lo+1:=by
  unfold gM at hn ⊢
  split
  ·rfl
  ·rename_i hw
   rw[if_neg hw]at hn
   omega
 have hw:1≤c.lo∧c.hi≤65535∧c.lo≤c.hi:=by
  have:jb c=[]:=by
   rcases Decidable.em (jb c=[])with h|h
   ·exact h
   ·exact absurd (by rw[gM,if_neg h]) hn
  have:=(ve.1 this).p
  omega
 refine aa ?_;intros
 exact ae (aj rfl rfl () (by rw[ka,if_neg (by omega)]) (U.sat U.last))
theorem zK (c:gz)(hc:c.Fit)(q:Int):
  Spec Tryz.prog 55 [c.val,.int .i64 q] W F (fun _:Unit=> .tuple #[.int .i64 (uX c q).1,.int .i64 (uX c q).2]) (fun _=>F):=by
 have h0:=hc
 obtain⟨⟨w1,w2⟩,⟨o1,o2⟩,⟨l1,l2⟩,⟨h1,h2⟩,⟨b1,b2⟩,⟨r1,r2⟩⟩:=hc
 obtain⟨n1,n2⟩:=uY c
 refine Spec.of Tryz.func55 rfl Tryz.ntmps55 rfl ?_
 refine aa ?_;intros
 refine af rfl (w8 c h0) ?_
 intro
 refine aa ?_;intros
 refine sx rfl rfl (fun hn=> ?_) (fun hn=> ?_)
 ·refine aa ?_;intros
  exact ae (fz rfl rfl rfl () (by rw[uX,if_pos (.inl hn)]) (U.sat U.last))
 refine aa ?_;intros
 refine af rfl (xz _ _ _) ?_
 intro
 refine aa ?_;intros
 refine sv rfl (fun hb=> ?_) (fun hb=> ?_)
 ·refine aa ?_;intros
  exact ae (fz rfl rfl rfl () (by rw[uX,if_pos (.inr hb)]) (U.sat U.last))
 have hw:1≤c.lo∧c.hi≤65535∧c.lo≤c.hi:=by
  have:jb c=[]:=by
   rcases Decidable.em (jb c=[])with h|h
   ·exact h
   ·exact absurd (by rw[gM,if_neg h]) hn
  have:=(ve.1 this).p
  omega
 have hm:=Int.emod_lt_of_pos q (show 0<gM c by omega)
 have JI:=Int.emod_nonneg q (show gM c≠0 by omega)
 refine aa ?_;intros
 refine jf rfl (by kernel_rfl) ?_
 repeat(refine cD ?_)
 refine ob rfl (Xg _) ?_
 repeat(refine cD ?_)
 refine aa ?_;intros
 exact ae (fz rfl rfl rfl () (by rw[uX,if_neg (by omega)]) (U.sat U.last))
end
section
open Go.RowKit
set_option maxRecDepth 10000
attribute [local irreducible] EK EX ER EN EL ES EG an aR aU
variable {W:World} {F:SL} {X:Cx} {k:List KI} {σ:Env}
instance :vt Tryz.prog 3 (.int .i64 0):=⟨by kernel_rfl⟩
instance :vt Tryz.prog 74 (.agg #[.int .i64 0,.int .u32 0,.int .u16 0,.int .i64 0,.int .i64 0,.int .i64 0]):=⟨by kernel_rfl⟩
def de (f:dU):Value:= .agg (kq f).toArray
theorem Sl {a b:dU}(h:kq a=kq b):a=b:=by
 obtain⟨a1,a2,a3⟩:=a
 obtain⟨b1,b2,b3⟩:=b
 simp only[List.cons.injEq,Value.int.injEq,true_and,and_true,Int.natCast_inj]at h
 obtain⟨h1,h2,h3⟩:=h
 subst h1;subst h2;subst h3
 rfl
instance :sC Tryz.prog 72 de where
 inj:=fun a b h=>by
  simp only[de,Value.agg.injEq]at h
  exact Sl (by simpa using h)
 check:=fun e k w=>by
  have hi:∀(t:TypeId) (kk:IntKind) (z:Int) (w:World),Tryz.prog.underlying t=some (.int kk)→(Instr.checkKey e (9998+1) t (.int kk z)).run Tryz.prog w= .ok () w:=fun t kk z w h=>MapKept.run_checkKey h (by simp[MapKept.IsKey]) e 9998
  have h1:=fun z w=>hi 3 .i64 z w (by kernel_rfl)
  have h2:=fun z w=>hi 32 .u32 z w (by kernel_rfl)
  have h3:=fun z w=>hi 42 .u16 z w (by kernel_rfl)
  show(Instr.checkKey e (9998+1+1) 72 (de k)).run Tryz.prog w= .ok () w
  unfold Instr.checkKey de
  rw[Sem.run_bind,run_underlying Tryz.underlying72,Result.andThen_ok]
  have uj:=h1 (k.proto:Int) w
  have I7:=h2 (k.addr:Int) w
  have DH:=h3 (k.port:Int) w
  simp[part,isAgg,run_underlying Tryz.underlying3,run_underlying Tryz.underlying32,run_underlying Tryz.underlying42,uj,I7,DH,go_sem]
 find:=fun k es w ho=>by
  cases es with
  |nil=>exact .inl ⟨rfl,by simp⟩
  |cons e es=>
   have hq:∀x∈e::es,∃b:Bool,(Op.equal 72 (de k) x.key).run Tryz.prog w= .ok b w∧(b=true↔de k=x.key):=fun x hx=>by
    obtain⟨a,ea⟩:=ho x hx
    obtain⟨r,h1,h2⟩:=FN (P:=Tryz.prog) w (t:=72) (xs:=kq k) (ys:=kq a) rfl rfl
    refine⟨r,?_,?_⟩
    ·rw[ea]
     exact h1
    ·rw[ea,h2]
     unfold de
     simp
   have hf:(Instr.findKey 72 (de k) (e::es)).run Tryz.prog w=(Instr.findAsking 72 (de k) (e::es) 0).run Tryz.prog w:=by
    unfold Instr.findKey
    simp only[Sem.run_bind,Tryz.underlying72,Result.andThen_ok]
    unfold Instr.findNow
    obtain⟨a,ea⟩:=ho e List.mem_cons_self
    rw[ea]
    rfl
   rcases IE (e::es) 0 hq with ⟨h1,h2⟩|⟨j,x,h1,h2,h3⟩
   ·exact .inl ⟨by rw[hf];exact h1,h2⟩
   ·exact .inr ⟨j,x,by rw[hf,h1,Nat.zero_add],h2,h3⟩
 stays:=fun k=>by
  unfold de
  simp[Instr.sameBits]
end
section
open Go.RowKit
theorem MP:∀ {cs:List Value} {i:Nat} {v:Value},i<cs.length→mC cs i [v]=some (cs.set i v)
 |[],_,_,h=>by simp at h
 |c::cs,0,v,_=>by
  cases cs<;>simp[mC]
 |c::cs,i+1,v,h=>by
  have:=MP (cs:=cs) (i:=i) (v:=v) (by simpa using h)
  simp[mC,this]
def iO (x:aZ):List Value:=[.int .i64 x.id,.int .i64 (x.at_:Int),.int .i64 (x.av:Int)]
def cS (l:List aZ):List Value:=l.flatMap iO
def oa:aZ:=⟨0,0,0⟩
theorem xK (l:List aZ):(cS l).length=l.length*3:=by
 induction l with
 |nil=>rfl
 |cons x l ih=>
  simp only[cS,List.flatMap_cons,List.length_append,List.length_cons]at ih ⊢
  rw[ih];simp[iO];omega
theorem Dm:∀ {l:List aZ} {i j:Nat} {v:Value},i<l.length→(iO (l.getD i oa))[j]? =some v→(cS l)[i*3+j]? =some v
 |[],_,_,_,h,_=>by simp at h
 |x::l,0,j,v,_,h=>by
  have hj:j<3:=by
   have:=(List.getElem?_eq_some_iff.1 h).1
   simpa[iO]using this
  simp only[cS,List.flatMap_cons,Nat.zero_mul,Nat.zero_add]
  rw[List.getElem?_append_left (by simpa[iO]using hj)]
  simpa using h
 |x::l,i+1,j,v,hi,h=>by
  have ih:=Dm (l:=l) (i:=i) (j:=j) (v:=v) (by simpa using hi) (by simpa using h)
  simp only[cS,List.flatMap_cons]at ih ⊢
  rw[List.getElem?_append_right (by simp[iO];omega),show(i+1)*3+j-(iO x).length=i*3+j by simp[iO];omega]
  exact ih
instance oV.wen (l:List aZ)(i:Nat):oV (cS l) i 3 (iO (l.getD i oa)) (i<l.length):=⟨fun h=>⟨rfl,fun _ _ hv=>Dm h hv⟩⟩
instance gP.alF (l:List aZ):gP (cS l):=⟨by
 simp only[Go.Proofs.YtfkngchldmfpfaaGreatDoor.dA,List.all_eq_true,cS]
 intro v hv
 obtain⟨x,_,hv⟩:=List.mem_flatMap.1 hv
 simp only[iO,List.mem_cons,List.not_mem_nil,or_false]at hv
 rcases hv with rfl|rfl|rfl<;>rfl⟩
instance vo.aab (l:List aZ):vo (cS l) (l.length*3):=⟨xK l⟩
theorem Iw (l:List aZ)(x:aZ):cS l++iO x=cS (l++[x]):=by simp[cS]
theorem Dl (l m:List aZ):cS l++cS m=cS (l++m):=by simp[cS]
def pF (x:Int×Int):List Value:=[.int .i64 x.1,.int .i64 x.2]
def cN (l:List (Int×Int)):List Value:=l.flatMap pF
theorem UX (l:List (Int×Int)):(cN l).length=l.length*2:=by
 induction l with
 |nil=>rfl
 |cons x l ih=>
  simp only[cN,List.flatMap_cons,List.length_append,List.length_cons]at ih ⊢
  rw[ih];simp[pF];omega
theorem Ke:∀ {l:List (Int×Int)} {i j:Nat} {v:Value},i<l.length→(pF (l.getD i (0,0)))[j]? =some v→(cN l)[i*2+j]? =some v
 |[],_,_,_,h,_=>by simp at h
 |x::l,0,j,v,_,h=>by
  have hj:j<2:=by
   have:=(List.getElem?_eq_some_iff.1 h).1
   simpa[pF]using this
  simp only[cN,List.flatMap_cons,Nat.zero_mul,Nat.zero_add]
  rw[List.getElem?_append_left (by simpa[pF]using hj)]
  simpa using h
 |x::l,i+1,j,v,hi,h=>by
  have ih:=Ke (l:=l) (i:=i) (j:=j) (v:=v) (by simpa using hi) (by simpa using h)
  simp only[cN,List.flatMap_cons]at ih ⊢
  rw[List.getElem?_append_right (by simp[pF];omega),show(i+1)*2+j-(pF x).length=i*2+j by simp[pF];omega]
  exact ih
instance oV.item (l:List (Int×Int))(i:Nat):oV (cN l) i 2 (pF (l.getD i (0,0))) (i<l.length):=⟨fun h=>⟨rfl,fun _ _ hv=>Ke h hv⟩⟩
instance gP.items (l:List (Int×Int)):gP (cN l):=⟨by
 simp only[Go.Proofs.YtfkngchldmfpfaaGreatDoor.dA,List.all_eq_true,cN]
 intro v hv
 obtain⟨x,_,hv⟩:=List.mem_flatMap.1 hv
 simp only[pF,List.mem_cons,List.not_mem_nil,or_false]at hv
 rcases hv with rfl|rfl<;>rfl⟩
instance vo.items (l:List (Int×Int)):vo (cN l) (l.length*2):=⟨UX l⟩
theorem UY (l:List (Int×Int))(x:Int×Int):cN l++pF x=cN (l++[x]):=by simp[cN]
def kG (q:Nat→az)(sl:Nat→List aZ):List Value:=(List.range 384).map fun k=> .slice (q k).1 (sl k).length (q k).2
theorem B0 (q:Nat→az)(sl:Nat→List aZ):(kG q sl).length=384:=by simp[kG]
theorem BZ (q:Nat→az)(sl:Nat→List aZ){k:Nat}(h:k<384):(kG q sl)[k]? =some (.slice (q k).1 (sl k).length (q k).2):=by
 simp[kG,h]
theorem L1 (q:Nat→az)(sl:Nat→List aZ){k:Nat}(h:k<384)(r:az)(l:List aZ):(kG q sl).set k (.slice r.1 l.length r.2)=kG (iz q k r) (iz sl k l):=by
 apply List.ext_getElem?
 intro i
 by_cases hi:i=k
 ·subst hi
  rw[List.getElem?_set_self (by rw[B0];exact h),BZ _ _ h,va,va]
 ·rw[List.getElem?_set_ne (Ne.symm hi)]
  by_cases h2:i<384
  ·rw[BZ _ _ h2,BZ _ _ h2,tI _ _ hi,tI _ _ hi]
  ·rw[List.getElem?_eq_none (by rw[B0];omega),List.getElem?_eq_none (by rw[B0];omega)]
def tt (q:Nat→az)(sl:Nat→List aZ)(k:Nat):SL:=ad 258 3 (q k).1 (sl k).length (q k).2 (cS (sl k))
def pJ (q:Nat→az)(sl:Nat→List aZ):SL:=SL.nC ((List.range 384).map (tt q sl))
def wy (k:Nat)(q:Nat→az)(sl:Nat→List aZ):SL:=SL.nC (((List.range 384).map (tt q sl)).eraseIdx k)
theorem FK (q:Nat→az)(sl:Nat→List aZ){k:Nat}(h:k<384):pJ q sl=ad 258 3 (q k).1 (sl k).length (q k).2 (cS (sl k))*wy k q sl:=by
 unfold pJ wy
 rw[SL.QC _ k (by simpa using h)]
 simp[tt]
theorem XD (q:Nat→az)(sl:Nat→List aZ){k:Nat}(r:az)(l:List aZ):wy k (iz q k r) (iz sl k l)=wy k q sl:=by
 unfold wy
 congr 1
 rw[List.eraseIdx_eq_take_drop_succ,List.eraseIdx_eq_take_drop_succ]
 congr 1
 ·apply List.ext_getElem?
  intro i
  rw[List.getElem?_take,List.getElem?_take]
  split
  ·rename_i hi
   have:i≠k:=by omega
   simp only[List.getElem?_map]
   cases hr:(List.range 384)[i]? with
   |none=>rfl
   |some j=>
    obtain⟨_,hj⟩:=List.getElem?_eq_some_iff.1 hr
    simp only[List.getElem_range]at hj
    subst hj
    simp only[Option.map_some,tt,tI _ _ this]
  ·rfl
 ·apply List.ext_getElem?
  intro i
  rw[List.getElem?_drop,List.getElem?_drop]
  have:k+1+i≠k:=by omega
  simp only[List.getElem?_map]
  cases hr:(List.range 384)[k+1+i]? with
  |none=>rfl
  |some j=>
   obtain⟨_,hj⟩:=List.getElem?_eq_some_iff.1 hr
   simp only[List.getElem_range]at hj
   subst hj
   simp only[Option.map_some,tt,tI _ _ this]
theorem LJ (q:Nat→az)(sl:Nat→List aZ){k:Nat}(h:k<384)(r:az)(l:List aZ):
  pJ (iz q k r) (iz sl k l)=ad 258 3 r.1 l.length r.2 (cS l)*wy k q sl:=by
 rw[FK _ _ h,XD,va,va]
abbrev sf (now av cnt:Int)(r:az)(n:Nat)(q:Nat→az)(sl:Nat→List aZ):List Value:= .int .i64 now:: .int .i64 av:: .int .i64 cnt:: .slice r.1 n r.2::kG q sl
instance CN.wh (a b c d:Value)(q:Nat→az)(sl:Nat→List aZ)(l j:Nat):CN (a::b::c::d::kG q sl) (0+4+l*64+j*1) (.slice (q (l*64+j)).1 (sl (l*64+j)).length (q (l*64+j)).2) (l*64+j<384):=⟨fun h=>by
 rw[show 0+4+l*64+j*1=(l*64+j)+4 by omega]
 simpa using BZ q sl h⟩
instance CO.wh (a b c d:Value)(q:Nat→az)(sl:Nat→List aZ)(l j n:Nat)(p:Option Addr)(cap:Nat):CO (a::b::c::d::kG q sl) (0+4+l*64+j*1) (.slice p n cap) (a::b::c::d::(kG q sl).set (l*64+j) (.slice p n cap)) (l*64+j<384):=⟨fun h=>by
 rw[show 0+4+l*64+j*1=(l*64+j)+4 by omega,MP (by simp[B0];omega)]
 rfl⟩
abbrev lv (p:Option Addr)(s:cz)(cnt:Int)(r:az)(q:Nat→az)(F:SL):SL:=
 Obj p 180 (sf s.now s.av cnt r s.ready.length q s.sl)*(ad 258 3 r.1 s.ready.length r.2 (cS s.ready)*(pJ q s.sl*F))
def vv (p:Option Addr)(s:cz)(g:az×(Nat→az)):SL:=Obj p 180 (sf s.now s.av (s.all.length:Int) g.1 s.ready.length g.2 s.sl)*(ad 258 3 g.1.1 s.ready.length g.1.2 (cS s.ready)*pJ g.2 s.sl)
def ct (p:Option Addr)(s:cz):SL:=SL.ex (vv p s)
theorem vv.eq (p:Option Addr)(s:cz)(g:az×(Nat→az))(F:SL):vv p s g*F=lv p s (s.all.length:Int) g.1 g.2 F:=by
 unfold vv lv
 rw[SL.bP,SL.bP]
theorem ct.open {X:Cx}{k:List KI}{σ:Env}{F:SL}{p:Option Addr}{s:cz}(h:∀r q,EK X k σ (lv p s (s.all.length:Int) r q F)):EK X k σ (ct p s*F):=pR fun g=>by
 rw[vv.eq]
 exact h g.1 g.2
theorem ct.shut {F:SL}{p:Option Addr}{s:cz}{cnt:Int}{r:az}{q:Nat→az}(hc:cnt=(s.all.length:Int)):U (lv p s cnt r q F) (ct p s*F):=by
 subst hc
 refine U.ex (r,q) ?_
 rw[vv.eq]
 exact U.refl _
instance (priority:=2000)(p:Option Addr)(s:cz)(F:SL):bZ (ct p s*F) p (ct p s) F:=⟨rfl⟩
instance (p:Option Addr)(s:cz):lT (ct p s) p:=⟨fun W w F h=>by
 obtain⟨g,h⟩:=h.jA
 exact(Obj.root p _ _).nn W w _ (h.ac (SL.bP _ _ _))⟩
end
section
open Go.RowKit
set_option maxRecDepth 10000
attribute [local irreducible] EK EX ER EN EL ES EG an aR aU
variable {W:World} {F:SL} {X:Cx} {k:List KI} {σ:Env}
theorem Om (u:Nat)(hu:u<18446744073709551616):Spec Tryz.prog 181 [.int .u64 (u:Int)] W F (fun _:Unit=> .int .i64 ((Lib.bitLen u:Nat):Int)) (fun _=>F):=by
 intro w h
 refine(Tryz.bits_Len (u:Int) w (by omega) (by omega)).mono ?_
 rintro e w' ⟨rfl,rfl⟩
 exact⟨(),by rw[Int.toNat_natCast],h⟩
theorem Ya (a l:Nat)(ha:a<4294967296):bits .and .i64 ((a:Int)/2^(6*(l:Int)).toNat) 63=((dg a l:Nat):Int):=by
 have e:(6*(l:Int)).toNat=6*l:=by omega
 have h1:((a:Int)/2^(6*l))=((a/64^l:Nat):Int):=by rw[BG,Int.natCast_ediv];simp
 have h2:a/64^l≤a:=Nat.div_le_self _ _
 rw[e,h1,show(63:Int)=((2^6-1:Nat):Int)from rfl,EW _ 6 (by omega) (by decide)]
 rfl
theorem FW (a l:Nat)(ha:a<4294967296)(hl:l≤5):Spec Tryz.prog 180 [.int .i64 (a:Int),.int .i64 (l:Int)] W F (fun _:Unit=> .int .i64 ((dg a l:Nat):Int)) (fun _=>F):=by
 refine Spec.of Tryz.func180 rfl Tryz.ntmps180 rfl ?_
 refine aa ?_;intros
 exact ae (aj rfl rfl () (by rw[Ya a l ha]) (U.sat U.last))
theorem VI (a b:Nat)(ha:a<4294967296)(hb:b<4294967296):bits .xor .i64 (a:Int) (b:Int)=((a^^^b:Nat):Int)∧a^^^b<4294967296:=
 ⟨UJ a b (by omega) (by omega),Nat.xor_lt_two_pow (n:=32) (by omega) (by omega)⟩
abbrev Cg (x:aZ):Value:= .agg (iO x).toArray
theorem MN (p:Option Addr)(s:cz)(x:aZ)(cnt:Int)(r:az)(q:Nat→az)(hs:s.now<4294967296)(hx:x.at_<4294967296)(hl:∀k,k<384→(s.sl k).length≤1000)(hr:s.ready.length≤1000):
  Spec Tryz.prog 135 [.pointer p,Cg x] W (lv p s cnt r q F) (fun _:az×(Nat→az)=> .tuple #[]) (fun g=>lv p (gy s x) cnt g.1 g.2 F):=by
 obtain⟨e1,e2⟩:=VI x.at_ s.now hx hs
 refine Spec.of Tryz.func135 rfl Tryz.ntmps135 rfl ?_
 simp only[lv,sf,Cg,iO]
 refine aa ?_;intros
 refine jf rfl (by kernel_rfl) ?_
 repeat(refine cD ?_)
 refine aa ?_;intros
 rename_i px
 refine iB rfl (fun hle=> ?_) (fun hle=> ?_)
 ·have ep:gy s x=⟨s.now,s.av,s.ready++[x],s.sl⟩:=if_pos (by omega)
  rw[ep]
  refine aa ?_;intros
  refine ay 10 (Obj px 258 [.int .i64 x.id,.int .i64 (x.at_:Int),.int .i64 (x.av:Int)]*(Obj p 180 (.int .i64 (s.now:Int):: .int .i64 (s.av:Int):: .int .i64 cnt:: .slice r.1 s.ready.length r.2::kG q s.sl)*1)) rfl rfl rfl ?_
  refine bD ?_;intros
  refine aa ?_;intros
  rename_i g
  refine ae (dm rfl (g,q) rfl (U.sat (U.obj p (by simp) (U.row g.1 (by simp) (by rw[←Iw];rfl) ?_))))
  repeat(first|exact U.last|refine U.cons ?_ |refine U.assoc ?_)
 ·have bY:s.now<x.at_:=by omega
  have ep:gy s x=⟨s.now,s.av,s.ready,iz s.sl (spot s.now x.at_) (s.sl (spot s.now x.at_)++[x])⟩:=if_neg (by omega)
  have hk:=L3 hx bY
  have EM:x.at_^^^s.now≠0:=fun e=>by have:=xor_zero e;omega
  have iV:=(Lib.bitLenAux_bounds 64 (x.at_^^^s.now) (by omega) EM).1
  have ig:Lib.bitLen (x.at_^^^s.now)≤32:=Lib.bitLen_le _ 32 (by decide) (by omega)
  have iV:1≤Lib.bitLen (x.at_^^^s.now):=iV
  have nO:fI x.at_ s.now≤5:=by unfold fI;omega
  have eL:(((Lib.bitLen (x.at_^^^s.now):Nat):Int)-1)/6=((fI x.at_ s.now:Nat):Int):=by unfold fI;omega
  have ex:IntKind.u64.wrap (bits .xor .i64 (x.at_:Int) (s.now:Int))=((x.at_^^^s.now:Nat):Int):=by rw[e1];exact cG.wrap (by simp only[cG];omega)
  have hdg:dg x.at_ (fI x.at_ s.now)<64:=Nat.mod_lt _ (by decide)
  rw[ep]
  refine aa ?_;intros
  refine jf rfl (by kernel_rfl) ?_
  repeat(refine cD ?_)
  refine ob (vs:=[.int .u64 ((x.at_^^^s.now:Nat):Int)]) (by rw[←e1];rfl) (Om _ (by omega)) ?_
  repeat(refine cD ?_)
  refine aa ?_;intros
  rw[eL]
  refine jf rfl (by kernel_rfl) ?_
  repeat(refine cD ?_)
  refine ob rfl (FW x.at_ (fI x.at_ s.now) hx nO) ?_
  repeat(refine cD ?_)
  refine aa ?_;intros
  have er:=FK q s.sl hk
  rw[er,SL.bP]
  refine ay 8 (Obj px 258 [.int .i64 x.id,.int .i64 (x.at_:Int),.int .i64 (x.av:Int)]*(Obj p 180 (.int .i64 (s.now:Int):: .int .i64 (s.av:Int):: .int .i64 cnt:: .slice r.1 s.ready.length r.2::kG q s.sl)*1)) rfl rfl rfl ?_
  have AS:=hl _ hk
  have nN:fI x.at_ s.now*64+dg x.at_ (fI x.at_ s.now)<384:=hk
  unfold spot at*
  refine bD ?_;intros
  refine aa ?_;intros
  rename_i g
  generalize fI x.at_ s.now*64+dg x.at_ (fI x.at_ s.now)=kk at*
  refine aE (aF rfl (r,iz q kk g) rfl (U.sat ?_))
  dsimp only
  rw[LJ q s.sl nN g,SL.bP]
  refine U.obj p (by rw[←L1 q s.sl nN g];simp) (U.row r.1 rfl rfl (U.row g.1 (by simp) (by rw[←Iw];rfl) ?_))
  repeat(first|exact U.last|refine U.cons ?_ |refine U.assoc ?_)
end
section
open Go.RowKit
set_option maxRecDepth 10000
attribute [local irreducible] EK EX ER EN EL ES EG an aR aU
variable {W:World} {F:SL} {X:Cx} {k:List KI} {σ:Env}
def Mx:List Value:= .int .i64 0:: .int .i64 0:: .int .i64 0:: .slice none 0 0::List.replicate 384 (.slice none 0 0)
theorem X9:kG (fun _=>(none,0)) (fun _=>[])=List.replicate 384 (.slice none 0 0):=by
 unfold kG
 rw[List.map_const']
 simp
theorem XE:∀n,SL.nC ((List.range n).map (tt (fun _=>(none,0)) (fun _=>[])))=SL.nC (List.replicate n (ad 258 3 none 0 0 [])):=by
 intro n
 rw[show(List.range n).map (tt (fun _=>(none,0)) (fun _=>[]))=List.replicate n (ad 258 3 none 0 0 [])from by
  have:tt (fun _=>(none,0)) (fun _=>[])=fun _=>ad 258 3 none 0 0 []:=by
   funext i;rfl
  rw[this,List.map_const'];simp]
theorem Iv {H G:SL}{e sz:Nat}(k:U H G):∀n,U H (SL.nC (List.replicate n (ad e sz none 0 0 []))*G)
 |0=>by rw[List.replicate_zero,SL.QB,SL.It];exact k
 |n+1=>by
  rw[List.replicate_succ,SL.QA,SL.bP]
  exact U.none (Iv k n)
instance (priority:=3000) dq.wh:dq Tryz.prog 180 Mx:=⟨⟨.agg Mx.toArray,by kernel_rfl,rfl⟩⟩
theorem P2:Spec Tryz.prog 51 [] W F (fun p:Option Addr=> .pointer p) (fun p=>ct p lK*F):=by
 refine Spec.of Tryz.func51 rfl Tryz.ntmps51 rfl ?_
 refine aa ?_;intros
 rename_i p
 refine ae (aj rfl rfl p rfl (U.sat (U.trans ?_ (ct.shut (r:=(none,0)) (q:=fun _=>(none,0)) (by rw[KO])))))
 refine U.obj p (by rw[lK,sf,X9];rfl) (U.none ?_)
 unfold pJ
 rw[show lK.sl=fun _=>[]from rfl,XE]
 exact Iv (U.refl _) 384
theorem FV {s:cz}{k:Nat}(hk:k<384):(s.sl k).length≤s.all.length:=by
 have h:∀n,k<n→(s.sl k).length≤((List.range n).flatMap s.sl).length:=by
  intro n
  induction n with
  |zero=>intro h;omega
  |succ n ih=>
   intro h
   rw[List.range_succ,List.flatMap_append,List.length_append]
   rcases Nat.lt_or_ge k n with g|g
   ·have:=ih g;omega
   ·obtain rfl:k=n:=by omega
    simp
 have:=h 384 hk
 unfold cz.all jB
 rw[List.length_append];omega
theorem BN (s:cz):s.ready.length≤s.all.length:=by unfold cz.all;rw[List.length_append];omega
theorem Gl (p:Option Addr)(s:cz)(id:Int)(a:Nat)(hg:jx s)(ha:a<4294967296)(hn:s.all.length≤1000)(ht:s.av≤1000000):
  Spec Tryz.prog 176 [.pointer p,.int .i64 id,.int .i64 (a:Int)] W (ct p s*F) (fun _:Unit=> .int .i64 0) (fun _=>ct p (nA s id a)*F):=by
 have A0:=(HA (id:=id) hg ha).2.2.2.length_eq
 refine Spec.of Tryz.func176 rfl Tryz.ntmps176 rfl ?_
 refine ct.open fun r q=> ?_
 simp only[lv,sf]
 refine aa ?_;intros
 refine af (vs:=[.pointer p,Cg ⟨id,a,s.av+1⟩]) rfl (Spec.pre (MN p {s with av:=s.av+1} ⟨id,a,s.av+1⟩ ((s.all.length:Int)+1) r q hg.pos.now ha (fun k hk=>by have:=FV (s:=s) hk;dsimp only;omega) (by have:=BN s;dsimp only;omega)) (U.obj p rfl (U.refl _))) ?_
 intro g
 refine aa ?_;intros
 refine ae (aj rfl rfl () rfl (U.sat (ct.shut (s:=nA s id a) (r:=g.1) (q:=g.2) ?_)))
 rw[A0];simp
theorem MY (p:Option Addr)(s:cz)(id a:Int)(ha:a<0∨4294967295<a):
  Spec Tryz.prog 176 [.pointer p,.int .i64 id,.int .i64 a] W (ct p s*F) (fun _:Unit=> .int .i64 1) (fun _=>ct p s*F):=by
 refine Spec.of Tryz.func176 rfl Tryz.ntmps176 rfl ?_
 refine aa ?_;intros
 refine sx rfl rfl (fun h1=> ?_) (fun h1=> ?_)
 ·refine aa ?_;intros
  exact ae (aj rfl rfl () rfl (U.sat U.last))
 ·refine aa ?_;intros
  exact ae (aj rfl rfl () rfl (U.sat U.last))
end
section
open Go.RowKit
set_option maxRecDepth 10000
attribute [local irreducible] EK EX ER EN EL ES EG an aR aU
variable {W:World} {F:SL} {X:Cx} {k:List KI} {σ:Env}
def qn (sl:Nat→List aZ)(l a j:Nat):List aZ:=(fB ((List.range' a j).map (l*64+ ·)) sl []).1
def me (sl:Nat→List aZ)(l a j:Nat):Nat→List aZ:=(fB ((List.range' a j).map (l*64+ ·)) sl []).2
theorem SP (sl:Nat→List aZ)(l a j:Nat):qn sl l a (j+1)=qn sl l a j++me sl l a j (l*64+(a+j))∧me sl l a (j+1)=iz (me sl l a j) (l*64+(a+j)) []:=by
 have e:(List.range' a (j+1)).map (l*64+ ·)=(List.range' a j).map (l*64+ ·)++[l*64+(a+j)]:=by
  rw[List.range'_concat,List.map_append];simp
 unfold qn me
 rw[e,DE]
 exact⟨rfl,rfl⟩
theorem SM (sl:Nat→List aZ)(l f t:Nat){a n:Nat}(h:qI l f t=List.range' a n):(fB (oI l f t) sl []).1=qn sl l a n∧(fB (oI l f t) sl []).2=me sl l a n:=by
 unfold oI qn me
 rw[h]
 exact⟨rfl,rfl⟩
theorem SO (sl:Nat→List aZ)(l a j k:Nat):(me sl l a j k).length≤(sl k).length:=by
 unfold me
 rw[Av]
 split
 ·simp
 ·exact Nat.le_refl _
theorem SN (sl:Nat→List aZ)(l a:Nat):∀j,l≤5→a+j≤64→(qn sl l a j).length+(jB (me sl l a j)).length=(jB sl).length:=by
 intro j hl hj
 have:=(xT ((List.range' a j).map (l*64+ ·)) sl [] fun i hi=>by
  obtain⟨x,hx,rfl⟩:=List.mem_map.1 hi
  obtain⟨y,hy,rfl⟩:=List.mem_range'.1 hx
  omega).length_eq
 simpa[qn,me]using this
theorem L0 (a l:Nat):((a:Int)/2^(6*((l:Int)+1)).toNat)=((a/64^(l+1):Nat):Int):=by
 rw[show(6*((l:Int)+1)).toNat=6*(l+1)by omega,BG,Int.natCast_ediv];simp
def rR (l f t:Nat):Nat:=if f/64^(l+1)=t/64^(l+1)then dg f l+1 else 0
def qH (l f t:Nat):Nat:=if f/64^(l+1)=t/64^(l+1)then dg t l-dg f l else 64
theorem WZ (l f t:Nat):qI l f t=List.range' (rR l f t) (qH l f t):=by
 unfold qI rR qH
 split<;>rfl
theorem W0 (l f t:Nat):rR l f t+qH l f t≤65∧(0<qH l f t→rR l f t+qH l f t≤64):=by
 have h1:dg f l<64:=Nat.mod_lt _ (by decide)
 have h2:dg t l<64:=Nat.mod_lt _ (by decide)
 unfold rR qH
 split<;>omega
theorem W8 (p:Option Addr)(s:cz)(l f t:Nat)(cnt:Int)(r:az)(q:Nat→az)(hl:l≤5)(hf:f<4294967296)(ht:t<4294967296)(hn:(jB s.sl).length≤1000):
  Spec Tryz.prog 134 [.pointer p,.int .i64 (l:Int),.int .i64 (f:Int),.int .i64 (t:Int)] W (lv p s cnt r q F) (fun g:az×(Nat→az)=> .slice g.1.1 (fB (oI l f t) s.sl []).1.length g.1.2)
   (fun g=>ad 258 3 g.1.1 (fB (oI l f t) s.sl []).1.length g.1.2 (cS (fB (oI l f t) s.sl []).1)*lv p {s with sl:=(fB (oI l f t) s.sl []).2} cnt r g.2 F):=by
 obtain⟨k1,k2⟩:=SM s.sl l f t (WZ l f t)
 obtain⟨p1,p2⟩:=W0 l f t
 have d1:dg f l<64:=Nat.mod_lt _ (by decide)
 have d2:dg t l<64:=Nat.mod_lt _ (by decide)
 have s1:=L0 f l
 have s2:=L0 t l
 rw[k1,k2]
 refine Spec.of Tryz.func134 rfl Tryz.ntmps134 rfl ?_
 simp only[lv,sf]
 refine aa ?_;intros
 refine af rfl (FW f l hf hl) ?_
 intro
 refine aa ?_;intros
 refine af rfl (FW t l ht hl) ?_
 intro
 refine aa ?_;intros
 refine jf rfl (by kernel_rfl) ?_
 repeat(refine cD ?_)
 refine aa ?_;intros
 refine kh (γ:=Nat×Int) (fun g=>g.1=rR l f t∧∀j:Nat,((g.1:Int)+(j:Int)≤g.2↔j<qH l f t)) (fun g=>[(0,.pointer p),(1,.int .i64 (l:Int)),(9,.int .i64 (g.1:Int)),(10,.int .i64 g.2)])
  (fun _=>Obj p 180 (.int .i64 s.now:: .int .i64 s.av:: .int .i64 cnt:: .slice r.1 s.ready.length r.2::kG q s.sl)*(ad 258 3 r.1 s.ready.length r.2 (cS s.ready)*(pJ q s.sl*F))) ?_ ?_
 ·refine sv rfl (fun gK=> ?_) (fun he=> ?_)
  ·have gK:¬f/64^(l+1)=t/64^(l+1):=by omega
   refine aa ?_;intros
   refine dI (0,63) ⟨by unfold rR;rw[if_neg gK],fun j=> ?_⟩ ⟨rfl,rfl,rfl,rfl,trivial⟩ (U.sat (U.refl _))
   unfold qH
   rw[if_neg gK]
   dsimp only
   omega
  ·have he:f/64^(l+1)=t/64^(l+1):=by omega
   refine aa ?_;intros
   refine dI (dg f l+1,(dg t l:Int)) ⟨by unfold rR;rw[if_pos he],fun j=> ?_⟩ ⟨rfl,rfl,rfl,rfl,trivial⟩ (U.sat (U.refl _))
   unfold qH
   rw[if_pos he]
   dsimp only
   omega
 ·intro ⟨a,z⟩ ⟨ha,hz⟩;dsimp only at ha hz ⊢
  subst ha
  generalize rR l f t=a at*
  generalize qH l f t=n at*
  refine aa ?_;intros
  refine fy (γ:=Nat×az×(Nat→az)) (fun g=>g.1≤n) (fun g=>[(0,.pointer p),(1,.int .i64 (l:Int)),(10,.int .i64 z),(12,.slice g.2.1.1 (qn s.sl l a g.1).length g.2.1.2),(13,.int .i64 ((a+g.1:Nat):Int))])
   (fun g=>ad 258 3 g.2.1.1 (qn s.sl l a g.1).length g.2.1.2 (cS (qn s.sl l a g.1))*(Obj p 180 (.int .i64 s.now:: .int .i64 s.av:: .int .i64 cnt:: .slice r.1 s.ready.length r.2::kG g.2.2 (me s.sl l a g.1))*(ad 258 3 r.1 s.ready.length r.2 (cS s.ready)*(pJ g.2.2 (me s.sl l a g.1)*F))))
   (fun g=>n-g.1) (0,(none,0),q) (Nat.zero_le _) ⟨rfl,rfl,rfl,rfl,rfl,trivial⟩ (U.sat (U.none (U.refl _))) ?_
  intro ⟨j,o,q'⟩ hj;dsimp only at hj ⊢
  have hzj:=hz j
  refine aa ?_;intros
  refine iB rfl (fun bY=> ?_) (fun mU=> ?_)
  ·have rF:j<n:=by omega
   have hk:l*64+(a+j)<384:=by omega
   have AL:=SN s.sl l a j hl (by omega)
   have aeu:=SO s.sl l a j (l*64+(a+j))
   have Uo:=FV (s:={s with ready:=[]}) hk
   obtain⟨q1,q2⟩:=SP s.sl l a j
   have er:=FK q' (me s.sl l a j) hk
   rw[er,SL.bP]
   have pk:(s.sl (l*64+(a+j))).length≤1000:=by
    have:(cz.all {s with ready:=[]}).length=(jB s.sl).length:=by simp[cz.all]
    dsimp only at Uo
    omega
   refine aa ?_;intros
   rename_i g
   refine cJ (j+1,g,iz q' (l*64+(a+j)) (none,0)) (by dsimp only;omega) (by dsimp only;omega) ⟨rfl,rfl,rfl,by rw[q1,List.length_append];rfl,rfl,trivial⟩ (U.sat ?_)
   dsimp only
   rw[q1,q2,LJ q' (me s.sl l a j) hk (none,0) [],SL.bP]
   refine U.row g.1 (by simp) (Dl _ _) (U.obj p (by rw[←L1 q' (me s.sl l a j) hk (none,0) []];rfl) (U.row r.1 rfl rfl (U.none ?_)))
   repeat(first|exact U.last|refine U.cons ?_ |refine U.assoc ?_)
  ·have rF:j=n:=by omega
   subst rF
   refine aa ?_;intros
   exact ae (aj rfl rfl (o,q') rfl (U.sat (U.refl _)))
end
section
open Go.RowKit
set_option maxRecDepth 10000
attribute [local irreducible] EK EX ER EN EL ES EG an aR aU
variable {W:World} {F:SL} {X:Cx} {k:List KI} {σ:Env}
def rN (f t:Nat):Nat→List Nat
 |0=>[]
 |l+1=>rN f t l++oI l f t
theorem E1 (f t:Nat):rN f t 6=idx f t:=by
 simp[rN,idx,List.range_succ]
def jJ (sl:Nat→List aZ)(f t l:Nat):List aZ:=(fB (rN f t l) sl []).1
def j0 (sl:Nat→List aZ)(f t l:Nat):Nat→List aZ:=(fB (rN f t l) sl []).2
theorem VN (sl:Nat→List aZ)(f t l:Nat):jJ sl f t (l+1)=jJ sl f t l++(fB (oI l f t) (j0 sl f t l) []).1∧j0 sl f t (l+1)=(fB (oI l f t) (j0 sl f t l) []).2:=by
 unfold jJ j0
 rw[rN,DE,DG]
 exact⟨rfl,rfl⟩
theorem E0 {f t:Nat}:∀ {l i:Nat},l≤6→i∈rN f t l→i<384
 |0,i,_,h=>by simp[rN]at h
 |l+1,i,hl,h=>by
  rcases List.mem_append.1 h with h|h
  ·exact E0 (by omega) h
  ·obtain⟨j,hj,rfl⟩:=List.mem_map.1 h
   have:=Fw hj
   omega
theorem VL (sl:Nat→List aZ)(f t l:Nat)(hl:l≤6):(jJ sl f t l).length+(jB (j0 sl f t l)).length=(jB sl).length:=by
 have:=(xT (rN f t l) sl [] fun i hi=>E0 hl hi).length_eq
 simpa[jJ,j0]using this
theorem VM {sl:Nat→List aZ}{f t l:Nat}(hl:l≤6){x:aZ}(h:x∈jJ sl f t l):∃i,i<384∧x∈sl i:=by
 rcases DF _ _ _ x h with g|⟨i,hi,g⟩
 ·simp at g
 ·exact⟨i,E0 hl hi,g⟩
theorem Sp {α β:Type}(f:β→α→β)(b:β)(l:List α)(d:α){j:Nat}(hj:j<l.length):(l.take (j+1)).foldl f b=f ((l.take j).foldl f b) (l.getD j d):=by
 rw[←tv (d:=d) hj,List.foldl_append];rfl
theorem Xo (l:List aZ)(s:cz)(h:kS s)(hx:∀x∈l,x.at_<4294967296):(l.foldl gy s).all.length=l.length+s.all.length:=by
 have:=(BJ l s h hx).2.2.2.length_eq
 rw[this,List.length_append]
end
end Go.Proofs.YtfkngchldmfpfaaGreatDoor
