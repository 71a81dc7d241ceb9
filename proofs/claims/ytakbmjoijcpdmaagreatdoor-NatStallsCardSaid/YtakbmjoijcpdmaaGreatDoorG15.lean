/-
  A part of a proof, joined by a program (wip/bundle3.py).
-/
import Derived.MapKept
import Derived.Lib.ItoaNum
import Derived.Lib.LaidTab
import Derived.Lib.Join
import Derived.Test.YtakbmjoijcpdmaaGreatDoorG1
import Derived.Test.YtakbmjoijcpdmaaGreatDoorG2
import Derived.Test.YtakbmjoijcpdmaaGreatDoorG3
import Derived.Test.YtakbmjoijcpdmaaGreatDoorG4
import Derived.Test.YtakbmjoijcpdmaaGreatDoorG5
import Derived.Test.YtakbmjoijcpdmaaGreatDoorG6
import Derived.Test.YtakbmjoijcpdmaaGreatDoorG7
import Derived.Test.YtakbmjoijcpdmaaGreatDoorG8
import Derived.Test.YtakbmjoijcpdmaaGreatDoorG9
import Derived.Test.YtakbmjoijcpdmaaGreatDoorG10
import Derived.Test.YtakbmjoijcpdmaaGreatDoorG12
import Derived.Test.YtakbmjoijcpdmaaGreatDoorG13
import Derived.Test.YtakbmjoijcpdmaaGreatDoorG14
set_option linter.unusedVariables false
set_option linter.unusedSimpArgs false
namespace Go.Proofs.YtakbmjoijcpdmaaGreatDoor
section
open Go.RowKit
set_option maxRecDepth 10000
attribute [local irreducible] EK EX ER EN EL ES EG az ba bf
variable {W:World} {F:SL} {X:Cx} {k:List KI} {σ:Env}
attribute [local simp] mM
abbrev vC (q:aP)(l:List UInt8)(F:SL):SL:=ao 5 1 q.1 l.length q.2 (aA l)*F
section
variable {q:aP} {l:List UInt8}
theorem O9 {p:Option Addr}{c:Nat}(hl:l.length≤140737488355328)[s:Src W F p l.length (aA l)][r:Room W F p l.length c](addr port:Nat)(ha:addr<4294967296)(hp:port<65536):Spec Tryz.prog 154 [.slice p l.length c,.int .u32 (addr:Int),.int .u16 (port:Int)] W F (fun z:aP=>Fe z (jf l true addr port) (dz l)) (fun z=>vC z (jf l true addr port) F):=by
 refine Spec.of Tryz.func154 rfl Tryz.ntmps154 rfl ?_
 repeat first|refine aa ?_ |intro
 refine ag rfl (Hx (out:=true) hl addr port ha hp) ?_
 intro z
 repeat first|refine aa ?_ |intro
 exact ae (eU rfl rfl rfl z rfl (U.sat (av)))
theorem Gc {p:Option Addr}{c:Nat}(hl:l.length≤140737488355328)[s:Src W F p l.length (aA l)][r:Room W F p l.length c](addr port:Nat)(ha:addr<4294967296)(hp:port<65536):Spec Tryz.prog 109 [.slice p l.length c,.int .u32 (addr:Int),.int .u16 (port:Int)] W F (fun z:aP=>Fe z (jf l false addr port) (dz l)) (fun z=>vC z (jf l false addr port) F):=by
 refine Spec.of Tryz.func109 rfl Tryz.ntmps109 rfl ?_
 repeat first|refine aa ?_ |intro
 refine ag rfl (Hx (out:=false) hl addr port ha hp) ?_
 intro z
 repeat first|refine aa ?_ |intro
 exact ae (eU rfl rfl rfl z rfl (U.sat (av)))
end
end
section
open Go.RowKit
set_option maxRecDepth 10000
attribute [local irreducible] EK EX ER EN EL ES EG az ba bf
variable {W:World} {F:SL} {X:Cx} {k:List KI} {σ:Env}
theorem Ig {f:Nat}(h:f<256):bits .and .i64 (f:Int) 4=((f/4%2*4:Nat):Int)∧bits .and .i64 (f:Int) 1=((f%2:Nat):Int)∧bits .and .i64 (f:Int) 2=((f/2%2*2:Nat):Int)∧bits .and .i64 (f:Int) 16=((f/16%2*16:Nat):Int)∧
  bits .and .i64 (f:Int) 18=((f/2%2*2+f/16%2*16:Nat):Int)∧bits .and .i64 (f:Int) 23=((f%2+f/2%2*2+f/4%2*4+f/16%2*16:Nat):Int):=by
 have e:∀m:Nat,m<256→bits .and .i64 (f:Int) (m:Int)=((f&&& m:Nat):Int):=fun m hm=>D8 f m (by omega) (by omega)
 have d:∀f:Fin 256,(f.val&&& 4=f.val/4%2*4)∧(f.val&&& 1=f.val%2)∧(f.val&&& 2=f.val/2%2*2)∧(f.val&&& 16=f.val/16%2*16)∧(f.val&&& 18=f.val/2%2*2+f.val/16%2*16)∧(f.val&&& 23=f.val%2+f.val/2%2*2+f.val/4%2*4+f.val/16%2*16):=by decide+kernel
 obtain⟨d1,d2,d3,d4,d5,d6⟩:=d ⟨f,h⟩
 dsimp only at d1 d2 d3 d4 d5 d6
 have e4:=e 4 (by decide);have e1:=e 1 (by decide);have e2:=e 2 (by decide);have yP:=e 16 (by decide);have HR:=e 18 (by decide);have HS:=e 23 (by decide)
 rw[d1]at e4;rw[d2]at e1;rw[d3]at e2;rw[d4]at yP;rw[d5]at HR;rw[d6]at HS
 exact⟨e4,e1,e2,yP,HR,HS⟩
theorem Rn (s:Nat)(out:Bool)(h:s≤4):Spec Tryz.prog 216 [.int .i64 (s:Int),.bool out] W F (fun _:Unit=> .int .i64 (yR s out:Int)) (fun _=>F):=by
 refine Spec.of Tryz.func216 rfl Tryz.ntmps216 rfl ?_
 have hc:s=0∨s=1∨s=2∨s=3∨s=4:=by omega
 rcases hc with rfl|rfl|rfl|rfl|rfl<;>cases out
 all_goals
  repeat first|refine aa ?_ |intro
  exact ae (aw rfl rfl () rfl (U.sat (ad)))
theorem Bk (proto s flags:Nat)(out:Bool)(h:s≤4)(hf:flags<256)(hp:proto<256):Spec Tryz.prog 161 [.int .i64 (proto:Int),.int .i64 (s:Int),.bool out,.int .i64 (flags:Int)] W F (fun _:Unit=> .int .i64 (iF proto s out flags:Int)) (fun _=>F):=by
 refine Spec.of Tryz.func161 rfl Tryz.ntmps161 rfl ?_
 obtain⟨f4,f1,_,f16,f18,_⟩:=Ig hf
 have e0:iF proto s out flags=_:=rfl
 conv at e0=>rhs;unfold iF
 by_cases g1:proto≠6
 ·rw[if_pos g1]at e0
  rw[e0]
  repeat first|refine aa ?_ |intro
  exact ae (aw rfl rfl () rfl (U.sat (ad)))
 rw[if_neg g1]at e0
 by_cases g2:flags/4%2=1
 ·rw[if_pos g2]at e0
  rw[e0]
  repeat first|refine aa ?_ |intro
  exact ae (aw rfl rfl () rfl (U.sat (ad)))
 rw[if_neg g2]at e0
 by_cases g3:flags%2=1
 ·rw[if_pos g3]at e0
  rw[e0]
  repeat first|refine aa ?_ |intro
  refine ag rfl (Rn s out h) ?_
  intro _
  repeat first|refine aa ?_ |intro
  exact ae (aw rfl rfl () rfl (U.sat (ad)))
 rw[if_neg g3]at e0
 by_cases g4:flags/2%2=1∧flags/16%2=0
 ·cases out with
  |true=>
   by_cases g5:s=4
   ·rw[if_pos ⟨g4,rfl,g5⟩]at e0
    rw[e0]
    repeat first|refine aa ?_ |intro
    exact ae (aw rfl rfl () rfl (U.sat (ad)))
   ·rw[if_neg (fun g=>g5 g.2.2),if_neg (fun g=>by cases g.2.1)]at e0
    rw[e0]
    repeat first|refine aa ?_ |intro
    exact ae (aw rfl rfl () rfl (U.sat (ad)))
  |false=>
   rw[if_neg (fun g=>by cases g.2.1),if_neg (by omega)]at e0
   rw[e0]
   repeat first|refine aa ?_ |intro
   exact ae (aw rfl rfl () rfl (U.sat (ad)))
 rw[if_neg (fun g=>g4 g.1)]at e0
 by_cases g6:flags/16%2=1
 ·cases out with
  |true=>
   rw[if_neg (fun g=>by cases g.2.1)]at e0
   rw[e0]
   repeat first|refine aa ?_ |intro
   exact ae (aw rfl rfl () rfl (U.sat (ad)))
  |false=>
   by_cases g5:s=0
   ·rw[if_pos ⟨g6,rfl,g5⟩]at e0
    rw[e0]
    repeat first|refine aa ?_ |intro
    exact ae (aw rfl rfl () rfl (U.sat (ad)))
   ·rw[if_neg (fun g=>g5 g.2.2)]at e0
    rw[e0]
    repeat first|refine aa ?_ |intro
    exact ae (aw rfl rfl () rfl (U.sat (ad)))
 rw[if_neg (fun g=>g6 g.1)]at e0
 rw[e0]
 repeat first|refine aa ?_ |intro
 exact ae (aw rfl rfl () rfl (U.sat (ad)))
theorem OU (proto s:Nat)(hp:proto<256)(h:s≤4):Spec Tryz.prog 164 [.int .i64 (proto:Int),.int .i64 (s:Int)] W F (fun _:Unit=> .int .i64 (nJ proto s:Int)) (fun _=>F):=by
 refine Spec.of Tryz.func164 rfl Tryz.ntmps164 rfl ?_
 unfold nJ
 by_cases g1:proto=17
 ·rw[if_pos g1]
  repeat first|refine aa ?_ |intro
  exact ae (aw rfl rfl () rfl (U.sat (ad)))
 rw[if_neg g1]
 by_cases g2:proto=1
 ·rw[if_pos g2]
  repeat first|refine aa ?_ |intro
  exact ae (aw rfl rfl () rfl (U.sat (ad)))
 rw[if_neg g2]
 by_cases g3:proto=6
 ·rw[if_pos g3]
  by_cases g4:s=1
  ·rw[if_pos g4]
   repeat first|refine aa ?_ |intro
   exact ae (aw rfl rfl () rfl (U.sat (ad)))
  ·rw[if_neg g4]
   repeat first|refine aa ?_ |intro
   exact ae (aw rfl rfl () rfl (U.sat (ad)))
 rw[if_neg g3]
 repeat first|refine aa ?_ |intro
 exact ae (aw rfl rfl () rfl (U.sat (ad)))
theorem Ph (proto:Nat)(out:Bool):Spec Tryz.prog 167 [.int .i64 (proto:Int),.bool out] W F (fun _:Unit=> .bool (mi proto out)) (fun _=>F):=by
 refine Spec.of Tryz.func167 rfl Tryz.ntmps167 rfl ?_
 by_cases g1:proto=6
 ·rw[show mi proto out=true by simp[mi,g1]]
  repeat first|refine aa ?_ |intro
  exact ae (aw rfl rfl () rfl (U.sat (ad)))
 by_cases g2:proto=17
 ·rw[show mi proto out=out by simp[mi,g2]]
  repeat first|refine aa ?_ |intro
  exact ae (aw rfl rfl () rfl (U.sat (ad)))
 by_cases g3:proto=1
 ·rw[show mi proto out=out by simp[mi,g3]]
  repeat first|refine aa ?_ |intro
  exact ae (aw rfl rfl () rfl (U.sat (ad)))
 rw[show mi proto out=false by simp[mi,g1,g2,g3]]
 repeat first|refine aa ?_ |intro
 exact ae (aw rfl rfl () rfl (U.sat (ad)))
theorem P5 (kind flags:Nat):lJ 6 kind flags=decide (flags/2%2=1∧flags%2=0∧flags/4%2=0∧flags/16%2=0):=by
 unfold lJ
 rw[Bool.eq_iff_iff]
 simp[and_assoc]
theorem NQ (proto kind flags:Nat)(hf:flags<256):Spec Tryz.prog 144 [.int .i64 (proto:Int),.int .i64 (kind:Int),.int .i64 (flags:Int)] W F (fun _:Unit=> .bool (lJ proto kind flags)) (fun _=>F):=by
 refine Spec.of Tryz.func144 rfl Tryz.ntmps144 rfl ?_
 obtain⟨_,_,_,_,_,f23⟩:=Ig hf
 by_cases g1:proto=17
 ·rw[show lJ proto kind flags=true by simp[lJ,g1]]
  repeat first|refine aa ?_ |intro
  exact ae (aw rfl rfl () rfl (U.sat (ad)))
 by_cases g2:proto=6
 ·subst g2
  rw[P5]
  by_cases g4:flags/2%2=1∧flags%2=0∧flags/4%2=0∧flags/16%2=0
  ·rw[decide_eq_true g4]
   repeat first|refine aa ?_ |intro
   exact ae (aw rfl rfl () rfl (U.sat (ad)))
  ·rw[decide_eq_false g4]
   repeat first|refine aa ?_ |intro
   exact ae (aw rfl rfl () rfl (U.sat (ad)))
 by_cases g3:proto=1
 ·by_cases g5:kind=8
  ·rw[show lJ proto kind flags=true by simp[lJ,g3,g5]]
   repeat first|refine aa ?_ |intro
   exact ae (aw rfl rfl () rfl (U.sat (ad)))
  ·rw[show lJ proto kind flags=false by simp[lJ,g3,g5]]
   repeat first|refine aa ?_ |intro
   exact ae (aw rfl rfl () rfl (U.sat (ad)))
 rw[show lJ proto kind flags=false by simp[lJ,g1,g2,g3]]
 repeat first|refine aa ?_ |intro
 exact ae (aw rfl rfl () rfl (U.sat (ad)))
end
section
open Go.RowKit
set_option maxRecDepth 10000
attribute [local irreducible] EK EX ER EN EL ES EG az ba bf
variable {W:World} {F:SL} {X:Cx} {k:List KI} {σ:Env}
abbrev jK (f:dQ):List Value:=[.int .i64 (f.proto:Int),.int .u32 (f.addr:Int),.int .u16 (f.port:Int)]
abbrev Hl (b:qJ):List Value:=[.int .i64 (b.ar.proto:Int),.int .u32 (b.ar.addr:Int),.int .u16 (b.ar.port:Int),.int .i64 (b.port:Int),.int .i64 (b.pA:Int),.int .i64 (b.seen:Int)]
abbrev Xm (h:fh)(p:gQ)(e:Nat):Value:= .tuple #[.agg (cN h).toArray,.agg (bV p).toArray,.int .i64 (e:Int)]
abbrev uY (f:dQ)(e:Nat):Value:= .tuple #[.agg (jK f).toArray,.int .i64 (e:Int)]
section
variable {p:Option Addr} {c:Nat} {l:List UInt8}
def tM (l:List UInt8):fh:=if dz l=0 then bd l else eY
def mh (l:List UInt8):gQ:=if dz l=0 then dv l else bz
theorem Lp (hl:l.length≤140737488355328)[s:Src W F p l.length (aA l)][r:Room W F p l.length c]:Spec Tryz.prog 135 [.slice p l.length c] W F (fun _:Unit=>Xm (tM l) (mh l) (dz l)) (fun _=>F):=by
 refine Spec.of Tryz.func135 rfl Tryz.ntmps135 rfl ?_
 repeat first|refine aa ?_ |intro
 refine ag rfl (Dc hl) ?_
 intro _
 by_cases g1:dw false l=0
 ·have g0:=pK.of g1
  have eR:dz l=iG (bd l) l:=if_pos g1
  rw[lV g1,g1,if_pos rfl]
  repeat first|refine aa ?_ |intro
  refine ag rfl (EJ (bd l) g0) ?_
  intro _
  by_cases g2:iG (bd l) l=0
  ·have jJ:dz l=0:=by rw[eR,g2]
   rw[show oy (bd l) l=dv l from if_pos g2,g2,show tM l=bd l from if_pos jJ,show mh l=dv l from if_pos jJ,jJ]
   obtain⟨hd,f0⟩:∃x,bd l=x:=⟨_,rfl⟩
   obtain⟨x,f1⟩:∃x,dv l=x:=⟨_,rfl⟩
   rw[f0,f1]
   repeat first|refine aa ?_ |intro
   rename_i x2 x3 _ x5 _ x7
   refine aL 3 (Obj x5 71 (cN hd)*(Obj x7 73 (bV x)*1)) rfl rfl rfl ?_
   repeat(first|refine aq ?_ |refine eD ?_)
   repeat(first|refine bQ ?_ |(refine bU ?_;intro)|refine bR ?_ |refine bS ?_ |refine bT ?_ |refine eD ?_)
   repeat first|refine aa ?_ |intro
   exact ae (bq (rs:=[.cell 2 71,.cell 3 73,.tmp 4]) (v:= .agg (cN hd).toArray) (u:= .agg (bV x).toArray) (vs:=[.int .i64 ((0:Nat):Int)]) rfl ⟨⟨_,rfl,bc.agg rfl⟩,⟨_,rfl,bc.agg rfl⟩,rfl,trivial⟩ () rfl (U.sat (av)))
  ·have jJ:¬dz l=0:=by rw[eR];exact g2
   rw[show oy (bd l) l=bz from if_neg g2,show tM l=eY from if_neg jJ,show mh l=bz from if_neg jJ,eR]
   repeat first|refine aa ?_ |intro
   exact ae (bq (rs:=[.cell 2 71,.cell 3 73,.tmp 4]) (v:= .agg (cN eY).toArray) (u:= .agg (bV bz).toArray) (vs:=[.int .i64 (iG (bd l) l:Int)]) rfl ⟨⟨_,rfl,bc.agg rfl⟩,⟨_,rfl,bc.agg rfl⟩,rfl,trivial⟩ () rfl (U.sat (av)))
 ·have eR:dz l=dw false l:=if_neg g1
  have jJ:¬dz l=0:=by rw[eR];exact g1
  rw[lV (rfl:dw false l=_),if_neg g1,show tM l=eY from if_neg jJ,show mh l=bz from if_neg jJ,eR]
  repeat first|refine aa ?_ |intro
  exact ae (bq (rs:=[.cell 2 71,.cell 3 73,.tmp 4]) (v:= .agg (cN eY).toArray) (u:= .agg (bV bz).toArray) (vs:=[.int .i64 (dw false l:Int)]) rfl ⟨⟨_,rfl,bc.agg rfl⟩,⟨_,rfl,bc.agg rfl⟩,rfl,trivial⟩ () rfl (U.sat (av)))
theorem Ue (h:fh)(x:gQ):Spec Tryz.prog 136 [.agg (cN h).toArray,.agg (bV x).toArray] W F (fun _:Unit=> .agg (jK (uM h x)).toArray) (fun _=>F):=by
 refine Spec.of Tryz.func136 rfl Tryz.ntmps136 rfl ?_
 obtain⟨xp,xs,xd,xf,xk,xc,xe,xi,xo,xb⟩:=x
 cases xe with
 |true=>
  repeat first|refine aa ?_ |intro
  exact ae (kO (rv:= .cell 4 53) rfl ⟨_,rfl,bc.agg rfl⟩ () rfl (U.sat (av)))
 |false=>
  repeat first|refine aa ?_ |intro
  exact ae (kO (rv:= .cell 4 53) rfl ⟨_,rfl,bc.agg rfl⟩ () rfl (U.sat (av)))
theorem WO (h:fh)(x:gQ):Spec Tryz.prog 137 [.agg (cN h).toArray,.agg (bV x).toArray] W F (fun _:Unit=> .agg (jK (Ah h x)).toArray) (fun _=>F):=by
 refine Spec.of Tryz.func137 rfl Tryz.ntmps137 rfl ?_
 obtain⟨xp,xs,xd,xf,xk,xc,xe,xi,xo,xb⟩:=x
 cases xe with
 |true=>
  repeat first|refine aa ?_ |intro
  exact ae (kO (rv:= .cell 4 53) rfl ⟨_,rfl,bc.agg rfl⟩ () rfl (U.sat (av)))
 |false=>
  repeat first|refine aa ?_ |intro
  exact ae (kO (rv:= .cell 4 53) rfl ⟨_,rfl,bc.agg rfl⟩ () rfl (U.sat (av)))
theorem FH {o:Nat}{out:Bool}{l:List UInt8}{e:Nat}(h:jj o out l=e)(h0:e≠0):uY (su o out l) (jj o out l)=uY qc e:=by
 unfold su
 rw[h,if_neg h0]
theorem Ms {o:Nat}{out:Bool}{l:List UInt8}(h:jj o out l=0):uY (su o out l) (jj o out l)=uY (cQ out l) 0:=by
 unfold su
 rw[h,if_pos rfl]
theorem Py (hl:l.length≤140737488355328)[s:Src W F p l.length (aA l)][r:Room W F p l.length c](cf:fS)(ho:0≤cf.o)(out:Bool):Spec Tryz.prog 80 [.agg cf.cells.toArray,.bool out,.slice p l.length c] W F (fun _:Unit=>uY (su cf.o.toNat out l) (jj cf.o.toNat out l)) (fun _=>F):=by
 refine Spec.of Tryz.func80 rfl Tryz.ntmps80 rfl ?_
 have e0:jj cf.o.toNat out l=_:=rfl
 conv at e0=>rhs;unfold jj
 repeat first|refine aa ?_ |intro
 refine ag rfl (Lp hl) ?_
 intro _
 by_cases g1:¬(dz l=0)
 ·rw[if_pos g1]at e0
  rw[FH e0 g1,show tM l=eY from if_neg g1,show mh l=bz from if_neg g1]
  repeat first|refine aa ?_ |intro
  exact ae (bq (rs:=[.cell 6 53,.tmp 7]) (v:= .agg (jK qc).toArray) (u:= .int .i64 (dz l:Int)) (vs:=[]) rfl ⟨⟨_,rfl,bc.agg rfl⟩,rfl,trivial⟩ () rfl (U.sat (av)))
 have g1:=Decidable.not_not.1 g1
 rw[if_neg (by omega)]at e0
 rw[show tM l=bd l from if_pos g1,show mh l=dv l from if_pos g1,g1]
 cases out with
 |true=>
  rw[if_neg (fun g=>by cases g.1)]at e0
  rw[Ms e0]
  repeat first|refine aa ?_ |intro
  refine ag rfl (Ue (bd l) (dv l)) ?_
  intro _
  repeat first|refine aa ?_ |intro
  exact ae (bq (rs:=[.cell 6 53,.tmp 7]) (v:= .agg (jK (cQ true l)).toArray) (u:= .int .i64 ((0:Nat):Int)) (vs:=[]) rfl ⟨⟨_,rfl,bc.agg rfl⟩,rfl,trivial⟩ () rfl (U.sat (av)))
 |false=>
  have eW:Ah (bd l) (dv l)=cQ false l:=rfl
  repeat first|refine aa ?_ |intro
  refine ag rfl (WO (bd l) (dv l)) ?_
  intro _
  rw[eW]
  by_cases g2:(bd l).dst=cf.o.toNat
  ·by_cases g3:(cQ false l).addr=cf.o.toNat
   ·rw[if_neg (fun g=>g.2.elim (fun g=>g g2) (fun g=>g g3))]at e0
    rw[Ms e0]
    repeat first|refine aa ?_ |intro
    exact ae (bq (rs:=[.cell 6 53,.tmp 7]) (v:= .agg (jK (cQ false l)).toArray) (u:= .int .i64 ((0:Nat):Int)) (vs:=[]) rfl ⟨⟨_,rfl,bc.agg rfl⟩,rfl,trivial⟩ () rfl (U.sat (av)))
   ·rw[if_pos ⟨rfl,Or.inr g3⟩]at e0
    rw[FH e0 (by decide)]
    repeat first|refine aa ?_ |intro
    exact ae (bq (rs:=[.cell 6 53,.tmp 7]) (v:= .agg (jK qc).toArray) (u:= .int .i64 ((7:Nat):Int)) (vs:=[]) rfl ⟨⟨_,rfl,bc.agg rfl⟩,rfl,trivial⟩ () rfl (U.sat (av)))
  ·rw[if_pos ⟨rfl,Or.inl g2⟩]at e0
   rw[FH e0 (by decide)]
   repeat first|refine aa ?_ |intro
   exact ae (bq (rs:=[.cell 6 53,.tmp 7]) (v:= .agg (jK qc).toArray) (u:= .int .i64 ((7:Nat):Int)) (vs:=[]) rfl ⟨⟨_,rfl,bc.agg rfl⟩,rfl,trivial⟩ () rfl (U.sat (av)))
theorem P4 (out:Bool)(l:List UInt8):kU out l=(out&&(decide (dz l=0)&&(!(dv l).err&&lJ (dv l).proto (dv l).kind (dv l).flags))):=by
 unfold kU
 rw[Bool.and_assoc,Bool.and_assoc]
theorem NP (hl:l.length≤140737488355328)[s:Src W F p l.length (aA l)][r:Room W F p l.length c](out:Bool):Spec Tryz.prog 83 [.bool out,.slice p l.length c] W F (fun _:Unit=> .bool (kU out l)) (fun _=>F):=by
 refine Spec.of Tryz.func83 rfl Tryz.ntmps83 rfl ?_
 have rg:=qY.of (bd l) l
 rw[P4]
 repeat first|refine aa ?_ |intro
 refine ag rfl (Lp hl) ?_
 intro _
 cases out with
 |false=>
  repeat first|refine aa ?_ |intro
  exact ae (aw rfl rfl () rfl (U.sat (av)))
 |true=>
  by_cases g1:¬(dz l=0)
  ·rw[decide_eq_false g1]
   repeat first|refine aa ?_ |intro
   exact ae (aw rfl rfl () rfl (U.sat (av)))
  have g1:=Decidable.not_not.1 g1
  rw[decide_eq_true g1,show tM l=bd l from if_pos g1,show mh l=dv l from if_pos g1,g1]
  change qY (dv l)at rg
  obtain⟨x,f1⟩:∃x,dv l=x:=⟨_,rfl⟩
  rw[f1]at rg ⊢
  have rf:=rg.flags
  obtain⟨xp,xs,xd,xf,xk,xc,xe,xi,xo,xb⟩:=x
  cases xe with
  |true=>
   repeat first|refine aa ?_ |intro
   exact ae (aw rfl rfl () rfl (U.sat (av)))
  |false=>
   repeat first|refine aa ?_ |intro
   refine ag rfl (NQ xp xk xf rf) ?_
   intro _
   repeat first|refine aa ?_ |intro
   exact ae (aw rfl rfl () rfl (U.sat (av)))
end
end
section
open Go.RowKit
def F9 (P:Program)(kt:TypeId)(k:Value)(es:List MapEntry)(w:World):Prop:=
 ((Instr.findKey kt k es).run P w= .ok none w∧∀e∈es,e.key≠k)∨∃j e,(Instr.findKey kt k es).run P w= .ok (some (j,e.val)) w∧es[j]? =some e∧e.key=k
class vv (P:Program)(kt:TypeId){κ:Type}(ek:κ→Value):Prop where
 inj:∀a b,ek a=ek b→a=b
 check:∀e k w,(Instr.checkKey e 10000 kt (ek k)).run P w= .ok () w
 find:∀(k:κ) (es:List MapEntry) w,(∀e∈es,∃a,e.key=ek a)→F9 P kt (ek k) es w
 stays:∀k,Instr.sameBits 10000 (ek k) (ek k)=true
theorem RN {P:Program}{kt:TypeId}{d:TypeDesc}(hu:P.underlying kt=some d){k:Value}(hk:MapKept.IsKey d k){es:List MapEntry}(h:∀e∈es,MapKept.IsKey d e.key)(w:World):F9 P kt k es w:=by
 rcases MapKept.findNow_spec hk es 0 h with ⟨h1,h2⟩|⟨j,e,h1,h2,h3⟩
 ·exact .inl ⟨MapKept.run_findKey hu h1,h2⟩
 ·rw[Nat.zero_add]at h1
  exact .inr ⟨j,e,MapKept.run_findKey hu h1,h2,h3⟩
theorem H9 {P:Program}{kt:TypeId}{k:Value}{w:World}:∀(es:List MapEntry) (i:Nat),(∀e∈es,∃b:Bool,(Op.equal kt k e.key).run P w= .ok b w∧(b=true↔k=e.key))→
  ((Instr.findAsking kt k es i).run P w= .ok none w∧∀e∈es,e.key≠k)∨∃j e,(Instr.findAsking kt k es i).run P w= .ok (some (i+j,e.val)) w∧es[j]? =some e∧e.key=k
 |[],i,_=> .inl ⟨rfl,by simp⟩
 |e::es,i,ho=>by
  obtain⟨b,h1,h2⟩:=ho e List.mem_cons_self
  cases b with
  |true=>exact .inr ⟨0,e,by unfold Instr.findAsking;simp[Sem.run_bind,h1,Result.andThen_ok,go_sem],rfl,(h2.1 rfl).symm⟩
  |false=>
   have dc:e.key≠k:=fun q=>by have:=h2.2 q.symm;cases this
   rcases H9 es (i+1) fun x hx=>ho x (List.mem_cons_of_mem _ hx)with ⟨h3,h4⟩|⟨j,x,h3,h4,h5⟩
   ·refine .inl ⟨by unfold Instr.findAsking;simp[Sem.run_bind,h1,Result.andThen_ok,h3],fun x hx=> ?_⟩
    rcases List.mem_cons.1 hx with rfl|hx
    ·exact dc
    ·exact h4 x hx
   ·refine .inr ⟨j+1,x,?_,by simpa using h4,h5⟩
    unfold Instr.findAsking
    simp[Sem.run_bind,h1,Result.andThen_ok,h3]
    omega
def iq (z:Int):Value:= .int .i64 z
instance vv.int (P:Program)(kt:TypeId)[h:gU P kt .i64]:vv P kt iq where
 inj:=fun a b e=>by simpa[iq]using e
 check:=fun e k w=>MapKept.run_checkKey h.h (by simp[MapKept.IsKey,iq]) e 9999
 find:=fun k es w ho=>RN h.h (by simp[MapKept.IsKey,iq]) (fun e he=>by
  obtain⟨a,e'⟩:=ho e he
  rw[e']
  simp[MapKept.IsKey,iq]) w
 stays:=fun k=>by
  unfold iq Instr.sameBits
  simp
variable {κ ν:Type} [DecidableEq κ]
structure iQ (ek:κ→Value)(ev:ν→Value)(es:Array MapEntry)(clock:Nat)(l:List (κ×ν)):Prop where
 eq:es.toList.map (fun e=>(e.key,e.val))=l.map fun p=>(ek p.1,ev p.2)
 keys:(l.map (·.1)).Nodup
 born:(es.toList.map (·.born)).Nodup
 clock:∀e∈es.toList,e.born<clock
def fU (ek:κ→Value)(ev:ν→Value)(m:Nat)(l:List (κ×ν)):SL:=SL.ex fun q:Array MapEntry×Nat=>SL.pure (iQ ek ev q.1 q.2 l)*SL.cH m (.map q.1 q.2)
class tZ (H:SL)(m:Nat)(C:outParam SL)(F:outParam SL):Prop where eq:H=C*F
instance (priority:=2000) tZ.here (ek:κ→Value)(ev:ν→Value)(m:Nat)(l:List (κ×ν))(F:SL):tZ (fU ek ev m l*F) m (fU ek ev m l) F:=⟨rfl⟩
instance (priority:=900) tZ.there (Q R C F:SL)(m:Nat)[h:tZ R m C F]:tZ (Q*R) m C (Q*F):=⟨by rw[h.eq];ac_rfl⟩
section maps
variable {ek:κ→Value} {ev:ν→Value} {m:Nat} {l:List (κ×ν)} {W w:World} {F H:SL} {X:Cx} {σ:Env} {o:Oper}
omit [DecidableEq κ] in
theorem fU.open (h:Sat W w (fU ek ev m l*F)):∃es clock,iQ ek ev es clock l∧w.heap[m]? =some (.map es clock)∧Sat W w (SL.cH m (.map es clock)*F):=by
 obtain⟨q,h⟩:=h.iX
 obtain⟨hf,h⟩:=(h.ac (SL.cb _ _ _)).out
 exact⟨q.1,q.2,hf,h.get,h⟩
omit [DecidableEq κ] in
theorem fU.shut {es:Array MapEntry}{clock:Nat}(hf:iQ ek ev es clock l)(h:Sat W w (SL.cH m (.map es clock)*F)):Sat W w (fU ek ev m l*F):=
 Sat.H0 (P:=fun q:Array MapEntry×Nat=>SL.pure (iQ ek ev q.1 q.2 l)*SL.cH m (.map q.1 q.2)) (es,clock) ((h.put hf).ac (SL.cb _ _ _).symm)
omit [DecidableEq κ] in
theorem iQ.nil:iQ ek ev #[] 0 ([]:List (κ×ν)):=⟨rfl,List.nodup_nil,List.nodup_nil,by simp⟩
omit [DecidableEq κ] in
theorem iQ.at_ {es:Array MapEntry}{clock:Nat}(hf:iQ ek ev es clock l)(i:Nat):(es.toList[i]?).map (fun e=>(e.key,e.val))=(l[i]?).map fun p=>(ek p.1,ev p.2):=by
 have:=congrArg (fun q=>q[i]?) hf.eq
 simpa using this
omit [DecidableEq κ] in
theorem iQ.keyed {es:Array MapEntry}{clock:Nat}(hf:iQ ek ev es clock l):∀e∈es.toList,∃a,e.key=ek a:=fun e he=>by
 obtain⟨i,hi⟩:=List.getElem?_of_mem he
 have:=hf.at_ i
 rw[hi]at this
 cases hl:l[i]? with
 |none=>rw[hl]at this;simp at this
 |some p=>
  rw[hl]at this
  simp only[Option.map_some,Option.some.injEq,Prod.mk.injEq]at this
  exact⟨p.1,this.1⟩
theorem JN:∀ {l:List (κ×ν)} {i:Nat} {p:κ×ν},(l.map (·.1)).Nodup→l[i]? =some p→l.lookup p.1=some p.2
 |[],i,p,_,h=>by simp at h
 |q::l,0,p,_,h=>by
  simp only[List.getElem?_cons_zero,Option.some.injEq]at h
  subst h
  simp[List.lookup]
 |q::l,i+1,p,hn,h=>by
  simp only[List.getElem?_cons_succ]at h
  simp only[List.map_cons,List.nodup_cons]at hn
  have dc:p.1≠q.1:=fun e=>hn.1 (by rw[←e];exact List.mem_map.2 ⟨p,List.mem_of_getElem? h,rfl⟩)
  have:(p.1==q.1)=false:=by simpa using dc
  simp only[List.lookup,this]
  exact JN hn.2 h
theorem JO:∀ {l:List (κ×ν)} {k:κ},(∀p∈l,p.1≠k)→l.lookup k=none
 |[],_,_=>rfl
 |q::l,k,h=>by
  have:(k==q.1)=false:=by simpa using fun e=>h q List.mem_cons_self e.symm
  simp only[List.lookup,this]
  exact JO fun p hp=>h p (List.mem_cons_of_mem _ hp)
theorem iQ.find {P:Program}{kt:TypeId}[K:vv P kt ek]{es:Array MapEntry}{clock:Nat}(hf:iQ ek ev es clock l)(k:κ)(w:World):
  ((Instr.findKey kt (ek k) es.toList).run P w= .ok none w∧l.lookup k=none∧∀p∈l,p.1≠k)∨
  ∃i e b,(Instr.findKey kt (ek k) es.toList).run P w= .ok (some (i,ev b)) w∧es[i]? =some e∧e.key=ek k∧l[i]? =some (k,b)∧l.lookup k=some b:=by
 rcases K.find k es.toList w hf.keyed with ⟨h1,h2⟩|⟨i,e,h1,h3,h4⟩
 ·have h3:∀p∈l,p.1≠k:=fun p hp e=>by
   obtain⟨i,hi⟩:=List.getElem?_of_mem hp
   have:=hf.at_ i
   rw[hi]at this
   cases he:es.toList[i]? with
   |none=>rw[he]at this;simp at this
   |some x=>
    rw[he]at this
    simp only[Option.map_some,Option.some.injEq,Prod.mk.injEq]at this
    exact h2 x (List.mem_of_getElem? he) (by rw[this.1,e])
  exact .inl ⟨h1,JO h3,h3⟩
 ·have:=hf.at_ i
  rw[h3]at this
  cases hl:l[i]? with
  |none=>rw[hl]at this;simp at this
  |some p=>
   rw[hl]at this
   simp only[Option.map_some,Option.some.injEq,Prod.mk.injEq]at this
   have hk:p.1=k:=K.inj _ _ (by rw[←this.1,h4])
   subst hk
   exact .inr ⟨i,e,p.2,by rw[←this.2];exact h1,by simpa using h3,h4,hl,JN hf.keys hl⟩
class GW (P:Program)(t:TypeId)(kt:outParam TypeId)(et:outParam TypeId):Prop where h:P.underlying t=some (.map kt et)
class GX (P:Program)(t:TypeId)(z:outParam Value):Prop where h:(P.info? t).map (·.zero)=some (some z)
def kb:List (κ×ν)→κ→ν→List (κ×ν)
 |[],k,v=>[(k,v)]
 |p::l,k,v=>if p.1=k then(k,v)::l else p::kb l k v
theorem Lh:∀(l:List (κ×ν)) (k:κ) (v:ν) (x:κ),x∈(kb l k v).map (·.1)↔x=k∨x∈l.map (·.1)
 |[],k,v,x=>by simp[kb]
 |p::l,k,v,x=>by
  unfold kb
  split
  ·rename_i h
   subst h
   simp
  ·simp only[List.map_cons,List.mem_cons,Lh l k v x]
   constructor
   ·rintro (h|h|h)
    ·exact .inr (.inl h)
    ·exact .inl h
    ·exact .inr (.inr h)
   ·rintro (h|h|h)
    ·exact .inr (.inl h)
    ·exact .inl h
    ·exact .inr (.inr h)
theorem Lj:∀(l:List (κ×ν)) (k:κ) (v:ν),(l.map (·.1)).Nodup→((kb l k v).map (·.1)).Nodup
 |[],k,v,_=>by simp[kb]
 |p::l,k,v,h=>by
  simp only[List.map_cons,List.nodup_cons]at h
  unfold kb
  split
  ·rename_i e
   subst e
   simp only[List.map_cons,List.nodup_cons]
   exact h
  ·rename_i e
   simp only[List.map_cons,List.nodup_cons]
   refine⟨fun g=> ?_,Lj l k v h.2⟩
   rcases(Lh l k v _).1 g with g|g
   ·exact e g
   ·exact h.1 g
theorem Li:∀ {l:List (κ×ν)} {k:κ} (v:ν),(∀p∈l,p.1≠k)→kb l k v=l++[(k,v)]
 |[],k,v,_=>rfl
 |p::l,k,v,h=>by
  unfold kb
  rw[if_neg (h p List.mem_cons_self),Li v fun q hq=>h q (List.mem_cons_of_mem _ hq)]
  rfl
theorem Lk:∀ {l:List (κ×ν)} {k:κ} {b:ν} {i:Nat} (v:ν),(l.map (·.1)).Nodup→l[i]? =some (k,b)→kb l k v=l.set i (k,v)
 |[],k,b,i,v,_,h=>by simp at h
 |p::l,k,b,0,v,_,h=>by
  simp only[List.getElem?_cons_zero,Option.some.injEq]at h
  subst h
  simp[kb]
 |p::l,k,b,i+1,v,hn,h=>by
  simp only[List.getElem?_cons_succ]at h
  simp only[List.map_cons,List.nodup_cons]at hn
  have dc:p.1≠k:=fun e=>hn.1 (by rw[e];exact List.mem_map.2 ⟨(k,b),List.mem_of_getElem? h,rfl⟩)
  simp only[kb,if_neg dc,List.set_cons_succ,Lk v hn.2 h]
theorem iQ.set {es:Array MapEntry}{clock:Nat}(hf:iQ ek ev es clock l){i:Nat}{k:κ}{b:ν}(h:l[i]? =some (k,b))(v:ν):iQ ek ev (es.modify i fun e=>{e with key:=ek k,val:=ev v}) clock (kb l k v):=by
 rw[Lk v hf.keys h]
 refine⟨?_,?_,?_,?_⟩
 ·rw[List.map_set,←hf.eq]
  apply List.ext_getElem?
  intro j
  simp only[Array.toList_modify,List.getElem?_map,List.getElem?_modify,List.getElem?_set,List.length_map,Array.length_toList]
  by_cases hj:i=j
  ·subst hj
   have hl:i<es.size:=by
    have:=hf.at_ i
    rw[h]at this
    cases he:es.toList[i]? with
    |none=>rw[he]at this;simp at this
    |some x=>simpa using(List.getElem?_eq_some_iff.1 he).1
   simp[hl]
  ·simp[hj]
 ·have:=hf.keys
  rw[List.map_set]
  rwa[show(l.map (·.1)).set i k=l.map (·.1)from List.ext_getElem? fun j=>by
   rw[List.getElem?_set]
   split
   ·rename_i e
    subst e
    have hl:=(List.getElem?_eq_some_iff.1 h).1
    simp only[List.length_map,if_pos hl,List.getElem?_map,h,Option.map_some]
   ·rfl]
 ·have:=hf.born
  rwa[show(es.modify i fun e=>{e with key:=ek k,val:=ev v}).toList.map (·.born)=es.toList.map (·.born)from List.ext_getElem? fun j=>by
   simp only[Array.toList_modify,List.getElem?_map,List.getElem?_modify]
   split
   ·cases es.toList[j]? <;>simp
   ·simp]
 ·intro e he
  obtain⟨j,hj⟩:=List.getElem?_of_mem he
  simp only[Array.toList_modify,List.getElem?_modify]at hj
  cases hx:es.toList[j]? with
  |none=>rw[hx]at hj;simp at hj
  |some x=>
   rw[hx]at hj
   have hc:=hf.clock x (List.mem_of_getElem? hx)
   split at hj<;>simp only[Option.map_eq_map,Option.map_some,Option.some.injEq]at hj<;>subst hj<;>exact hc
theorem iQ.push {es:Array MapEntry}{clock:Nat}(hf:iQ ek ev es clock l){k:κ}(h:∀p∈l,p.1≠k)(v:ν):iQ ek ev (es.push ⟨ek k,ev v,clock⟩) (clock+1) (kb l k v):=by
 refine⟨?_,Lj l k v hf.keys,?_,?_⟩
 ·rw[Li v h]
  simp[hf.eq]
 ·simp only[Array.toList_push,List.map_append,List.map_cons,List.map_nil]
  refine List.nodup_append.2 ⟨hf.born,by simp,?_⟩
  intro a ha b hb e
  obtain⟨x,hx,rfl⟩:=List.mem_map.1 ha
  have:=hf.clock x hx
  simp only[List.mem_singleton]at hb
  omega
 ·intro e he
  simp only[Array.toList_push,List.mem_append,List.mem_singleton]at he
  rcases he with he|rfl
  ·have:=hf.clock e he
   omega
  ·exact Nat.lt_succ_self _
omit [DecidableEq κ] in
theorem Kt {P:Program}{es HY:Array MapEntry}{clock HH:Nat}{l':List (κ×ν)}(hs:Sat W w (SL.cH m (.map es clock)*F))(hf:iQ ek ev HY HH l'):∃w',(setObj m (.map HY HH)).run P w= .ok () w'∧Sat W w' (fU ek ev m l'*F):=by
 have hb:=hs.get
 refine⟨_,MapKept.run_setObj_map _ hb,fU.shut hf (hs.write (by simp) rfl rfl rfl (fun k _ hk=>by simp[Array.getElem?_setIfInBounds,hk.symm]) ?_)⟩
 have:=lt_of_block hb
 simp[this]
theorem O8 {x y z:Operand}{t kt et:TypeId}{k:κ}{v:ν}(ho:o.op= .mapUpdate t x y z)(hx:Go.Proofs.YtakbmjoijcpdmaaGreatDoor.ev σ x=some (.map (some m)))(hy:Go.Proofs.YtakbmjoijcpdmaaGreatDoor.ev σ y=some (ek k))(hz:Go.Proofs.YtakbmjoijcpdmaaGreatDoor.ev σ z=some (ev v))[T:GW X.P t kt et][A:tZ H m (fU ek ev m l) F][K:vv X.P kt ek]:
  bf X σ H o (fU ek ev m (kb l k v)*F):=by
 intro a w ha hs
 obtain⟨es,clock,hf,hb,gW⟩:=fU.open (A.eq▸hs)
 simp only[execOp,ho,ha.eval hx,ha.eval hy,ha.eval hz]
 unfold Instr.mapUpdate
 rcases hf.find (P:=X.P) (kt:=kt) k w with ⟨h1,_,h2⟩|⟨i,e,b,h1,c1,c2,c4,_⟩
 ·obtain⟨w',g1,g2⟩:=Kt (P:=X.P) gW (hf.push h2 v)
  refine⟨w',?_,g2⟩
  simp only[Sem.run_bind,run_underlying T.h,Result.andThen_ok,MapKept.run_getObj_map hb,K.check,h1,g1,Sem.run_pure]
 ·obtain⟨w',g1,g2⟩:=Kt (P:=X.P) gW (hf.set c4 v)
  refine⟨w',?_,g2⟩
  simp only[Sem.run_bind,run_underlying T.h,Result.andThen_ok,MapKept.run_getObj_map hb,K.check,h1,c1,Option.map_some,Option.getD_some,c2,Instr.keyThatStays,K.stays,if_true,g1,Sem.run_pure]
end maps
section
variable {H:SL} {X:Cx} {σ:Env} {k:List KI} {ops l:List Oper} {S:SL} {L fuel:Nat} {listed:Array Bool}
end
end
section
open Go.RowKit
set_option maxRecDepth 10000
attribute [local irreducible] EK EX ER EN EL ES EG az ba bf
variable {W:World} {F:SL}
abbrev str (l:List UInt8):Value:= .string (bs l)
end
section
open Go.RowKit
set_option maxRecDepth 10000
attribute [local irreducible] EK EX ER EN EL ES EG az ba bf
variable {W:World} {F:SL} {X:Cx} {k:List KI} {σ:Env}
abbrev fS.val (c:fS):Value:= .agg #[.int .i64 c.w,.int .u32 c.o,.int .i64 c.lo,.int .i64 c.hi,.int .i64 c.b,.int .i64 c.r]
theorem vM (n a b:Int):
  Spec Tryz.prog 62 [.int .i64 n,.int .i64 a,.int .i64 b] W F (fun _:Unit=> .bool (decide (a≤n∧n≤b))) (fun _=>F):=by
 refine Spec.of Tryz.func62 rfl Tryz.ntmps62 rfl ?_
 repeat first|refine aa ?_ |intro
 refine A3 rfl rfl (fun h=> ?_) (fun h=> ?_)
 ·repeat first|refine aa ?_ |intro
  exact ae (aw rfl rfl () (by simp_all) fun _ h=>h)
 ·repeat first|refine aa ?_ |intro
  exact ae (aw rfl rfl () (by simp_all;omega) fun _ h=>h)
theorem wr {c:fS}{l:List UInt8}(h:iv c=l):Value.string ⟨l.toArray⟩=str (iv c):=by rw[h];rfl
theorem ox {b:Int}(h:iI b):¬ ¬iI b:=fun g=>g h
theorem Ho {b:Int}(h:2≤b∧b≤1024):bits BinOp.and IntKind.i64 b (b-1)=0↔iI b:=by
 have:∀m:Fin 1025,(bits BinOp.and IntKind.i64 (m.val:Int) ((m.val:Int)-1)=0)↔(iI (m.val:Int)∨m.val<2):=by decide+kernel
 obtain⟨n,rfl⟩:∃n:Nat,b=n:=⟨b.toNat,by omega⟩
 have:=this ⟨n,by omega⟩
 simp only[show ¬n<2 by omega,or_false]at this
 exact this
def pp (i:Nat):Int:=2^(i+1)
def pw (b:Int)(i:Nat):Bool:=(List.range i).any fun j=>decide (pp j=b)
theorem Cm (c:fS)(hc:c.Fit):
  Spec Tryz.prog 31 [c.val] W F (fun _:Unit=>str (iv c)) (fun _=>F):=by
 obtain⟨⟨w1,w2⟩,⟨o1,o2⟩,⟨l1,l2⟩,⟨h1,h2⟩,⟨b1,b2⟩,⟨r1,r2⟩⟩:=hc
 refine Spec.of Tryz.func31 rfl Tryz.ntmps31 rfl ?_
 repeat first|refine aa ?_ |intro
 refine ag rfl (vM _ _ _) ?_
 intro
 repeat first|refine aa ?_ |intro
 refine sB rfl (fun hw=> ?_) (fun hw=> ?_)
 ·repeat first|refine aa ?_ |intro
  exact ae (aw rfl rfl () (wr (by unfold iv;repeat(first|rfl|rw[if_pos (by first|omega|assumption)]|rw[if_neg (by first|omega|exact ox (by assumption))]))) (U.sat U.last))
 repeat first|refine aa ?_ |intro
 refine qR rfl rfl (fun ho=> ?_) (fun ho=> ?_)
 ·repeat first|refine aa ?_ |intro
  exact ae (aw rfl rfl () (wr (by unfold iv;repeat(first|rfl|rw[if_pos (by first|omega|assumption)]|rw[if_neg (by first|omega|exact ox (by assumption))]))) (U.sat U.last))
 repeat first|refine aa ?_ |intro
 refine mA rfl (fun Tu=> ?_) (fun Tu=> ?_)
 ·repeat first|refine aa ?_ |intro
  exact ae (aw rfl rfl () (wr (by unfold iv;repeat(first|rfl|rw[if_pos (by first|omega|assumption)]|rw[if_neg (by first|omega|exact ox (by assumption))]))) (U.sat U.last))
 repeat first|refine aa ?_ |intro
 refine qR rfl rfl (fun hp=> ?_) (fun hp=> ?_)
 ·repeat first|refine aa ?_ |intro
  exact ae (aw rfl rfl () (wr (by unfold iv;repeat(first|rfl|rw[if_pos (by first|omega|assumption)]|rw[if_neg (by first|omega|exact ox (by assumption))]))) (U.sat U.last))
 repeat first|refine aa ?_ |intro
 refine qR rfl rfl (fun zH=> ?_) (fun zH=> ?_)
 ·repeat first|refine aa ?_ |intro
  exact ae (aw rfl rfl () (wr (by unfold iv;repeat(first|rfl|rw[if_pos (by first|omega|assumption)]|rw[if_neg (by first|omega|exact ox (by assumption))]))) (U.sat U.last))
 repeat first|refine aa ?_ |intro
 refine qR rfl rfl (fun DR=> ?_) (fun DR=> ?_)
 ·repeat first|refine aa ?_ |intro
  exact ae (aw rfl rfl () (wr (by unfold iv;repeat(first|rfl|rw[if_pos (by first|omega|assumption)]|rw[if_neg (by first|omega|exact ox (by assumption))]))) (U.sat U.last))
 repeat first|refine aa ?_ |intro
 refine mA rfl (fun Tx=> ?_) (fun Tx=> ?_)
 ·repeat first|refine aa ?_ |intro
  exact ae (aw rfl rfl () (wr (by unfold iv;repeat(first|rfl|rw[if_pos (by first|omega|assumption)]|rw[if_neg (by first|omega|exact ox (by assumption))]))) (U.sat U.last))
 repeat first|refine aa ?_ |intro
 refine ag rfl (vM _ _ _) ?_
 intro
 repeat first|refine aa ?_ |intro
 refine Om rfl rfl (fun hb=> ?_) (fun hb=> ?_)
 ·have zk:¬iI c.b:=by unfold iI;omega
  repeat first|refine aa ?_ |intro
  exact ae (aw rfl rfl () (wr (by unfold iv;repeat(first|rfl|rw[if_pos (by first|omega|assumption)]|rw[if_neg (by first|omega|exact ox (by assumption))]))) (U.sat U.last))
 repeat first|refine aa ?_ |intro
 refine sB rfl (fun hq=> ?_) (fun hq=> ?_)
 ·have zk:¬iI c.b:=fun h=>hq ((Ho hb).2 h)
  repeat first|refine aa ?_ |intro
  exact ae (aw rfl rfl () (wr (by unfold iv;repeat(first|rfl|rw[if_pos (by first|omega|assumption)]|rw[if_neg (by first|omega|exact ox (by assumption))]))) (U.sat U.last))
 have zk:iI c.b:=(Ho hb).1 hq
 repeat first|refine aa ?_ |intro
 refine ag rfl (vM _ _ _) ?_
 intro
 repeat first|refine aa ?_ |intro
 refine sB rfl (fun hr=> ?_) (fun hr=> ?_)
 ·repeat first|refine aa ?_ |intro
  exact ae (aw rfl rfl () (wr (by unfold iv;repeat(first|rfl|rw[if_pos (by first|omega|assumption)]|rw[if_neg (by first|omega|exact ox (by assumption))]))) (U.sat U.last))
 repeat first|refine aa ?_ |intro
 exact ae (aw rfl rfl () (wr (by unfold iv;repeat(first|rfl|rw[if_pos (by first|omega|assumption)]|rw[if_neg (by first|omega|exact ox (by assumption))]))) (U.sat U.last))
end
section
open Go.RowKit
set_option maxRecDepth 10000
attribute [local irreducible] EK EX ER EN EL ES EG az ba bf
variable {W:World} {F:SL} {X:Cx} {k:List KI} {σ:Env}
theorem vy (c:fS)(hc:c.Fit):
  Spec Tryz.prog 33 [c.val] W F (fun _:Unit=> .int .i64 (gk c)) (fun _=>F):=by
 have h0:=hc
 obtain⟨⟨w1,w2⟩,⟨o1,o2⟩,⟨l1,l2⟩,⟨h1,h2⟩,⟨b1,b2⟩,⟨r1,r2⟩⟩:=hc
 refine Spec.of Tryz.func33 rfl Tryz.ntmps33 rfl ?_
 repeat first|refine aa ?_ |intro
 refine ag rfl (Cm c h0) ?_
 intro
 repeat first|refine aa ?_ |intro
 refine sB rfl (fun hw=> ?_) (fun hw=> ?_)
 ·repeat first|refine aa ?_ |intro
  exact ae (aw rfl rfl () (by rw[gk,if_neg hw]) (U.sat U.last))
 have hg:=(tY.1 hw).p
 repeat first|refine aa ?_ |intro
 exact ae (aw rfl rfl () (by rw[gk,if_pos hw]) (U.sat U.last))
theorem Pd (c:fS)(hc:c.Fit):
  Spec Tryz.prog 36 [c.val] W F (fun _:Unit=> .int .i64 (3*gk c)) (fun _=>F):=by
 obtain⟨n1,n2⟩:=tJ c
 refine Spec.of Tryz.func36 rfl Tryz.ntmps36 rfl ?_
 repeat first|refine aa ?_ |intro
 refine ag rfl (vy c hc) ?_
 intro
 repeat first|refine aa ?_ |intro
 exact ae (aw rfl rfl () rfl (U.sat U.last))
theorem PA (c:fS)(hc:c.Fit):
  Spec Tryz.prog 32 [c.val] W F (fun _:Unit=> .int .i64 (yb c)) (fun _=>F):=by
 obtain⟨n1,n2⟩:=tJ c
 refine Spec.of Tryz.func32 rfl Tryz.ntmps32 rfl ?_
 repeat first|refine aa ?_ |intro
 refine ag rfl (vy c hc) ?_
 intro
 repeat first|refine aa ?_ |intro
 exact ae (aw rfl rfl () (by rw[yb,show gk c+32-1=gk c+31 by omega]) (U.sat U.last))
def vO (c:fS):Int:=if iv c=[]then 2000+20*yb c else 0
theorem NR (c:fS)(hc:c.Fit):
  Spec Tryz.prog 15 [c.val] W F (fun _:Unit=> .int .i64 (vO c)) (fun _=>F):=by
 obtain⟨n1,n2⟩:=tJ c
 refine Spec.of Tryz.func15 rfl Tryz.ntmps15 rfl ?_
 repeat first|refine aa ?_ |intro
 refine ag rfl (Cm c hc) ?_
 intro
 repeat first|refine aa ?_ |intro
 refine sB rfl (fun hw=> ?_) (fun hw=> ?_)
 ·repeat first|refine aa ?_ |intro
  exact ae (aw rfl rfl () (by rw[vO,if_neg hw]) (U.sat U.last))
 repeat first|refine aa ?_ |intro
 refine ag rfl (PA c hc) ?_
 intro
 have gx:yb c=(gk c+31)/32:=rfl
 repeat first|refine aa ?_ |intro
 exact ae (aw rfl rfl () (by rw[vO,if_pos hw]) (U.sat U.last))
theorem Bh (p:Int):
  Spec Tryz.prog 103 [.int .i64 p] W F (fun _:Unit=> .int .i64 (fX p)) (fun _=>F):=by
 refine Spec.of Tryz.func103 rfl Tryz.ntmps103 rfl ?_
 repeat first|refine aa ?_ |intro
 refine mA rfl (fun h1=> ?_) (fun h1=> ?_)
 ·repeat first|refine aa ?_ |intro
  exact ae (aw rfl rfl () (by rw[fX,if_pos h1]) (U.sat U.last))
 repeat first|refine aa ?_ |intro
 refine mA rfl (fun h2=> ?_) (fun h2=> ?_)
 ·repeat first|refine aa ?_ |intro
  exact ae (aw rfl rfl () (by rw[fX,if_neg h1,if_pos h2]) (U.sat U.last))
 repeat first|refine aa ?_ |intro
 refine mA rfl (fun h3=> ?_) (fun h3=> ?_)
 ·repeat first|refine aa ?_ |intro
  exact ae (aw rfl rfl () (by rw[fX,if_neg h1,if_neg h2,if_pos h3]) (U.sat U.last))
 repeat first|refine aa ?_ |intro
 exact ae (aw rfl rfl () (by rw[fX,if_neg h1,if_neg h2,if_neg h3]) (U.sat U.last))
theorem WX (p:Int):
  Spec Tryz.prog 63 [.int .i64 p] W F (fun _:Unit=> .int .i64 (oA p)) (fun _=>F):=by
 refine Spec.of Tryz.func63 rfl Tryz.ntmps63 rfl ?_
 repeat first|refine aa ?_ |intro
 refine mA rfl (fun h1=> ?_) (fun h1=> ?_)
 ·repeat first|refine aa ?_ |intro
  exact ae (aw rfl rfl () (by rw[oA,if_pos h1]) (U.sat U.last))
 repeat first|refine aa ?_ |intro
 refine mA rfl (fun h2=> ?_) (fun h2=> ?_)
 ·repeat first|refine aa ?_ |intro
  exact ae (aw rfl rfl () (by rw[oA,if_neg h1,if_pos h2]) (U.sat U.last))
 repeat first|refine aa ?_ |intro
 exact ae (aw rfl rfl () (by rw[oA,if_neg h1,if_neg h2]) (U.sat U.last))
end
section
open Go.RowKit
set_option maxRecDepth 10000
attribute [local irreducible] EK EX ER EN EL ES EG az ba bf
variable {W:World} {F:SL} {X:Cx} {k:List KI} {σ:Env}
theorem UI (p:Int): -1≤fX p∧fX p≤2:=by unfold fX;repeat' split<;>omega
theorem UJ (c:fS)(p:Int): -1024≤fX p*gk c∧fX p*gk c≤2048:=by
 have h1:=UI p
 have h2:=tJ c
 have:fX p= -1∨fX p=0∨fX p=1∨fX p=2:=by omega
 rcases this with h|h|h|h<;>rw[h]<;>omega
theorem GO (c:fS)(hc:c.Fit)(p q:Int)(hq:lC q):
  Spec Tryz.prog 64 [c.val,.int .i64 p,.int .i64 q] W F (fun _:Unit=> .int .i64 (iH c p q)) (fun _=>F):=by
 have h0:=hc
 obtain⟨⟨w1,w2⟩,⟨o1,o2⟩,⟨l1,l2⟩,⟨h1,h2⟩,⟨b1,b2⟩,⟨r1,r2⟩⟩:=hc
 obtain⟨q1,q2⟩:=hq
 obtain⟨n1,n2⟩:=tJ c
 obtain⟨m1,m2⟩:=UJ c p
 refine Spec.of Tryz.func64 rfl Tryz.ntmps64 rfl ?_
 repeat first|refine aa ?_ |intro
 refine ag rfl (vy c h0) ?_
 intro
 repeat first|refine aa ?_ |intro
 refine ag rfl (Bh p) ?_
 intro
 repeat first|refine aa ?_ |intro
 refine qR rfl rfl (fun hn=> ?_) (fun hn=> ?_)
 ·repeat first|refine aa ?_ |intro
  exact ae (aw rfl rfl () (by rw[iH,if_pos (.inl hn)]) (U.sat U.last))
 repeat first|refine aa ?_ |intro
 refine qR rfl rfl (fun hk=> ?_) (fun hk=> ?_)
 ·repeat first|refine aa ?_ |intro
  exact ae (aw rfl rfl () (by rw[iH,if_pos (.inr (.inl hk))]) (U.sat U.last))
 repeat first|refine aa ?_ |intro
 refine ag rfl (vM _ _ _) ?_
 intro
 repeat first|refine aa ?_ |intro
 refine sB rfl (fun hb=> ?_) (fun hb=> ?_)
 ·repeat first|refine aa ?_ |intro
  exact ae (aw rfl rfl () (by rw[iH,if_pos (.inr (.inr hb))]) (U.sat U.last))
 have hp:gk c=c.hi-c.lo+1:=by
  unfold gk at hn ⊢
  split
  ·rfl
  ·rename_i hw
   rw[if_neg hw]at hn
   omega
 have hw:1≤c.lo∧c.hi≤65535∧c.lo≤c.hi:=by
  have:iv c=[]:=by
   rcases Decidable.em (iv c=[])with h|h
   ·exact h
   ·exact absurd (by rw[gk,if_neg h]) hn
  have:=(tY.1 this).p
  omega
 repeat first|refine aa ?_ |intro
 exact ae (aw rfl rfl () (by rw[iH,if_neg (by omega)]) (U.sat U.last))
theorem GQ (c:fS)(hc:c.Fit)(q:Int):
  Spec Tryz.prog 28 [c.val,.int .i64 q] W F (fun _:Unit=> .tuple #[.int .i64 (tI c q).1,.int .i64 (tI c q).2]) (fun _=>F):=by
 have h0:=hc
 obtain⟨⟨w1,w2⟩,⟨o1,o2⟩,⟨l1,l2⟩,⟨h1,h2⟩,⟨b1,b2⟩,⟨r1,r2⟩⟩:=hc
 obtain⟨n1,n2⟩:=tJ c
 refine Spec.of Tryz.func28 rfl Tryz.ntmps28 rfl ?_
 repeat first|refine aa ?_ |intro
 refine ag rfl (vy c h0) ?_
 intro
 repeat first|refine aa ?_ |intro
 refine qR rfl rfl (fun hn=> ?_) (fun hn=> ?_)
 ·repeat first|refine aa ?_ |intro
  exact ae (eU rfl rfl rfl () (by rw[tI,if_pos (.inl hn)]) (U.sat U.last))
 repeat first|refine aa ?_ |intro
 refine ag rfl (vM _ _ _) ?_
 intro
 repeat first|refine aa ?_ |intro
 refine sB rfl (fun hb=> ?_) (fun hb=> ?_)
 ·repeat first|refine aa ?_ |intro
  exact ae (eU rfl rfl rfl () (by rw[tI,if_pos (.inr hb)]) (U.sat U.last))
 have hw:1≤c.lo∧c.hi≤65535∧c.lo≤c.hi:=by
  have:iv c=[]:=by
   rcases Decidable.em (iv c=[])with h|h
   ·exact h
   ·exact absurd (by rw[gk,if_neg h]) hn
  have:=(tY.1 this).p
  omega
 have hm:=Int.emod_lt_of_pos q (show 0<gk c by omega)
 have Tg:=Int.emod_nonneg q (show gk c≠0 by omega)
 repeat first|refine aa ?_ |intro
 refine lB rfl (by kernel_rfl) ?_
 repeat(refine cV ?_)
 refine nr rfl (WX _) ?_
 repeat(refine cV ?_)
 repeat first|refine aa ?_ |intro
 exact ae (eU rfl rfl rfl () (by rw[tI,if_neg (by omega)]) (U.sat U.last))
end
section
open Go.RowKit
set_option maxRecDepth 10000
attribute [local irreducible] EK EX ER EN EL ES EG az ba bf
variable {W:World} {F:SL} {X:Cx} {k:List KI} {σ:Env}
instance :GX Tryz.prog 3 (.int .i64 0):=⟨by kernel_rfl⟩
instance :GX Tryz.prog 55 (.agg #[.int .i64 0,.int .u32 0,.int .u16 0,.int .i64 0,.int .i64 0,.int .i64 0]):=⟨by kernel_rfl⟩
def gy (f:dQ):Value:= .agg (jK f).toArray
theorem RQ {a b:dQ}(h:jK a=jK b):a=b:=by
 obtain⟨a1,a2,a3⟩:=a
 obtain⟨b1,b2,b3⟩:=b
 simp only[List.cons.injEq,Value.int.injEq,true_and,and_true,Int.natCast_inj]at h
 obtain⟨h1,h2,h3⟩:=h
 subst h1;subst h2;subst h3
 rfl
instance :vv Tryz.prog 53 gy where
 inj:=fun a b h=>by
  simp only[gy,Value.agg.injEq]at h
  exact RQ (by simpa using h)
 check:=fun e k w=>by
  have hi:∀(t:TypeId) (kk:IntKind) (z:Int) (w:World),Tryz.prog.underlying t=some (.int kk)→(Instr.checkKey e (9998+1) t (.int kk z)).run Tryz.prog w= .ok () w:=fun t kk z w h=>MapKept.run_checkKey h (by simp[MapKept.IsKey]) e 9998
  have h1:=fun z w=>hi 3 .i64 z w (by kernel_rfl)
  have h2:=fun z w=>hi 32 .u32 z w (by kernel_rfl)
  have h3:=fun z w=>hi 51 .u16 z w (by kernel_rfl)
  show(Instr.checkKey e (9998+1+1) 53 (gy k)).run Tryz.prog w= .ok () w
  unfold Instr.checkKey gy
  rw[Sem.run_bind,run_underlying Tryz.underlying53,Result.andThen_ok]
  have C7:=h1 (k.proto:Int) w
  have IA:=h2 (k.addr:Int) w
  have Sn:=h3 (k.port:Int) w
  simp[part,isAgg,run_underlying Tryz.underlying3,run_underlying Tryz.underlying32,run_underlying Tryz.underlying51,C7,IA,Sn,go_sem]
 find:=fun k es w ho=>by
  cases es with
  |nil=>exact .inl ⟨rfl,by simp⟩
  |cons e es=>
   have hq:∀x∈e::es,∃b:Bool,(Op.equal 53 (gy k) x.key).run Tryz.prog w= .ok b w∧(b=true↔gy k=x.key):=fun x hx=>by
    obtain⟨a,ea⟩:=ho x hx
    obtain⟨r,h1,h2⟩:=Fa (P:=Tryz.prog) w (t:=53) (xs:=jK k) (ys:=jK a) rfl rfl
    refine⟨r,?_,?_⟩
    ·rw[ea]
     exact h1
    ·rw[ea,h2]
     unfold gy
     simp
   have hf:(Instr.findKey 53 (gy k) (e::es)).run Tryz.prog w=(Instr.findAsking 53 (gy k) (e::es) 0).run Tryz.prog w:=by
    unfold Instr.findKey
    simp only[Sem.run_bind,Tryz.underlying53,Result.andThen_ok]
    unfold Instr.findNow
    obtain⟨a,ea⟩:=ho e List.mem_cons_self
    rw[ea]
    rfl
   rcases H9 (e::es) 0 hq with ⟨h1,h2⟩|⟨j,x,h1,h2,h3⟩
   ·exact .inl ⟨by rw[hf];exact h1,h2⟩
   ·exact .inr ⟨j,x,by rw[hf,h1,Nat.zero_add],h2,h3⟩
 stays:=fun k=>by
  unfold gy
  simp[Instr.sameBits]
end
section
open Go.RowKit
theorem MI:∀ {cs:List Value} {i:Nat} {v:Value},i<cs.length→kK cs i [v]=some (cs.set i v)
 |[],_,_,h=>by simp at h
 |c::cs,0,v,_=>by
  cases cs<;>simp[kK]
 |c::cs,i+1,v,h=>by
  have:=MI (cs:=cs) (i:=i) (v:=v) (by simpa using h)
  simp[kK,this]
def AS (x:cU):List Value:=[.int .i64 x.id,.int .i64 (x.at_:Int),.int .i64 (x.aS:Int)]
def rj (l:List cU):List Value:=l.flatMap AS
theorem HV (l:List cU)(x:cU):rj l++AS x=rj (l++[x]):=by simp[rj]
def Uj (x:Int×Int):List Value:=[.int .i64 x.1,.int .i64 x.2]
def mb (l:List (Int×Int)):List Value:=l.flatMap Uj
def ml (q:Nat→aP)(sl:Nat→List cU):List Value:=(List.range 384).map fun k=> .slice (q k).1 (sl k).length (q k).2
theorem AA (q:Nat→aP)(sl:Nat→List cU):(ml q sl).length=384:=by simp[ml]
theorem Az (q:Nat→aP)(sl:Nat→List cU){k:Nat}(h:k<384):(ml q sl)[k]? =some (.slice (q k).1 (sl k).length (q k).2):=by
 simp[ml,h]
theorem XY (q:Nat→aP)(sl:Nat→List cU){k:Nat}(h:k<384)(r:aP)(l:List cU):(ml q sl).set k (.slice r.1 l.length r.2)=ml (gY q k r) (gY sl k l):=by
 apply List.ext_getElem?
 intro i
 by_cases hi:i=k
 ·subst hi
  rw[List.getElem?_set_self (by rw[AA];exact h),Az _ _ h,xU,xU]
 ·rw[List.getElem?_set_ne (Ne.symm hi)]
  by_cases h2:i<384
  ·rw[Az _ _ h2,Az _ _ h2,va _ _ hi,va _ _ hi]
  ·rw[List.getElem?_eq_none (by rw[AA];omega),List.getElem?_eq_none (by rw[AA];omega)]
def rW (q:Nat→aP)(sl:Nat→List cU)(k:Nat):SL:=ao 216 3 (q k).1 (sl k).length (q k).2 (rj (sl k))
def u0 (q:Nat→aP)(sl:Nat→List cU):SL:=SL.mI ((List.range 384).map (rW q sl))
def uZ (k:Nat)(q:Nat→aP)(sl:Nat→List cU):SL:=SL.mI (((List.range 384).map (rW q sl)).eraseIdx k)
theorem Lz (q:Nat→aP)(sl:Nat→List cU){k:Nat}(h:k<384):u0 q sl=ao 216 3 (q k).1 (sl k).length (q k).2 (rj (sl k))*uZ k q sl:=by
 unfold u0 uZ
 rw[SL.P9 _ k (by simpa using h)]
 simp[rW]
theorem Xr (q:Nat→aP)(sl:Nat→List cU){k:Nat}(r:aP)(l:List cU):uZ k (gY q k r) (gY sl k l)=uZ k q sl:=by
 unfold uZ
 congr 1
 rw[List.eraseIdx_eq_take_drop_succ,List.eraseIdx_eq_take_drop_succ]
 congr 1
 ·apply List.ext_getElem?
  intro i
  rw[List.getElem?_take,List.getElem?_take]
  split
  ·rename_i hi
   have:i≠k:=by omega
   simp only[List.getElem?_map]
   cases hr:(List.range 384)[i]? with
   |none=>rfl
   |some j=>
    obtain⟨_,hj⟩:=List.getElem?_eq_some_iff.1 hr
    simp only[List.getElem_range]at hj
    subst hj
    simp only[Option.map_some,rW,va _ _ this]
  ·rfl
 ·apply List.ext_getElem?
  intro i
  rw[List.getElem?_drop,List.getElem?_drop]
  have:k+1+i≠k:=by omega
  simp only[List.getElem?_map]
  cases hr:(List.range 384)[k+1+i]? with
  |none=>rfl
  |some j=>
   obtain⟨_,hj⟩:=List.getElem?_eq_some_iff.1 hr
   simp only[List.getElem_range]at hj
   subst hj
   simp only[Option.map_some,rW,va _ _ this]
theorem Xs (q:Nat→aP)(sl:Nat→List cU){k:Nat}(h:k<384)(r:aP)(l:List cU):
  u0 (gY q k r) (gY sl k l)=ao 216 3 r.1 l.length r.2 (rj l)*uZ k q sl:=by
 rw[Lz _ _ h,Xr,xU,xU]
abbrev xX (now aS jI:Int)(r:aP)(n:Nat)(q:Nat→aP)(sl:Nat→List cU):List Value:= .int .i64 now:: .int .i64 aS:: .int .i64 jI:: .slice r.1 n r.2::ml q sl
instance sG.wh (a b c d:Value)(q:Nat→aP)(sl:Nat→List cU)(l j:Nat):sG (a::b::c::d::ml q sl) (0+4+l*64+j*1) (.slice (q (l*64+j)).1 (sl (l*64+j)).length (q (l*64+j)).2) (l*64+j<384):=⟨fun h=>by
 rw[show 0+4+l*64+j*1=(l*64+j)+4 by omega]
 simpa using Az q sl h⟩
instance yq.wh (a b c d:Value)(q:Nat→aP)(sl:Nat→List cU)(l j n:Nat)(p:Option Addr)(cap:Nat):yq (a::b::c::d::ml q sl) (0+4+l*64+j*1) (.slice p n cap) (a::b::c::d::(ml q sl).set (l*64+j) (.slice p n cap)) (l*64+j<384):=⟨fun h=>by
 rw[show 0+4+l*64+j*1=(l*64+j)+4 by omega,MI (by simp[AA];omega)]
 rfl⟩
abbrev ra (p:Option Addr)(s:ec)(jI:Int)(r:aP)(q:Nat→aP)(F:SL):SL:=
 Obj p 169 (xX s.now s.aS jI r s.ready.length q s.sl)*(ao 216 3 r.1 s.ready.length r.2 (rj s.ready)*(u0 q s.sl*F))
def ug (p:Option Addr)(s:ec)(g:aP×(Nat→aP)):SL:=Obj p 169 (xX s.now s.aS (s.all.length:Int) g.1 s.ready.length g.2 s.sl)*(ao 216 3 g.1.1 s.ready.length g.1.2 (rj s.ready)*u0 g.2 s.sl)
def dR (p:Option Addr)(s:ec):SL:=SL.ex (ug p s)
theorem ug.eq (p:Option Addr)(s:ec)(g:aP×(Nat→aP))(F:SL):ug p s g*F=ra p s (s.all.length:Int) g.1 g.2 F:=by
 unfold ug ra
 rw[SL.cb,SL.cb]
theorem dR.open {X:Cx}{k:List KI}{σ:Env}{F:SL}{p:Option Addr}{s:ec}(h:∀r q,EK X k σ (ra p s (s.all.length:Int) r q F)):EK X k σ (dR p s*F):=nT fun g=>by
 rw[ug.eq]
 exact h g.1 g.2
theorem dR.shut {F:SL}{p:Option Addr}{s:ec}{jI:Int}{r:aP}{q:Nat→aP}(hc:jI=(s.all.length:Int)):U (ra p s jI r q F) (dR p s*F):=by
 subst hc
 refine U.ex (r,q) ?_
 rw[ug.eq]
 exact U.refl _
instance (priority:=2000)(p:Option Addr)(s:ec)(F:SL):bO (dR p s*F) p (dR p s) F:=⟨rfl⟩
instance (p:Option Addr)(s:ec):kR (dR p s) p:=⟨fun W w F h=>by
 obtain⟨g,h⟩:=h.iX
 exact(Obj.root p _ _).nn W w _ (h.ac (SL.cb _ _ _))⟩
end
section
open Go.RowKit
set_option maxRecDepth 10000
attribute [local irreducible] EK EX ER EN EL ES EG az ba bf
variable {W:World} {F:SL} {X:Cx} {k:List KI} {σ:Env}
theorem OT (u:Nat)(hu:u<18446744073709551616):Spec Tryz.prog 170 [.int .u64 (u:Int)] W F (fun _:Unit=> .int .i64 ((Lib.bitLen u:Nat):Int)) (fun _=>F):=by
 intro w h
 refine(Tryz.bits_Len (u:Int) w (by omega) (by omega)).mono ?_
 rintro e w' ⟨rfl,rfl⟩
 exact⟨(),by rw[Int.toNat_natCast],h⟩
theorem X2 (a l:Nat)(ha:a<4294967296):bits .and .i64 ((a:Int)/2^(6*(l:Int)).toNat) 63=((dg a l:Nat):Int):=by
 have e:(6*(l:Int)).toNat=6*l:=by omega
 have h1:((a:Int)/2^(6*l))=((a/64^l:Nat):Int):=by rw[EH,Int.natCast_ediv];simp
 have h2:a/64^l≤a:=Nat.div_le_self _ _
 rw[e,h1,show(63:Int)=((2^6-1:Nat):Int)from rfl,D9 _ 6 (by omega) (by decide)]
 rfl
theorem X1 (a l:Nat)(ha:a<4294967296)(hl:l≤5):Spec Tryz.prog 169 [.int .i64 (a:Int),.int .i64 (l:Int)] W F (fun _:Unit=> .int .i64 ((dg a l:Nat):Int)) (fun _=>F):=by
 refine Spec.of Tryz.func169 rfl Tryz.ntmps169 rfl ?_
 repeat first|refine aa ?_ |intro
 exact ae (aw rfl rfl () (by rw[X2 a l ha]) (U.sat U.last))
theorem UY (a b:Nat)(ha:a<4294967296)(hb:b<4294967296):bits .xor .i64 (a:Int) (b:Int)=((a^^^b:Nat):Int)∧a^^^b<4294967296:=
 ⟨T5 a b (by omega) (by omega),Nat.xor_lt_two_pow (n:=32) (by omega) (by omega)⟩
abbrev FE (x:cU):Value:= .agg (AS x).toArray
theorem ZJ (p:Option Addr)(s:ec)(x:cU)(jI:Int)(r:aP)(q:Nat→aP)(hs:s.now<4294967296)(hx:x.at_<4294967296)(hl:∀k,k<384→(s.sl k).length≤1000)(hr:s.ready.length≤1000):
  Spec Tryz.prog 112 [.pointer p,FE x] W (ra p s jI r q F) (fun _:aP×(Nat→aP)=> .tuple #[]) (fun g=>ra p (nN s x) jI g.1 g.2 F):=by
 obtain⟨e1,e2⟩:=UY x.at_ s.now hx hs
 refine Spec.of Tryz.func112 rfl Tryz.ntmps112 rfl ?_
 simp only[ra,xX,FE,AS]
 repeat first|refine aa ?_ |intro
 refine lB rfl (by kernel_rfl) ?_
 repeat(refine cV ?_)
 repeat first|refine aa ?_ |intro
 rename_i px
 refine mA rfl (fun hle=> ?_) (fun hle=> ?_)
 ·have ep:nN s x=⟨s.now,s.aS,s.ready++[x],s.sl⟩:=if_pos (by omega)
  rw[ep]
  repeat first|refine aa ?_ |intro
  refine aL 10 (Obj px 216 [.int .i64 x.id,.int .i64 (x.at_:Int),.int .i64 (x.aS:Int)]*(Obj p 169 (.int .i64 (s.now:Int):: .int .i64 (s.aS:Int):: .int .i64 jI:: .slice r.1 s.ready.length r.2::ml q s.sl)*1)) rfl rfl rfl ?_
  repeat(first|refine bQ ?_ |(refine bU ?_;intro)|refine bR ?_ |refine bS ?_ |refine bT ?_ |refine eD ?_)
  repeat first|refine aa ?_ |intro
  rename_i g
  refine ae (dB rfl (g,q) rfl (U.sat (U.obj p (by simp) (U.row g.1 (by simp) (by rw[←HV];rfl) ?_))))
  repeat(first|exact U.last|refine U.cons ?_ |refine U.assoc ?_)
 ·have ck:s.now<x.at_:=by omega
  have ep:nN s x=⟨s.now,s.aS,s.ready,gY s.sl (spot s.now x.at_) (s.sl (spot s.now x.at_)++[x])⟩:=if_neg (by omega)
  have hk:=LW hx ck
  have D5:x.at_^^^s.now≠0:=fun e=>by have:=xor_zero e;omega
  have hU:=(Lib.bitLenAux_bounds 64 (x.at_^^^s.now) (by omega) D5).1
  have lU:Lib.bitLen (x.at_^^^s.now)≤32:=Lib.bitLen_le _ 32 (by decide) (by omega)
  have hU:1≤Lib.bitLen (x.at_^^^s.now):=hU
  have Tf:gi x.at_ s.now≤5:=by unfold gi;omega
  have eL:(((Lib.bitLen (x.at_^^^s.now):Nat):Int)-1)/6=((gi x.at_ s.now:Nat):Int):=by unfold gi;omega
  have ex:IntKind.u64.wrap (bits .xor .i64 (x.at_:Int) (s.now:Int))=((x.at_^^^s.now:Nat):Int):=by rw[e1];exact bF.wrap (by simp only[bF];omega)
  have hdg:dg x.at_ (gi x.at_ s.now)<64:=Nat.mod_lt _ (by decide)
  rw[ep]
  repeat first|refine aa ?_ |intro
  refine lB rfl (by kernel_rfl) ?_
  repeat(refine cV ?_)
  refine nr (vs:=[.int .u64 ((x.at_^^^s.now:Nat):Int)]) (by rw[←e1];rfl) (OT _ (by omega)) ?_
  repeat(refine cV ?_)
  repeat first|refine aa ?_ |intro
  rw[eL]
  refine lB rfl (by kernel_rfl) ?_
  repeat(refine cV ?_)
  refine nr rfl (X1 x.at_ (gi x.at_ s.now) hx Tf) ?_
  repeat(refine cV ?_)
  repeat first|refine aa ?_ |intro
  have er:=Lz q s.sl hk
  rw[er,SL.cb]
  refine aL 8 (Obj px 216 [.int .i64 x.id,.int .i64 (x.at_:Int),.int .i64 (x.aS:Int)]*(Obj p 169 (.int .i64 (s.now:Int):: .int .i64 (s.aS:Int):: .int .i64 jI:: .slice r.1 s.ready.length r.2::ml q s.sl)*1)) rfl rfl rfl ?_
  have I7:=hl _ hk
  have zv:gi x.at_ s.now*64+dg x.at_ (gi x.at_ s.now)<384:=hk
  unfold spot at*
  repeat(first|refine bQ ?_ |(refine bU ?_;intro)|refine bR ?_ |refine bS ?_ |refine bT ?_ |refine eD ?_)
  repeat first|refine aa ?_ |intro
  rename_i g
  generalize gi x.at_ s.now*64+dg x.at_ (gi x.at_ s.now)=kk at*
  refine aN (aO rfl (r,gY q kk g) rfl (U.sat ?_))
  dsimp only
  rw[Xs q s.sl zv g,SL.cb]
  refine U.obj p (by rw[←XY q s.sl zv g];simp) (U.row r.1 rfl rfl (U.row g.1 (by simp) (by rw[←HV];rfl) ?_))
  repeat(first|exact U.last|refine U.cons ?_ |refine U.assoc ?_)
end
section
open Go.RowKit
set_option maxRecDepth 10000
attribute [local irreducible] EK EX ER EN EL ES EG az ba bf
variable {W:World} {F:SL} {X:Cx} {k:List KI} {σ:Env}
def Mq:List Value:= .int .i64 0:: .int .i64 0:: .int .i64 0:: .slice none 0 0::List.replicate 384 (.slice none 0 0)
theorem XZ:ml (fun _=>(none,0)) (fun _=>[])=List.replicate 384 (.slice none 0 0):=by
 unfold ml
 rw[List.map_const']
 simp
theorem Xt:∀n,SL.mI ((List.range n).map (rW (fun _=>(none,0)) (fun _=>[])))=SL.mI (List.replicate n (ao 216 3 none 0 0 [])):=by
 intro n
 rw[show(List.range n).map (rW (fun _=>(none,0)) (fun _=>[]))=List.replicate n (ao 216 3 none 0 0 [])from by
  have:rW (fun _=>(none,0)) (fun _=>[])=fun _=>ao 216 3 none 0 0 []:=by
   funext i;rfl
  rw[this,List.map_const'];simp]
theorem HU {H G:SL}{e sz:Nat}(k:U H G):∀n,U H (SL.mI (List.replicate n (ao e sz none 0 0 []))*G)
 |0=>by rw[List.replicate_zero,SL.P8,SL.HT];exact k
 |n+1=>by
  rw[List.replicate_succ,SL.P7,SL.cb]
  exact U.none (HU k n)
instance (priority:=3000) dm.wh:dm Tryz.prog 169 Mq:=⟨⟨.agg Mq.toArray,by kernel_rfl,rfl⟩⟩
theorem Px:Spec Tryz.prog 39 [] W F (fun p:Option Addr=> .pointer p) (fun p=>dR p kI*F):=by
 refine Spec.of Tryz.func39 rfl Tryz.ntmps39 rfl ?_
 repeat first|refine aa ?_ |intro
 rename_i p
 refine ae (aw rfl rfl p rfl (U.sat (U.trans ?_ (dR.shut (r:=(none,0)) (q:=fun _=>(none,0)) (by rw[KE])))))
 refine U.obj p (by rw[kI,xX,XZ];rfl) (U.none ?_)
 unfold u0
 rw[show kI.sl=fun _=>[]from rfl,Xt]
 exact HU (U.refl _) 384
theorem X0 {s:ec}{k:Nat}(hk:k<384):(s.sl k).length≤s.all.length:=by
 have h:∀n,k<n→(s.sl k).length≤((List.range n).flatMap s.sl).length:=by
  intro n
  induction n with
  |zero=>intro h;omega
  |succ n ih=>
   intro h
   rw[List.range_succ,List.flatMap_append,List.length_append]
   rcases Nat.lt_or_ge k n with g|g
   ·have:=ih g;omega
   ·obtain rfl:k=n:=by omega
    simp
 have:=h 384 hk
 unfold ec.all rn
 rw[List.length_append];omega
theorem Xh (s:ec):s.ready.length≤s.all.length:=by unfold ec.all;rw[List.length_append];omega
theorem FN (p:Option Addr)(s:ec)(id:Int)(a:Nat)(hg:nt s)(ha:a<4294967296)(hn:s.all.length≤1000)(ht:s.aS≤1000000):
  Spec Tryz.prog 165 [.pointer p,.int .i64 id,.int .i64 (a:Int)] W (dR p s*F) (fun _:Unit=> .int .i64 0) (fun _=>dR p (mG s id a)*F):=by
 have Tz:=(G4 (id:=id) hg ha).2.2.2.length_eq
 refine Spec.of Tryz.func165 rfl Tryz.ntmps165 rfl ?_
 refine dR.open fun r q=> ?_
 simp only[ra,xX]
 repeat first|refine aa ?_ |intro
 refine ag (vs:=[.pointer p,FE ⟨id,a,s.aS+1⟩]) rfl (Spec.pre (ZJ p {s with aS:=s.aS+1} ⟨id,a,s.aS+1⟩ ((s.all.length:Int)+1) r q hg.pos.now ha (fun k hk=>by have:=X0 (s:=s) hk;dsimp only;omega) (by have:=Xh s;dsimp only;omega)) (U.obj p rfl (U.refl _))) ?_
 intro g
 repeat first|refine aa ?_ |intro
 refine ae (aw rfl rfl () rfl (U.sat (dR.shut (s:=mG s id a) (r:=g.1) (q:=g.2) ?_)))
 rw[Tz];simp
theorem NL (p:Option Addr)(s:ec)(id a:Int)(ha:a<0∨4294967295<a):
  Spec Tryz.prog 165 [.pointer p,.int .i64 id,.int .i64 a] W (dR p s*F) (fun _:Unit=> .int .i64 1) (fun _=>dR p s*F):=by
 refine Spec.of Tryz.func165 rfl Tryz.ntmps165 rfl ?_
 repeat first|refine aa ?_ |intro
 refine qR rfl rfl (fun h1=> ?_) (fun h1=> ?_)
 ·repeat first|refine aa ?_ |intro
  exact ae (aw rfl rfl () rfl (U.sat U.last))
 ·repeat first|refine aa ?_ |intro
  exact ae (aw rfl rfl () rfl (U.sat U.last))
end
section
open Go.RowKit
set_option maxRecDepth 10000
attribute [local irreducible] EK EX ER EN EL ES EG az ba bf
variable {W:World} {F:SL} {X:Cx} {k:List KI} {σ:Env}
attribute [local simp] EW
def qv (np:Nat)(a b c:Option Addr)(F:SL):Nat→SL
 |0=>F
 |1=>bD a np (dy np)*F
 |2=>bD b np (dy np)*(bD a np (dy np)*F)
 |_=>bD c np (dy np)*(bD b np (dy np)*(bD a np (dy np)*F))
def pW (w:Nat)(p0 p1 p2 a b c:Option Addr)(F:SL):Nat→SL
 |0=>F
 |1=>bj a p0 w [] none*F
 |2=>bj b p1 w [] none*(bj a p0 w [] none*F)
 |_=>bj c p2 w [] none*(bj b p1 w [] none*(bj a p0 w [] none*F))
def kT (p0 p1 p2:Option Addr)(wk:Nat→mF)(w:Nat):SL:=
 Obj (wk w).p 88 (Mz (wk w))*(bj (wk w).c0 p0 w [] none*(bj (wk w).c1 p1 w [] none*(bj (wk w).c2 p2 w [] none*(dR (wk w).wh kI*SL.cH (wk w).m (.map #[] 0)))))
theorem kT.eq (p0 p1 p2:Option Addr)(wk:Nat→mF)(w:Nat)(F:SL):kT p0 p1 p2 wk w*F=Obj (wk w).p 88 (Mz (wk w))*(bj (wk w).c0 p0 w [] none*(bj (wk w).c1 p1 w [] none*(bj (wk w).c2 p2 w [] none*(dR (wk w).wh kI*(SL.cH (wk w).m (.map #[] 0)*F))))):=by
 unfold kT
 simp only[SL.cb]
def sF (p:Option Addr)(c:NC)(R:pN):SL:=
 Obj p 100 (KD c R c.np c.n)*(ao 66 1 R.ws.1 c.n R.ws.2 (c9 c.n fun i=>(R.wk i).p)*(aE (kT R.p0 R.p1 R.p2 R.wk) c.n*(bP R.ep (List.replicate (c.n+1) 0) (List.replicate c.n [])*(bD R.p0 c.np (dy c.np)*(bD R.p1 c.np (dy c.np)*(bD R.p2 c.np (dy c.np)*(aM R.pl (List.replicate (2*(3*c.np)) 0)*aK R.tb R.pl c.nb (List.replicate (c.nb+1) 0))))))))
abbrev GA (p:Option Addr)(c:NC)(R:pN)(F:SL):SL:=
 Obj p 100 (KD c R c.np c.n)*(ao 66 1 R.ws.1 c.n R.ws.2 (c9 c.n fun i=>(R.wk i).p)*(aE (kT R.p0 R.p1 R.p2 R.wk) c.n*(bP R.ep (List.replicate (c.n+1) 0) (List.replicate c.n [])*(bD R.p0 c.np (dy c.np)*(bD R.p1 c.np (dy c.np)*(bD R.p2 c.np (dy c.np)*(aM R.pl (List.replicate (2*(3*c.np)) 0)*(aK R.tb R.pl c.nb (List.replicate (c.nb+1) 0)*F))))))))
theorem sF.eq (p:Option Addr)(c:NC)(R:pN)(F:SL):sF p c R*F=GA p c R F:=by
 unfold sF GA
 simp only[SL.cb]
set_option maxHeartbeats 4000000 in
theorem OZ {c:NC}(hc:c.Ok):Spec Tryz.prog 18 [c.cfg.val] W F (fun z:Option Addr×pN=> .tuple #[.pointer z.1,.int .i64 0]) (fun z=>sF z.1 c z.2*F):=by
 refine Spec.of Tryz.func18 rfl Tryz.ntmps18 rfl ?_
 have hg:=hc.ez
 have Dq:=hc.fit
 have DT:=hc.ports
 have Tt:=tY.2 hg
 have hn:=hc.n
 have c3:1≤c.np∧c.np≤1024:=by
  obtain⟨h1,h2,h3,h4,h5⟩:=hc
  unfold NC.np;omega
 obtain⟨np,Jd⟩:∃np,c.np=np:=⟨_,rfl⟩
 rw[Jd]at c3 DT
 have j9:fH (c.nb:Int)=true:=by
  have:=hc.b
  unfold iI at this
  unfold fH
  exact decide_eq_true (by omega)
 repeat first|refine aa ?_ |intro
 rename_i x1
 refine ag rfl (Cm c.cfg Dq) ?_
 intro _
 rw[Tt]
 have e1:c.cfg.w=(c.n:Int):=rfl
 have e2:c.cfg.o=(c.o:Int):=rfl
 have e3:c.cfg.lo=(c.lo:Int):=rfl
 have e4:c.cfg.hi=(c.hi:Int):=rfl
 have e5:c.cfg.b=(c.nb:Int):=rfl
 have e6:c.cfg.r=(c.r:Int):=rfl
 repeat first|refine aa ?_ |intro
 rw[e1,e2,e3,e4,e5,e6]
 repeat first|refine aa ?_ |intro
 refine aL 99 (Obj x1 58 [.int .i64 (c.n:Int),.int .u32 (c.o:Int),.int .i64 (c.lo:Int),.int .i64 (c.hi:Int),.int .i64 (c.nb:Int),.int .i64 (c.r:Int)]*1) rfl rfl rfl ?_
 repeat(first|refine aq ?_ |refine eD ?_)
 refine aI rfl rfl rfl rfl rfl (vy c.cfg Dq) (fun _=>ad) ?_
 intro _
 rw[DT]
 repeat(first|refine aq ?_ |refine eD ?_)
 repeat(first|refine bQ ?_ |(refine bU ?_;intro)|refine bR ?_ |refine bS ?_ |refine bT ?_ |refine eD ?_)
 repeat first|refine aa ?_ |intro
 rename_i pn
 refine ag rfl (Ou hn.1 hn.2) ?_
 intro ep
 repeat first|refine aa ?_ |intro
 refine ag rfl (Pd c.cfg Dq) ?_
 intro _
 rw[DT,show(3:Int)*(np:Int)=((3*np:Nat):Int)by omega]
 repeat first|refine aa ?_ |intro
 refine ag rfl (Pc (n:=3*np) (by omega) (by omega)) ?_
 intro pl
 repeat first|refine aa ?_ |intro
 refine aL 13 (Obj pn 100 (nK c np 0 ep pl none none none none (none,0))*(Obj x1 58 [.int .i64 (c.n:Int),.int .u32 (c.o:Int),.int .i64 (c.lo:Int),.int .i64 (c.hi:Int),.int .i64 (c.nb:Int),.int .i64 (c.r:Int)]*1)) rfl rfl rfl ?_
 repeat(first|refine aq ?_ |refine eD ?_)
 refine aI rfl rfl rfl rfl rfl (Spec.aV pl (Pr (m:=3*np) (ws:=List.replicate (2*(3*np)) 0) j9 (by simp) (by omega))) (fun _=>ad) ?_
 intro tb
 repeat(first|refine aq ?_ |refine eD ?_)
 repeat(first|refine bQ ?_ |(refine bU ?_;intro)|refine bR ?_ |refine bS ?_ |refine bT ?_ |refine eD ?_)
 refine sv rfl rfl rfl (fun _=>gP rfl) (di rfl rfl rfl rfl rfl rfl) (di rfl rfl rfl rfl rfl rfl) (by(first|exact U.refl _|exact U.last|(repeat(first|refine U.cons ?_ |exact U.any|exact U.last)))) ?_
 repeat first|refine aa ?_ |intro
 obtain⟨G,hG⟩:∃G,G=bP ep (List.replicate (c.n+1) 0) (List.replicate c.n [])*(aM pl (List.replicate (2*(3*np)) 0)*(aK tb pl c.nb (List.replicate (c.nb+1) 0)*F)):=⟨_,rfl⟩
 refine ff (γ:=Nat×Option Addr×Option Addr×Option Addr) (fun g=>g.1≤3) (fun g=>[(1,.pointer x1),(4,.pointer pn),(48,.int .i64 (g.1:Int))])
  (fun g=>Obj pn 100 (nK c np 0 ep pl tb g.2.1 g.2.2.1 g.2.2.2 (none,0))*(Obj x1 58 [.int .i64 (c.n:Int),.int .u32 (c.o:Int),.int .i64 (c.lo:Int),.int .i64 (c.hi:Int),.int .i64 (c.nb:Int),.int .i64 (c.r:Int)]*qv np g.2.1 g.2.2.1 g.2.2.2 G g.1)) (fun g=>3-g.1) (0,none,none,none) (Nat.zero_le _) ⟨rfl,rfl,rfl,trivial⟩ (U.sat ?_) ?_
 ·simp only[qv,hG]
  exact ad
 intro ⟨j,a,b,d⟩ h1;dsimp only at h1 ⊢
 by_cases hj:j<3
 ·obtain rfl|rfl|rfl:j=0∨j=1∨j=2:=by omega
  ·simp only[qv]
   repeat first|refine aa ?_ |intro
   refine aL 13 (Obj pn 100 (nK c np 0 ep pl tb a b d (none,0))*1) rfl rfl rfl ?_
   repeat(first|refine aq ?_ |refine eD ?_)
   refine aI rfl rfl rfl rfl rfl (Bj (n:=np) c3.1 c3.2) (fun _=>ad) ?_
   intro p
   repeat(first|refine aq ?_ |refine eD ?_)
   refine sv rfl rfl rfl (fun _=>gP rfl) (di rfl rfl rfl rfl rfl rfl) (di rfl rfl rfl rfl rfl rfl) (by(first|exact U.refl _|exact U.last|(repeat(first|refine U.cons ?_ |exact U.any|exact U.last)))) ?_
   repeat first|refine aa ?_ |intro
   refine cT (1,p,b,d) (by dsimp only;omega) (by dsimp only;omega) ⟨rfl,rfl,rfl,trivial⟩ (U.sat ?_)
   simp only[qv]
   exact ad
  ·simp only[qv]
   repeat first|refine aa ?_ |intro
   refine aL 13 (Obj pn 100 (nK c np 0 ep pl tb a b d (none,0))*1) rfl rfl rfl ?_
   repeat(first|refine aq ?_ |refine eD ?_)
   refine aI rfl rfl rfl rfl rfl (Bj (n:=np) c3.1 c3.2) (fun _=>ad) ?_
   intro p
   repeat(first|refine aq ?_ |refine eD ?_)
   refine sv rfl rfl rfl (fun _=>gP rfl) (di rfl rfl rfl rfl rfl rfl) (di rfl rfl rfl rfl rfl rfl) (by(first|exact U.refl _|exact U.last|(repeat(first|refine U.cons ?_ |exact U.any|exact U.last)))) ?_
   repeat first|refine aa ?_ |intro
   refine cT (2,a,p,d) (by dsimp only;omega) (by dsimp only;omega) ⟨rfl,rfl,rfl,trivial⟩ (U.sat ?_)
   simp only[qv]
   exact ad
  ·simp only[qv]
   repeat first|refine aa ?_ |intro
   refine aL 13 (Obj pn 100 (nK c np 0 ep pl tb a b d (none,0))*1) rfl rfl rfl ?_
   repeat(first|refine aq ?_ |refine eD ?_)
   refine aI rfl rfl rfl rfl rfl (Bj (n:=np) c3.1 c3.2) (fun _=>ad) ?_
   intro p
   repeat(first|refine aq ?_ |refine eD ?_)
   refine sv rfl rfl rfl (fun _=>gP rfl) (di rfl rfl rfl rfl rfl rfl) (di rfl rfl rfl rfl rfl rfl) (by(first|exact U.refl _|exact U.last|(repeat(first|refine U.cons ?_ |exact U.any|exact U.last)))) ?_
   repeat first|refine aa ?_ |intro
   refine cT (3,a,b,p) (by dsimp only;omega) (by dsimp only;omega) ⟨rfl,rfl,rfl,trivial⟩ (U.sat ?_)
   simp only[qv]
   exact ad
 ·have e3:j=3:=by omega
  subst e3
  simp only[qv]
  repeat first|refine aa ?_ |intro
  refine ff (γ:=Nat×aP×(Nat→mF)) (fun g=>g.1≤c.n) (fun g=>[(4,.pointer pn),(66,.int .i64 (c.n:Int)),(67,.int .i64 (g.1:Int))])
   (fun g=>Obj pn 100 (nK c np g.1 ep pl tb a b d g.2.1)*(ao 66 1 g.2.1.1 g.1 g.2.1.2 (c9 g.1 fun i=>(g.2.2 i).p)*(aE (kT a b d g.2.2) g.1*(bD d np (dy np)*(bD b np (dy np)*(bD a np (dy np)*G)))))) (fun g=>c.n-g.1) (0,(none,0),fun _=>⟨none,none,none,none,none,0⟩) (Nat.zero_le _) ⟨rfl,rfl,rfl,trivial⟩ (U.sat ?_) ?_
  ·refine U.cons (U.none ?_)
   show U _ (1*_)
   rw[SL.tO 1,SL.oD]
   exact ad
  intro ⟨w,ws,wk⟩ h2;dsimp only at h2 ⊢
  by_cases hw:w<c.n
  ·repeat first|refine aa ?_ |intro
   refine ag rfl Px ?_
   intro wh
   refine oI (O7 rfl) rfl ?_
   intro m
   repeat first|refine aa ?_ |intro
   rename_i px
   obtain⟨G2,IG⟩:∃G2,G2=ao 66 1 ws.1 w ws.2 (c9 w fun i=>(wk i).p)*(aE (kT a b d wk) w*(dR wh kI*(SL.cH m (.map #[] 0)*G))):=⟨_,rfl⟩
   refine ff (γ:=Nat×Option Addr×Option Addr×Option Addr) (fun g=>g.1≤3) (fun g=>[(4,.pointer pn),(6,.int .i64 (w:Int)),(7,.pointer px),(66,.int .i64 (c.n:Int)),(67,.int .i64 (w:Int)),(74,.int .i64 (g.1:Int))])
    (fun g=>Obj px 88 (xZ g.2.1 g.2.2.1 g.2.2.2 wh m)*(Obj pn 100 (nK c np w ep pl tb a b d ws)*pW w a b d g.2.1 g.2.2.1 g.2.2.2 (bD d np (dy np)*(bD b np (dy np)*(bD a np (dy np)*G2))) g.1)) (fun g=>3-g.1) (0,none,none,none) (Nat.zero_le _) ⟨rfl,rfl,rfl,rfl,rfl,rfl,trivial⟩ (U.sat ?_) ?_
   ·simp only[pW,IG]
    exact ad
   intro ⟨j,u1,u2,u3⟩ h3;dsimp only at h3 ⊢
   by_cases hj:j<3
   ·obtain rfl|rfl|rfl:j=0∨j=1∨j=2:=by omega
    ·simp only[pW]
     repeat first|refine aa ?_ |intro
     refine aL 16 (Obj pn 100 (nK c np w ep pl tb a b d ws)*(Obj px 88 (xZ u1 u2 u3 wh m)*1)) rfl rfl rfl ?_
     repeat(first|refine aq ?_ |refine eD ?_)
     refine aI rfl rfl rfl rfl rfl (Spec.aV a (AY w)) (fun _=>ad) ?_
     intro p
     repeat(first|refine aq ?_ |refine eD ?_)
     refine sv rfl rfl rfl (fun _=>gP rfl) (di rfl rfl rfl rfl rfl rfl) (di rfl rfl rfl rfl rfl rfl) (by(first|exact U.refl _|exact U.last|(repeat(first|refine U.cons ?_ |exact U.any|exact U.last)))) ?_
     repeat first|refine aa ?_ |intro
     refine cT (1,p,u2,u3) (by dsimp only;omega) (by dsimp only;omega) ⟨rfl,rfl,rfl,rfl,rfl,rfl,trivial⟩ (U.sat ?_)
     simp only[pW]
     exact ad
    ·simp only[pW]
     repeat first|refine aa ?_ |intro
     refine aL 16 (Obj pn 100 (nK c np w ep pl tb a b d ws)*(Obj px 88 (xZ u1 u2 u3 wh m)*1)) rfl rfl rfl ?_
     repeat(first|refine aq ?_ |refine eD ?_)
     refine aI rfl rfl rfl rfl rfl (Spec.aV b (AY w)) (fun _=>ad) ?_
     intro p
     repeat(first|refine aq ?_ |refine eD ?_)
     refine sv rfl rfl rfl (fun _=>gP rfl) (di rfl rfl rfl rfl rfl rfl) (di rfl rfl rfl rfl rfl rfl) (by(first|exact U.refl _|exact U.last|(repeat(first|refine U.cons ?_ |exact U.any|exact U.last)))) ?_
     repeat first|refine aa ?_ |intro
     refine cT (2,u1,p,u3) (by dsimp only;omega) (by dsimp only;omega) ⟨rfl,rfl,rfl,rfl,rfl,rfl,trivial⟩ (U.sat ?_)
     simp only[pW]
     exact ad
    ·simp only[pW]
     repeat first|refine aa ?_ |intro
     refine aL 16 (Obj pn 100 (nK c np w ep pl tb a b d ws)*(Obj px 88 (xZ u1 u2 u3 wh m)*1)) rfl rfl rfl ?_
     repeat(first|refine aq ?_ |refine eD ?_)
     refine aI rfl rfl rfl rfl rfl (Spec.aV d (AY w)) (fun _=>ad) ?_
     intro p
     repeat(first|refine aq ?_ |refine eD ?_)
     refine sv rfl rfl rfl (fun _=>gP rfl) (di rfl rfl rfl rfl rfl rfl) (di rfl rfl rfl rfl rfl rfl) (by(first|exact U.refl _|exact U.last|(repeat(first|refine U.cons ?_ |exact U.any|exact U.last)))) ?_
     repeat first|refine aa ?_ |intro
     refine cT (3,u1,u2,p) (by dsimp only;omega) (by dsimp only;omega) ⟨rfl,rfl,rfl,rfl,rfl,rfl,trivial⟩ (U.sat ?_)
     simp only[pW]
     exact ad
   ·have e3:j=3:=by omega
    subst e3
    simp only[pW,IG]
    repeat first|refine aa ?_ |intro
    rename_i ZK
    refine cT (w+1,ZK,u9 wk w ⟨px,u1,u2,u3,wh,m⟩) (by dsimp only;omega) (by dsimp only;omega) ⟨rfl,rfl,rfl,trivial⟩ (U.sat ?_)
    dsimp only
    have Ru:(c9 (w+1) fun i=>(u9 wk w ⟨px,u1,u2,u3,wh,m⟩ i).p)=c9 w (fun i=>(wk i).p)++[.pointer px]:=by
     rw[←WZ,Mg]
     rw[Lg (f:=fun i=>(u9 wk w ⟨px,u1,u2,u3,wh,m⟩ i).p) (g:=fun i=>(wk i).p) fun i hi=>by rw[Mh wk _ hi]]
    have Rz:aE (kT a b d (u9 wk w ⟨px,u1,u2,u3,wh,m⟩)) w=aE (kT a b d wk) w:=aE.congr w fun i hi=>by unfold kT;rw[Mh wk _ hi]
    rw[Ru,aE.succ,Rz,SL.cb,kT.eq,Mg]
    exact ad
  ·have e4:w=c.n:=by omega
   subst e4
   subst Jd
   repeat first|refine aa ?_ |intro
   refine ae (eU rfl rfl rfl (pn,⟨ep,pl,tb,a,b,d,ws,wk⟩) rfl (U.sat ?_))
   rw[sF.eq,hG]
   exact ad
end
end Go.Proofs.YtakbmjoijcpdmaaGreatDoor
