/-
  Joined by a program (wip/bundle2.py).
-/
import Derived.MapKept
import Derived.Lib.ItoaNum
import Derived.Lib.LaidTab
import Derived.Lib.Join
import Derived.Test.YtimekbpkejemoaaGreatDoorG1
import Derived.Test.YtimekbpkejemoaaGreatDoorG2
import Derived.Test.YtimekbpkejemoaaGreatDoorG3
import Derived.Test.YtimekbpkejemoaaGreatDoorG4
import Derived.Test.YtimekbpkejemoaaGreatDoorG6
import Derived.Test.YtimekbpkejemoaaGreatDoorG7
import Derived.Test.YtimekbpkejemoaaGreatDoorG11
import Derived.Test.YtimekbpkejemoaaGreatDoorG13
set_option linter.unusedVariables false
set_option linter.unusedSimpArgs false
namespace Go.Proofs.YtimekbpkejemoaaGreatDoor
section
open Go.RowKit
set_option maxRecDepth 10000
attribute [local irreducible] EK EX ER EN EL ES EG av aV aY
variable {W:World} {F:SL} {X:Cx} {k:List KI} {σ:Env}
attribute [local simp] mF
abbrev sF (q:aO)(l:List UInt8)(F:SL):SL:=an 5 1 q.1 l.length q.2 (aD l)*F
section
variable {q:aO} {l:List UInt8}
theorem J0 {p:Option Addr}{c:Nat}(hl:l.length≤140737488355328)[s:Src W F p l.length (aD l)][r:Room W F p l.length c](addr port:Nat)(ha:addr<4294967296)(hp:port<65536):Spec Tryz.prog 202 [.slice p l.length c,.int .u32 (addr:Int),.int .u16 (port:Int)] W F (fun z:aO=>Bc z (jH l true addr port) (dv l)) (fun z=>sF z (jH l true addr port) F):=by
 refine Spec.of Tryz.func202 rfl Tryz.ntmps202 rfl ?_
 repeat first|refine aa ?_ |intro
 refine af rfl (C1 (out:=true) hl addr port ha hp) ?_
 intro z
 repeat first|refine aa ?_ |intro
 exact ae (eZ rfl rfl rfl z rfl (U.sat (az)))
theorem BU {p:Option Addr}{c:Nat}(hl:l.length≤140737488355328)[s:Src W F p l.length (aD l)][r:Room W F p l.length c](addr port:Nat)(ha:addr<4294967296)(hp:port<65536):Spec Tryz.prog 169 [.slice p l.length c,.int .u32 (addr:Int),.int .u16 (port:Int)] W F (fun z:aO=>Bc z (jH l false addr port) (dv l)) (fun z=>sF z (jH l false addr port) F):=by
 refine Spec.of Tryz.func169 rfl Tryz.ntmps169 rfl ?_
 repeat first|refine aa ?_ |intro
 refine af rfl (C1 (out:=false) hl addr port ha hp) ?_
 intro z
 repeat first|refine aa ?_ |intro
 exact ae (eZ rfl rfl rfl z rfl (U.sat (az)))
end
end
section
open Go.RowKit
set_option maxRecDepth 10000
attribute [local irreducible] EK EX ER EN EL ES EG av aV aY
variable {W:World} {F:SL} {X:Cx} {k:List KI} {σ:Env}
theorem DC {f:Nat}(h:f<256):bits .and .i64 (f:Int) 4=((f/4%2*4:Nat):Int)∧bits .and .i64 (f:Int) 1=((f%2:Nat):Int)∧bits .and .i64 (f:Int) 2=((f/2%2*2:Nat):Int)∧bits .and .i64 (f:Int) 16=((f/16%2*16:Nat):Int)∧
  bits .and .i64 (f:Int) 18=((f/2%2*2+f/16%2*16:Nat):Int)∧bits .and .i64 (f:Int) 23=((f%2+f/2%2*2+f/4%2*4+f/16%2*16:Nat):Int):=by
 have e:∀m:Nat,m<256→bits .and .i64 (f:Int) (m:Int)=((f&&& m:Nat):Int):=fun m hm=>Aw f m (by omega) (by omega)
 have d:∀f:Fin 256,(f.val&&& 4=f.val/4%2*4)∧(f.val&&& 1=f.val%2)∧(f.val&&& 2=f.val/2%2*2)∧(f.val&&& 16=f.val/16%2*16)∧(f.val&&& 18=f.val/2%2*2+f.val/16%2*16)∧(f.val&&& 23=f.val%2+f.val/2%2*2+f.val/4%2*4+f.val/16%2*16):=by decide+kernel
 obtain⟨d1,d2,d3,d4,d5,d6⟩:=d ⟨f,h⟩
 dsimp only at d1 d2 d3 d4 d5 d6
 have e4:=e 4 (by decide);have e1:=e 1 (by decide);have e2:=e 2 (by decide);have Dg:=e 16 (by decide);have Dh:=e 18 (by decide);have Di:=e 23 (by decide)
 rw[d1]at e4;rw[d2]at e1;rw[d3]at e2;rw[d4]at Dg;rw[d5]at Dh;rw[d6]at Di
 exact⟨e4,e1,e2,Dg,Dh,Di⟩
theorem Mb (s:Nat)(out:Bool)(h:s≤4):Spec Tryz.prog 268 [.int .i64 (s:Int),.bool out] W F (fun _:Unit=> .int .i64 (ze s out:Int)) (fun _=>F):=by
 refine Spec.of Tryz.func268 rfl Tryz.ntmps268 rfl ?_
 have hc:s=0∨s=1∨s=2∨s=3∨s=4:=by omega
 rcases hc with rfl|rfl|rfl|rfl|rfl<;>cases out
 all_goals
  repeat first|refine aa ?_ |intro
  exact ae (ar rfl rfl () rfl (U.sat (ab)))
theorem xJ (proto s flags:Nat)(out:Bool)(h:s≤4)(hf:flags<256)(hp:proto<256):Spec Tryz.prog 209 [.int .i64 (proto:Int),.int .i64 (s:Int),.bool out,.int .i64 (flags:Int)] W F (fun _:Unit=> .int .i64 (j1 proto s out flags:Int)) (fun _=>F):=by
 refine Spec.of Tryz.func209 rfl Tryz.ntmps209 rfl ?_
 obtain⟨f4,f1,_,f16,f18,_⟩:=DC hf
 have e0:j1 proto s out flags=_:=rfl
 conv at e0=>rhs;unfold j1
 by_cases g1:proto≠6
 ·rw[if_pos g1]at e0
  rw[e0]
  repeat first|refine aa ?_ |intro
  exact ae (ar rfl rfl () rfl (U.sat (ab)))
 rw[if_neg g1]at e0
 by_cases g2:flags/4%2=1
 ·rw[if_pos g2]at e0
  rw[e0]
  repeat first|refine aa ?_ |intro
  exact ae (ar rfl rfl () rfl (U.sat (ab)))
 rw[if_neg g2]at e0
 by_cases g3:flags%2=1
 ·rw[if_pos g3]at e0
  rw[e0]
  repeat first|refine aa ?_ |intro
  refine af rfl (Mb s out h) ?_
  intro _
  repeat first|refine aa ?_ |intro
  exact ae (ar rfl rfl () rfl (U.sat (ab)))
 rw[if_neg g3]at e0
 by_cases g4:flags/2%2=1∧flags/16%2=0
 ·cases out with
  |true=>
   by_cases g5:s=4
   ·rw[if_pos ⟨g4,rfl,g5⟩]at e0
    rw[e0]
    repeat first|refine aa ?_ |intro
    exact ae (ar rfl rfl () rfl (U.sat (ab)))
   ·rw[if_neg (fun g=>g5 g.2.2),if_neg (fun g=>by cases g.2.1)]at e0
    rw[e0]
    repeat first|refine aa ?_ |intro
    exact ae (ar rfl rfl () rfl (U.sat (ab)))
  |false=>
   rw[if_neg (fun g=>by cases g.2.1),if_neg (by omega)]at e0
   rw[e0]
   repeat first|refine aa ?_ |intro
   exact ae (ar rfl rfl () rfl (U.sat (ab)))
 rw[if_neg (fun g=>g4 g.1)]at e0
 by_cases g6:flags/16%2=1
 ·cases out with
  |true=>
   rw[if_neg (fun g=>by cases g.2.1)]at e0
   rw[e0]
   repeat first|refine aa ?_ |intro
   exact ae (ar rfl rfl () rfl (U.sat (ab)))
  |false=>
   by_cases g5:s=0
   ·rw[if_pos ⟨g6,rfl,g5⟩]at e0
    rw[e0]
    repeat first|refine aa ?_ |intro
    exact ae (ar rfl rfl () rfl (U.sat (ab)))
   ·rw[if_neg (fun g=>g5 g.2.2)]at e0
    rw[e0]
    repeat first|refine aa ?_ |intro
    exact ae (ar rfl rfl () rfl (U.sat (ab)))
 rw[if_neg (fun g=>g6 g.1)]at e0
 rw[e0]
 repeat first|refine aa ?_ |intro
 exact ae (ar rfl rfl () rfl (U.sat (ab)))
theorem JM (proto s:Nat)(hp:proto<256)(h:s≤4):Spec Tryz.prog 212 [.int .i64 (proto:Int),.int .i64 (s:Int)] W F (fun _:Unit=> .int .i64 (ly proto s:Int)) (fun _=>F):=by
 refine Spec.of Tryz.func212 rfl Tryz.ntmps212 rfl ?_
 unfold ly
 by_cases g1:proto=17
 ·rw[if_pos g1]
  repeat first|refine aa ?_ |intro
  exact ae (ar rfl rfl () rfl (U.sat (ab)))
 rw[if_neg g1]
 by_cases g2:proto=1
 ·rw[if_pos g2]
  repeat first|refine aa ?_ |intro
  exact ae (ar rfl rfl () rfl (U.sat (ab)))
 rw[if_neg g2]
 by_cases g3:proto=6
 ·rw[if_pos g3]
  by_cases g4:s=1
  ·rw[if_pos g4]
   repeat first|refine aa ?_ |intro
   exact ae (ar rfl rfl () rfl (U.sat (ab)))
  ·rw[if_neg g4]
   repeat first|refine aa ?_ |intro
   exact ae (ar rfl rfl () rfl (U.sat (ab)))
 rw[if_neg g3]
 repeat first|refine aa ?_ |intro
 exact ae (ar rfl rfl () rfl (U.sat (ab)))
theorem J9 (proto:Nat)(out:Bool):Spec Tryz.prog 215 [.int .i64 (proto:Int),.bool out] W F (fun _:Unit=> .bool (lD proto out)) (fun _=>F):=by
 refine Spec.of Tryz.func215 rfl Tryz.ntmps215 rfl ?_
 by_cases g1:proto=6
 ·rw[show lD proto out=true by simp[lD,g1]]
  repeat first|refine aa ?_ |intro
  exact ae (ar rfl rfl () rfl (U.sat (ab)))
 by_cases g2:proto=17
 ·rw[show lD proto out=out by simp[lD,g2]]
  repeat first|refine aa ?_ |intro
  exact ae (ar rfl rfl () rfl (U.sat (ab)))
 by_cases g3:proto=1
 ·rw[show lD proto out=out by simp[lD,g3]]
  repeat first|refine aa ?_ |intro
  exact ae (ar rfl rfl () rfl (U.sat (ab)))
 rw[show lD proto out=false by simp[lD,g1,g2,g3]]
 repeat first|refine aa ?_ |intro
 exact ae (ar rfl rfl () rfl (U.sat (ab)))
theorem KP (kind flags:Nat):kK 6 kind flags=decide (flags/2%2=1∧flags%2=0∧flags/4%2=0∧flags/16%2=0):=by
 unfold kK
 rw[Bool.eq_iff_iff]
 simp[and_assoc]
theorem IX (proto kind flags:Nat)(hf:flags<256):Spec Tryz.prog 192 [.int .i64 (proto:Int),.int .i64 (kind:Int),.int .i64 (flags:Int)] W F (fun _:Unit=> .bool (kK proto kind flags)) (fun _=>F):=by
 refine Spec.of Tryz.func192 rfl Tryz.ntmps192 rfl ?_
 obtain⟨_,_,_,_,_,f23⟩:=DC hf
 by_cases g1:proto=17
 ·rw[show kK proto kind flags=true by simp[kK,g1]]
  repeat first|refine aa ?_ |intro
  exact ae (ar rfl rfl () rfl (U.sat (ab)))
 by_cases g2:proto=6
 ·subst g2
  rw[KP]
  by_cases g4:flags/2%2=1∧flags%2=0∧flags/4%2=0∧flags/16%2=0
  ·rw[decide_eq_true g4]
   repeat first|refine aa ?_ |intro
   exact ae (ar rfl rfl () rfl (U.sat (ab)))
  ·rw[decide_eq_false g4]
   repeat first|refine aa ?_ |intro
   exact ae (ar rfl rfl () rfl (U.sat (ab)))
 by_cases g3:proto=1
 ·by_cases g5:kind=8
  ·rw[show kK proto kind flags=true by simp[kK,g3,g5]]
   repeat first|refine aa ?_ |intro
   exact ae (ar rfl rfl () rfl (U.sat (ab)))
  ·rw[show kK proto kind flags=false by simp[kK,g3,g5]]
   repeat first|refine aa ?_ |intro
   exact ae (ar rfl rfl () rfl (U.sat (ab)))
 rw[show kK proto kind flags=false by simp[kK,g1,g2,g3]]
 repeat first|refine aa ?_ |intro
 exact ae (ar rfl rfl () rfl (U.sat (ab)))
end
section
open Go.RowKit
set_option maxRecDepth 10000
attribute [local irreducible] EK EX ER EN EL ES EG av aV aY
variable {W:World} {F:SL} {X:Cx} {k:List KI} {σ:Env}
abbrev iw (f:dE):List Value:=[.int .i64 (f.proto:Int),.int .u32 (f.addr:Int),.int .u16 (f.port:Int)]
abbrev CN (b:oy):List Value:=[.int .i64 (b.ao.proto:Int),.int .u32 (b.ao.addr:Int),.int .u16 (b.ao.port:Int),.int .i64 (b.port:Int),.int .i64 (b.Bm:Int),.int .i64 (b.seen:Int)]
abbrev RA (h:ee)(p:fR)(e:Nat):Value:= .tuple #[.agg (cr h).toArray,.agg (bu p).toArray,.int .i64 (e:Int)]
abbrev rV (f:dE)(e:Nat):Value:= .tuple #[.agg (iw f).toArray,.int .i64 (e:Int)]
section
variable {p:Option Addr} {c:Nat} {l:List UInt8}
def qN (l:List UInt8):ee:=if dv l=0 then aW l else dR
def kx (l:List UInt8):fR:=if dv l=0 then dY l else bm
theorem GL (hl:l.length≤140737488355328)[s:Src W F p l.length (aD l)][r:Room W F p l.length c]:Spec Tryz.prog 183 [.slice p l.length c] W F (fun _:Unit=>RA (qN l) (kx l) (dv l)) (fun _=>F):=by
 refine Spec.of Tryz.func183 rfl Tryz.ntmps183 rfl ?_
 repeat first|refine aa ?_ |intro
 refine af rfl (zz hl) ?_
 intro _
 by_cases g1:c5 false l=0
 ·have g0:=ni.of g1
  have eR:dv l=ic (aW l) l:=if_pos g1
  rw[kl g1,g1,if_pos rfl]
  repeat first|refine aa ?_ |intro
  refine af rfl (AV (aW l) g0) ?_
  intro _
  by_cases g2:ic (aW l) l=0
  ·have iv:dv l=0:=by rw[eR,g2]
   rw[show mg (aW l) l=dY l from if_pos g2,g2,show qN l=aW l from if_pos iv,show kx l=dY l from if_pos iv,iv]
   obtain⟨hd,f0⟩:∃x,aW l=x:=⟨_,rfl⟩
   obtain⟨x,f1⟩:∃x,dY l=x:=⟨_,rfl⟩
   rw[f0,f1]
   repeat first|refine aa ?_ |intro
   rename_i x2 x3 _ x5 _ x7
   refine aG 3 (Obj x5 132 (cr hd)*(Obj x7 134 (bu x)*1)) rfl rfl rfl ?_
   repeat(first|refine ak ?_ |refine eD ?_)
   repeat(first|refine bJ ?_ |(refine bN ?_;intro)|refine bK ?_ |refine bL ?_ |refine bM ?_ |refine eD ?_)
   repeat first|refine aa ?_ |intro
   exact ae (aZ (rs:=[.cell 2 132,.cell 3 134,.tmp 4]) (v:= .agg (cr hd).toArray) (u:= .agg (bu x).toArray) (vs:=[.int .i64 ((0:Nat):Int)]) rfl ⟨⟨_,rfl,aT.agg rfl⟩,⟨_,rfl,aT.agg rfl⟩,rfl,trivial⟩ () rfl (U.sat (az)))
  ·have iv:¬dv l=0:=by rw[eR];exact g2
   rw[show mg (aW l) l=bm from if_neg g2,show qN l=dR from if_neg iv,show kx l=bm from if_neg iv,eR]
   repeat first|refine aa ?_ |intro
   exact ae (aZ (rs:=[.cell 2 132,.cell 3 134,.tmp 4]) (v:= .agg (cr dR).toArray) (u:= .agg (bu bm).toArray) (vs:=[.int .i64 (ic (aW l) l:Int)]) rfl ⟨⟨_,rfl,aT.agg rfl⟩,⟨_,rfl,aT.agg rfl⟩,rfl,trivial⟩ () rfl (U.sat (az)))
 ·have eR:dv l=c5 false l:=if_neg g1
  have iv:¬dv l=0:=by rw[eR];exact g1
  rw[kl (rfl:c5 false l=_),if_neg g1,show qN l=dR from if_neg iv,show kx l=bm from if_neg iv,eR]
  repeat first|refine aa ?_ |intro
  exact ae (aZ (rs:=[.cell 2 132,.cell 3 134,.tmp 4]) (v:= .agg (cr dR).toArray) (u:= .agg (bu bm).toArray) (vs:=[.int .i64 (c5 false l:Int)]) rfl ⟨⟨_,rfl,aT.agg rfl⟩,⟨_,rfl,aT.agg rfl⟩,rfl,trivial⟩ () rfl (U.sat (az)))
theorem OH (h:ee)(x:fR):Spec Tryz.prog 184 [.agg (cr h).toArray,.agg (bu x).toArray] W F (fun _:Unit=> .agg (iw (vU h x)).toArray) (fun _=>F):=by
 refine Spec.of Tryz.func184 rfl Tryz.ntmps184 rfl ?_
 obtain⟨xp,xs,xd,xf,xk,xc,xe,xi,xo,xb⟩:=x
 cases xe with
 |true=>
  repeat first|refine aa ?_ |intro
  exact ae (js (rv:= .cell 4 103) rfl ⟨_,rfl,aT.agg rfl⟩ () rfl (U.sat (az)))
 |false=>
  repeat first|refine aa ?_ |intro
  exact ae (js (rv:= .cell 4 103) rfl ⟨_,rfl,aT.agg rfl⟩ () rfl (U.sat (az)))
theorem QZ (h:ee)(x:fR):Spec Tryz.prog 185 [.agg (cr h).toArray,.agg (bu x).toArray] W F (fun _:Unit=> .agg (iw (wm h x)).toArray) (fun _=>F):=by
 refine Spec.of Tryz.func185 rfl Tryz.ntmps185 rfl ?_
 obtain⟨xp,xs,xd,xf,xk,xc,xe,xi,xo,xb⟩:=x
 cases xe with
 |true=>
  repeat first|refine aa ?_ |intro
  exact ae (js (rv:= .cell 4 103) rfl ⟨_,rfl,aT.agg rfl⟩ () rfl (U.sat (az)))
 |false=>
  repeat first|refine aa ?_ |intro
  exact ae (js (rv:= .cell 4 103) rfl ⟨_,rfl,aT.agg rfl⟩ () rfl (U.sat (az)))
theorem Bt {o:Nat}{out:Bool}{l:List UInt8}{e:Nat}(h:jL o out l=e)(h0:e≠0):rV (pQ o out l) (jL o out l)=rV nC e:=by
 unfold pQ
 rw[h,if_neg h0]
theorem HC {o:Nat}{out:Bool}{l:List UInt8}(h:jL o out l=0):rV (pQ o out l) (jL o out l)=rV (da out l) 0:=by
 unfold pQ
 rw[h,if_pos rfl]
theorem Ko (hl:l.length≤140737488355328)[s:Src W F p l.length (aD l)][r:Room W F p l.length c](cf:eA)(ho:0≤cf.o)(out:Bool):Spec Tryz.prog 141 [.agg cf.cells.toArray,.bool out,.slice p l.length c] W F (fun _:Unit=>rV (pQ cf.o.toNat out l) (jL cf.o.toNat out l)) (fun _=>F):=by
 refine Spec.of Tryz.func141 rfl Tryz.ntmps141 rfl ?_
 have e0:jL cf.o.toNat out l=_:=rfl
 conv at e0=>rhs;unfold jL
 repeat first|refine aa ?_ |intro
 refine af rfl (GL hl) ?_
 intro _
 by_cases g1:¬(dv l=0)
 ·rw[if_pos g1]at e0
  rw[Bt e0 g1,show qN l=dR from if_neg g1,show kx l=bm from if_neg g1]
  repeat first|refine aa ?_ |intro
  exact ae (aZ (rs:=[.cell 6 103,.tmp 7]) (v:= .agg (iw nC).toArray) (u:= .int .i64 (dv l:Int)) (vs:=[]) rfl ⟨⟨_,rfl,aT.agg rfl⟩,rfl,trivial⟩ () rfl (U.sat (az)))
 have g1:=Decidable.not_not.1 g1
 rw[if_neg (by omega)]at e0
 rw[show qN l=aW l from if_pos g1,show kx l=dY l from if_pos g1,g1]
 cases out with
 |true=>
  rw[if_neg (fun g=>by cases g.1)]at e0
  rw[HC e0]
  repeat first|refine aa ?_ |intro
  refine af rfl (OH (aW l) (dY l)) ?_
  intro _
  repeat first|refine aa ?_ |intro
  exact ae (aZ (rs:=[.cell 6 103,.tmp 7]) (v:= .agg (iw (da true l)).toArray) (u:= .int .i64 ((0:Nat):Int)) (vs:=[]) rfl ⟨⟨_,rfl,aT.agg rfl⟩,rfl,trivial⟩ () rfl (U.sat (az)))
 |false=>
  have eW:wm (aW l) (dY l)=da false l:=rfl
  repeat first|refine aa ?_ |intro
  refine af rfl (QZ (aW l) (dY l)) ?_
  intro _
  rw[eW]
  by_cases g2:(aW l).dst=cf.o.toNat
  ·by_cases g3:(da false l).addr=cf.o.toNat
   ·rw[if_neg (fun g=>g.2.elim (fun g=>g g2) (fun g=>g g3))]at e0
    rw[HC e0]
    repeat first|refine aa ?_ |intro
    exact ae (aZ (rs:=[.cell 6 103,.tmp 7]) (v:= .agg (iw (da false l)).toArray) (u:= .int .i64 ((0:Nat):Int)) (vs:=[]) rfl ⟨⟨_,rfl,aT.agg rfl⟩,rfl,trivial⟩ () rfl (U.sat (az)))
   ·rw[if_pos ⟨rfl,Or.inr g3⟩]at e0
    rw[Bt e0 (by decide)]
    repeat first|refine aa ?_ |intro
    exact ae (aZ (rs:=[.cell 6 103,.tmp 7]) (v:= .agg (iw nC).toArray) (u:= .int .i64 ((7:Nat):Int)) (vs:=[]) rfl ⟨⟨_,rfl,aT.agg rfl⟩,rfl,trivial⟩ () rfl (U.sat (az)))
  ·rw[if_pos ⟨rfl,Or.inl g2⟩]at e0
   rw[Bt e0 (by decide)]
   repeat first|refine aa ?_ |intro
   exact ae (aZ (rs:=[.cell 6 103,.tmp 7]) (v:= .agg (iw nC).toArray) (u:= .int .i64 ((7:Nat):Int)) (vs:=[]) rfl ⟨⟨_,rfl,aT.agg rfl⟩,rfl,trivial⟩ () rfl (U.sat (az)))
theorem KN (out:Bool)(l:List UInt8):lR out l=(out&&(decide (dv l=0)&&(!(dY l).err&&kK (dY l).proto (dY l).kind (dY l).flags))):=by
 unfold lR
 rw[Bool.and_assoc,Bool.and_assoc]
theorem IW (hl:l.length≤140737488355328)[s:Src W F p l.length (aD l)][r:Room W F p l.length c](out:Bool):Spec Tryz.prog 144 [.bool out,.slice p l.length c] W F (fun _:Unit=> .bool (lR out l)) (fun _=>F):=by
 refine Spec.of Tryz.func144 rfl Tryz.ntmps144 rfl ?_
 have rg:=oL.of (aW l) l
 rw[KN]
 repeat first|refine aa ?_ |intro
 refine af rfl (GL hl) ?_
 intro _
 cases out with
 |false=>
  repeat first|refine aa ?_ |intro
  exact ae (ar rfl rfl () rfl (U.sat (az)))
 |true=>
  by_cases g1:¬(dv l=0)
  ·rw[decide_eq_false g1]
   repeat first|refine aa ?_ |intro
   exact ae (ar rfl rfl () rfl (U.sat (az)))
  have g1:=Decidable.not_not.1 g1
  rw[decide_eq_true g1,show qN l=aW l from if_pos g1,show kx l=dY l from if_pos g1,g1]
  change oL (dY l)at rg
  obtain⟨x,f1⟩:∃x,dY l=x:=⟨_,rfl⟩
  rw[f1]at rg ⊢
  have rf:=rg.flags
  obtain⟨xp,xs,xd,xf,xk,xc,xe,xi,xo,xb⟩:=x
  cases xe with
  |true=>
   repeat first|refine aa ?_ |intro
   exact ae (ar rfl rfl () rfl (U.sat (az)))
  |false=>
   repeat first|refine aa ?_ |intro
   refine af rfl (IX xp xk xf rf) ?_
   intro _
   repeat first|refine aa ?_ |intro
   exact ae (ar rfl rfl () rfl (U.sat (az)))
end
end
section
open Go.RowKit
def BS (P:Program)(kt:TypeId)(k:Value)(es:List MapEntry)(w:World):Prop:=
 ((Instr.findKey kt k es).run P w= .ok none w∧∀e∈es,e.key≠k)∨∃j e,(Instr.findKey kt k es).run P w= .ok (some (j,e.val)) w∧es[j]? =some e∧e.key=k
class sx (P:Program)(kt:TypeId){κ:Type}(ek:κ→Value):Prop where
 inj:∀a b,ek a=ek b→a=b
 check:∀e k w,(Instr.checkKey e 10000 kt (ek k)).run P w= .ok () w
 find:∀(k:κ) (es:List MapEntry) w,(∀e∈es,∃a,e.key=ek a)→BS P kt (ek k) es w
 stays:∀k,Instr.sameBits 10000 (ek k) (ek k)=true
theorem MA {P:Program}{kt:TypeId}{d:TypeDesc}(hu:P.underlying kt=some d){k:Value}(hk:MapKept.IsKey d k){es:List MapEntry}(h:∀e∈es,MapKept.IsKey d e.key)(w:World):BS P kt k es w:=by
 rcases MapKept.findNow_spec hk es 0 h with ⟨h1,h2⟩|⟨j,e,h1,h2,h3⟩
 ·exact .inl ⟨MapKept.run_findKey hu h1,h2⟩
 ·rw[Nat.zero_add]at h1
  exact .inr ⟨j,e,MapKept.run_findKey hu h1,h2,h3⟩
theorem Dx {P:Program}{kt:TypeId}{k:Value}{w:World}:∀(es:List MapEntry) (i:Nat),(∀e∈es,∃b:Bool,(Op.equal kt k e.key).run P w= .ok b w∧(b=true↔k=e.key))→
  ((Instr.findAsking kt k es i).run P w= .ok none w∧∀e∈es,e.key≠k)∨∃j e,(Instr.findAsking kt k es i).run P w= .ok (some (i+j,e.val)) w∧es[j]? =some e∧e.key=k
 |[],i,_=> .inl ⟨rfl,by simp⟩
 |e::es,i,ho=>by
  obtain⟨b,h1,h2⟩:=ho e List.mem_cons_self
  cases b with
  |true=>exact .inr ⟨0,e,by unfold Instr.findAsking;simp[Sem.run_bind,h1,Result.andThen_ok,go_sem],rfl,(h2.1 rfl).symm⟩
  |false=>
   have lv:e.key≠k:=fun q=>by have:=h2.2 q.symm;cases this
   rcases Dx es (i+1) fun x hx=>ho x (List.mem_cons_of_mem _ hx)with ⟨h3,h4⟩|⟨j,x,h3,h4,h5⟩
   ·refine .inl ⟨by unfold Instr.findAsking;simp[Sem.run_bind,h1,Result.andThen_ok,h3],fun x hx=> ?_⟩
    rcases List.mem_cons.1 hx with rfl|hx
    ·exact lv
    ·exact h4 x hx
   ·refine .inr ⟨j+1,x,?_,by simpa using h4,h5⟩
    unfold Instr.findAsking
    simp[Sem.run_bind,h1,Result.andThen_ok,h3]
    omega
def gD (z:Int):Value:= .int .i64 z
instance sx.int (P:Program)(kt:TypeId)[h:fJ P kt .i64]:sx P kt gD where
 inj:=fun a b e=>by simpa[gD]using e
 check:=fun e k w=>MapKept.run_checkKey h.h (by simp[MapKept.IsKey,gD]) e 9999
 find:=fun k es w ho=>MA h.h (by simp[MapKept.IsKey,gD]) (fun e he=>by
  obtain⟨a,e'⟩:=ho e he
  rw[e']
  simp[MapKept.IsKey,gD]) w
 stays:=fun k=>by
  unfold gD Instr.sameBits
  simp
variable {κ ν:Type} [DecidableEq κ]
structure gL (ek:κ→Value)(ev:ν→Value)(es:Array MapEntry)(clock:Nat)(l:List (κ×ν)):Prop where
 eq:es.toList.map (fun e=>(e.key,e.val))=l.map fun p=>(ek p.1,ev p.2)
 keys:(l.map (·.1)).Nodup
 born:(es.toList.map (·.born)).Nodup
 clock:∀e∈es.toList,e.born<clock
def fh (ek:κ→Value)(ev:ν→Value)(m:Nat)(l:List (κ×ν)):SL:=SL.ex fun q:Array MapEntry×Nat=>SL.pure (gL ek ev q.1 q.2 l)*SL.cC m (.map q.1 q.2)
class qY (H:SL)(m:Nat)(C:outParam SL)(F:outParam SL):Prop where eq:H=C*F
instance (priority:=2000) qY.here (ek:κ→Value)(ev:ν→Value)(m:Nat)(l:List (κ×ν))(F:SL):qY (fh ek ev m l*F) m (fh ek ev m l) F:=⟨rfl⟩
instance (priority:=900) qY.there (Q R C F:SL)(m:Nat)[h:qY R m C F]:qY (Q*R) m C (Q*F):=⟨by rw[h.eq];ac_rfl⟩
section maps
variable {ek:κ→Value} {ev:ν→Value} {m:Nat} {l:List (κ×ν)} {W w:World} {F H:SL} {X:Cx} {σ:Env} {o:Oper}
omit [DecidableEq κ] in
theorem fh.open (h:Sat W w (fh ek ev m l*F)):∃es clock,gL ek ev es clock l∧w.heap[m]? =some (.map es clock)∧Sat W w (SL.cC m (.map es clock)*F):=by
 obtain⟨q,h⟩:=h.gQ
 obtain⟨hf,h⟩:=(h.ac (SL.bU _ _ _)).out
 exact⟨q.1,q.2,hf,h.get,h⟩
omit [DecidableEq κ] in
theorem fh.shut {es:Array MapEntry}{clock:Nat}(hf:gL ek ev es clock l)(h:Sat W w (SL.cC m (.map es clock)*F)):Sat W w (fh ek ev m l*F):=
 Sat.Dr (P:=fun q:Array MapEntry×Nat=>SL.pure (gL ek ev q.1 q.2 l)*SL.cC m (.map q.1 q.2)) (es,clock) ((h.put hf).ac (SL.bU _ _ _).symm)
omit [DecidableEq κ] in
theorem gL.nil:gL ek ev #[] 0 ([]:List (κ×ν)):=⟨rfl,List.nodup_nil,List.nodup_nil,by simp⟩
omit [DecidableEq κ] in
theorem gL.at_ {es:Array MapEntry}{clock:Nat}(hf:gL ek ev es clock l)(i:Nat):(es.toList[i]?).map (fun e=>(e.key,e.val))=(l[i]?).map fun p=>(ek p.1,ev p.2):=by
 have:=congrArg (fun q=>q[i]?) hf.eq
 simpa using this
omit [DecidableEq κ] in
theorem gL.keyed {es:Array MapEntry}{clock:Nat}(hf:gL ek ev es clock l):∀e∈es.toList,∃a,e.key=ek a:=fun e he=>by
 obtain⟨i,hi⟩:=List.getElem?_of_mem he
 have:=hf.at_ i
 rw[hi]at this
 cases hl:l[i]? with
 |none=>rw[hl]at this;simp at this
 |some p=>
  rw[hl]at this
  simp only[Option.map_some,Option.some.injEq,Prod.mk.injEq]at this
  exact⟨p.1,this.1⟩
theorem Fa:∀ {l:List (κ×ν)} {i:Nat} {p:κ×ν},(l.map (·.1)).Nodup→l[i]? =some p→l.lookup p.1=some p.2
 |[],i,p,_,h=>by simp at h
 |q::l,0,p,_,h=>by
  simp only[List.getElem?_cons_zero,Option.some.injEq]at h
  subst h
  simp[List.lookup]
 |q::l,i+1,p,hn,h=>by
  simp only[List.getElem?_cons_succ]at h
  simp only[List.map_cons,List.nodup_cons]at hn
  have lv:p.1≠q.1:=fun e=>hn.1 (by rw[←e];exact List.mem_map.2 ⟨p,List.mem_of_getElem? h,rfl⟩)
  have:(p.1==q.1)=false:=by simpa using lv
  simp only[List.lookup,this]
  exact Fa hn.2 h
theorem Fb:∀ {l:List (κ×ν)} {k:κ},(∀p∈l,p.1≠k)→l.lookup k=none
 |[],_,_=>rfl
 |q::l,k,h=>by
  have:(k==q.1)=false:=by simpa using fun e=>h q List.mem_cons_self e.symm
  simp only[List.lookup,this]
  exact Fb fun p hp=>h p (List.mem_cons_of_mem _ hp)
theorem gL.find {P:Program}{kt:TypeId}[K:sx P kt ek]{es:Array MapEntry}{clock:Nat}(hf:gL ek ev es clock l)(k:κ)(w:World):
  ((Instr.findKey kt (ek k) es.toList).run P w= .ok none w∧l.lookup k=none∧∀p∈l,p.1≠k)∨
  ∃i e b,(Instr.findKey kt (ek k) es.toList).run P w= .ok (some (i,ev b)) w∧es[i]? =some e∧e.key=ek k∧l[i]? =some (k,b)∧l.lookup k=some b:=by
 rcases K.find k es.toList w hf.keyed with ⟨h1,h2⟩|⟨i,e,h1,h3,h4⟩
 ·have h3:∀p∈l,p.1≠k:=fun p hp e=>by
   obtain⟨i,hi⟩:=List.getElem?_of_mem hp
   have:=hf.at_ i
   rw[hi]at this
   cases he:es.toList[i]? with
   |none=>rw[he]at this;simp at this
   |some x=>
    rw[he]at this
    simp only[Option.map_some,Option.some.injEq,Prod.mk.injEq]at this
    exact h2 x (List.mem_of_getElem? he) (by rw[this.1,e])
  exact .inl ⟨h1,Fb h3,h3⟩
 ·have:=hf.at_ i
  rw[h3]at this
  cases hl:l[i]? with
  |none=>rw[hl]at this;simp at this
  |some p=>
   rw[hl]at this
   simp only[Option.map_some,Option.some.injEq,Prod.mk.injEq]at this
   have hk:p.1=k:=K.inj _ _ (by rw[←this.1,h4])
   subst hk
   exact .inr ⟨i,e,p.2,by rw[←this.2];exact h1,by simpa using h3,h4,hl,Fa hf.keys hl⟩
class Ct (P:Program)(t:TypeId)(kt:outParam TypeId)(et:outParam TypeId):Prop where h:P.underlying t=some (.map kt et)
class Cu (P:Program)(t:TypeId)(z:outParam Value):Prop where h:(P.info? t).map (·.zero)=some (some z)
def jj:List (κ×ν)→κ→ν→List (κ×ν)
 |[],k,v=>[(k,v)]
 |p::l,k,v=>if p.1=k then(k,v)::l else p::jj l k v
theorem GC:∀(l:List (κ×ν)) (k:κ) (v:ν) (x:κ),x∈(jj l k v).map (·.1)↔x=k∨x∈l.map (·.1)
 |[],k,v,x=>by simp[jj]
 |p::l,k,v,x=>by
  unfold jj
  split
  ·rename_i h
   subst h
   simp
  ·simp only[List.map_cons,List.mem_cons,GC l k v x]
   constructor
   ·rintro (h|h|h)
    ·exact .inr (.inl h)
    ·exact .inl h
    ·exact .inr (.inr h)
   ·rintro (h|h|h)
    ·exact .inr (.inl h)
    ·exact .inl h
    ·exact .inr (.inr h)
theorem GF:∀(l:List (κ×ν)) (k:κ) (v:ν),(l.map (·.1)).Nodup→((jj l k v).map (·.1)).Nodup
 |[],k,v,_=>by simp[jj]
 |p::l,k,v,h=>by
  simp only[List.map_cons,List.nodup_cons]at h
  unfold jj
  split
  ·rename_i e
   subst e
   simp only[List.map_cons,List.nodup_cons]
   exact h
  ·rename_i e
   simp only[List.map_cons,List.nodup_cons]
   refine⟨fun g=> ?_,GF l k v h.2⟩
   rcases(GC l k v _).1 g with g|g
   ·exact e g
   ·exact h.1 g
theorem GD:∀ {l:List (κ×ν)} {k:κ} (v:ν),(∀p∈l,p.1≠k)→jj l k v=l++[(k,v)]
 |[],k,v,_=>rfl
 |p::l,k,v,h=>by
  unfold jj
  rw[if_neg (h p List.mem_cons_self),GD v fun q hq=>h q (List.mem_cons_of_mem _ hq)]
  rfl
theorem GG:∀ {l:List (κ×ν)} {k:κ} {b:ν} {i:Nat} (v:ν),(l.map (·.1)).Nodup→l[i]? =some (k,b)→jj l k v=l.set i (k,v)
 |[],k,b,i,v,_,h=>by simp at h
 |p::l,k,b,0,v,_,h=>by
  simp only[List.getElem?_cons_zero,Option.some.injEq]at h
  subst h
  simp[jj]
 |p::l,k,b,i+1,v,hn,h=>by
  simp only[List.getElem?_cons_succ]at h
  simp only[List.map_cons,List.nodup_cons]at hn
  have lv:p.1≠k:=fun e=>hn.1 (by rw[e];exact List.mem_map.2 ⟨(k,b),List.mem_of_getElem? h,rfl⟩)
  simp only[jj,if_neg lv,List.set_cons_succ,GG v hn.2 h]
theorem gL.set {es:Array MapEntry}{clock:Nat}(hf:gL ek ev es clock l){i:Nat}{k:κ}{b:ν}(h:l[i]? =some (k,b))(v:ν):gL ek ev (es.modify i fun e=>{e with key:=ek k,val:=ev v}) clock (jj l k v):=by
 rw[GG v hf.keys h]
 refine⟨?_,?_,?_,?_⟩
 ·rw[List.map_set,←hf.eq]
  apply List.ext_getElem?
  intro j
  simp only[Array.toList_modify,List.getElem?_map,List.getElem?_modify,List.getElem?_set,List.length_map,Array.length_toList]
  by_cases hj:i=j
  ·subst hj
   have hl:i<es.size:=by
    have:=hf.at_ i
    rw[h]at this
    cases he:es.toList[i]? with
    |none=>rw[he]at this;simp at this
    |some x=>simpa using(List.getElem?_eq_some_iff.1 he).1
   simp[hl]
  ·simp[hj]
 ·have:=hf.keys
  rw[List.map_set]
  rwa[show(l.map (·.1)).set i k=l.map (·.1)from List.ext_getElem? fun j=>by
   rw[List.getElem?_set]
   split
   ·rename_i e
    subst e
    have hl:=(List.getElem?_eq_some_iff.1 h).1
    simp only[List.length_map,if_pos hl,List.getElem?_map,h,Option.map_some]
   ·rfl]
 ·have:=hf.born
  rwa[show(es.modify i fun e=>{e with key:=ek k,val:=ev v}).toList.map (·.born)=es.toList.map (·.born)from List.ext_getElem? fun j=>by
   simp only[Array.toList_modify,List.getElem?_map,List.getElem?_modify]
   split
   ·cases es.toList[j]? <;>simp
   ·simp]
 ·intro e he
  obtain⟨j,hj⟩:=List.getElem?_of_mem he
  simp only[Array.toList_modify,List.getElem?_modify]at hj
  cases hx:es.toList[j]? with
  |none=>rw[hx]at hj;simp at hj
  |some x=>
   rw[hx]at hj
   have hc:=hf.clock x (List.mem_of_getElem? hx)
   split at hj<;>simp only[Option.map_eq_map,Option.map_some,Option.some.injEq]at hj<;>subst hj<;>exact hc
theorem gL.push {es:Array MapEntry}{clock:Nat}(hf:gL ek ev es clock l){k:κ}(h:∀p∈l,p.1≠k)(v:ν):gL ek ev (es.push ⟨ek k,ev v,clock⟩) (clock+1) (jj l k v):=by
 refine⟨?_,GF l k v hf.keys,?_,?_⟩
 ·rw[GD v h]
  simp[hf.eq]
 ·simp only[Array.toList_push,List.map_append,List.map_cons,List.map_nil]
  refine List.nodup_append.2 ⟨hf.born,by simp,?_⟩
  intro a ha b hb e
  obtain⟨x,hx,rfl⟩:=List.mem_map.1 ha
  have:=hf.clock x hx
  simp only[List.mem_singleton]at hb
  omega
 ·intro e he
  simp only[Array.toList_push,List.mem_append,List.mem_singleton]at he
  rcases he with he|rfl
  ·have:=hf.clock e he
   omega
  ·exact Nat.lt_succ_self _
omit [DecidableEq κ] in
theorem FU {P:Program}{es Dp:Array MapEntry}{clock Db:Nat}{l':List (κ×ν)}(hs:Sat W w (SL.cC m (.map es clock)*F))(hf:gL ek ev Dp Db l'):∃w',(setObj m (.map Dp Db)).run P w= .ok () w'∧Sat W w' (fh ek ev m l'*F):=by
 have hb:=hs.get
 refine⟨_,MapKept.run_setObj_map _ hb,fh.shut hf (hs.write (by simp) rfl rfl rfl (fun k _ hk=>by simp[Array.getElem?_setIfInBounds,hk.symm]) ?_)⟩
 have:=lt_of_block hb
 simp[this]
theorem JZ {x y z:Operand}{t kt et:TypeId}{k:κ}{v:ν}(ho:o.op= .mapUpdate t x y z)(hx:Go.Proofs.YtimekbpkejemoaaGreatDoor.ev σ x=some (.map (some m)))(hy:Go.Proofs.YtimekbpkejemoaaGreatDoor.ev σ y=some (ek k))(hz:Go.Proofs.YtimekbpkejemoaaGreatDoor.ev σ z=some (ev v))[T:Ct X.P t kt et][A:qY H m (fh ek ev m l) F][K:sx X.P kt ek]:
  aY X σ H o (fh ek ev m (jj l k v)*F):=by
 intro a w ha hs
 obtain⟨es,clock,hf,hb,fK⟩:=fh.open (A.eq▸hs)
 simp only[execOp,ho,ha.eval hx,ha.eval hy,ha.eval hz]
 unfold Instr.mapUpdate
 rcases hf.find (P:=X.P) (kt:=kt) k w with ⟨h1,_,h2⟩|⟨i,e,b,h1,c1,c2,c4,_⟩
 ·obtain⟨w',g1,g2⟩:=FU (P:=X.P) fK (hf.push h2 v)
  refine⟨w',?_,g2⟩
  simp only[Sem.run_bind,run_underlying T.h,Result.andThen_ok,MapKept.run_getObj_map hb,K.check,h1,g1,Sem.run_pure]
 ·obtain⟨w',g1,g2⟩:=FU (P:=X.P) fK (hf.set c4 v)
  refine⟨w',?_,g2⟩
  simp only[Sem.run_bind,run_underlying T.h,Result.andThen_ok,MapKept.run_getObj_map hb,K.check,h1,c1,Option.map_some,Option.getD_some,c2,Instr.keyThatStays,K.stays,if_true,g1,Sem.run_pure]
end maps
section
variable {H:SL} {X:Cx} {σ:Env} {k:List KI} {ops l:List Oper} {S:SL} {L fuel:Nat} {listed:Array Bool}
end
end
section
open Go.RowKit
set_option maxRecDepth 10000
attribute [local irreducible] EK EX ER EN EL ES EG av aV aY
variable {W:World} {F:SL}
abbrev str (l:List UInt8):Value:= .string (bs l)
end
section
open Go.RowKit
set_option maxRecDepth 10000
attribute [local irreducible] EK EX ER EN EL ES EG av aV aY
variable {W:World} {F:SL} {X:Cx} {k:List KI} {σ:Env}
abbrev eA.val (c:eA):Value:= .agg #[.int .i64 c.w,.int .u32 c.o,.int .i64 c.lo,.int .i64 c.hi,.int .i64 c.b,.int .i64 c.r]
theorem sN (n a b:Int):
  Spec Tryz.prog 89 [.int .i64 n,.int .i64 a,.int .i64 b] W F (fun _:Unit=> .bool (decide (a≤n∧n≤b))) (fun _=>F):=by
 refine Spec.of Tryz.func89 rfl Tryz.ntmps89 rfl ?_
 repeat first|refine aa ?_ |intro
 refine uE rfl rfl (fun h=> ?_) (fun h=> ?_)
 ·repeat first|refine aa ?_ |intro
  exact ae (ar rfl rfl () (by simp_all) fun _ h=>h)
 ·repeat first|refine aa ?_ |intro
  exact ae (ar rfl rfl () (by simp_all;omega) fun _ h=>h)
theorem wr {c:eA}{l:List UInt8}(h:dh c=l):Value.string ⟨l.toArray⟩=str (dh c):=by rw[h];rfl
theorem fY {b:Int}(h:gW b):¬ ¬gW b:=fun g=>g h
theorem CR {b:Int}(h:2≤b∧b≤1024):bits BinOp.and IntKind.i64 b (b-1)=0↔gW b:=by
 have:∀m:Fin 1025,(bits BinOp.and IntKind.i64 (m.val:Int) ((m.val:Int)-1)=0)↔(gW (m.val:Int)∨m.val<2):=by decide+kernel
 obtain⟨n,rfl⟩:∃n:Nat,b=n:=⟨b.toNat,by omega⟩
 have:=this ⟨n,by omega⟩
 simp only[show ¬n<2 by omega,or_false]at this
 exact this
def pp (i:Nat):Int:=2^(i+1)
theorem Q9 (i:Nat):2*pp i=pp (i+1):=by unfold pp;rw[Int.pow_succ 2 (i+1),Int.mul_comm]
theorem Q8 (i:Nat):1≤pp i:=by
 have:(0:Int)<2^(i+1):=Int.pow_pos (by decide)
 unfold pp;omega
def pw (b:Int)(i:Nat):Bool:=(List.range i).any fun j=>decide (pp j=b)
theorem Rl (b:Int)(i:Nat):pw b (i+1)=(pw b i||decide (pp i=b)):=by unfold pw;rw[List.range_succ];simp
theorem Rm (b:Int):pw b 10=decide (gW b):=by
 rw[Bool.eq_iff_iff]
 constructor
 ·intro h
  obtain⟨j,hj,hd⟩:=List.any_eq_true.1 h
  have e:=of_decide_eq_true hd
  have hj:=List.mem_range.1 hj
  refine decide_eq_true ?_
  have:j=0∨j=1∨j=2∨j=3∨j=4∨j=5∨j=6∨j=7∨j=8∨j=9:=by omega
  rcases this with rfl|rfl|rfl|rfl|rfl|rfl|rfl|rfl|rfl|rfl<;>subst e<;>decide
 ·intro h
  have h:=of_decide_eq_true h
  rcases h with rfl|rfl|rfl|rfl|rfl|rfl|rfl|rfl|rfl|rfl<;>decide
theorem yO (c:eA)(hc:c.Fit):
  Spec Tryz.prog 53 [c.val] W F (fun _:Unit=>str (dh c)) (fun _=>F):=by
 obtain⟨⟨w1,w2⟩,⟨o1,o2⟩,⟨l1,l2⟩,⟨h1,h2⟩,⟨b1,b2⟩,⟨r1,r2⟩⟩:=hc
 refine Spec.of Tryz.func53 rfl Tryz.ntmps53 rfl ?_
 repeat first|refine aa ?_ |intro
 refine af rfl (sN _ _ _) ?_
 intro
 repeat first|refine aa ?_ |intro
 refine pU rfl (fun hw=> ?_) (fun hw=> ?_)
 ·repeat first|refine aa ?_ |intro
  exact ae (ar rfl rfl () (wr (by unfold dh;repeat(first|rfl|rw[if_pos (by first|omega|assumption)]|rw[if_neg (by first|omega|exact fY (by assumption))]))) (U.sat U.last))
 repeat first|refine aa ?_ |intro
 refine j7 rfl rfl (fun ho=> ?_) (fun ho=> ?_)
 ·repeat first|refine aa ?_ |intro
  exact ae (ar rfl rfl () (wr (by unfold dh;repeat(first|rfl|rw[if_pos (by first|omega|assumption)]|rw[if_neg (by first|omega|exact fY (by assumption))]))) (U.sat U.last))
 repeat first|refine aa ?_ |intro
 refine il rfl (fun Ad=> ?_) (fun Ad=> ?_)
 ·repeat first|refine aa ?_ |intro
  exact ae (ar rfl rfl () (wr (by unfold dh;repeat(first|rfl|rw[if_pos (by first|omega|assumption)]|rw[if_neg (by first|omega|exact fY (by assumption))]))) (U.sat U.last))
 repeat first|refine aa ?_ |intro
 refine j7 rfl rfl (fun hp=> ?_) (fun hp=> ?_)
 ·repeat first|refine aa ?_ |intro
  exact ae (ar rfl rfl () (wr (by unfold dh;repeat(first|rfl|rw[if_pos (by first|omega|assumption)]|rw[if_neg (by first|omega|exact fY (by assumption))]))) (U.sat U.last))
 repeat first|refine aa ?_ |intro
 refine j7 rfl rfl (fun rF=> ?_) (fun rF=> ?_)
 ·repeat first|refine aa ?_ |intro
  exact ae (ar rfl rfl () (wr (by unfold dh;repeat(first|rfl|rw[if_pos (by first|omega|assumption)]|rw[if_neg (by first|omega|exact fY (by assumption))]))) (U.sat U.last))
 repeat first|refine aa ?_ |intro
 refine j7 rfl rfl (fun tn=> ?_) (fun tn=> ?_)
 ·repeat first|refine aa ?_ |intro
  exact ae (ar rfl rfl () (wr (by unfold dh;repeat(first|rfl|rw[if_pos (by first|omega|assumption)]|rw[if_neg (by first|omega|exact fY (by assumption))]))) (U.sat U.last))
 repeat first|refine aa ?_ |intro
 refine il rfl (fun Af=> ?_) (fun Af=> ?_)
 ·repeat first|refine aa ?_ |intro
  exact ae (ar rfl rfl () (wr (by unfold dh;repeat(first|rfl|rw[if_pos (by first|omega|assumption)]|rw[if_neg (by first|omega|exact fY (by assumption))]))) (U.sat U.last))
 repeat first|refine aa ?_ |intro
 refine af rfl (sN _ _ _) ?_
 intro
 repeat first|refine aa ?_ |intro
 refine Jq rfl rfl (fun hb=> ?_) (fun hb=> ?_)
 ·have ru:¬gW c.b:=by unfold gW;omega
  repeat first|refine aa ?_ |intro
  exact ae (ar rfl rfl () (wr (by unfold dh;repeat(first|rfl|rw[if_pos (by first|omega|assumption)]|rw[if_neg (by first|omega|exact fY (by assumption))]))) (U.sat U.last))
 repeat first|refine aa ?_ |intro
 refine pU rfl (fun hq=> ?_) (fun hq=> ?_)
 ·have ru:¬gW c.b:=fun h=>hq ((CR hb).2 h)
  repeat first|refine aa ?_ |intro
  exact ae (ar rfl rfl () (wr (by unfold dh;repeat(first|rfl|rw[if_pos (by first|omega|assumption)]|rw[if_neg (by first|omega|exact fY (by assumption))]))) (U.sat U.last))
 have ru:gW c.b:=(CR hb).1 hq
 repeat first|refine aa ?_ |intro
 refine af rfl (sN _ _ _) ?_
 intro
 repeat first|refine aa ?_ |intro
 refine pU rfl (fun hr=> ?_) (fun hr=> ?_)
 ·repeat first|refine aa ?_ |intro
  exact ae (ar rfl rfl () (wr (by unfold dh;repeat(first|rfl|rw[if_pos (by first|omega|assumption)]|rw[if_neg (by first|omega|exact fY (by assumption))]))) (U.sat U.last))
 repeat first|refine aa ?_ |intro
 exact ae (ar rfl rfl () (wr (by unfold dh;repeat(first|rfl|rw[if_pos (by first|omega|assumption)]|rw[if_neg (by first|omega|exact fY (by assumption))]))) (U.sat U.last))
end
section
open Go.RowKit
set_option maxRecDepth 10000
attribute [local irreducible] EK EX ER EN EL ES EG av aV aY
variable {W:World} {F:SL} {X:Cx} {k:List KI} {σ:Env}
theorem GK (c:eA)(hc:c.Fit):
  Spec Tryz.prog 22 [c.val] W F (fun _:Unit=>str (dh c)) (fun _=>F):=by
 obtain⟨⟨w1,w2⟩,⟨o1,o2⟩,⟨l1,l2⟩,⟨h1,h2⟩,⟨b1,b2⟩,⟨r1,r2⟩⟩:=hc
 refine Spec.of Tryz.func22 rfl Tryz.ntmps22 rfl ?_
 repeat first|refine aa ?_ |intro
 refine j7 rfl rfl (fun hw=> ?_) (fun hw=> ?_)
 ·repeat first|refine aa ?_ |intro
  exact ae (ar rfl rfl () (wr (by unfold dh;repeat(first|rfl|rw[if_pos (by first|omega|assumption)]|rw[if_neg (by first|omega|exact fY (by assumption))]))) (U.sat U.last))
 repeat first|refine aa ?_ |intro
 refine il rfl (fun Ot=> ?_) (fun Ot=> ?_)
 ·repeat first|refine aa ?_ |intro
  exact ae (ar rfl rfl () (wr (by unfold dh;repeat(first|rfl|rw[if_pos (by first|omega|assumption)]|rw[if_neg (by first|omega|exact fY (by assumption))]))) (U.sat U.last))
 repeat first|refine aa ?_ |intro
 refine j7 rfl rfl (fun ho=> ?_) (fun ho=> ?_)
 ·repeat first|refine aa ?_ |intro
  exact ae (ar rfl rfl () (wr (by unfold dh;repeat(first|rfl|rw[if_pos (by first|omega|assumption)]|rw[if_neg (by first|omega|exact fY (by assumption))]))) (U.sat U.last))
 repeat first|refine aa ?_ |intro
 refine il rfl (fun Ad=> ?_) (fun Ad=> ?_)
 ·repeat first|refine aa ?_ |intro
  exact ae (ar rfl rfl () (wr (by unfold dh;repeat(first|rfl|rw[if_pos (by first|omega|assumption)]|rw[if_neg (by first|omega|exact fY (by assumption))]))) (U.sat U.last))
 repeat first|refine aa ?_ |intro
 refine j7 rfl rfl (fun hp=> ?_) (fun hp=> ?_)
 ·repeat first|refine aa ?_ |intro
  exact ae (ar rfl rfl () (wr (by unfold dh;repeat(first|rfl|rw[if_pos (by first|omega|assumption)]|rw[if_neg (by first|omega|exact fY (by assumption))]))) (U.sat U.last))
 repeat first|refine aa ?_ |intro
 refine j7 rfl rfl (fun rF=> ?_) (fun rF=> ?_)
 ·repeat first|refine aa ?_ |intro
  exact ae (ar rfl rfl () (wr (by unfold dh;repeat(first|rfl|rw[if_pos (by first|omega|assumption)]|rw[if_neg (by first|omega|exact fY (by assumption))]))) (U.sat U.last))
 repeat first|refine aa ?_ |intro
 refine j7 rfl rfl (fun tn=> ?_) (fun tn=> ?_)
 ·repeat first|refine aa ?_ |intro
  exact ae (ar rfl rfl () (wr (by unfold dh;repeat(first|rfl|rw[if_pos (by first|omega|assumption)]|rw[if_neg (by first|omega|exact fY (by assumption))]))) (U.sat U.last))
 repeat first|refine aa ?_ |intro
 refine il rfl (fun Af=> ?_) (fun Af=> ?_)
 ·repeat first|refine aa ?_ |intro
  exact ae (ar rfl rfl () (wr (by unfold dh;repeat(first|rfl|rw[if_pos (by first|omega|assumption)]|rw[if_neg (by first|omega|exact fY (by assumption))]))) (U.sat U.last))
 repeat first|refine aa ?_ |intro
 rename_i p
 refine ed (γ:=Nat) (fun i=>i≤10) (fun i=>[(1,.pointer p),(4,.int .i64 (pp i)),(3,.bool (pw c.b i))]) (fun _=>Obj p 34 [.int .i64 c.w,.int .u32 c.o,.int .i64 c.lo,.int .i64 c.hi,.int .i64 c.b,.int .i64 c.r]*F)
  (fun i=>10-i) 0 (Nat.zero_le _) ⟨rfl,rfl,rfl,trivial⟩ (U.sat (U.refl _)) ?_
 intro i hi;dsimp only at hi ⊢
 have vH:=Q8 i
 have hs:=Q9 i
 repeat first|refine aa ?_ |intro
 refine il rfl (fun cN=> ?_) (fun mP=> ?_)
 ·have jB:i<10:=by
   rcases Nat.lt_or_ge i 10 with h|h
   ·exact h
   ·have:i=10:=by omega
    subst this
    simp[pp]at cN
  repeat first|refine aa ?_ |intro
  refine uE rfl rfl (fun hg=> ?_) (fun hg=> ?_)
  all_goals
   repeat first|refine aa ?_ |intro
   refine db (i+1) (by omega) (by omega) ⟨rfl,by rw[←hs];rfl,by rw[Rl,hg];rfl,trivial⟩ (U.sat (U.refl _))
 ·have jB:i=10:=by
   have:i=10∨i=0∨i=1∨i=2∨i=3∨i=4∨i=5∨i=6∨i=7∨i=8∨i=9:=by omega
   rcases this with rfl|rfl|rfl|rfl|rfl|rfl|rfl|rfl|rfl|rfl|rfl
   ·rfl
   all_goals simp[pp]at mP
  subst jB
  rw[Rm]
  repeat first|refine aa ?_ |intro
  refine pU rfl (fun ru=> ?_) (fun ru=> ?_)
  ·repeat first|refine aa ?_ |intro
   exact ae (ar rfl rfl () (wr (by unfold dh;repeat(first|rfl|rw[if_pos (by first|omega|assumption)]|rw[if_neg (by first|omega|exact fY (by assumption))]))) (U.sat U.last))
  repeat first|refine aa ?_ |intro
  refine j7 rfl rfl (fun hr=> ?_) (fun hr=> ?_)
  ·repeat first|refine aa ?_ |intro
   exact ae (ar rfl rfl () (wr (by unfold dh;repeat(first|rfl|rw[if_pos (by first|omega|assumption)]|rw[if_neg (by first|omega|exact fY (by assumption))]))) (U.sat U.last))
  repeat first|refine aa ?_ |intro
  refine il rfl (fun rG=> ?_) (fun rG=> ?_)
  ·repeat first|refine aa ?_ |intro
   exact ae (ar rfl rfl () (wr (by unfold dh;repeat(first|rfl|rw[if_pos (by first|omega|assumption)]|rw[if_neg (by first|omega|exact fY (by assumption))]))) (U.sat U.last))
  repeat first|refine aa ?_ |intro
  exact ae (ar rfl rfl () (wr (by unfold dh;repeat(first|rfl|rw[if_pos (by first|omega|assumption)]|rw[if_neg (by first|omega|exact fY (by assumption))]))) (U.sat U.last))
end
section
open Go.RowKit
set_option maxRecDepth 10000
attribute [local irreducible] EK EX ER EN EL ES EG av aV aY
variable {W:World} {F:SL} {X:Cx} {k:List KI} {σ:Env}
theorem uQ (c:eA)(hc:c.Fit):
  Spec Tryz.prog 54 [c.val] W F (fun _:Unit=> .int .i64 (fZ c)) (fun _=>F):=by
 have h0:=hc
 obtain⟨⟨w1,w2⟩,⟨o1,o2⟩,⟨l1,l2⟩,⟨h1,h2⟩,⟨b1,b2⟩,⟨r1,r2⟩⟩:=hc
 refine Spec.of Tryz.func54 rfl Tryz.ntmps54 rfl ?_
 repeat first|refine aa ?_ |intro
 refine af rfl (yO c h0) ?_
 intro
 repeat first|refine aa ?_ |intro
 refine pU rfl (fun hw=> ?_) (fun hw=> ?_)
 ·repeat first|refine aa ?_ |intro
  exact ae (ar rfl rfl () (by rw[fZ,if_neg hw]) (U.sat U.last))
 have hg:=(ov.1 hw).p
 repeat first|refine aa ?_ |intro
 exact ae (ar rfl rfl () (by rw[fZ,if_pos hw]) (U.sat U.last))
theorem J4 (c:eA)(hc:c.Fit):
  Spec Tryz.prog 57 [c.val] W F (fun _:Unit=> .int .i64 (3*fZ c)) (fun _=>F):=by
 obtain⟨n1,n2⟩:=wv c
 refine Spec.of Tryz.func57 rfl Tryz.ntmps57 rfl ?_
 repeat first|refine aa ?_ |intro
 refine af rfl (uQ c hc) ?_
 intro
 repeat first|refine aa ?_ |intro
 exact ae (ar rfl rfl () rfl (U.sat U.last))
theorem xF (p:Int):
  Spec Tryz.prog 94 [.int .i64 p] W F (fun _:Unit=> .int .i64 (ff p)) (fun _=>F):=by
 refine Spec.of Tryz.func94 rfl Tryz.ntmps94 rfl ?_
 repeat first|refine aa ?_ |intro
 refine il rfl (fun h1=> ?_) (fun h1=> ?_)
 ·repeat first|refine aa ?_ |intro
  exact ae (ar rfl rfl () (by rw[ff,if_pos h1]) (U.sat U.last))
 repeat first|refine aa ?_ |intro
 refine il rfl (fun h2=> ?_) (fun h2=> ?_)
 ·repeat first|refine aa ?_ |intro
  exact ae (ar rfl rfl () (by rw[ff,if_neg h1,if_pos h2]) (U.sat U.last))
 repeat first|refine aa ?_ |intro
 refine il rfl (fun h3=> ?_) (fun h3=> ?_)
 ·repeat first|refine aa ?_ |intro
  exact ae (ar rfl rfl () (by rw[ff,if_neg h1,if_neg h2,if_pos h3]) (U.sat U.last))
 repeat first|refine aa ?_ |intro
 exact ae (ar rfl rfl () (by rw[ff,if_neg h1,if_neg h2,if_neg h3]) (U.sat U.last))
theorem Ra (p:Int):
  Spec Tryz.prog 103 [.int .i64 p] W F (fun _:Unit=> .int .i64 (jh p)) (fun _=>F):=by
 refine Spec.of Tryz.func103 rfl Tryz.ntmps103 rfl ?_
 repeat first|refine aa ?_ |intro
 refine il rfl (fun h1=> ?_) (fun h1=> ?_)
 ·repeat first|refine aa ?_ |intro
  exact ae (ar rfl rfl () (by rw[jh,if_pos h1]) (U.sat U.last))
 repeat first|refine aa ?_ |intro
 refine il rfl (fun h2=> ?_) (fun h2=> ?_)
 ·repeat first|refine aa ?_ |intro
  exact ae (ar rfl rfl () (by rw[jh,if_neg h1,if_pos h2]) (U.sat U.last))
 repeat first|refine aa ?_ |intro
 exact ae (ar rfl rfl () (by rw[jh,if_neg h1,if_neg h2]) (U.sat U.last))
end
section
open Go.RowKit
set_option maxRecDepth 10000
attribute [local irreducible] EK EX ER EN EL ES EG av aV aY
variable {W:World} {F:SL} {X:Cx} {k:List KI} {σ:Env}
theorem Pb (p:Int): -1≤ff p∧ff p≤2:=by unfold ff;repeat' split<;>omega
theorem Pc (c:eA)(p:Int): -1024≤ff p*fZ c∧ff p*fZ c≤2048:=by
 have h1:=Pb p
 have h2:=wv c
 have:ff p= -1∨ff p=0∨ff p=1∨ff p=2:=by omega
 rcases this with h|h|h|h<;>rw[h]<;>omega
theorem sD (c:eA)(hc:c.Fit)(p q:Int)(hq:gJ q):
  Spec Tryz.prog 62 [c.val,.int .i64 p,.int .i64 q] W F (fun _:Unit=> .int .i64 (fN c p q)) (fun _=>F):=by
 have h0:=hc
 obtain⟨⟨w1,w2⟩,⟨o1,o2⟩,⟨l1,l2⟩,⟨h1,h2⟩,⟨b1,b2⟩,⟨r1,r2⟩⟩:=hc
 obtain⟨q1,q2⟩:=hq
 obtain⟨n1,n2⟩:=wv c
 obtain⟨m1,m2⟩:=Pc c p
 refine Spec.of Tryz.func62 rfl Tryz.ntmps62 rfl ?_
 repeat first|refine aa ?_ |intro
 refine af rfl (uQ c h0) ?_
 intro
 repeat first|refine aa ?_ |intro
 refine af rfl (xF p) ?_
 intro
 repeat first|refine aa ?_ |intro
 refine j7 rfl rfl (fun hn=> ?_) (fun hn=> ?_)
 ·repeat first|refine aa ?_ |intro
  exact ae (ar rfl rfl () (by rw[fN,if_pos (.inl hn)]) (U.sat U.last))
 repeat first|refine aa ?_ |intro
 refine j7 rfl rfl (fun hk=> ?_) (fun hk=> ?_)
 ·repeat first|refine aa ?_ |intro
  exact ae (ar rfl rfl () (by rw[fN,if_pos (.inr (.inl hk))]) (U.sat U.last))
 repeat first|refine aa ?_ |intro
 refine af rfl (sN _ _ _) ?_
 intro
 repeat first|refine aa ?_ |intro
 refine pU rfl (fun hb=> ?_) (fun hb=> ?_)
 ·repeat first|refine aa ?_ |intro
  exact ae (ar rfl rfl () (by rw[fN,if_pos (.inr (.inr hb))]) (U.sat U.last))
 have hp:fZ c=c.hi-c.lo+1:=by
  unfold fZ at hn ⊢
  split
  ·rfl
  ·rename_i hw
   rw[if_neg hw]at hn
   omega
 have hw:1≤c.lo∧c.hi≤65535∧c.lo≤c.hi:=by
  have:dh c=[]:=by
   rcases Decidable.em (dh c=[])with h|h
   ·exact h
   ·exact absurd (by rw[fZ,if_neg h]) hn
  have:=(ov.1 this).p
  omega
 repeat first|refine aa ?_ |intro
 exact ae (ar rfl rfl () (by rw[fN,if_neg (by omega)]) (U.sat U.last))
theorem Cm (c:eA)(hc:c.Fit)(q:Int):
  Spec Tryz.prog 70 [c.val,.int .i64 q] W F (fun _:Unit=> .tuple #[.int .i64 (qM c q).1,.int .i64 (qM c q).2]) (fun _=>F):=by
 have h0:=hc
 obtain⟨⟨w1,w2⟩,⟨o1,o2⟩,⟨l1,l2⟩,⟨h1,h2⟩,⟨b1,b2⟩,⟨r1,r2⟩⟩:=hc
 obtain⟨n1,n2⟩:=wv c
 refine Spec.of Tryz.func70 rfl Tryz.ntmps70 rfl ?_
 repeat first|refine aa ?_ |intro
 refine af rfl (uQ c h0) ?_
 intro
 repeat first|refine aa ?_ |intro
 refine j7 rfl rfl (fun hn=> ?_) (fun hn=> ?_)
 ·repeat first|refine aa ?_ |intro
  exact ae (eZ rfl rfl rfl () (by rw[qM,if_pos (.inl hn)]) (U.sat U.last))
 repeat first|refine aa ?_ |intro
 refine af rfl (sN _ _ _) ?_
 intro
 repeat first|refine aa ?_ |intro
 refine pU rfl (fun hb=> ?_) (fun hb=> ?_)
 ·repeat first|refine aa ?_ |intro
  exact ae (eZ rfl rfl rfl () (by rw[qM,if_pos (.inr hb)]) (U.sat U.last))
 have hw:1≤c.lo∧c.hi≤65535∧c.lo≤c.hi:=by
  have:dh c=[]:=by
   rcases Decidable.em (dh c=[])with h|h
   ·exact h
   ·exact absurd (by rw[fZ,if_neg h]) hn
  have:=(ov.1 this).p
  omega
 have hm:=Int.emod_lt_of_pos q (show 0<fZ c by omega)
 have Yx:=Int.emod_nonneg q (show fZ c≠0 by omega)
 repeat first|refine aa ?_ |intro
 refine lb rfl (by kernel_rfl) ?_
 repeat(refine cI ?_)
 refine lf rfl (Ra _) ?_
 repeat(refine cI ?_)
 repeat first|refine aa ?_ |intro
 exact ae (eZ rfl rfl rfl () (by rw[qM,if_neg (by omega)]) (U.sat U.last))
end
section
open Go.RowKit
set_option maxRecDepth 10000
attribute [local irreducible] EK EX ER EN EL ES EG av aV aY
variable {W:World} {F:SL} {X:Cx} {k:List KI} {σ:Env}
instance :Cu Tryz.prog 3 (.int .i64 0):=⟨by kernel_rfl⟩
instance :Cu Tryz.prog 105 (.agg #[.int .i64 0,.int .u32 0,.int .u16 0,.int .i64 0,.int .i64 0,.int .i64 0]):=⟨by kernel_rfl⟩
def fA (f:dE):Value:= .agg (iw f).toArray
theorem MD {a b:dE}(h:iw a=iw b):a=b:=by
 obtain⟨a1,a2,a3⟩:=a
 obtain⟨b1,b2,b3⟩:=b
 simp only[List.cons.injEq,Value.int.injEq,true_and,and_true,Int.natCast_inj]at h
 obtain⟨h1,h2,h3⟩:=h
 subst h1;subst h2;subst h3
 rfl
instance :sx Tryz.prog 103 fA where
 inj:=fun a b h=>by
  simp only[fA,Value.agg.injEq]at h
  exact MD (by simpa using h)
 check:=fun e k w=>by
  have hi:∀(t:TypeId) (kk:IntKind) (z:Int) (w:World),Tryz.prog.underlying t=some (.int kk)→(Instr.checkKey e (9998+1) t (.int kk z)).run Tryz.prog w= .ok () w:=fun t kk z w h=>MapKept.run_checkKey h (by simp[MapKept.IsKey]) e 9998
  have h1:=fun z w=>hi 3 .i64 z w (by kernel_rfl)
  have h2:=fun z w=>hi 32 .u32 z w (by kernel_rfl)
  have h3:=fun z w=>hi 42 .u16 z w (by kernel_rfl)
  show(Instr.checkKey e (9998+1+1) 103 (fA k)).run Tryz.prog w= .ok () w
  unfold Instr.checkKey fA
  rw[Sem.run_bind,run_underlying Tryz.underlying103,Result.andThen_ok]
  have zv:=h1 (k.proto:Int) w
  have DV:=h2 (k.addr:Int) w
  have M8:=h3 (k.port:Int) w
  simp[part,isAgg,run_underlying Tryz.underlying3,run_underlying Tryz.underlying32,run_underlying Tryz.underlying42,zv,DV,M8,go_sem]
 find:=fun k es w ho=>by
  cases es with
  |nil=>exact .inl ⟨rfl,by simp⟩
  |cons e es=>
   have hq:∀x∈e::es,∃b:Bool,(Op.equal 103 (fA k) x.key).run Tryz.prog w= .ok b w∧(b=true↔fA k=x.key):=fun x hx=>by
    obtain⟨a,ea⟩:=ho x hx
    obtain⟨r,h1,h2⟩:=Ba (P:=Tryz.prog) w (t:=103) (xs:=iw k) (ys:=iw a) rfl rfl
    refine⟨r,?_,?_⟩
    ·rw[ea]
     exact h1
    ·rw[ea,h2]
     unfold fA
     simp
   have hf:(Instr.findKey 103 (fA k) (e::es)).run Tryz.prog w=(Instr.findAsking 103 (fA k) (e::es) 0).run Tryz.prog w:=by
    unfold Instr.findKey
    simp only[Sem.run_bind,Tryz.underlying103,Result.andThen_ok]
    unfold Instr.findNow
    obtain⟨a,ea⟩:=ho e List.mem_cons_self
    rw[ea]
    rfl
   rcases Dx (e::es) 0 hq with ⟨h1,h2⟩|⟨j,x,h1,h2,h3⟩
   ·exact .inl ⟨by rw[hf];exact h1,h2⟩
   ·exact .inr ⟨j,x,by rw[hf,h1,Nat.zero_add],h2,h3⟩
 stays:=fun k=>by
  unfold fA
  simp[Instr.sameBits]
end
section
open Go.RowKit
theorem HR:∀ {cs:List Value} {i:Nat} {v:Value},i<cs.length→jJ cs i [v]=some (cs.set i v)
 |[],_,_,h=>by simp at h
 |c::cs,0,v,_=>by
  cases cs<;>simp[jJ]
 |c::cs,i+1,v,h=>by
  have:=HR (cs:=cs) (i:=i) (v:=v) (by simpa using h)
  simp[jJ,this]
def w5 (x:cx):List Value:=[.int .i64 x.id,.int .i64 (x.at_:Int),.int .i64 (x.aK:Int)]
def oW (l:List cx):List Value:=l.flatMap w5
theorem Dm (l:List cx)(x:cx):oW l++w5 x=oW (l++[x]):=by simp[oW]
def OL (x:Int×Int):List Value:=[.int .i64 x.1,.int .i64 x.2]
def kV (l:List (Int×Int)):List Value:=l.flatMap OL
def kz (q:Nat→aO)(sl:Nat→List cx):List Value:=(List.range 384).map fun k=> .slice (q k).1 (sl k).length (q k).2
theorem wK (q:Nat→aO)(sl:Nat→List cx):(kz q sl).length=384:=by simp[kz]
theorem wJ (q:Nat→aO)(sl:Nat→List cx){k:Nat}(h:k<384):(kz q sl)[k]? =some (.slice (q k).1 (sl k).length (q k).2):=by
 simp[kz,h]
theorem R1 (q:Nat→aO)(sl:Nat→List cx){k:Nat}(h:k<384)(r:aO)(l:List cx):(kz q sl).set k (.slice r.1 l.length r.2)=kz (hF q k r) (hF sl k l):=by
 apply List.ext_getElem?
 intro i
 by_cases hi:i=k
 ·subst hi
  rw[List.getElem?_set_self (by rw[wK];exact h),wJ _ _ h,uk,uk]
 ·rw[List.getElem?_set_ne (Ne.symm hi)]
  by_cases h2:i<384
  ·rw[wJ _ _ h2,wJ _ _ h2,sa _ _ hi,sa _ _ hi]
  ·rw[List.getElem?_eq_none (by rw[wK];omega),List.getElem?_eq_none (by rw[wK];omega)]
def pF (q:Nat→aO)(sl:Nat→List cx)(k:Nat):SL:=an 301 3 (q k).1 (sl k).length (q k).2 (oW (sl k))
def rX (q:Nat→aO)(sl:Nat→List cx):SL:=SL.kL ((List.range 384).map (pF q sl))
def rW (k:Nat)(q:Nat→aO)(sl:Nat→List cx):SL:=SL.kL (((List.range 384).map (pF q sl)).eraseIdx k)
theorem GR (q:Nat→aO)(sl:Nat→List cx){k:Nat}(h:k<384):rX q sl=an 301 3 (q k).1 (sl k).length (q k).2 (oW (sl k))*rW k q sl:=by
 unfold rX rW
 rw[SL.KU _ k (by simpa using h)]
 simp[pF]
theorem RH (q:Nat→aO)(sl:Nat→List cx){k:Nat}(r:aO)(l:List cx):rW k (hF q k r) (hF sl k l)=rW k q sl:=by
 unfold rW
 congr 1
 rw[List.eraseIdx_eq_take_drop_succ,List.eraseIdx_eq_take_drop_succ]
 congr 1
 ·apply List.ext_getElem?
  intro i
  rw[List.getElem?_take,List.getElem?_take]
  split
  ·rename_i hi
   have:i≠k:=by omega
   simp only[List.getElem?_map]
   cases hr:(List.range 384)[i]? with
   |none=>rfl
   |some j=>
    obtain⟨_,hj⟩:=List.getElem?_eq_some_iff.1 hr
    simp only[List.getElem_range]at hj
    subst hj
    simp only[Option.map_some,pF,sa _ _ this]
  ·rfl
 ·apply List.ext_getElem?
  intro i
  rw[List.getElem?_drop,List.getElem?_drop]
  have:k+1+i≠k:=by omega
  simp only[List.getElem?_map]
  cases hr:(List.range 384)[k+1+i]? with
  |none=>rfl
  |some j=>
   obtain⟨_,hj⟩:=List.getElem?_eq_some_iff.1 hr
   simp only[List.getElem_range]at hj
   subst hj
   simp only[Option.map_some,pF,sa _ _ this]
theorem RI (q:Nat→aO)(sl:Nat→List cx){k:Nat}(h:k<384)(r:aO)(l:List cx):
  rX (hF q k r) (hF sl k l)=an 301 3 r.1 l.length r.2 (oW l)*rW k q sl:=by
 rw[GR _ _ h,RH,uk,uk]
abbrev uq (now aK lU:Int)(r:aO)(n:Nat)(q:Nat→aO)(sl:Nat→List cx):List Value:= .int .i64 now:: .int .i64 aK:: .int .i64 lU:: .slice r.1 n r.2::kz q sl
instance sA.wh (a b c d:Value)(q:Nat→aO)(sl:Nat→List cx)(l j:Nat):sA (a::b::c::d::kz q sl) (0+4+l*64+j*1) (.slice (q (l*64+j)).1 (sl (l*64+j)).length (q (l*64+j)).2) (l*64+j<384):=⟨fun h=>by
 rw[show 0+4+l*64+j*1=(l*64+j)+4 by omega]
 simpa using wJ q sl h⟩
instance uJ.wh (a b c d:Value)(q:Nat→aO)(sl:Nat→List cx)(l j n:Nat)(p:Option Addr)(cap:Nat):uJ (a::b::c::d::kz q sl) (0+4+l*64+j*1) (.slice p n cap) (a::b::c::d::(kz q sl).set (l*64+j) (.slice p n cap)) (l*64+j<384):=⟨fun h=>by
 rw[show 0+4+l*64+j*1=(l*64+j)+4 by omega,HR (by simp[wK];omega)]
 rfl⟩
abbrev oQ (p:Option Addr)(s:dr)(lU:Int)(r:aO)(q:Nat→aO)(F:SL):SL:=
 Obj p 205 (uq s.now s.aK lU r s.ready.length q s.sl)*(an 301 3 r.1 s.ready.length r.2 (oW s.ready)*(rX q s.sl*F))
def rb (p:Option Addr)(s:dr)(g:aO×(Nat→aO)):SL:=Obj p 205 (uq s.now s.aK (s.all.length:Int) g.1 s.ready.length g.2 s.sl)*(an 301 3 g.1.1 s.ready.length g.1.2 (oW s.ready)*rX g.2 s.sl)
def di (p:Option Addr)(s:dr):SL:=SL.ex (rb p s)
theorem rb.eq (p:Option Addr)(s:dr)(g:aO×(Nat→aO))(F:SL):rb p s g*F=oQ p s (s.all.length:Int) g.1 g.2 F:=by
 unfold rb oQ
 rw[SL.bU,SL.bU]
theorem di.open {X:Cx}{k:List KI}{σ:Env}{F:SL}{p:Option Addr}{s:dr}(h:∀r q,EK X k σ (oQ p s (s.all.length:Int) r q F)):EK X k σ (di p s*F):=ng fun g=>by
 rw[rb.eq]
 exact h g.1 g.2
theorem di.shut {F:SL}{p:Option Addr}{s:dr}{lU:Int}{r:aO}{q:Nat→aO}(hc:lU=(s.all.length:Int)):U (oQ p s lU r q F) (di p s*F):=by
 subst hc
 refine U.ex (r,q) ?_
 rw[rb.eq]
 exact U.refl _
instance (priority:=2000)(p:Option Addr)(s:dr)(F:SL):bw (di p s*F) p (di p s) F:=⟨rfl⟩
instance (p:Option Addr)(s:dr):jQ (di p s) p:=⟨fun W w F h=>by
 obtain⟨g,h⟩:=h.gQ
 exact(Obj.root p _ _).nn W w _ (h.ac (SL.bU _ _ _))⟩
end
section
open Go.RowKit
set_option maxRecDepth 10000
attribute [local irreducible] EK EX ER EN EL ES EG av aV aY
variable {W:World} {F:SL} {X:Cx} {k:List KI} {σ:Env}
theorem JL (u:Nat)(hu:u<18446744073709551616):Spec Tryz.prog 181 [.int .u64 (u:Int)] W F (fun _:Unit=> .int .i64 ((Lib.bitLen u:Nat):Int)) (fun _=>F):=by
 intro w h
 refine(Tryz.bits_Len (u:Int) w (by omega) (by omega)).mono ?_
 rintro e w' ⟨rfl,rfl⟩
 exact⟨(),by rw[Int.toNat_natCast],h⟩
theorem R5 (a l:Nat)(ha:a<4294967296):bits .and .i64 ((a:Int)/2^(6*(l:Int)).toNat) 63=((dg a l:Nat):Int):=by
 have e:(6*(l:Int)).toNat=6*l:=by omega
 have h1:((a:Int)/2^(6*l))=((a/64^l:Nat):Int):=by rw[AU,Int.natCast_ediv];simp
 have h2:a/64^l≤a:=Nat.div_le_self _ _
 rw[e,h1,show(63:Int)=((2^6-1:Nat):Int)from rfl,Ax _ 6 (by omega) (by decide)]
 rfl
theorem R4 (a l:Nat)(ha:a<4294967296)(hl:l≤5):Spec Tryz.prog 217 [.int .i64 (a:Int),.int .i64 (l:Int)] W F (fun _:Unit=> .int .i64 ((dg a l:Nat):Int)) (fun _=>F):=by
 refine Spec.of Tryz.func217 rfl Tryz.ntmps217 rfl ?_
 repeat first|refine aa ?_ |intro
 exact ae (ar rfl rfl () (by rw[R5 a l ha]) (U.sat U.last))
theorem Po (a b:Nat)(ha:a<4294967296)(hb:b<4294967296):bits .xor .i64 (a:Int) (b:Int)=((a^^^b:Nat):Int)∧a^^^b<4294967296:=
 ⟨Oz a b (by omega) (by omega),Nat.xor_lt_two_pow (n:=32) (by omega) (by omega)⟩
abbrev Br (x:cx):Value:= .agg (w5 x).toArray
theorem Tr (p:Option Addr)(s:dr)(x:cx)(lU:Int)(r:aO)(q:Nat→aO)(hs:s.now<4294967296)(hx:x.at_<4294967296)(hl:∀k,k<384→(s.sl k).length≤1000)(hr:s.ready.length≤1000):
  Spec Tryz.prog 171 [.pointer p,Br x] W (oQ p s lU r q F) (fun _:aO×(Nat→aO)=> .tuple #[]) (fun g=>oQ p (lC s x) lU g.1 g.2 F):=by
 obtain⟨e1,e2⟩:=Po x.at_ s.now hx hs
 refine Spec.of Tryz.func171 rfl Tryz.ntmps171 rfl ?_
 simp only[oQ,uq,Br,w5]
 repeat first|refine aa ?_ |intro
 refine lb rfl (by kernel_rfl) ?_
 repeat(refine cI ?_)
 repeat first|refine aa ?_ |intro
 rename_i px
 refine il rfl (fun hle=> ?_) (fun hle=> ?_)
 ·have ep:lC s x=⟨s.now,s.aK,s.ready++[x],s.sl⟩:=if_pos (by omega)
  rw[ep]
  repeat first|refine aa ?_ |intro
  refine aG 10 (Obj px 301 [.int .i64 x.id,.int .i64 (x.at_:Int),.int .i64 (x.aK:Int)]*(Obj p 205 (.int .i64 (s.now:Int):: .int .i64 (s.aK:Int):: .int .i64 lU:: .slice r.1 s.ready.length r.2::kz q s.sl)*1)) rfl rfl rfl ?_
  repeat(first|refine bJ ?_ |(refine bN ?_;intro)|refine bK ?_ |refine bL ?_ |refine bM ?_ |refine eD ?_)
  repeat first|refine aa ?_ |intro
  rename_i g
  refine ae (cT rfl (g,q) rfl (U.sat (U.obj p (by simp) (U.row g.1 (by simp) (by rw[←Dm];rfl) ?_))))
  repeat(first|exact U.last|refine U.cons ?_ |refine U.assoc ?_)
 ·have cN:s.now<x.at_:=by omega
  have ep:lC s x=⟨s.now,s.aK,s.ready,hF s.sl (spot s.now x.at_) (s.sl (spot s.now x.at_)++[x])⟩:=if_neg (by omega)
  have hk:=Ha hx cN
  have Ar:x.at_^^^s.now≠0:=fun e=>by have:=xor_zero e;omega
  have iZ:=(Lib.bitLenAux_bounds 64 (x.at_^^^s.now) (by omega) Ar).1
  have vr:Lib.bitLen (x.at_^^^s.now)≤32:=Lib.bitLen_le _ 32 (by decide) (by omega)
  have iZ:1≤Lib.bitLen (x.at_^^^s.now):=iZ
  have NR:fm x.at_ s.now≤5:=by unfold fm;omega
  have eL:(((Lib.bitLen (x.at_^^^s.now):Nat):Int)-1)/6=((fm x.at_ s.now:Nat):Int):=by unfold fm;omega
  have ex:IntKind.u64.wrap (bits .xor .i64 (x.at_:Int) (s.now:Int))=((x.at_^^^s.now:Nat):Int):=by rw[e1];exact bq.wrap (by simp only[bq];omega)
  have Yj:dg x.at_ (fm x.at_ s.now)<64:=Nat.mod_lt _ (by decide)
  rw[ep]
  repeat first|refine aa ?_ |intro
  refine lb rfl (by kernel_rfl) ?_
  repeat(refine cI ?_)
  refine lf (vs:=[.int .u64 ((x.at_^^^s.now:Nat):Int)]) (by rw[←e1];rfl) (JL _ (by omega)) ?_
  repeat(refine cI ?_)
  repeat first|refine aa ?_ |intro
  rw[eL]
  refine lb rfl (by kernel_rfl) ?_
  repeat(refine cI ?_)
  refine lf rfl (R4 x.at_ (fm x.at_ s.now) hx NR) ?_
  repeat(refine cI ?_)
  repeat first|refine aa ?_ |intro
  have er:=GR q s.sl hk
  rw[er,SL.bU]
  refine aG 8 (Obj px 301 [.int .i64 x.id,.int .i64 (x.at_:Int),.int .i64 (x.aK:Int)]*(Obj p 205 (.int .i64 (s.now:Int):: .int .i64 (s.aK:Int):: .int .i64 lU:: .slice r.1 s.ready.length r.2::kz q s.sl)*1)) rfl rfl rfl ?_
  have Em:=hl _ hk
  have vz:fm x.at_ s.now*64+dg x.at_ (fm x.at_ s.now)<384:=hk
  unfold spot at*
  repeat(first|refine bJ ?_ |(refine bN ?_;intro)|refine bK ?_ |refine bL ?_ |refine bM ?_ |refine eD ?_)
  repeat first|refine aa ?_ |intro
  rename_i g
  generalize fm x.at_ s.now*64+dg x.at_ (fm x.at_ s.now)=kk at*
  refine aH (aI rfl (r,hF q kk g) rfl (U.sat ?_))
  dsimp only
  rw[RI q s.sl vz g,SL.bU]
  refine U.obj p (by rw[←R1 q s.sl vz g];simp) (U.row r.1 rfl rfl (U.row g.1 (by simp) (by rw[←Dm];rfl) ?_))
  repeat(first|exact U.last|refine U.cons ?_ |refine U.assoc ?_)
end
section
open Go.RowKit
set_option maxRecDepth 10000
attribute [local irreducible] EK EX ER EN EL ES EG av aV aY
variable {W:World} {F:SL} {X:Cx} {k:List KI} {σ:Env}
def HA:List Value:= .int .i64 0:: .int .i64 0:: .int .i64 0:: .slice none 0 0::List.replicate 384 (.slice none 0 0)
theorem R2:kz (fun _=>(none,0)) (fun _=>[])=List.replicate 384 (.slice none 0 0):=by
 unfold kz
 rw[List.map_const']
 simp
theorem RJ:∀n,SL.kL ((List.range n).map (pF (fun _=>(none,0)) (fun _=>[])))=SL.kL (List.replicate n (an 301 3 none 0 0 [])):=by
 intro n
 rw[show(List.range n).map (pF (fun _=>(none,0)) (fun _=>[]))=List.replicate n (an 301 3 none 0 0 [])from by
  have:pF (fun _=>(none,0)) (fun _=>[])=fun _=>an 301 3 none 0 0 []:=by
   funext i;rfl
  rw[this,List.map_const'];simp]
theorem Dl {H G:SL}{e sz:Nat}(k:U H G):∀n,U H (SL.kL (List.replicate n (an e sz none 0 0 []))*G)
 |0=>by rw[List.replicate_zero,SL.KT,SL.Dj];exact k
 |n+1=>by
  rw[List.replicate_succ,SL.KR,SL.bU]
  exact U.none (Dl k n)
instance (priority:=3000) cL.wh:cL Tryz.prog 205 HA:=⟨⟨.agg HA.toArray,by kernel_rfl,rfl⟩⟩
theorem Kn:Spec Tryz.prog 60 [] W F (fun p:Option Addr=> .pointer p) (fun p=>di p jg*F):=by
 refine Spec.of Tryz.func60 rfl Tryz.ntmps60 rfl ?_
 repeat first|refine aa ?_ |intro
 rename_i p
 refine ae (ar rfl rfl p rfl (U.sat (U.trans ?_ (di.shut (r:=(none,0)) (q:=fun _=>(none,0)) (by rw[F9])))))
 refine U.obj p (by rw[jg,uq,R2];rfl) (U.none ?_)
 unfold rX
 rw[show jg.sl=fun _=>[]from rfl,RJ]
 exact Dl (U.refl _) 384
theorem R3 {s:dr}{k:Nat}(hk:k<384):(s.sl k).length≤s.all.length:=by
 have h:∀n,k<n→(s.sl k).length≤((List.range n).flatMap s.sl).length:=by
  intro n
  induction n with
  |zero=>intro h;omega
  |succ n ih=>
   intro h
   rw[List.range_succ,List.flatMap_append,List.length_append]
   rcases Nat.lt_or_ge k n with g|g
   ·have:=ih g;omega
   ·obtain rfl:k=n:=by omega
    simp
 have:=h 384 hk
 unfold dr.all oZ
 rw[List.length_append];omega
theorem Rv (s:dr):s.ready.length≤s.all.length:=by unfold dr.all;rw[List.length_append];omega
theorem By (p:Option Addr)(s:dr)(id:Int)(a:Nat)(hg:lj s)(ha:a<4294967296)(hn:s.all.length≤1000)(ht:s.aK≤1000000):
  Spec Tryz.prog 213 [.pointer p,.int .i64 id,.int .i64 (a:Int)] W (di p s*F) (fun _:Unit=> .int .i64 0) (fun _=>di p (kJ s id a)*F):=by
 have N0:=(CA (id:=id) hg ha).2.2.2.length_eq
 refine Spec.of Tryz.func213 rfl Tryz.ntmps213 rfl ?_
 refine di.open fun r q=> ?_
 simp only[oQ,uq]
 repeat first|refine aa ?_ |intro
 refine af (vs:=[.pointer p,Br ⟨id,a,s.aK+1⟩]) rfl (Spec.pre (Tr p {s with aK:=s.aK+1} ⟨id,a,s.aK+1⟩ ((s.all.length:Int)+1) r q hg.pos.now ha (fun k hk=>by have:=R3 (s:=s) hk;dsimp only;omega) (by have:=Rv s;dsimp only;omega)) (U.obj p rfl (U.refl _))) ?_
 intro g
 repeat first|refine aa ?_ |intro
 refine ae (ar rfl rfl () rfl (U.sat (di.shut (s:=kJ s id a) (r:=g.1) (q:=g.2) ?_)))
 rw[N0];simp
theorem IU (p:Option Addr)(s:dr)(id a:Int)(ha:a<0∨4294967295<a):
  Spec Tryz.prog 213 [.pointer p,.int .i64 id,.int .i64 a] W (di p s*F) (fun _:Unit=> .int .i64 1) (fun _=>di p s*F):=by
 refine Spec.of Tryz.func213 rfl Tryz.ntmps213 rfl ?_
 repeat first|refine aa ?_ |intro
 refine j7 rfl rfl (fun h1=> ?_) (fun h1=> ?_)
 ·repeat first|refine aa ?_ |intro
  exact ae (ar rfl rfl () rfl (U.sat U.last))
 ·repeat first|refine aa ?_ |intro
  exact ae (ar rfl rfl () rfl (U.sat U.last))
end
end Go.Proofs.YtimekbpkejemoaaGreatDoor
