/-
  Joined by a program (wip/bundle2.py).
-/
import Derived.Test.YtimekbpkejemoaaGreatDoorG12
set_option linter.unusedVariables false
set_option linter.unusedSimpArgs false
namespace Go.Proofs.YtimekbpkejemoaaGreatDoor
section
open Go.RowKit
set_option maxRecDepth 10000
attribute [local irreducible] EK EX ER EN EL ES EG av aV aY
variable {W:World} {F:SL} {X:Cx} {k:List KI} {σ:Env}
section
variable {p:Option Addr} {c i j:Nat} {l:List UInt8}
theorem Gt [s:Src W F p l.length (aD l)](h:2≤l.length):Spec Tryz.prog 235 [.slice p l.length c] W F (fun _:Unit=> .int .u16 (w2 l 0:Int)) (fun _=>F):=by
 refine Spec.of Tryz.func235 rfl Tryz.ntmps235 rfl ?_
 have h0:=cZ l 0
 have h1:=cZ l 1
 repeat first|refine aa ?_ |intro
 refine aG 99 F rfl rfl rfl ?_
 repeat(first|refine ak ?_ |refine eD ?_)
 repeat first|refine aa ?_ |intro
 exact ae (ar rfl rfl () (by rw[Gg h0 h1];rfl) (U.sat (aS)))
theorem qL (i:Nat)(s:Src W F p l.length (aD l))(r:Room W F p l.length c)(h:i+2≤l.length)(m:Nat):Spec Tryz.prog 235 [.slice (de p i c 1) (l.length-i) m] W F (fun _:Unit=> .int .u16 (w2 l i:Int)) (fun _=>F):=by
 haveI:=Src.low s r (i:=i) (by omega)
 have h1:=Gt (W:=W) (F:=F) (c:=m) (l:=l.drop i) (p:=de p i c 1) (by rw[List.length_drop];omega)
 rw[mZ,List.length_drop,Nat.add_zero]at h1
 exact h1
theorem A0 (q:Option Addr)(cc:Nat)(l:List UInt8)(n m:Nat)(hl:l.length≤100)(hm:m≤4)(hn:n<4294967296):Spec Tryz.prog 285 [.slice q l.length cc,.int .u32 (n:Int),.int .i64 (m:Int)] W (an 5 1 q l.length cc (aD l)*F)
  (fun z:aO=> .slice z.1 (l++dj n m).length z.2) (fun z=>an 5 1 z.1 (l++dj n m).length z.2 (aD (l++dj n m))*F):=by
 refine Spec.of Tryz.func285 rfl Tryz.ntmps285 rfl ?_
 repeat first|refine aa ?_ |intro
 refine ed (γ:=Nat×aO×List UInt8) (fun a=>a.1≤m∧a.2.2++dj n a.1=l++dj n m∧a.2.2.length≤104) (fun a=>[(0,.slice a.2.1.1 a.2.2.length a.2.1.2),(1,.int .u32 (n:Int)),(7,.int .i64 ((a.1:Int)-1))]) (fun a=>an 5 1 a.2.1.1 a.2.2.length a.2.1.2 (aD a.2.2)*F) (fun a=>a.1)
  (m,(q,cc),l) ⟨Nat.le_refl _,rfl,by dsimp only;omega⟩ ⟨rfl,rfl,rfl,trivial⟩ (U.sat (U.refl _)) ?_
 intro ⟨t,z,o⟩ ⟨h1,h2,h3⟩;dsimp only at h1 h2 h3 ⊢
 match t,h1,h2 with
 |0,_,h2=>
  have e:o=l++dj n m:=by simpa[dj]using h2
  subst e
  repeat first|refine aa ?_ |intro
  exact ae (ar rfl rfl z rfl (U.sat (aS)))
 |t+1,h1,h2=>
  rw[show((t+1:Nat):Int)-1=(t:Int)by omega]
  repeat first|refine aa ?_ |intro
  rename_i z2
  refine db (t,z2,o++[u8 (n/256^t)]) ⟨by dsimp only;omega,by rw[List.append_assoc];exact h2,?_⟩ (by dsimp only;omega) ⟨by rw[List.length_append];rfl,rfl,rfl,trivial⟩ (U.sat ?_)
  ·have:=congrArg List.length h2
   rw[List.length_append,List.length_append,nu,nu]at this
   rw[List.length_append,List.length_singleton]
   omega
  dsimp only
  rw[List.length_append,List.length_singleton,Lc,←Sx]
  exact aS
theorem Ri (n m:Nat)(hm:m≤4)(hn:n<4294967296):Spec Tryz.prog 285 [.slice none 0 0,.int .u32 (n:Int),.int .i64 (m:Int)] W F
  (fun z:aO=> .slice z.1 (dj n m).length z.2) (fun z=>an 5 1 z.1 (dj n m).length z.2 (aD (dj n m))*F):=fun w hs=>
 A0 none 0 [] n m (by decide) hm hn w (an.QC _ _ hs)
theorem Gy [s:Src W F p l.length (aD l)](src dst proto:Nat)(h1:src<4294967296)(h2:dst<4294967296)(h3:proto<256)(hl:l.length≤65535):Spec Tryz.prog 236 [.int .u32 (src:Int),.int .u32 (dst:Int),.int .i64 (proto:Int),.slice p l.length c] W F (fun _:Unit=> .int .u16 (ji src dst proto l:Int)) (fun _=>F):=by
 refine Spec.of Tryz.func236 rfl Tryz.ntmps236 rfl ?_
 repeat first|refine aa ?_ |intro
 refine af rfl (Ri src 4 (by decide) h1) ?_
 intro z1
 repeat first|refine aa ?_ |intro
 refine af rfl (A0 z1.1 z1.2 (dj src 4) dst 4 (by rw[nu];decide) (by decide) h2) ?_
 intro z2
 have l2:(dj src 4++dj dst 4).length=8:=by rw[List.length_append,nu,nu]
 repeat first|refine aa ?_ |intro
 rename_i z3
 have e3:(dj src 4++dj dst 4).length+2=(dj src 4++dj dst 4++[0,u8 proto]).length:=by simp[nu]
 have e4:aD (dj src 4++dj dst 4)++[Value.int IntKind.u8 0,Value.int IntKind.u8 (proto:Int)]=aD (dj src 4++dj dst 4++[0,u8 proto]):=by
  rw[Lb (dj src 4++dj dst 4)]
  have:(u8 proto).toNat=proto:=by rw[pM];omega
  simp[aD,this]
 rw[e3,e4]
 refine af rfl (A0 z3.1 z3.2 (dj src 4++dj dst 4++[0,u8 proto]) l.length 2 (by simp[nu]) (by decide) (by omega)) ?_
 intro z4
 have ea:dj src 4++dj dst 4++[0,u8 proto]++dj l.length 2=ahead src dst proto l.length:=rfl
 rw[ea]
 have Ye:=CB src dst proto l.length
 repeat first|refine aa ?_ |intro
 refine af rfl (xH (n:=0) (by decide) z4.1 z4.2 (ahead src dst proto l.length) (by omega)) ?_
 intro _
 have hf:=qn (0+cG true (ahead src dst proto l.length))
 repeat first|refine aa ?_ |intro
 refine af rfl (xH (n:=c3 (0+cG true (ahead src dst proto l.length))) (by omega) p c l (by omega)) ?_
 intro _
 have qv:=qn (c3 (0+cG true (ahead src dst proto l.length))+cG true l)
 repeat first|refine aa ?_ |intro
 refine af rfl (zc (n:=c3 (c3 (0+cG true (ahead src dst proto l.length))+cG true l)) (by omega)) ?_
 intro _
 repeat first|refine aa ?_ |intro
 exact ae (ar rfl rfl () (by rw[Rb]) (U.sat (aS)))
theorem wx [s:Src W F p l.length (aD l)][r:Room W F p l.length c](h:4≤l.length)(x:fR):Spec Tryz.prog 237 [.agg (bu x).toArray,.slice p l.length c] W F (fun _:Unit=> .agg (bu {x with sp:=w2 l 0,dp:=w2 l 2}).toArray) (fun _=>F):=by
 refine Spec.of Tryz.func237 rfl Tryz.ntmps237 rfl ?_
 repeat first|refine aa ?_ |intro
 rename_i x2 x4
 refine aG 8 (gu x2 134*F) rfl rfl rfl ?_
 repeat(first|refine ak ?_ |refine eD ?_)
 refine aC rfl rfl rfl rfl rfl (Gt (l:=l) (by omega)) (fun _=>aS) ?_
 intro _
 repeat(first|refine ak ?_ |refine eD ?_)
 refine aC rfl rfl rfl rfl rfl (qL (l:=l) 2 inferInstance inferInstance (by omega) _) (fun _=>aS) ?_
 intro _
 repeat(first|refine ak ?_ |refine eD ?_)
 repeat(first|refine bJ ?_ |(refine bN ?_;intro)|refine bK ?_ |refine bL ?_ |refine bM ?_ |refine eD ?_)
 repeat first|refine aa ?_ |intro
 exact ae (js (rv:= .cell 4 134) rfl ⟨_,rfl,aT.agg rfl⟩ () rfl (U.sat (aS)))
abbrev pE (x:fR)(e:Nat):Value:= .tuple #[.agg (bu x).toArray,.int .i64 (e:Int)]
theorem Sy [s:Src W F p l.length (aD l)][r:Room W F p l.length c](hd:ee)(h1:hd.src<4294967296)(h2:hd.dst<4294967296)(hl:l.length≤65535):Spec Tryz.prog 189 [.agg (cr hd).toArray,.slice p l.length c] W F (fun _:Unit=>pE (if om hd.src hd.dst l=0 then mY l else bm) (om hd.src hd.dst l)) (fun _=>F):=by
 refine Spec.of Tryz.func189 rfl Tryz.ntmps189 rfl ?_
 have e0:om hd.src hd.dst l=_:=rfl
 conv at e0=>rhs;unfold om
 by_cases g1:l.length<8
 ·rw[if_pos g1]at e0
  rw[e0]
  repeat first|refine aa ?_ |intro
  exact ae (aZ (rs:=[.cell 4 134,.tmp 5]) (v:= .agg (bu bm).toArray) (u:= .int .i64 ((2:Nat):Int)) (vs:=[]) rfl ⟨⟨_,rfl,aT.agg rfl⟩,rfl,trivial⟩ () rfl (U.sat (aS)))
 rw[if_neg g1]at e0
 repeat first|refine aa ?_ |intro
 refine af rfl (qL (l:=l) 4 inferInstance inferInstance (by omega) _) ?_
 intro _
 have w4':=c9 l 4
 have w6:=c9 l 6
 by_cases g2:w2 l 4=l.length
 ·rw[if_neg (fun g=>g g2)]at e0
  repeat first|refine aa ?_ |intro
  refine af rfl (qL (l:=l) 6 inferInstance inferInstance (by omega) _) ?_
  intro _
  by_cases g3:w2 l 6=0
  ·rw[if_neg (fun g=>g.1 g3)]at e0
   rw[e0,if_pos rfl,show mY l={bm with proto:=17,sp:=w2 l 0,dp:=w2 l 2,bare:=true}by unfold mY;rw[decide_eq_true g3]]
   repeat first|refine aa ?_ |intro
   refine af rfl (wx (l:=l) (by omega) {bm with proto:=17,bare:=true}) ?_
   intro _
   repeat first|refine aa ?_ |intro
   exact ae (aZ (rs:=[.cell 4 134,.tmp 5]) (v:= .agg (bu {bm with proto:=17,sp:=w2 l 0,dp:=w2 l 2,bare:=true}).toArray) (u:= .int .i64 ((0:Nat):Int)) (vs:=[]) rfl ⟨⟨_,rfl,aT.agg rfl⟩,rfl,trivial⟩ () rfl (U.sat (aS)))
  ·have hp:=uc hd.src hd.dst 17 l
   repeat first|refine aa ?_ |intro
   refine af rfl (Gy (l:=l) hd.src hd.dst 17 h1 h2 (by decide) hl) ?_
   intro _
   by_cases g4:ji hd.src hd.dst 17 l=0
   ·rw[if_neg (fun g=>g.2 g4)]at e0
    rw[e0,if_pos rfl,show mY l={bm with proto:=17,sp:=w2 l 0,dp:=w2 l 2,bare:=false}by unfold mY;rw[decide_eq_false g3]]
    repeat first|refine aa ?_ |intro
    refine af rfl (wx (l:=l) (by omega) {bm with proto:=17,bare:=false}) ?_
    intro _
    repeat first|refine aa ?_ |intro
    exact ae (aZ (rs:=[.cell 4 134,.tmp 5]) (v:= .agg (bu {bm with proto:=17,sp:=w2 l 0,dp:=w2 l 2,bare:=false}).toArray) (u:= .int .i64 ((0:Nat):Int)) (vs:=[]) rfl ⟨⟨_,rfl,aT.agg rfl⟩,rfl,trivial⟩ () rfl (U.sat (aS)))
   ·rw[if_pos ⟨g3,g4⟩]at e0
    rw[e0]
    repeat first|refine aa ?_ |intro
    exact ae (aZ (rs:=[.cell 4 134,.tmp 5]) (v:= .agg (bu bm).toArray) (u:= .int .i64 ((4:Nat):Int)) (vs:=[]) rfl ⟨⟨_,rfl,aT.agg rfl⟩,rfl,trivial⟩ () rfl (U.sat (aS)))
 ·rw[if_pos g2]at e0
  rw[e0]
  repeat first|refine aa ?_ |intro
  exact ae (aZ (rs:=[.cell 4 134,.tmp 5]) (v:= .agg (bu bm).toArray) (u:= .int .i64 ((3:Nat):Int)) (vs:=[]) rfl ⟨⟨_,rfl,aT.agg rfl⟩,rfl,trivial⟩ () rfl (U.sat (aS)))
theorem Sk [s:Src W F p l.length (aD l)][r:Room W F p l.length c](hd:ee)(h1:hd.src<4294967296)(h2:hd.dst<4294967296)(hl:l.length≤65535):Spec Tryz.prog 190 [.agg (cr hd).toArray,.slice p l.length c] W F (fun _:Unit=>pE (if oe hd.src hd.dst l=0 then wT l else bm) (oe hd.src hd.dst l)) (fun _=>F):=by
 refine Spec.of Tryz.func190 rfl Tryz.ntmps190 rfl ?_
 have e0:oe hd.src hd.dst l=_:=rfl
 conv at e0=>rhs;unfold oe
 by_cases g1:l.length<20
 ·rw[if_pos g1]at e0
  rw[e0]
  repeat first|refine aa ?_ |intro
  exact ae (aZ (rs:=[.cell 4 134,.tmp 5]) (v:= .agg (bu bm).toArray) (u:= .int .i64 ((2:Nat):Int)) (vs:=[]) rfl ⟨⟨_,rfl,aT.agg rfl⟩,rfl,trivial⟩ () rfl (U.sat (aS)))
 rw[if_neg g1]at e0
 have vp:=cZ l 12
 have e4:IntKind.i64.wrap (4*IntKind.i64.wrap ((b1 l 12:Int)/2^Int.toNat 4))=((b1 l 12/16*4:Nat):Int):=by
  rw[show(b1 l 12:Int)/2^Int.toNat 4=((b1 l 12/16:Nat):Int)from jl _ 4,bq.wrap (k:= .i64) (z:=((b1 l 12/16:Nat):Int)) (by simp only[bq];omega),bq.wrap (k:= .i64) (by simp only[bq];omega)]
  omega
 repeat first|refine aa ?_ |intro
 rw[e4]
 by_cases g2:b1 l 12/16*4<20
 ·rw[if_pos (Or.inl g2)]at e0
  rw[e0,decide_eq_true (show((b1 l 12/16*4:Nat):Int)<20 by omega)]
  repeat first|refine aa ?_ |intro
  exact ae (aZ (rs:=[.cell 4 134,.tmp 5]) (v:= .agg (bu bm).toArray) (u:= .int .i64 ((3:Nat):Int)) (vs:=[]) rfl ⟨⟨_,rfl,aT.agg rfl⟩,rfl,trivial⟩ () rfl (U.sat (aS)))
 rw[decide_eq_false (show ¬((b1 l 12/16*4:Nat):Int)<20 by omega)]
 by_cases g3:b1 l 12/16*4>l.length
 ·rw[if_pos (Or.inr g3)]at e0
  rw[e0]
  repeat first|refine aa ?_ |intro
  exact ae (aZ (rs:=[.cell 4 134,.tmp 5]) (v:= .agg (bu bm).toArray) (u:= .int .i64 ((3:Nat):Int)) (vs:=[]) rfl ⟨⟨_,rfl,aT.agg rfl⟩,rfl,trivial⟩ () rfl (U.sat (aS)))
 rw[if_neg (fun g=>g.elim g2 g3)]at e0
 have hp:=uc hd.src hd.dst 6 l
 repeat first|refine aa ?_ |intro
 refine af rfl (Gy (l:=l) hd.src hd.dst 6 h1 h2 (by decide) hl) ?_
 intro _
 by_cases g4:ji hd.src hd.dst 6 l=0
 ·rw[if_neg (fun g=>g g4)]at e0
  rw[e0,if_pos rfl]
  have pb:=cZ l 13
  repeat first|refine aa ?_ |intro
  refine af rfl (wx (l:=l) (by omega) {bm with proto:=6,flags:=b1 l 13}) ?_
  intro _
  repeat first|refine aa ?_ |intro
  exact ae (aZ (rs:=[.cell 4 134,.tmp 5]) (v:= .agg (bu (wT l)).toArray) (u:= .int .i64 ((0:Nat):Int)) (vs:=[]) rfl ⟨⟨_,rfl,aT.agg rfl⟩,rfl,trivial⟩ () rfl (U.sat (aS)))
 ·rw[if_pos g4]at e0
  rw[e0]
  repeat first|refine aa ?_ |intro
  exact ae (aZ (rs:=[.cell 4 134,.tmp 5]) (v:= .agg (bu bm).toArray) (u:= .int .i64 ((4:Nat):Int)) (vs:=[]) rfl ⟨⟨_,rfl,aT.agg rfl⟩,rfl,trivial⟩ () rfl (U.sat (aS)))
abbrev OA (k c:Nat):List Value:=[.int .i64 1,.int .u16 0,.int .u16 0,.int .i64 0,.int .i64 (k:Int),.int .i64 (c:Int),.bool false,.int .i64 0,.int .i64 0,.int .i64 0,.int .i64 0,.int .u32 0,.int .u32 0,.int .i64 0,.bool false]
def EZ (kind code:Nat):fR:={bm with proto:=1,kind:=kind,code:=code}
set_option maxHeartbeats 1000000 in
theorem Mw [s:Src W F p l.length (aD l)][r:Room W F p l.length c](hd:ee)(kind code:Nat)(hs:hd.size≤60)(hl:l.length≤65535):Spec Tryz.prog 238 [.agg (bu (EZ kind code)).toArray,.agg (cr hd).toArray,.slice p l.length c] W F (fun _:Unit=>pE (if mK l=0 then nA kind code hd.size l else bm) (mK l)) (fun _=>F):=by
 refine Spec.of Tryz.func238 rfl Tryz.ntmps238 rfl ?_
 have e0:mK l=_:=rfl
 conv at e0=>rhs;unfold mK
 repeat first|refine aa ?_ |intro
 refine af rfl (Na (by omega)) ?_
 intro _
 by_cases vm:c5 true l≠0
 ·rw[if_pos vm]at e0
  rw[e0,if_neg vm,kl (rfl:c5 true l=_),if_neg vm]
  repeat first|refine aa ?_ |intro
  exact ae (aZ (rs:=[.cell 6 134,.tmp 7]) (v:= .agg (bu bm).toArray) (u:= .int .i64 ((c5 true l:Nat):Int)) (vs:=[]) rfl ⟨⟨_,rfl,aT.agg rfl⟩,rfl,trivial⟩ () rfl (U.sat (aS)))
 rw[if_neg vm]at e0
 have g1:c5 true l=0:=by omega
 obtain⟨k1,k2,k3,k4,_,k6⟩:=vw g1
 rw[k6,g1]
 have eF:nA kind code hd.size l={bm with proto:=1,kind:=kind,code:=code,err:=true,inner:=aW l,pos:=hd.size+8,sp:=if(aW l).proto=1 then w2 l ((aW l).size+4)else w2 l (aW l).size,dp:=if(aW l).proto=1 then w2 l ((aW l).size+4)else w2 l ((aW l).size+2)}:=rfl
 obtain⟨hi,f0⟩:∃x,aW l=x:=⟨_,rfl⟩
 have EA:hi.proto<256:=by rw[←f0];exact cZ l 9
 have hlen:hi.len<65536:=by rw[←f0];exact c9 l 2
 rw[f0]at e0 eF k1 k2 k3 k4 ⊢
 repeat first|refine aa ?_ |intro
 rename_i x3 x4 x6 _ _ x8
 have ey:l.length-hi.size=(l.drop hi.size).length:=by rw[List.length_drop]
 have y0:=sM l hi.size 0
 have y1:=mZ l hi.size 0
 have y2:=mZ l hi.size 2
 have y4:=mZ l hi.size 4
 haveI sy:=Src.low s r k3
 haveI ry:=Room.low (i:=hi.size) r
 obtain⟨y,hy⟩:∃y,l.drop hi.size=y:=⟨_,rfl⟩
 rw[hy]at ey y0 y1 y2 y4 sy ry
 rw[Nat.add_zero]at y0 y1
 rw[←y1,←y2,←y4]at eF
 rw[ey,←y0]at e0
 rw[ey]
 obtain⟨q,hq⟩:∃q,de p hi.size c 1=q:=⟨_,rfl⟩
 obtain⟨cc,lZ⟩:∃cc,c-hi.size=cc:=⟨_,rfl⟩
 rw[hq,lZ]at ry
 rw[hq]at sy
 rw[hq,lZ]
 haveI:=sy
 haveI:=ry
 by_cases g2:y.length<8
 ·rw[if_pos (Or.inl g2)]at e0
  rw[e0,decide_eq_true (show((y.length:Nat):Int)<8 by omega)]
  repeat first|refine aa ?_ |intro
  exact ae (aZ (rs:=[.cell 6 134,.tmp 7]) (v:= .agg (bu bm).toArray) (u:= .int .i64 ((3:Nat):Int)) (vs:=[]) rfl ⟨⟨_,rfl,aT.agg rfl⟩,rfl,trivial⟩ () rfl (U.sat (aS)))
 rw[decide_eq_false (show ¬((y.length:Nat):Int)<8 by omega)]
 by_cases g3:hi.len<hi.size+8
 ·rw[if_pos (Or.inr g3)]at e0
  rw[e0]
  repeat first|refine aa ?_ |intro
  exact ae (aZ (rs:=[.cell 6 134,.tmp 7]) (v:= .agg (bu bm).toArray) (u:= .int .i64 ((3:Nat):Int)) (vs:=[]) rfl ⟨⟨_,rfl,aT.agg rfl⟩,rfl,trivial⟩ () rfl (U.sat (aS)))
 rw[if_neg (fun g=>g.elim g2 g3)]at e0
 have zB:=cZ y 0
 have vQ:=c9 y 4
 repeat first|refine aa ?_ |intro
 refine aG 9 (Obj x8 132 (cr hi)*(Obj x4 132 (cr hd)*(gu x3 134*F))) rfl rfl rfl ?_
 repeat(first|refine ak ?_ |refine eD ?_)
 repeat(first|refine bJ ?_ |(refine bN ?_;intro)|refine bK ?_ |refine bL ?_ |refine bM ?_ |refine eD ?_)
 by_cases g4:hi.proto=17∨hi.proto=6
 ·rw[if_pos g4]at e0
  rw[e0,if_pos rfl,eF,if_neg (by omega),if_neg (by omega)]
  rcases g4 with g4|g4
  all_goals
   repeat first|refine aa ?_ |intro
   refine af rfl (wx (l:=y) (by omega) {bm with proto:=1,kind:=kind,code:=code,err:=true,inner:=hi,pos:=hd.size+8,sp:=0,dp:=0}) ?_
   intro _
   repeat first|refine aa ?_ |intro
   exact ae (aZ (rs:=[.cell 6 134,.tmp 7]) (v:= .agg (bu {bm with proto:=1,kind:=kind,code:=code,err:=true,inner:=hi,pos:=hd.size+8,sp:=w2 y 0,dp:=w2 y 2}).toArray) (u:= .int .i64 ((0:Nat):Int)) (vs:=[]) rfl ⟨⟨_,rfl,aT.agg rfl⟩,rfl,trivial⟩ () rfl (U.sat (aS)))
 rw[if_neg g4]at e0
 by_cases g5:¬(hi.proto=1)
 ·rw[if_neg (fun g=>g5 g.1)]at e0
  rw[e0]
  repeat first|refine aa ?_ |intro
  exact ae (aZ (rs:=[.cell 6 134,.tmp 7]) (v:= .agg (bu bm).toArray) (u:= .int .i64 ((6:Nat):Int)) (vs:=[]) rfl ⟨⟨_,rfl,aT.agg rfl⟩,rfl,trivial⟩ () rfl (U.sat (aS)))
 have g5:=Decidable.not_not.1 g5
 by_cases g6:¬(b1 y 0=0∨b1 y 0=8)
 ·rw[if_neg (fun g=>g6 g.2)]at e0
  rw[e0]
  repeat first|refine aa ?_ |intro
  exact ae (aZ (rs:=[.cell 6 134,.tmp 7]) (v:= .agg (bu bm).toArray) (u:= .int .i64 ((6:Nat):Int)) (vs:=[]) rfl ⟨⟨_,rfl,aT.agg rfl⟩,rfl,trivial⟩ () rfl (U.sat (aS)))
 have g6:=Decidable.not_not.1 g6
 rw[if_pos ⟨g5,g6⟩]at e0
 rw[e0,if_pos rfl,eF,if_pos g5,if_pos g5]
 rcases g6 with g6|g6
 all_goals
  repeat first|refine aa ?_ |intro
  refine aG 9 (gu x3 134*F) rfl rfl rfl ?_
  repeat(first|refine ak ?_ |refine eD ?_)
  refine aC rfl rfl rfl rfl rfl (qL (l:=y) 4 inferInstance inferInstance (by omega) _) (fun _=>aS) ?_
  intro _
  repeat(first|refine ak ?_ |refine eD ?_)
  refine aC rfl rfl rfl rfl rfl (qL (l:=y) 4 inferInstance inferInstance (by omega) _) (fun _=>aS) ?_
  intro _
  repeat(first|refine ak ?_ |refine eD ?_)
  repeat(first|refine bJ ?_ |(refine bN ?_;intro)|refine bK ?_ |refine bL ?_ |refine bM ?_ |refine eD ?_)
  repeat first|refine aa ?_ |intro
  exact ae (aZ (rs:=[.cell 6 134,.tmp 7]) (v:= .agg (bu {bm with proto:=1,kind:=kind,code:=code,err:=true,inner:=hi,pos:=hd.size+8,sp:=w2 y 4,dp:=w2 y 4}).toArray) (u:= .int .i64 ((0:Nat):Int)) (vs:=[]) rfl ⟨⟨_,rfl,aT.agg rfl⟩,rfl,trivial⟩ () rfl (U.sat (aS)))
theorem Mv (i:Nat)(s:Src W F p l.length (aD l))(r:Room W F p l.length c)(hi:i≤l.length)(hd:ee)(kind code:Nat)(hs:hd.size≤60)(hl:l.length≤65535):Spec Tryz.prog 238 [.agg (bu (EZ kind code)).toArray,.agg (cr hd).toArray,.slice (de p i c 1) (l.length-i) (c-i)] W F (fun _:Unit=>pE (if mK (l.drop i)=0 then nA kind code hd.size (l.drop i)else bm) (mK (l.drop i))) (fun _=>F):=by
 haveI:=Src.low s r hi
 haveI:=Room.low (i:=i) r
 have h:=Mw (W:=W) (F:=F) (p:=de p i c 1) (c:=c-i) (l:=l.drop i) hd kind code hs (by rw[List.length_drop];omega)
 rwa[List.length_drop]at h
theorem Dn {k:Nat}(h:¬rk k):k≠3∧k≠11∧k≠12:=⟨fun g=>h (.inl g),fun g=>h (.inr (.inl g)),fun g=>h (.inr (.inr g))⟩
set_option maxHeartbeats 1000000 in
theorem OB [s:Src W F p l.length (aD l)][r:Room W F p l.length c](hd:ee)(hs:hd.size≤60)(hl:l.length≤65535):Spec Tryz.prog 191 [.agg (cr hd).toArray,.slice p l.length c] W F (fun _:Unit=>pE (if lx l=0 then nQ hd.size l else bm) (lx l)) (fun _=>F):=by
 refine Spec.of Tryz.func191 rfl Tryz.ntmps191 rfl ?_
 have e0:lx l=_:=rfl
 conv at e0=>rhs;unfold lx
 by_cases g1:l.length<8
 ·rw[if_pos g1]at e0
  rw[e0]
  repeat first|refine aa ?_ |intro
  exact ae (aZ (rs:=[.cell 4 134,.tmp 5]) (v:= .agg (bu bm).toArray) (u:= .int .i64 ((2:Nat):Int)) (vs:=[]) rfl ⟨⟨_,rfl,aT.agg rfl⟩,rfl,trivial⟩ () rfl (U.sat (aS)))
 rw[if_neg g1]at e0
 have hc:=qi l
 repeat first|refine aa ?_ |intro
 refine af rfl (xK p c l (by omega)) ?_
 intro _
 by_cases g2:dX l≠0
 ·rw[if_pos g2]at e0
  rw[e0]
  repeat first|refine aa ?_ |intro
  exact ae (aZ (rs:=[.cell 4 134,.tmp 5]) (v:= .agg (bu bm).toArray) (u:= .int .i64 ((4:Nat):Int)) (vs:=[]) rfl ⟨⟨_,rfl,aT.agg rfl⟩,rfl,trivial⟩ () rfl (U.sat (aS)))
 rw[if_neg g2]at e0
 have zB:=cZ l 0
 have iZ:=cZ l 1
 repeat first|refine aa ?_ |intro
 rename_i x2 x4 _
 refine aG 10 F rfl rfl rfl ?_
 repeat(first|refine ak ?_ |refine eD ?_)
 repeat(first|refine bJ ?_ |(refine bN ?_;intro)|refine bK ?_ |refine bL ?_ |refine bM ?_ |refine eD ?_)
 rename_i x6
 by_cases g3:b1 l 0=0∨b1 l 0=8
 ·rw[if_pos g3]at e0
  by_cases g4:b1 l 1≠0
  ·rw[if_pos g4]at e0
   rw[e0]
   rcases g3 with g3|g3
   all_goals
    repeat first|refine aa ?_ |intro
    exact ae (aZ (rs:=[.cell 4 134,.tmp 5]) (v:= .agg (bu bm).toArray) (u:= .int .i64 ((3:Nat):Int)) (vs:=[]) rfl ⟨⟨_,rfl,aT.agg rfl⟩,rfl,trivial⟩ () rfl (U.sat (aS)))
  rw[if_neg g4]at e0
  have zq:b1 l 1=0:=by omega
  rw[e0,if_pos rfl,show nQ hd.size l={bm with proto:=1,kind:=b1 l 0,code:=0,sp:=w2 l 4,dp:=w2 l 4}from if_pos g3,zq]
  have vQ:=c9 l 4
  rcases g3 with g3|g3
  all_goals
   repeat first|refine aa ?_ |intro
   refine aG 9 (gu x6 134*F) rfl rfl rfl ?_
   repeat(first|refine ak ?_ |refine eD ?_)
   refine aC rfl rfl rfl rfl rfl (qL (l:=l) 4 inferInstance inferInstance (by omega) _) (fun _=>aS) ?_
   intro _
   repeat(first|refine ak ?_ |refine eD ?_)
   refine aC rfl rfl rfl rfl rfl (qL (l:=l) 4 inferInstance inferInstance (by omega) _) (fun _=>aS) ?_
   intro _
   repeat(first|refine ak ?_ |refine eD ?_)
   repeat(first|refine bJ ?_ |(refine bN ?_;intro)|refine bK ?_ |refine bL ?_ |refine bM ?_ |refine eD ?_)
   repeat first|refine aa ?_ |intro
   exact ae (aZ (rs:=[.cell 4 134,.tmp 5]) (v:= .agg (bu {bm with proto:=1,kind:=b1 l 0,code:=0,sp:=w2 l 4,dp:=w2 l 4}).toArray) (u:= .int .i64 ((0:Nat):Int)) (vs:=[]) rfl ⟨⟨_,rfl,aT.agg rfl⟩,rfl,trivial⟩ () rfl (U.sat (aS)))
 rw[if_neg g3]at e0
 have MV:b1 l 0≠0:=fun g=>g3 (.inl g)
 have MW:b1 l 0≠8:=fun g=>g3 (.inr g)
 by_cases g5:rk (b1 l 0)
 ·rw[if_pos g5]at e0
  rw[e0,show nQ hd.size l=nA (b1 l 0) (b1 l 1) hd.size (l.drop 8)from if_neg g3]
  rcases g5 with g5|g5|g5
  all_goals
   repeat first|refine aa ?_ |intro
   refine aG 7 (Obj x6 134 (OA (b1 l 0) (b1 l 1))*(Obj x2 132 (cr hd)*F)) rfl rfl rfl ?_
   repeat(first|refine ak ?_ |refine eD ?_)
   refine aC rfl rfl rfl rfl rfl (Mv (l:=l) 8 inferInstance inferInstance (by omega) hd (b1 l 0) (b1 l 1) hs hl) (fun _=>aS) ?_
   intro _
   repeat(first|refine ak ?_ |refine eD ?_)
   repeat(first|refine bJ ?_ |(refine bN ?_;intro)|refine bK ?_ |refine bL ?_ |refine bM ?_ |refine eD ?_)
   repeat first|refine aa ?_ |intro
   exact ae (aZ (rs:=[.cell 4 134,.tmp 5]) (v:= .agg (bu _).toArray) (u:= .int .i64 ((mK (l.drop 8):Nat):Int)) (vs:=[]) rfl ⟨⟨_,rfl,aT.agg rfl⟩,rfl,trivial⟩ () rfl (U.sat (aS)))
 obtain⟨g6,g7,g8⟩:=Dn g5
 rw[if_neg g5]at e0
 rw[e0]
 repeat first|refine aa ?_ |intro
 exact ae (aZ (rs:=[.cell 4 134,.tmp 5]) (v:= .agg (bu bm).toArray) (u:= .int .i64 ((6:Nat):Int)) (vs:=[]) rfl ⟨⟨_,rfl,aT.agg rfl⟩,rfl,trivial⟩ () rfl (U.sat (aS)))
def ni (hd:ee)(n:Nat):Prop:=20≤hd.size∧hd.size≤60∧hd.size≤hd.len∧hd.len≤n∧hd.len≤1500∧hd.src<4294967296∧hd.dst<4294967296∧hd.proto<256
theorem ni.of {l:List UInt8}(h:c5 false l=0):ni (aW l) l.length:=by
 obtain⟨h1,h2,h3,h4,h5,_⟩:=vw h
 obtain⟨h6,h7⟩:=h5 rfl
 exact⟨h1,h2,h4,h7,h6,lG l 12,lG l 16,cZ l 9⟩
theorem sO (hd:ee)(l:List UInt8):lT hd l=gP l hd.size hd.len:=rfl
set_option maxHeartbeats 1000000 in
theorem AV [s:Src W F p l.length (aD l)][r:Room W F p l.length c](hd:ee)(h:ni hd l.length):Spec Tryz.prog 143 [.agg (cr hd).toArray,.slice p l.length c] W F (fun _:Unit=>pE (mg hd l) (ic hd l)) (fun _=>F):=by
 refine Spec.of Tryz.func143 rfl Tryz.ntmps143 rfl ?_
 obtain⟨h1,h2,h3,h4,h5,h6,h7,h8⟩:=h
 have e0:ic hd l=_:=rfl
 conv at e0=>rhs;unfold ic
 haveI sy:=Src.cut s r h3 h4
 haveI ry:=Room.cut (i:=hd.size) r h4
 have ey:=mI l (i:=hd.size) h4
 rw[sO]at e0
 have eP:kX hd l=_:=rfl
 conv at eP=>rhs;unfold kX
 rw[sO]at eP
 obtain⟨y,hy⟩:∃y,gP l hd.size hd.len=y:=⟨_,rfl⟩
 rw[hy]at sy ry ey e0 eP
 unfold mg
 by_cases g1:hd.proto=17
 ·rw[if_pos g1]at e0 eP
  rw[e0,eP]
  repeat first|refine aa ?_ |intro
  rw[←ey]
  refine af rfl (Sy (l:=y) hd h6 h7 (by omega)) ?_
  intro _
  repeat first|refine aa ?_ |intro
  exact ae (aZ (rs:=[.cell 4 134,.tmp 5]) (v:= .agg (bu _).toArray) (u:= .int .i64 (om hd.src hd.dst y:Int)) (vs:=[]) rfl ⟨⟨_,rfl,aT.agg rfl⟩,rfl,trivial⟩ () rfl (U.sat (aS)))
 rw[if_neg g1]at e0 eP
 by_cases g2:hd.proto=6
 ·rw[if_pos g2]at e0 eP
  rw[e0,eP]
  repeat first|refine aa ?_ |intro
  rw[←ey]
  refine af rfl (Sk (l:=y) hd h6 h7 (by omega)) ?_
  intro _
  repeat first|refine aa ?_ |intro
  exact ae (aZ (rs:=[.cell 4 134,.tmp 5]) (v:= .agg (bu _).toArray) (u:= .int .i64 (oe hd.src hd.dst y:Int)) (vs:=[]) rfl ⟨⟨_,rfl,aT.agg rfl⟩,rfl,trivial⟩ () rfl (U.sat (aS)))
 rw[if_neg g2]at e0 eP
 by_cases g3:hd.proto=1
 ·rw[if_pos g3]at e0
  rw[e0,eP]
  repeat first|refine aa ?_ |intro
  rw[←ey]
  refine af rfl (OB (l:=y) hd h2 (by omega)) ?_
  intro _
  repeat first|refine aa ?_ |intro
  exact ae (aZ (rs:=[.cell 4 134,.tmp 5]) (v:= .agg (bu _).toArray) (u:= .int .i64 (lx y:Int)) (vs:=[]) rfl ⟨⟨_,rfl,aT.agg rfl⟩,rfl,trivial⟩ () rfl (U.sat (aS)))
 rw[if_neg g3]at e0
 rw[e0]
 repeat first|refine aa ?_ |intro
 exact ae (aZ (rs:=[.cell 4 134,.tmp 5]) (v:= .agg (bu bm).toArray) (u:= .int .i64 ((6:Nat):Int)) (vs:=[]) rfl ⟨⟨_,rfl,aT.agg rfl⟩,rfl,trivial⟩ () rfl (U.sat (aS)))
end
end
section
open Go.RowKit
set_option maxRecDepth 10000
attribute [local irreducible] EK EX ER EN EL ES EG av aV aY
variable {W:World} {F:SL} {X:Cx} {k:List KI} {σ:Env}
theorem CP (n:Nat):(ka n).length=4:=rfl
theorem CO (n:Nat):(jS n).length=2:=rfl
attribute [local simp] mF CP CO
section
variable {p:Option Addr} {c i j:Nat} {l:List UInt8}
theorem ud (s:Src W F p l.length (aD l))(h:2≤l.length)(m:Nat):Spec Tryz.prog 84 [.slice p 2 m] W F (fun _:Unit=> .int .i64 (w2 l 0:Int)) (fun _=>F):=by
 haveI:=Src.pre s h
 have hl:(l.take 2).length=2:=by rw[List.length_take,Nat.min_eq_left h]
 have:=A4 (W:=W) (F:=F) p m (l.take 2) (by omega)
 rw[hl,AQ]at this
 have e:w2 (l.take 2) 0=w2 l 0:=by
  have:=uo l (i:=0) (j:=2) (k:=0) (by decide)
  simpa[gP]using this
 rwa[e]at this
theorem fO (n:Nat):IntKind.u8.wrap (n:Int)=(((u8 n).toNat:Nat):Int):=by
 rw[pM,IntKind.wrap_u8]
 omega
theorem HF (n:Nat):Spec Tryz.prog 129 [.int .u32 (n:Int)] W F (fun q:Option Addr=> .slice q 4 4) (fun q=>an 5 1 q 4 4 (aD (ka n))*F):=by
 refine Spec.of Tryz.func129 rfl Tryz.ntmps129 rfl ?_
 repeat first|refine aa ?_ |intro
 rename_i q
 refine ae (ar rfl rfl q rfl (U.sat ?_))
 rw[show(n:Int)/2^Int.toNat 24=((n/16777216:Nat):Int)from jl n 24,show(n:Int)/2^Int.toNat 16=((n/65536:Nat):Int)from jl n 16,show(n:Int)/2^Int.toNat 8=((n/256:Nat):Int)from jl n 8,fO,fO,fO,fO]
 exact U.refl _
theorem xa (n:Nat):Spec Tryz.prog 130 [.int .i64 (n:Int)] W F (fun q:Option Addr=> .slice q 2 2) (fun q=>an 5 1 q 2 2 (aD (jS n))*F):=by
 refine Spec.of Tryz.func130 rfl Tryz.ntmps130 rfl ?_
 repeat first|refine aa ?_ |intro
 rename_i q
 refine ae (ar rfl rfl q rfl (U.sat ?_))
 rw[show(n:Int)/2^Int.toNat 8=((n/256:Nat):Int)from jl n 8,fO,fO]
 exact U.refl _
theorem rS [s:Src W F p l.length (aD l)](src dst proto:Nat)(h3:proto<256)(hl:l.length≤65535):Spec Tryz.prog 86 [.int .u32 (src:Int),.int .u32 (dst:Int),.int .i64 (proto:Int),.slice p l.length c] W F (fun _:Unit=> .int .u16 (ji src dst proto l:Int)) (fun _=>F):=by
 refine Spec.of Tryz.func86 rfl Tryz.ntmps86 rfl ?_
 repeat first|refine aa ?_ |intro
 refine af rfl (HF src) ?_
 intro q1
 repeat first|refine aa ?_ |intro
 refine af rfl (HF dst) ?_
 intro q2
 repeat first|refine aa ?_ |intro
 refine af rfl (xa l.length) ?_
 intro q3
 repeat first|refine aa ?_ |intro
 rename_i z
 have e3:4+4+2+2+l.length=(ka src++ka dst++[0,u8 proto]++jS l.length++l).length:=by simp;omega
 have e4:aD (ka src)++aD (ka dst)++[Value.int IntKind.u8 0,Value.int IntKind.u8 (proto:Int)]++aD (jS l.length)++aD l=aD (ka src++ka dst++[0,u8 proto]++jS l.length++l):=by
  have:(u8 proto).toNat=proto:=by rw[pM];omega
  simp[aD,this]
 rw[e3,e4]
 refine af rfl (wy z.1 z.2 _ (by simp;omega)) ?_
 intro _
 repeat first|refine aa ?_ |intro
 exact ae (ar rfl rfl () rfl (U.sat (aS)))
theorem Rn (i:Nat)(part:Bool)(hl:l.length≤140737488355328)(s:Src W F p l.length (aD l))(r:Room W F p l.length c)(hi:i≤l.length):Spec Tryz.prog 41 [.slice (de p i c 1) (l.length-i) (c-i),.bool part] W F (fun _:Unit=>pD (kS part (l.drop i)) (c5 part (l.drop i))) (fun _=>F):=by
 haveI:=Src.low s r hi
 haveI:=Room.low (i:=i) r
 have h:=GI (W:=W) (F:=F) (p:=de p i c 1) (c:=c-i) (l:=l.drop i) part (by rw[List.length_drop];omega)
 rwa[List.length_drop]at h
set_option maxHeartbeats 1000000 in
theorem RB [s:Src W F p l.length (aD l)][r:Room W F p l.length c](pr:Int)(N1:pr=1)(hd:ee)(hs:hd.size≤60)(hl:l.length≤65535):Spec Tryz.prog 87 [.agg #[.int .i64 pr,.int .u16 0,.int .u16 0,.int .i64 0,.int .i64 0,.int .i64 0,.bool false,.int .i64 0,.int .i64 0,.int .i64 0,.int .i64 0,.int .u32 0,.int .u32 0,.int .i64 0,.bool false],.agg (cr hd).toArray,.slice p l.length c] W F (fun _:Unit=>pE (if lx l=0 then nQ hd.size l else bm) (lx l)) (fun _=>F):=by
 refine Spec.of Tryz.func87 rfl Tryz.ntmps87 rfl ?_
 subst N1
 have e0:lx l=_:=rfl
 conv at e0=>rhs;unfold lx
 by_cases g1:l.length<8
 ·rw[if_pos g1]at e0
  rw[e0]
  repeat first|refine aa ?_ |intro
  exact ae (aZ (rs:=[.cell 6 117,.tmp 7]) (v:= .agg (bu bm).toArray) (u:= .int .i64 ((2:Nat):Int)) (vs:=[]) rfl ⟨⟨_,rfl,aT.agg rfl⟩,rfl,trivial⟩ () rfl (U.sat (aS)))
 rw[if_neg g1]at e0
 have hc:=qi l
 repeat first|refine aa ?_ |intro
 refine af rfl (wy p c l (by omega)) ?_
 intro _
 by_cases g2:dX l≠0
 ·rw[if_pos g2]at e0
  rw[e0]
  repeat first|refine aa ?_ |intro
  exact ae (aZ (rs:=[.cell 6 117,.tmp 7]) (v:= .agg (bu bm).toArray) (u:= .int .i64 ((4:Nat):Int)) (vs:=[]) rfl ⟨⟨_,rfl,aT.agg rfl⟩,rfl,trivial⟩ () rfl (U.sat (aS)))
 rw[if_neg g2]at e0
 have zB:=cZ l 0
 have iZ:=cZ l 1
 have vQ:=c9 l 4
 repeat first|refine aa ?_ |intro
 rename_i x3 x4 x6 _
 refine aG 11 (gu x3 117*F) rfl rfl rfl ?_
 repeat(first|refine ak ?_ |refine eD ?_)
 repeat(first|refine bJ ?_ |(refine bN ?_;intro)|refine bK ?_ |refine bL ?_ |refine bM ?_ |refine eD ?_)
 repeat first|refine aa ?_ |intro
 refine af rfl (mh (j:=6) inferInstance inferInstance rfl (by omega) _ _ rfl) ?_
 intro _
 by_cases g3:b1 l 0=0∨b1 l 0=8
 ·rw[if_pos g3]at e0
  by_cases g4:b1 l 1≠0
  ·rw[if_pos g4]at e0
   rw[e0]
   rcases g3 with g3|g3
   all_goals
    repeat first|refine aa ?_ |intro
    exact ae (aZ (rs:=[.cell 6 117,.tmp 7]) (v:= .agg (bu bm).toArray) (u:= .int .i64 ((3:Nat):Int)) (vs:=[]) rfl ⟨⟨_,rfl,aT.agg rfl⟩,rfl,trivial⟩ () rfl (U.sat (aS)))
  rw[if_neg g4]at e0
  have zq:b1 l 1=0:=by omega
  rw[e0,if_pos rfl,show nQ hd.size l={bm with proto:=1,kind:=b1 l 0,code:=0,sp:=w2 l 4,dp:=w2 l 4}from if_pos g3,zq]
  rcases g3 with g3|g3
  all_goals
   repeat first|refine aa ?_ |intro
   exact ae (aZ (rs:=[.cell 6 117,.tmp 7]) (v:= .agg (bu {bm with proto:=1,kind:=b1 l 0,code:=0,sp:=w2 l 4,dp:=w2 l 4}).toArray) (u:= .int .i64 ((0:Nat):Int)) (vs:=[]) rfl ⟨⟨_,rfl,aT.agg rfl⟩,rfl,trivial⟩ () rfl (U.sat (aS)))
 rw[if_neg g3]at e0
 have MV:b1 l 0≠0:=fun g=>g3 (.inl g)
 have MW:b1 l 0≠8:=fun g=>g3 (.inr g)
 by_cases g5:rk (b1 l 0)
 ·rw[if_pos g5]at e0
  have eI:nQ hd.size l=nA (b1 l 0) (b1 l 1) hd.size (l.drop 8):=if_neg g3
  conv at e0=>rhs;unfold mK
  rcases g5 with g5|g5|g5
  all_goals
   repeat first|refine aa ?_ |intro
   refine af rfl (Rn 8 true (by omega) inferInstance inferInstance (by omega)) ?_
   intro _
   by_cases k0:c5 true (l.drop 8)≠0
   ·rw[if_pos k0]at e0
    rw[e0,if_neg k0,kl (rfl:c5 true (l.drop 8)=_),if_neg k0]
    repeat first|refine aa ?_ |intro
    exact ae (aZ (rs:=[.cell 6 117,.tmp 7]) (v:= .agg (bu bm).toArray) (u:= .int .i64 ((c5 true (l.drop 8):Nat):Int)) (vs:=[]) rfl ⟨⟨_,rfl,aT.agg rfl⟩,rfl,trivial⟩ () rfl (U.sat (aS)))
   rw[if_neg k0]at e0
   have E2:c5 true (l.drop 8)=0:=by omega
   obtain⟨k1,k2,k3,k4,k5,k6⟩:=vw E2
   rw[k6,E2]
   have eF:nA (b1 l 0) (b1 l 1) hd.size (l.drop 8)={bm with proto:=1,kind:=b1 l 0,code:=b1 l 1,err:=true,inner:=aW (l.drop 8),pos:=hd.size+8,sp:=if(aW (l.drop 8)).proto=1 then w2 (l.drop 8) ((aW (l.drop 8)).size+4)else w2 (l.drop 8) (aW (l.drop 8)).size,dp:=if(aW (l.drop 8)).proto=1 then w2 (l.drop 8) ((aW (l.drop 8)).size+4)else w2 (l.drop 8) ((aW (l.drop 8)).size+2)}:=rfl
   have EA:(aW (l.drop 8)).proto<256:=cZ (l.drop 8) 9
   have hlen:(aW (l.drop 8)).len<65536:=c9 (l.drop 8) 2
   obtain⟨hi,f0⟩:∃x,aW (l.drop 8)=x:=⟨_,rfl⟩
   rw[f0]at e0 eF k1 k2 k3 k4 EA hlen ⊢
   have ld:(l.drop 8).length=l.length-8:=by rw[List.length_drop]
   rw[ld]at k3 e0
   have kk:8+hi.size≤l.length:=by omega
   have ey:l.length-(8+hi.size)=(l.drop (8+hi.size)).length:=by rw[List.length_drop]
   have y0:b1 (l.drop 8) hi.size=b1 (l.drop (8+hi.size)) 0:=by rw[sM,sM,Nat.add_zero]
   have y1:w2 (l.drop 8) hi.size=w2 (l.drop (8+hi.size)) 0:=by rw[mZ,mZ,Nat.add_zero]
   have y2:w2 (l.drop 8) (hi.size+2)=w2 (l.drop (8+hi.size)) 2:=by rw[mZ,mZ,Nat.add_assoc]
   have y4:w2 (l.drop 8) (hi.size+4)=w2 (l.drop (8+hi.size)) 4:=by rw[mZ,mZ,Nat.add_assoc]
   haveI sy:=Src.low s r kk
   haveI ry:=Room.low (i:=8+hi.size) r
   obtain⟨y,hy⟩:∃y,l.drop (8+hi.size)=y:=⟨_,rfl⟩
   rw[hy]at ey y0 y1 y2 y4 sy ry
   rw[y1,y2,y4]at eF
   rw[y0]at e0
   repeat first|refine aa ?_ |intro
   rename_i x9
   rw[ey]
   obtain⟨q,hq⟩:∃q,de p (8+hi.size) c 1=q:=⟨_,rfl⟩
   obtain⟨cc,lZ⟩:∃cc,c-(8+hi.size)=cc:=⟨_,rfl⟩
   rw[hq,lZ]at ry
   rw[hq]at sy
   rw[hq,lZ]
   haveI:=sy
   haveI:=ry
   by_cases g2:y.length<8
   ·rw[if_pos (Or.inl (by omega))]at e0
    rw[e0,decide_eq_true (show((y.length:Nat):Int)<8 by omega)]
    repeat first|refine aa ?_ |intro
    exact ae (aZ (rs:=[.cell 6 117,.tmp 7]) (v:= .agg (bu bm).toArray) (u:= .int .i64 ((3:Nat):Int)) (vs:=[]) rfl ⟨⟨_,rfl,aT.agg rfl⟩,rfl,trivial⟩ () rfl (U.sat (aS)))
   rw[decide_eq_false (show ¬((y.length:Nat):Int)<8 by omega)]
   by_cases g3:hi.len<hi.size+8
   ·rw[if_pos (Or.inr g3)]at e0
    rw[e0]
    repeat first|refine aa ?_ |intro
    exact ae (aZ (rs:=[.cell 6 117,.tmp 7]) (v:= .agg (bu bm).toArray) (u:= .int .i64 ((3:Nat):Int)) (vs:=[]) rfl ⟨⟨_,rfl,aT.agg rfl⟩,rfl,trivial⟩ () rfl (U.sat (aS)))
   rw[if_neg (fun g=>g.elim (fun g=>g2 (by omega)) g3)]at e0
   have zB:=cZ y 0
   have vP:=c9 y 0
   have qE:=c9 y 2
   have vQ:=c9 y 4
   repeat first|refine aa ?_ |intro
   refine aG 9 (Obj x9 111 (cr hi)*(Obj x4 111 (cr hd)*(gu x3 117*F))) rfl rfl rfl ?_
   repeat(first|refine ak ?_ |refine eD ?_)
   repeat(first|refine bJ ?_ |(refine bN ?_;intro)|refine bK ?_ |refine bL ?_ |refine bM ?_ |refine eD ?_)
   by_cases g4:hi.proto=17∨hi.proto=6
   ·rw[if_pos g4]at e0
    rw[e0,if_pos rfl,eI,eF,if_neg (by omega),if_neg (by omega)]
    rcases g4 with g4|g4
    all_goals
     repeat first|refine aa ?_ |intro
     refine aG 11 (gu x3 117*F) rfl rfl rfl ?_
     repeat(first|refine ak ?_ |refine eD ?_)
     refine aC rfl rfl rfl rfl rfl (ud (l:=y) inferInstance (by omega) _) (fun _=>aS) ?_
     intro _
     repeat(first|refine ak ?_ |refine eD ?_)
     refine aC rfl rfl rfl rfl rfl (mh (l:=y) (j:=4) inferInstance inferInstance rfl (by omega) _ _ rfl) (fun _=>aS) ?_
     intro _
     repeat(first|refine ak ?_ |refine eD ?_)
     repeat(first|refine bJ ?_ |(refine bN ?_;intro)|refine bK ?_ |refine bL ?_ |refine bM ?_ |refine eD ?_)
     repeat first|refine aa ?_ |intro
     exact ae (aZ (rs:=[.cell 6 117,.tmp 7]) (v:= .agg (bu {bm with proto:=1,kind:=b1 l 0,code:=b1 l 1,err:=true,inner:=hi,pos:=hd.size+8,sp:=w2 y 0,dp:=w2 y 2}).toArray) (u:= .int .i64 ((0:Nat):Int)) (vs:=[]) rfl ⟨⟨_,rfl,aT.agg rfl⟩,rfl,trivial⟩ () rfl (U.sat (aS)))
   rw[if_neg g4]at e0
   by_cases MX:hi.proto≠1
   ·rw[if_neg (fun g=>MX g.1)]at e0
    rw[e0]
    repeat first|refine aa ?_ |intro
    exact ae (aZ (rs:=[.cell 6 117,.tmp 7]) (v:= .agg (bu bm).toArray) (u:= .int .i64 ((6:Nat):Int)) (vs:=[]) rfl ⟨⟨_,rfl,aT.agg rfl⟩,rfl,trivial⟩ () rfl (U.sat (aS)))
   have zr:hi.proto=1:=by omega
   by_cases g6:b1 y 0=0∨b1 y 0=8
   ·rw[if_pos ⟨zr,g6⟩]at e0
    rw[e0,if_pos rfl,eI,eF,if_pos zr,if_pos zr]
    rcases g6 with g6|g6
    all_goals
     repeat first|refine aa ?_ |intro
     refine aG 11 (gu x3 117*F) rfl rfl rfl ?_
     repeat(first|refine ak ?_ |refine eD ?_)
     refine aC rfl rfl rfl rfl rfl (mh (l:=y) (j:=6) inferInstance inferInstance rfl (by omega) _ _ rfl) (fun _=>aS) ?_
     intro _
     repeat(first|refine ak ?_ |refine eD ?_)
     refine aC rfl rfl rfl rfl rfl (mh (l:=y) (j:=6) inferInstance inferInstance rfl (by omega) _ _ rfl) (fun _=>aS) ?_
     intro _
     repeat(first|refine ak ?_ |refine eD ?_)
     repeat(first|refine bJ ?_ |(refine bN ?_;intro)|refine bK ?_ |refine bL ?_ |refine bM ?_ |refine eD ?_)
     repeat first|refine aa ?_ |intro
     exact ae (aZ (rs:=[.cell 6 117,.tmp 7]) (v:= .agg (bu {bm with proto:=1,kind:=b1 l 0,code:=b1 l 1,err:=true,inner:=hi,pos:=hd.size+8,sp:=w2 y 4,dp:=w2 y 4}).toArray) (u:= .int .i64 ((0:Nat):Int)) (vs:=[]) rfl ⟨⟨_,rfl,aT.agg rfl⟩,rfl,trivial⟩ () rfl (U.sat (aS)))
   rw[if_neg (fun g=>g6 g.2)]at e0
   rw[e0]
   have X6:b1 y 0≠0:=fun g=>g6 (.inl g)
   have X7:b1 y 0≠8:=fun g=>g6 (.inr g)
   repeat first|refine aa ?_ |intro
   exact ae (aZ (rs:=[.cell 6 117,.tmp 7]) (v:= .agg (bu bm).toArray) (u:= .int .i64 ((6:Nat):Int)) (vs:=[]) rfl ⟨⟨_,rfl,aT.agg rfl⟩,rfl,trivial⟩ () rfl (U.sat (aS)))
 obtain⟨g6,g7,g8⟩:=Dn g5
 rw[if_neg g5]at e0
 rw[e0]
 repeat first|refine aa ?_ |intro
 exact ae (aZ (rs:=[.cell 6 117,.tmp 7]) (v:= .agg (bu bm).toArray) (u:= .int .i64 ((6:Nat):Int)) (vs:=[]) rfl ⟨⟨_,rfl,aT.agg rfl⟩,rfl,trivial⟩ () rfl (U.sat (aS)))
end
end
section
open Go.RowKit
set_option maxRecDepth 10000
attribute [local irreducible] EK EX ER EN EL ES EG av aV aY
variable {W:World} {F:SL} {X:Cx} {k:List KI} {σ:Env}
attribute [local simp] mF
instance qa.bytes (l:List UInt8)(i:Nat)(b:UInt8):qa (aD l) i 1 0 [.int .u8 ((b.toNat:Nat):Int)] (aD (l.set i b)) (i<l.length):=⟨fun h=>by
 refine⟨by simp;omega,?_⟩
 simp only[Nat.mul_one,Nat.add_zero,List.length_cons,List.length_nil,Nat.zero_add]
 rw[←G7 (by simpa using h)]
 simp[aD,List.map_set]⟩
abbrev cY (w:Option Addr)(q:aO)(out:Bool)(l:List UInt8)(F:SL):SL:=Obj w 370 [.slice q.1 l.length q.2,.bool out]*(an 5 1 q.1 l.length q.2 (aD l)*F)
section
variable {w:Option Addr} {q:aO} {out:Bool} {l:List UInt8}
theorem j6 (i:Nat)(h:i+1<l.length)(hi:i≤9000000):Spec Tryz.prog 299 [.pointer w,.int .i64 (i:Int)] W (cY w q out l F) (fun _:Unit=> .int .u16 (w2 l i:Int)) (fun _=>cY w q out l F):=by
 refine Spec.of Tryz.func299 rfl Tryz.ntmps299 rfl ?_
 have h0:=cZ l i
 have h1:=cZ l (i+1)
 simp only[cY]
 repeat first|refine aa ?_ |intro
 refine aG 99 (Obj w 370 [.slice q.1 l.length q.2,.bool out]*(an 5 1 q.1 l.length q.2 (aD l)*F)) rfl rfl rfl ?_
 repeat(first|refine ak ?_ |refine eD ?_)
 repeat first|refine aa ?_ |intro
 exact ae (ar rfl rfl () (by rw[Gg h0 h1];rfl) (U.sat (az)))
theorem iM (i n:Nat)(h:i+1<l.length)(hi:i≤9000000):Spec Tryz.prog 298 [.pointer w,.int .i64 (i:Int),.int .u16 (n:Int)] W (cY w q out l F) (fun _:Unit=> .tuple #[]) (fun _=>cY w q out (st2 l i n) F):=by
 refine Spec.of Tryz.func298 rfl Tryz.ntmps298 rfl ?_
 simp only[cY,dO]
 unfold st2
 have hs:(l.set i (u8 (n/256))).length=l.length:=List.length_set
 repeat first|refine aa ?_ |intro
 refine aG 19 (Obj w 370 [.slice q.1 l.length q.2,.bool out]*(sE 5 1 q.1 l.length q.2*F)) rfl rfl rfl ?_
 repeat(first|refine ak ?_ |refine eD ?_)
 rw[show(n:Int)/2^Int.toNat 8=((n/256:Nat):Int)from jl n 8,fO,fO]
 repeat(first|refine bJ ?_ |(refine bN ?_;intro)|refine bK ?_ |refine bL ?_ |refine bM ?_ |refine eD ?_)
 exact aH (aI rfl () rfl (U.sat (az)))
theorem QV {a b:Nat}(ha:a<65536)(hb:b<65536):bits .or .u32 (IntKind.u32.wrap ((a:Int)*2^Int.toNat 16)) (b:Int)=((a*65536+b:Nat):Int):=by
 rw[show(a:Int)*2^Int.toNat 16=((a*2^16:Nat):Int)by rw[show Int.toNat 16=16 from rfl];omega,bq.wrap (k:= .u32) (z:=((a*2^16:Nat):Int)) (by simp only[bq];omega),u32_or_nat _ _ (by omega) (by omega)]
 rw[Nat.mul_comm,←Nat.two_pow_add_eq_or_of_lt (show b<2^16 by omega) a]
theorem HS (i:Nat)(h:i+3<l.length)(hi:i≤1000000):Spec Tryz.prog 295 [.pointer w,.int .i64 (i:Int)] W (cY w q out l F) (fun _:Unit=> .int .u32 (w4 l i:Int)) (fun _=>cY w q out l F):=by
 refine Spec.of Tryz.func295 rfl Tryz.ntmps295 rfl ?_
 have h0:=c9 l i
 have h2:=c9 l (i+2)
 repeat first|refine aa ?_ |intro
 refine af rfl (j6 i (by omega) (by omega)) ?_
 intro _
 repeat first|refine aa ?_ |intro
 refine af rfl (j6 (i+2) (by omega) (by omega)) ?_
 intro _
 repeat first|refine aa ?_ |intro
 exact ae (ar rfl rfl () (by rw[QV h0 h2];rfl) (U.sat (az)))
theorem HQ (i n:Nat)(h:i+3<l.length)(hi:i≤1000000)(hn:n<4294967296):Spec Tryz.prog 296 [.pointer w,.int .i64 (i:Int),.int .u32 (n:Int)] W (cY w q out l F) (fun _:Unit=> .tuple #[]) (fun _=>cY w q out (st2 (st2 l i (n/65536)) (i+2) (n%65536)) F):=by
 refine Spec.of Tryz.func296 rfl Tryz.ntmps296 rfl ?_
 repeat first|refine aa ?_ |intro
 rw[show(n:Int)/2^Int.toNat 16=((n/65536:Nat):Int)from jl n 16,Bp (a:=n/65536) (by omega)]
 refine af rfl (iM i (n/65536) (by omega) (by omega)) ?_
 intro _
 repeat first|refine aa ?_ |intro
 rw[Bq]
 refine af rfl (iM (i+2) (n%65536) (by rw[dO];omega) (by omega)) ?_
 intro _
 repeat first|refine aa ?_ |intro
 exact aH (aI rfl () rfl (U.sat (az)))
theorem sc (i bB now:Nat)(h:i+1<l.length)(hi:i≤1000000)(h1:bB<4294967296)(h2:now<4294967296):Spec Tryz.prog 297 [.pointer w,.int .i64 (i:Int),.int .u32 (bB:Int),.int .u32 (now:Int)] W (cY w q out l F) (fun _:Unit=> .tuple #[]) (fun _=>cY w q out (st2 l i (gA (w2 l i) bB now)) F):=by
 refine Spec.of Tryz.func297 rfl Tryz.ntmps297 rfl ?_
 repeat first|refine aa ?_ |intro
 refine af rfl (j6 i h (by omega)) ?_
 intro _
 repeat first|refine aa ?_ |intro
 refine af rfl (JC (c9 l i) h1 h2) ?_
 intro _
 repeat first|refine aa ?_ |intro
 refine af rfl (iM i (gA (w2 l i) bB now) h (by omega)) ?_
 intro _
 repeat first|refine aa ?_ |intro
 exact aH (aI rfl () rfl (U.sat (az)))
theorem Hw (head addr:Nat)(src:Bool)(h:head+19<l.length)(hi:head≤100000)(ha:addr<4294967296):Spec Tryz.prog 271 [.pointer w,.int .i64 (head:Int),.bool src,.int .u32 (addr:Int)] W (cY w q out l F) (fun _:Unit=> .int .u32 (w4 l (head+gO src):Int)) (fun _=>cY w q out (mz l head (head+gO src) addr) F):=by
 refine Spec.of Tryz.func271 rfl Tryz.ntmps271 rfl ?_
 cases src with
 |false=>
  rw[show gO false=16 from rfl]
  have hw:=lG l (head+16)
  repeat first|refine aa ?_ |intro
  refine af rfl (HS (head+16) (by omega) (by omega)) ?_
  intro _
  repeat first|refine aa ?_ |intro
  refine af rfl (HQ (head+16) addr (by omega) (by omega) ha) ?_
  intro _
  repeat first|refine aa ?_ |intro
  refine af rfl (sc (head+10) _ addr (by rw[dO,dO];omega) (by omega) hw ha) ?_
  intro _
  repeat first|refine aa ?_ |intro
  exact ae (ar rfl rfl () rfl (U.sat (az)))
 |true=>
  rw[show gO true=12 from rfl]
  have hw:=lG l (head+12)
  repeat first|refine aa ?_ |intro
  refine af rfl (HS (head+12) (by omega) (by omega)) ?_
  intro _
  repeat first|refine aa ?_ |intro
  refine af rfl (HQ (head+12) addr (by omega) (by omega) ha) ?_
  intro _
  repeat first|refine aa ?_ |intro
  refine af rfl (sc (head+10) _ addr (by rw[dO,dO];omega) (by omega) hw ha) ?_
  intro _
  repeat first|refine aa ?_ |intro
  exact ae (ar rfl rfl () rfl (U.sat (az)))
theorem Hz (i id:Nat)(h:i+5<l.length)(hi:i≤100000)(hd:id<65536):Spec Tryz.prog 273 [.pointer w,.int .i64 (i:Int),.int .u16 (id:Int)] W (cY w q out l F) (fun _:Unit=> .tuple #[]) (fun _=>cY w q out (qj l i id) F):=by
 refine Spec.of Tryz.func273 rfl Tryz.ntmps273 rfl ?_
 have e2:w2 (st2 l (i+4) id) (i+2)=w2 l (i+2):=Tf l (by omega) (by omega)
 have hf:=qm (w2 l (i+2)) (w2 l (i+4)) id
 repeat first|refine aa ?_ |intro
 refine af rfl (j6 (i+4) (by omega) (by omega)) ?_
 intro _
 repeat first|refine aa ?_ |intro
 refine af rfl (iM (i+4) id (by omega) (by omega)) ?_
 intro _
 repeat first|refine aa ?_ |intro
 refine af rfl (j6 (i+2) (by rw[dO];omega) (by omega)) ?_
 intro _
 rw[e2]
 repeat first|refine aa ?_ |intro
 refine af rfl (pX (c9 l (i+2)) (c9 l (i+4)) hd) ?_
 intro _
 unfold qj tU
 by_cases hz:lY (w2 l (i+2)) (w2 l (i+4)) id=0
 ·rw[if_pos hz]
  repeat first|refine aa ?_ |intro
  refine af rfl (iM (i+2) 65535 (by rw[dO];omega) (by omega)) ?_
  intro _
  repeat first|refine aa ?_ |intro
  exact aH (aI rfl () rfl (U.sat (az)))
 ·rw[if_neg hz]
  repeat first|refine aa ?_ |intro
  refine af rfl (iM (i+2) _ (by rw[dO];omega) (by omega)) ?_
  intro _
  repeat first|refine aa ?_ |intro
  exact aH (aI rfl () rfl (U.sat (az)))
theorem xg (i:Nat)(hi:i≤1000000):Spec Tryz.prog 301 [.pointer w,.int .i64 (i:Int)] W (cY w q out l F) (fun _:Unit=> .bool (decide (i+2≤l.length))) (fun _=>cY w q out l F):=by
 refine Spec.of Tryz.func301 rfl Tryz.ntmps301 rfl ?_
 simp only[cY]
 by_cases h:i+2≤l.length
 ·rw[decide_eq_true h]
  repeat first|refine aa ?_ |intro
  exact ae (ar rfl rfl () rfl (U.sat (az)))
 ·rw[decide_eq_false h]
  repeat first|refine aa ?_ |intro
  exact ae (ar rfl rfl () rfl (U.sat (az)))
end
end
section
open Go.RowKit
set_option maxRecDepth 10000
attribute [local irreducible] EK EX ER EN EL ES EG av aV aY
variable {W:World} {F:SL} {X:Cx} {k:List KI} {σ:Env}
attribute [local simp] mF
theorem yP (l:List UInt8)(a b c:Nat):(mz l a b c).length=l.length:=by simp[mz,dO]
theorem Ma (l:List UInt8)(a b:Nat):(qj l a b).length=l.length:=by simp[qj,dO]
theorem C0 (l:List UInt8)(a b:Nat)(s:Bool)(c d e:Nat):(mH l a b s c d e).length=l.length:=by
 unfold mH rh
 split
 ·rw[dO]
 ·rw[dO,dO]
theorem KZ (l:List UInt8)(a b:Nat)(s:Bool)(c d e:Nat):(kM l a b s c d e).length=l.length:=by
 unfold kM
 split
 ·exact Ma _ _ _
 ·exact C0 _ _ _ _ _ _ _
structure yK (h:ee)(p:fR):Prop where
 room:h.size+8≤h.len
 plain:p.err=false→p.proto=h.proto∧(h.proto=1∨h.proto=6∨h.proto=17)
 inner:p.err=true→p.pos=h.size+8∧20≤p.inner.size∧p.inner.size≤60∧p.pos+p.inner.size+8≤h.len∧p.inner.proto<256
theorem yK.of {h:ee}{l:List UInt8}(hh:ni h l.length)(he:ic h l=0):yK h (kX h l):=by
 obtain⟨h1,h2,h3,h4,h5,h6,h7,h8⟩:=id hh
 have hb:(lT h l).length=h.len-h.size:=by rw[sO];exact mI l h4
 unfold ic at he
 unfold kX
 by_cases g1:h.proto=17
 ·rw[if_pos g1]at he ⊢
  unfold om at he
  have:¬(lT h l).length<8:=fun g=>by rw[if_pos g]at he;cases he
  exact⟨by omega,fun _=>⟨g1.symm,.inr (.inr g1)⟩,fun e=>by cases e⟩
 rw[if_neg g1]at he ⊢
 by_cases g2:h.proto=6
 ·rw[if_pos g2]at he ⊢
  unfold oe at he
  have:¬(lT h l).length<20:=fun g=>by rw[if_pos g]at he;cases he
  exact⟨by omega,fun _=>⟨g2.symm,.inr (.inl g2)⟩,fun e=>by cases e⟩
 rw[if_neg g2]at he ⊢
 by_cases g3:¬(h.proto=1)
 ·rw[if_neg g3]at he;cases he
 have g3:=Decidable.not_not.1 g3
 rw[if_pos g3]at he
 generalize lT h l=x at hb he ⊢
 unfold lx at he
 have a1:¬x.length<8:=fun g=>by rw[if_pos g]at he;cases he
 rw[if_neg a1]at he
 have a2:¬dX x≠0:=fun g=>by rw[if_pos g]at he;cases he
 rw[if_neg a2]at he
 unfold nQ
 by_cases a3:b1 x 0=0∨b1 x 0=8
 ·rw[if_pos a3]
  exact⟨by omega,fun _=>⟨g3.symm,.inl g3⟩,fun e=>by cases e⟩
 rw[if_neg a3]at he ⊢
 have a4:rk (b1 x 0):=Decidable.byContradiction fun g=>by rw[if_neg g]at he;cases he
 rw[if_pos a4]at he
 unfold mK at he
 have a5:c5 true (x.drop 8)=0:=Decidable.byContradiction fun g=>by rw[if_pos g]at he;exact g he
 rw[if_neg (by omega)]at he
 obtain⟨k1,k2,k3,k4,_,_⟩:=vw a5
 have a6:¬((x.drop 8).length-(aW (x.drop 8)).size<8∨(aW (x.drop 8)).len<(aW (x.drop 8)).size+8):=fun g=>by rw[if_pos g]at he;cases he
 have a7:(x.drop 8).length=x.length-8:=List.length_drop
 refine⟨by omega,(fun e=>by cases e),fun _=>⟨rfl,k1,k2,?_,cZ _ 9⟩⟩
 show h.size+8+(aW (x.drop 8)).size+8≤h.len
 omega
section
variable {p:Option Addr} {c i j:Nat} {l:List UInt8}
theorem KE [s:Src W F p l.length (aD l)](h0:0<l.length)(hl:l.length≤1000000):Spec Tryz.prog 270 [.slice p l.length c] W F (fun q:aO=> .slice q.1 l.length q.2) (fun q=>an 5 1 q.1 l.length q.2 (aD l)*F):=by
 by_cases hp:p=none
 ·exact fun w hs=>absurd hp (s.nn w hs h0)
 refine Spec.of Tryz.func270 rfl Tryz.ntmps270 rfl ?_
 repeat first|refine aa ?_ |intro
 refine bS (uN rfl rfl) rfl ?_
 rw[decide_eq_false hp]
 repeat first|refine aa ?_ |intro
 rename_i q
 refine ae (ar rfl rfl q (by simp) (U.sat ?_))
 rw[Nat.zero_add,List.nil_append]
 exact az
end
section
variable {w:Option Addr} {q:aO} {out:Bool} {l:List UInt8}
theorem Hy (pos proto port bB addr:Nat)(src:Bool)(h:pos+3<l.length)(hi:pos≤100000)(hp:port<65536)(ho:bB<4294967296)(ha:addr<4294967296):Spec Tryz.prog 274 [.pointer w,.int .i64 (pos:Int),.int .i64 (proto:Int),.bool src,.int .u16 (port:Int),.int .u32 (bB:Int),.int .u32 (addr:Int)] W (cY w q out l F) (fun _:Unit=> .tuple #[]) (fun _=>cY w q out (mH l pos proto src port bB addr) F):=by
 refine Spec.of Tryz.func274 rfl Tryz.ntmps274 rfl ?_
 by_cases g1:proto=17
 ·cases src with
  |false=>
   have eP:rQ pos false=(pos+2):=rfl
   have eS:ob pos proto=(pos+6):=if_pos g1
   unfold mH rh
   rw[eP,eS]
   have wP:=c9 l (pos+2)
   obtain⟨l1,h1⟩:∃l1,st2 l (pos+2) port=l1:=⟨_,rfl⟩
   have n1:l1.length=l.length:=by rw[←h1,dO]
   repeat first|refine aa ?_ |intro
   refine af rfl (j6 (pos+2) (by omega) (by omega)) ?_
   intro _
   repeat first|refine aa ?_ |intro
   refine af rfl (iM (pos+2) port (by omega) (by omega)) ?_
   intro _
   rw[h1]
   repeat first|refine aa ?_ |intro
   refine af rfl (xg (pos+6) (by omega)) ?_
   intro _
   by_cases g2:l1.length<(pos+6)+2
   ·rw[if_pos (Or.inl g2),decide_eq_false (by omega)]
    repeat first|refine aa ?_ |intro
    exact ae (cT rfl () rfl (U.sat (az)))
   rw[decide_eq_true (by omega)]
   have wS:=c9 l1 (pos+6)
   have e2:w2 (st2 l1 (pos+6) (gA (w2 l1 (pos+6)) bB addr)) (pos+6)=gA (w2 l1 (pos+6)) bB addr:=wZ l1 (oY _ _ _) (by omega)
   have lW:=oY (w2 l1 (pos+6)) bB addr
   have lF:=qm (gA (w2 l1 (pos+6)) bB addr) (w2 l (pos+2)) port
   repeat first|refine aa ?_ |intro
   refine af rfl (j6 (pos+6) (by omega) (by omega)) ?_
   intro _
   by_cases g3:w2 l1 (pos+6)=0
   ·rw[if_pos (Or.inr ⟨g1,g3⟩)]
    repeat first|refine aa ?_ |intro
    exact ae (cT rfl () rfl (U.sat (az)))
   rw[if_neg (fun g=>g.elim g2 fun g=>g3 g.2),if_pos g1]
   repeat first|refine aa ?_ |intro
   refine af rfl (sc (pos+6) bB addr (by omega) (by omega) ho ha) ?_
   intro _
   repeat first|refine aa ?_ |intro
   refine af rfl (j6 (pos+6) (by rw[dO];omega) (by omega)) ?_
   intro _
   rw[e2]
   repeat first|refine aa ?_ |intro
   refine af rfl (pX lW wP hp) ?_
   intro _
   unfold tU
   by_cases g4:lY (gA (w2 l1 (pos+6)) bB addr) (w2 l (pos+2)) port=0
   ·rw[if_pos g4]
    repeat first|refine aa ?_ |intro
    refine af rfl (iM (pos+6) 65535 (by rw[dO];omega) (by omega)) ?_
    intro _
    rw[rY]
    repeat first|refine aa ?_ |intro
    exact aH (aI rfl () rfl (U.sat (az)))
   ·rw[if_neg g4]
    repeat first|refine aa ?_ |intro
    refine af rfl (iM (pos+6) _ (by rw[dO];omega) (by omega)) ?_
    intro _
    rw[rY]
    repeat first|refine aa ?_ |intro
    exact aH (aI rfl () rfl (U.sat (az)))
  |true=>
   have eP:rQ pos true=(pos+0):=rfl
   have eS:ob pos proto=(pos+6):=if_pos g1
   unfold mH rh
   rw[eP,eS]
   have wP:=c9 l (pos+0)
   obtain⟨l1,h1⟩:∃l1,st2 l (pos+0) port=l1:=⟨_,rfl⟩
   have n1:l1.length=l.length:=by rw[←h1,dO]
   repeat first|refine aa ?_ |intro
   refine af rfl (j6 (pos+0) (by omega) (by omega)) ?_
   intro _
   repeat first|refine aa ?_ |intro
   refine af rfl (iM (pos+0) port (by omega) (by omega)) ?_
   intro _
   rw[h1]
   repeat first|refine aa ?_ |intro
   refine af rfl (xg (pos+6) (by omega)) ?_
   intro _
   by_cases g2:l1.length<(pos+6)+2
   ·rw[if_pos (Or.inl g2),decide_eq_false (by omega)]
    repeat first|refine aa ?_ |intro
    exact ae (cT rfl () rfl (U.sat (az)))
   rw[decide_eq_true (by omega)]
   have wS:=c9 l1 (pos+6)
   have e2:w2 (st2 l1 (pos+6) (gA (w2 l1 (pos+6)) bB addr)) (pos+6)=gA (w2 l1 (pos+6)) bB addr:=wZ l1 (oY _ _ _) (by omega)
   have lW:=oY (w2 l1 (pos+6)) bB addr
   have lF:=qm (gA (w2 l1 (pos+6)) bB addr) (w2 l (pos+0)) port
   repeat first|refine aa ?_ |intro
   refine af rfl (j6 (pos+6) (by omega) (by omega)) ?_
   intro _
   by_cases g3:w2 l1 (pos+6)=0
   ·rw[if_pos (Or.inr ⟨g1,g3⟩)]
    repeat first|refine aa ?_ |intro
    exact ae (cT rfl () rfl (U.sat (az)))
   rw[if_neg (fun g=>g.elim g2 fun g=>g3 g.2),if_pos g1]
   repeat first|refine aa ?_ |intro
   refine af rfl (sc (pos+6) bB addr (by omega) (by omega) ho ha) ?_
   intro _
   repeat first|refine aa ?_ |intro
   refine af rfl (j6 (pos+6) (by rw[dO];omega) (by omega)) ?_
   intro _
   rw[e2]
   repeat first|refine aa ?_ |intro
   refine af rfl (pX lW wP hp) ?_
   intro _
   unfold tU
   by_cases g4:lY (gA (w2 l1 (pos+6)) bB addr) (w2 l (pos+0)) port=0
   ·rw[if_pos g4]
    repeat first|refine aa ?_ |intro
    refine af rfl (iM (pos+6) 65535 (by rw[dO];omega) (by omega)) ?_
    intro _
    rw[rY]
    repeat first|refine aa ?_ |intro
    exact aH (aI rfl () rfl (U.sat (az)))
   ·rw[if_neg g4]
    repeat first|refine aa ?_ |intro
    refine af rfl (iM (pos+6) _ (by rw[dO];omega) (by omega)) ?_
    intro _
    rw[rY]
    repeat first|refine aa ?_ |intro
    exact aH (aI rfl () rfl (U.sat (az)))
 ·cases src with
  |false=>
   have eP:rQ pos false=(pos+2):=rfl
   have eS:ob pos proto=(pos+16):=if_neg g1
   unfold mH rh
   rw[eP,eS]
   have wP:=c9 l (pos+2)
   obtain⟨l1,h1⟩:∃l1,st2 l (pos+2) port=l1:=⟨_,rfl⟩
   have n1:l1.length=l.length:=by rw[←h1,dO]
   repeat first|refine aa ?_ |intro
   refine af rfl (j6 (pos+2) (by omega) (by omega)) ?_
   intro _
   repeat first|refine aa ?_ |intro
   refine af rfl (iM (pos+2) port (by omega) (by omega)) ?_
   intro _
   rw[h1]
   repeat first|refine aa ?_ |intro
   refine af rfl (xg (pos+16) (by omega)) ?_
   intro _
   by_cases g2:l1.length<(pos+16)+2
   ·rw[if_pos (Or.inl g2),decide_eq_false (by omega)]
    repeat first|refine aa ?_ |intro
    exact ae (cT rfl () rfl (U.sat (az)))
   rw[decide_eq_true (by omega)]
   have wS:=c9 l1 (pos+16)
   have e2:w2 (st2 l1 (pos+16) (gA (w2 l1 (pos+16)) bB addr)) (pos+16)=gA (w2 l1 (pos+16)) bB addr:=wZ l1 (oY _ _ _) (by omega)
   have lW:=oY (w2 l1 (pos+16)) bB addr
   have lF:=qm (gA (w2 l1 (pos+16)) bB addr) (w2 l (pos+2)) port
   rw[if_neg (fun g=>g.elim g2 fun g=>g1 g.1),if_neg g1]
   repeat first|refine aa ?_ |intro
   refine af rfl (sc (pos+16) bB addr (by omega) (by omega) ho ha) ?_
   intro _
   repeat first|refine aa ?_ |intro
   refine af rfl (j6 (pos+16) (by rw[dO];omega) (by omega)) ?_
   intro _
   rw[e2]
   repeat first|refine aa ?_ |intro
   refine af rfl (pX lW wP hp) ?_
   intro _
   repeat first|refine aa ?_ |intro
   refine af rfl (iM (pos+16) _ (by rw[dO];omega) (by omega)) ?_
   intro _
   rw[rY]
   repeat first|refine aa ?_ |intro
   exact aH (aI rfl () rfl (U.sat (az)))
  |true=>
   have eP:rQ pos true=(pos+0):=rfl
   have eS:ob pos proto=(pos+16):=if_neg g1
   unfold mH rh
   rw[eP,eS]
   have wP:=c9 l (pos+0)
   obtain⟨l1,h1⟩:∃l1,st2 l (pos+0) port=l1:=⟨_,rfl⟩
   have n1:l1.length=l.length:=by rw[←h1,dO]
   repeat first|refine aa ?_ |intro
   refine af rfl (j6 (pos+0) (by omega) (by omega)) ?_
   intro _
   repeat first|refine aa ?_ |intro
   refine af rfl (iM (pos+0) port (by omega) (by omega)) ?_
   intro _
   rw[h1]
   repeat first|refine aa ?_ |intro
   refine af rfl (xg (pos+16) (by omega)) ?_
   intro _
   by_cases g2:l1.length<(pos+16)+2
   ·rw[if_pos (Or.inl g2),decide_eq_false (by omega)]
    repeat first|refine aa ?_ |intro
    exact ae (cT rfl () rfl (U.sat (az)))
   rw[decide_eq_true (by omega)]
   have wS:=c9 l1 (pos+16)
   have e2:w2 (st2 l1 (pos+16) (gA (w2 l1 (pos+16)) bB addr)) (pos+16)=gA (w2 l1 (pos+16)) bB addr:=wZ l1 (oY _ _ _) (by omega)
   have lW:=oY (w2 l1 (pos+16)) bB addr
   have lF:=qm (gA (w2 l1 (pos+16)) bB addr) (w2 l (pos+0)) port
   rw[if_neg (fun g=>g.elim g2 fun g=>g1 g.1),if_neg g1]
   repeat first|refine aa ?_ |intro
   refine af rfl (sc (pos+16) bB addr (by omega) (by omega) ho ha) ?_
   intro _
   repeat first|refine aa ?_ |intro
   refine af rfl (j6 (pos+16) (by rw[dO];omega) (by omega)) ?_
   intro _
   rw[e2]
   repeat first|refine aa ?_ |intro
   refine af rfl (pX lW wP hp) ?_
   intro _
   repeat first|refine aa ?_ |intro
   refine af rfl (iM (pos+16) _ (by rw[dO];omega) (by omega)) ?_
   intro _
   rw[rY]
   repeat first|refine aa ?_ |intro
   exact aH (aI rfl () rfl (U.sat (az)))
end
end
section
open Go.RowKit
set_option maxRecDepth 10000
attribute [local irreducible] EK EX ER EN EL ES EG av aV aY
variable {W:World} {F:SL} {X:Cx} {k:List KI} {σ:Env}
attribute [local simp] mF
def AB (l:List UInt8)(hs pos OK vV:Nat)(out:Bool)(addr port:Nat):List UInt8:=
 let b2:=kM (mz l pos (pos+gO (!out)) addr) (pos+OK) vV (!out) port (w4 l (pos+gO (!out))) addr
 let b3:=st2 b2 (hs+2) 0
 st2 b3 (hs+2) (dX (b3.drop hs))
section
variable {w:Option Addr} {q:aO} {out:Bool} {l:List UInt8}
theorem JV (hs:Nat)(h:hs≤l.length)(hl:l.length≤100000):Spec Tryz.prog 187 [.slice (de q.1 hs q.2 1) (l.length-hs) (q.2-hs)] W (cY w q out l F) (fun _:Unit=> .int .u16 (dX (l.drop hs):Int)) (fun _=>cY w q out l F):=by
 have s:Src W (cY w q out l F) q.1 l.length (aD l):=inferInstance
 have r:Room W (cY w q out l F) q.1 l.length q.2:=inferInstance
 haveI:=Src.low s r h
 have:=xK (W:=W) (F:=cY w q out l F) (de q.1 hs q.2 1) (q.2-hs) (l.drop hs) (by rw[List.length_drop];omega)
 rwa[List.length_drop]at this
set_option maxHeartbeats 1000000 in
theorem Ti (x:fR)(hs addr port:Nat)(h1:x.pos=hs+8)(h2:20≤x.inner.size)(h3:x.inner.size≤60)(h4:x.pos+x.inner.size+8≤l.length)(h5:hs≤60)(hl:l.length≤1500)(ha:addr<4294967296)(hp:port<65536):
  Spec Tryz.prog 272 [.pointer w,.agg (bu x).toArray,.int .i64 (hs:Int),.int .u32 (addr:Int),.int .u16 (port:Int)] W (cY w q out l F) (fun _:Unit=> .tuple #[]) (fun _=>cY w q out (AB l hs x.pos x.inner.size x.inner.proto out addr port) F):=by
 refine Spec.of Tryz.func272 rfl Tryz.ntmps272 rfl ?_
 have hw:=lG l (x.pos+gO (!out))
 repeat first|refine aa ?_ |intro
 rename_i x6
 refine aG 99 (Obj w 370 [.slice q.1 l.length q.2,.bool out]*(Obj x6 134 (bu x)*1)) rfl rfl rfl ?_
 repeat(first|refine ak ?_ |refine eD ?_)
 refine aC rfl rfl rfl rfl rfl (Spec.eY w q.1 (Hw x.pos addr (!out) (by omega) (by omega) ha)) (fun _=>by simp only[cY,yP];exact az) ?_
 intro _
 unfold AB
 dsimp only
 obtain⟨l2,e2⟩:∃y,mz l x.pos (x.pos+gO (!out)) addr=y:=⟨_,rfl⟩
 have n2:l2.length=l.length:=by rw[←e2,yP]
 rw[e2]
 obtain⟨od,eo⟩:∃y,w4 l (x.pos+gO (!out))=y:=⟨_,rfl⟩
 rw[eo]at hw ⊢
 simp only[cY]
 rw[n2]
 repeat(first|refine ak ?_ |refine eD ?_)
 rw[←n2]
 repeat first|refine aa ?_ |intro
 refine mq (γ:=Unit) (fun _=>True) (fun _=>[(0,.pointer w),(2,.int .i64 (hs:Int))]) (fun _=>cY w q out (kM l2 (x.pos+x.inner.size) x.inner.proto (!out) port od addr) F) ?_ ?_
 ·by_cases g1:x.inner.proto=1
  ·rw[show kM l2 (x.pos+x.inner.size) x.inner.proto (!out) port od addr=qj l2 (x.pos+x.inner.size) port from if_pos g1,decide_eq_true (show(x.inner.proto:Int)=1 by omega)]
   repeat first|refine aa ?_ |intro
   refine af rfl (Hz (x.pos+x.inner.size) port (by omega) (by omega) hp) ?_
   intro _
   repeat first|refine aa ?_ |intro
   exact fv () trivial ⟨rfl,rfl,trivial⟩ (U.sat (by simp only[cY];exact az))
  ·rw[show kM l2 (x.pos+x.inner.size) x.inner.proto (!out) port od addr=mH l2 (x.pos+x.inner.size) x.inner.proto (!out) port od addr from if_neg g1,decide_eq_false (show ¬(x.inner.proto:Int)=1 by omega)]
   repeat first|refine aa ?_ |intro
   refine aG 99 (Obj w 370 [.slice q.1 l2.length q.2,.bool out]*(Obj x6 134 (bu x)*1)) rfl rfl rfl ?_
   repeat(first|refine ak ?_ |refine eD ?_)
   refine aC rfl rfl rfl rfl rfl (Hy (x.pos+x.inner.size) x.inner.proto port od addr (!out) (by omega) (by omega) hp hw ha) (fun _=>by simp only[cY,C0];exact az) ?_
   intro _
   repeat(first|refine ak ?_ |refine eD ?_)
   repeat first|refine aa ?_ |intro
   exact fv () trivial ⟨rfl,rfl,trivial⟩ (U.sat (by simp only[cY];exact az))
 ·intro _ _
  have n3:(kM l2 (x.pos+x.inner.size) x.inner.proto (!out) port od addr).length=l.length:=by rw[KZ,n2]
  obtain⟨l3,e3⟩:∃y,kM l2 (x.pos+x.inner.size) x.inner.proto (!out) port od addr=y:=⟨_,rfl⟩
  rw[e3]at n3 ⊢
  have n4:(st2 l3 (hs+2) 0).length=l.length:=by rw[dO,n3]
  have hc:=qi ((st2 l3 (hs+2) 0).drop hs)
  repeat first|refine aa ?_ |intro
  refine af rfl (iM (hs+2) 0 (by omega) (by omega)) ?_
  intro _
  obtain⟨l4,e4⟩:∃y,st2 l3 (hs+2) 0=y:=⟨_,rfl⟩
  rw[e4]at n4 hc ⊢
  simp only[cY]
  repeat first|refine aa ?_ |intro
  refine af rfl (JV hs (by omega) (by omega)) ?_
  intro _
  simp only[cY]
  repeat first|refine aa ?_ |intro
  refine af rfl (iM (hs+2) _ (by omega) (by omega)) ?_
  intro _
  repeat first|refine aa ?_ |intro
  exact aH (aI rfl () rfl (U.sat (by simp only[cY];exact az)))
abbrev Bc (q:aO)(l:List UInt8)(e:Nat):Value:= .tuple #[.slice q.1 l.length q.2,.int .i64 (e:Int)]
theorem KD {p:Option Addr}{c j:Nat}(s:Src W F p l.length (aD l))(hj:j≤l.length)(h0:0<j)(h1:j≤1000000):Spec Tryz.prog 270 [.slice p j c] W F (fun q:aO=> .slice q.1 (l.take j).length q.2) (fun q=>an 5 1 q.1 (l.take j).length q.2 (aD (l.take j))*F):=by
 haveI:=Src.pre s hj
 have gn:(l.take j).length=j:=by rw[List.length_take,Nat.min_eq_left hj]
 have:=KE (W:=W) (F:=F) (p:=p) (c:=c) (l:=l.take j) (by omega) (by omega)
 rw[show([Value.slice p (l.take j).length c]:List Value)=[.slice p j c]by rw[gn]]at this
 exact this
set_option maxHeartbeats 1000000 in
theorem C1 {p:Option Addr}{c:Nat}(hl:l.length≤140737488355328)[s:Src W F p l.length (aD l)][r:Room W F p l.length c](addr port:Nat)(ha:addr<4294967296)(hp:port<65536):Spec Tryz.prog 216 [.slice p l.length c,.bool out,.int .u32 (addr:Int),.int .u16 (port:Int)] W F (fun z:aO=>Bc z (jH l out addr port) (dv l)) (fun z=>an 5 1 z.1 (jH l out addr port).length z.2 (aD (jH l out addr port))*F):=by
 refine Spec.of Tryz.func216 rfl Tryz.ntmps216 rfl ?_
 unfold jH dv
 repeat first|refine aa ?_ |intro
 refine af rfl (zz hl) ?_
 intro _
 by_cases g1:c5 false l=0
 ·have g0:=ni.of g1
  rw[kl g1,g1,if_pos rfl,if_pos rfl]
  obtain⟨hd,f0⟩:∃x,aW l=x:=⟨_,rfl⟩
  rw[f0]at g0 ⊢
  obtain⟨h1,h2,h3,h4,h5,h6,h7,h8⟩:=id g0
  repeat first|refine aa ?_ |intro
  refine af rfl (AV hd g0) ?_
  intro _
  by_cases g2:ic hd l=0
  ·have k0:=yK.of g0 g2
   have k1:=k0.room
   have k2:=k0.plain
   have k3:=k0.inner
   rw[show mg hd l=kX hd l from if_pos g2,g2,if_pos rfl]
   obtain⟨x,f1⟩:∃x,kX hd l=x:=⟨_,rfl⟩
   rw[f1]at k2 k3 ⊢
   obtain⟨xp,xs,xd,xf,xk,xc,xe,xi,xo,xb⟩:=x
   dsimp only at k2 k3
   have hlen:(l.take hd.len).length=hd.len:=by rw[List.length_take,Nat.min_eq_left h4]
   repeat first|refine aa ?_ |intro
   refine af rfl (KD inferInstance h4 (by omega) (by omega)) ?_
   intro z
   rw[show G1 hd ⟨xp,xs,xd,xf,xk,xc,xe,xi,xo,xb⟩ l out addr port=(if xe then AB (mz (l.take hd.len) 0 (gO out) addr) hd.size xo xi.size xi.proto out addr port else kM (mz (l.take hd.len) 0 (gO out) addr) hd.size hd.proto out port (w4 (l.take hd.len) (gO out)) addr)from rfl]
   obtain⟨b,hb⟩:∃b,l.take hd.len=b:=⟨_,rfl⟩
   rw[hb]at hlen ⊢
   have hw:=lG b (gO out)
   have e0:=Nat.zero_add (gO out)
   repeat first|refine aa ?_ |intro
   rename_i xw
   refine af rfl (Spec.eY xw z.1 (Hw 0 addr out (by omega) (by decide) ha)) ?_
   intro _
   rw[e0]
   obtain⟨b2,e2⟩:∃y,mz b 0 (gO out) addr=y:=⟨_,rfl⟩
   have n2:b2.length=hd.len:=by rw[←e2,yP,hlen]
   rw[e2]
   obtain⟨od,eo⟩:∃y,w4 b (gO out)=y:=⟨_,rfl⟩
   rw[eo]at hw ⊢
   simp only[cY]
   cases xe with
   |true=>
    obtain⟨m1,m2,m3,m4,m5⟩:=k3 rfl
    rw[if_pos rfl]
    repeat first|refine aa ?_ |intro
    refine af rfl (Ti ⟨xp,xs,xd,xf,xk,xc,true,xi,xo,xb⟩ hd.size addr port m1 m2 m3 (by dsimp only;omega) h2 (by omega) ha hp) ?_
    intro _
    simp only[cY]
    repeat first|refine aa ?_ |intro
    exact ae (eZ rfl rfl rfl z rfl (U.sat (az)))
   |false=>
    obtain⟨m1,m2⟩:=k2 rfl
    rw[if_neg (by decide)]
    by_cases g4:hd.proto=1
    ·rw[show kM b2 hd.size hd.proto out port od addr=qj b2 hd.size port from if_pos g4]
     repeat first|refine aa ?_ |intro
     refine af rfl (Hz hd.size port (by omega) (by omega) hp) ?_
     intro _
     simp only[cY]
     repeat first|refine aa ?_ |intro
     exact ae (eZ rfl rfl rfl z rfl (U.sat (az)))
    ·rw[show kM b2 hd.size hd.proto out port od addr=mH b2 hd.size hd.proto out port od addr from if_neg g4]
     rw[←m1]
     repeat first|refine aa ?_ |intro
     refine af rfl (Hy hd.size xp port od addr out (by omega) (by omega) hp hw ha) ?_
     intro _
     simp only[cY]
     repeat first|refine aa ?_ |intro
     exact ae (eZ rfl rfl rfl z rfl (U.sat (az)))
  ·rw[show mg hd l=bm from if_neg g2,if_neg g2]
   repeat first|refine aa ?_ |intro
   exact ae (eZ rfl rfl rfl (none,0) rfl (U.sat (U.none (az))))
 ·rw[kl (rfl:c5 false l=_),if_neg g1,if_neg g1,if_neg g1]
  repeat first|refine aa ?_ |intro
  exact ae (eZ rfl rfl rfl (none,0) rfl (U.sat (U.none (az))))
end
end
section
open Go.RowKit
set_option maxRecDepth 10000
attribute [local irreducible] EK EX ER EN EL ES EG av aV aY
variable {W:World} {F:SL} {X:Cx} {k:List KI} {σ:Env}
section
variable {p:Option Addr} {c i j:Nat} {l:List UInt8}
theorem Tg {l:List UInt8}{i:Nat}:w2 l i=0↔b1 l i=0∧b1 l (i+1)=0:=by
 unfold w2
 omega
set_option maxHeartbeats 2000000 in
theorem Ro [s:Src W F p l.length (aD l)][r:Room W F p l.length c](hd:ee)(h:ni hd l.length):Spec Tryz.prog 44 [.agg (cr hd).toArray,.slice p l.length c] W F (fun _:Unit=>pE (mg hd l) (ic hd l)) (fun _=>F):=by
 refine Spec.of Tryz.func44 rfl Tryz.ntmps44 rfl ?_
 obtain⟨h1,h2,h3,h4,h5,h6,h7,h8⟩:=h
 have e0:ic hd l=_:=rfl
 conv at e0=>rhs;unfold ic
 have sy:=Src.cut s r h3 h4
 have ry:=Room.cut (i:=hd.size) r h4
 have ey:=mI l (i:=hd.size) h4
 rw[sO]at e0
 have eP:kX hd l=_:=rfl
 conv at eP=>rhs;unfold kX
 rw[sO]at eP
 obtain⟨y,hy⟩:∃y,gP l hd.size hd.len=y:=⟨_,rfl⟩
 rw[hy]at sy ry ey e0 eP
 have ey:=ey.symm
 unfold mg
 have vP:=c9 y 0
 have qE:=c9 y 2
 have vQ:=c9 y 4
 have Yh:=cZ y 6
 have Yi:=cZ y 7
 by_cases g1:hd.proto=17
 ·have gI:(hd.proto:Int)=17:=by omega
  rw[if_pos g1]at e0 eP
  rw[e0,eP]
  have e1:om hd.src hd.dst y=_:=rfl
  conv at e1=>rhs;unfold om
  repeat first|refine aa ?_ |intro
  rename_i x2 x4 x7
  rw[ey,gI]
  obtain⟨q,hq⟩:∃q,de p hd.size c 1=q:=⟨_,rfl⟩
  obtain⟨cc,lZ⟩:∃cc,c-hd.size=cc:=⟨_,rfl⟩
  rw[hq,lZ]at ry
  rw[hq]at sy
  rw[hq,lZ]
  haveI:=sy
  haveI:=ry
  by_cases k1:y.length<8
  ·rw[if_pos k1]at e1
   rw[e1,decide_eq_true (show((y.length:Nat):Int)<8 by omega)]
   repeat first|refine aa ?_ |intro
   exact ae (aZ (rs:=[.cell 4 117,.tmp 5]) (v:= .agg (bu bm).toArray) (u:= .int .i64 ((2:Nat):Int)) (vs:=[]) rfl ⟨⟨_,rfl,aT.agg rfl⟩,rfl,trivial⟩ () rfl (U.sat (aS)))
  rw[if_neg k1]at e1
  rw[decide_eq_false (show ¬((y.length:Nat):Int)<8 by omega)]
  repeat first|refine aa ?_ |intro
  refine af rfl (mh (l:=y) (j:=6) inferInstance inferInstance rfl (by omega) _ _ rfl) ?_
  intro _
  by_cases k2:w2 y 4≠y.length
  ·rw[if_pos k2]at e1
   rw[e1]
   repeat first|refine aa ?_ |intro
   exact ae (aZ (rs:=[.cell 4 117,.tmp 5]) (v:= .agg (bu bm).toArray) (u:= .int .i64 ((3:Nat):Int)) (vs:=[]) rfl ⟨⟨_,rfl,aT.agg rfl⟩,rfl,trivial⟩ () rfl (U.sat (aS)))
  rw[if_neg k2]at e1
  have hz:=Tg (l:=y) (i:=6)
  have hp:=uc hd.src hd.dst 17 y
  by_cases k3:w2 y 6=0
  ·rw[if_neg (fun g=>g.1 k3)]at e1
   rw[e1,if_pos rfl,show mY y={bm with proto:=17,sp:=w2 y 0,dp:=w2 y 2,bare:=true}by unfold mY;rw[decide_eq_true k3]]
   obtain⟨k4,OM⟩:=hz.1 k3
   have k5:b1 y 7=0:=OM
   repeat first|refine aa ?_ |intro
   refine aG 11 (gu x7 117*F) rfl rfl rfl ?_
   repeat(first|refine ak ?_ |refine eD ?_)
   refine aC rfl rfl rfl rfl rfl (ud (l:=y) inferInstance (by omega) _) (fun _=>aS) ?_
   intro _
   repeat(first|refine ak ?_ |refine eD ?_)
   refine aC rfl rfl rfl rfl rfl (mh (l:=y) (j:=4) inferInstance inferInstance rfl (by omega) _ _ rfl) (fun _=>aS) ?_
   intro _
   repeat(first|refine ak ?_ |refine eD ?_)
   repeat(first|refine bJ ?_ |(refine bN ?_;intro)|refine bK ?_ |refine bL ?_ |refine bM ?_ |refine eD ?_)
   repeat first|refine aa ?_ |intro
   exact ae (aZ (rs:=[.cell 4 117,.tmp 5]) (v:= .agg (bu {bm with proto:=17,sp:=w2 y 0,dp:=w2 y 2,bare:=true}).toArray) (u:= .int .i64 ((0:Nat):Int)) (vs:=[]) rfl ⟨⟨_,rfl,aT.agg rfl⟩,rfl,trivial⟩ () rfl (U.sat (aS)))
  have eB:mY y={bm with proto:=17,sp:=w2 y 0,dp:=w2 y 2,bare:=false}:=by unfold mY;rw[decide_eq_false k3]
  by_cases k6:ji hd.src hd.dst 17 y=0
  ·rw[if_neg (fun g=>g.2 k6)]at e1
   rw[e1,if_pos rfl,eB]
   by_cases k4:b1 y 6=0
   ·have k5:b1 y 7≠0:=fun g=>k3 (hz.2 ⟨k4,g⟩)
    repeat first|refine aa ?_ |intro
    refine af rfl (rS (l:=y) hd.src hd.dst 17 (by decide) (by omega)) ?_
    intro _
    repeat first|refine aa ?_ |intro
    refine aG 11 (gu x7 117*F) rfl rfl rfl ?_
    repeat(first|refine ak ?_ |refine eD ?_)
    refine aC rfl rfl rfl rfl rfl (ud (l:=y) inferInstance (by omega) _) (fun _=>aS) ?_
    intro _
    repeat(first|refine ak ?_ |refine eD ?_)
    refine aC rfl rfl rfl rfl rfl (mh (l:=y) (j:=4) inferInstance inferInstance rfl (by omega) _ _ rfl) (fun _=>aS) ?_
    intro _
    repeat(first|refine ak ?_ |refine eD ?_)
    repeat(first|refine bJ ?_ |(refine bN ?_;intro)|refine bK ?_ |refine bL ?_ |refine bM ?_ |refine eD ?_)
    repeat first|refine aa ?_ |intro
    exact ae (aZ (rs:=[.cell 4 117,.tmp 5]) (v:= .agg (bu {bm with proto:=17,sp:=w2 y 0,dp:=w2 y 2,bare:=false}).toArray) (u:= .int .i64 ((0:Nat):Int)) (vs:=[]) rfl ⟨⟨_,rfl,aT.agg rfl⟩,rfl,trivial⟩ () rfl (U.sat (aS)))
   ·repeat first|refine aa ?_ |intro
    refine af rfl (rS (l:=y) hd.src hd.dst 17 (by decide) (by omega)) ?_
    intro _
    repeat first|refine aa ?_ |intro
    refine aG 11 (gu x7 117*F) rfl rfl rfl ?_
    repeat(first|refine ak ?_ |refine eD ?_)
    refine aC rfl rfl rfl rfl rfl (ud (l:=y) inferInstance (by omega) _) (fun _=>aS) ?_
    intro _
    repeat(first|refine ak ?_ |refine eD ?_)
    refine aC rfl rfl rfl rfl rfl (mh (l:=y) (j:=4) inferInstance inferInstance rfl (by omega) _ _ rfl) (fun _=>aS) ?_
    intro _
    repeat(first|refine ak ?_ |refine eD ?_)
    repeat(first|refine bJ ?_ |(refine bN ?_;intro)|refine bK ?_ |refine bL ?_ |refine bM ?_ |refine eD ?_)
    repeat first|refine aa ?_ |intro
    exact ae (aZ (rs:=[.cell 4 117,.tmp 5]) (v:= .agg (bu {bm with proto:=17,sp:=w2 y 0,dp:=w2 y 2,bare:=false}).toArray) (u:= .int .i64 ((0:Nat):Int)) (vs:=[]) rfl ⟨⟨_,rfl,aT.agg rfl⟩,rfl,trivial⟩ () rfl (U.sat (aS)))
  ·rw[if_pos ⟨k3,k6⟩]at e1
   rw[e1]
   by_cases k4:b1 y 6=0
   ·have k5:b1 y 7≠0:=fun g=>k3 (hz.2 ⟨k4,g⟩)
    repeat first|refine aa ?_ |intro
    refine af rfl (rS (l:=y) hd.src hd.dst 17 (by decide) (by omega)) ?_
    intro _
    repeat first|refine aa ?_ |intro
    exact ae (aZ (rs:=[.cell 4 117,.tmp 5]) (v:= .agg (bu bm).toArray) (u:= .int .i64 ((4:Nat):Int)) (vs:=[]) rfl ⟨⟨_,rfl,aT.agg rfl⟩,rfl,trivial⟩ () rfl (U.sat (aS)))
   ·repeat first|refine aa ?_ |intro
    refine af rfl (rS (l:=y) hd.src hd.dst 17 (by decide) (by omega)) ?_
    intro _
    repeat first|refine aa ?_ |intro
    exact ae (aZ (rs:=[.cell 4 117,.tmp 5]) (v:= .agg (bu bm).toArray) (u:= .int .i64 ((4:Nat):Int)) (vs:=[]) rfl ⟨⟨_,rfl,aT.agg rfl⟩,rfl,trivial⟩ () rfl (U.sat (aS)))
 rw[if_neg g1]at e0 eP
 by_cases g2:hd.proto=6
 ·have gI:(hd.proto:Int)=6:=by omega
  rw[if_pos g2]at e0 eP
  rw[e0,eP]
  have e1:oe hd.src hd.dst y=_:=rfl
  conv at e1=>rhs;unfold oe
  have Yf:=cZ y 12
  have Yg:=cZ y 13
  have hp:=uc hd.src hd.dst 6 y
  repeat first|refine aa ?_ |intro
  rename_i x2 x4 x7
  rw[ey,gI]
  obtain⟨q,hq⟩:∃q,de p hd.size c 1=q:=⟨_,rfl⟩
  obtain⟨cc,lZ⟩:∃cc,c-hd.size=cc:=⟨_,rfl⟩
  rw[hq,lZ]at ry
  rw[hq]at sy
  rw[hq,lZ]
  haveI:=sy
  haveI:=ry
  by_cases k1:y.length<20
  ·rw[if_pos k1]at e1
   rw[e1,decide_eq_true (show((y.length:Nat):Int)<20 by omega)]
   repeat first|refine aa ?_ |intro
   exact ae (aZ (rs:=[.cell 4 117,.tmp 5]) (v:= .agg (bu bm).toArray) (u:= .int .i64 ((2:Nat):Int)) (vs:=[]) rfl ⟨⟨_,rfl,aT.agg rfl⟩,rfl,trivial⟩ () rfl (U.sat (aS)))
  rw[if_neg k1]at e1
  rw[decide_eq_false (show ¬((y.length:Nat):Int)<20 by omega)]
  by_cases k2:b1 y 12/16*4<20
  ·rw[if_pos (Or.inl k2)]at e1
   rw[e1]
   repeat first|refine aa ?_ |intro
   exact ae (aZ (rs:=[.cell 4 117,.tmp 5]) (v:= .agg (bu bm).toArray) (u:= .int .i64 ((3:Nat):Int)) (vs:=[]) rfl ⟨⟨_,rfl,aT.agg rfl⟩,rfl,trivial⟩ () rfl (U.sat (aS)))
  by_cases k3:b1 y 12/16*4>y.length
  ·rw[if_pos (Or.inr k3)]at e1
   rw[e1]
   repeat first|refine aa ?_ |intro
   exact ae (aZ (rs:=[.cell 4 117,.tmp 5]) (v:= .agg (bu bm).toArray) (u:= .int .i64 ((3:Nat):Int)) (vs:=[]) rfl ⟨⟨_,rfl,aT.agg rfl⟩,rfl,trivial⟩ () rfl (U.sat (aS)))
  rw[if_neg (fun g=>g.elim k2 k3)]at e1
  repeat first|refine aa ?_ |intro
  refine af rfl (rS (l:=y) hd.src hd.dst 6 (by decide) (by omega)) ?_
  intro _
  by_cases k4:ji hd.src hd.dst 6 y≠0
  ·rw[if_pos k4]at e1
   rw[e1]
   repeat first|refine aa ?_ |intro
   exact ae (aZ (rs:=[.cell 4 117,.tmp 5]) (v:= .agg (bu bm).toArray) (u:= .int .i64 ((4:Nat):Int)) (vs:=[]) rfl ⟨⟨_,rfl,aT.agg rfl⟩,rfl,trivial⟩ () rfl (U.sat (aS)))
  rw[if_neg k4]at e1
  rw[e1,if_pos rfl]
  repeat first|refine aa ?_ |intro
  refine aG 11 (gu x7 117*F) rfl rfl rfl ?_
  repeat(first|refine ak ?_ |refine eD ?_)
  refine aC rfl rfl rfl rfl rfl (ud (l:=y) inferInstance (by omega) _) (fun _=>aS) ?_
  intro _
  repeat(first|refine ak ?_ |refine eD ?_)
  refine aC rfl rfl rfl rfl rfl (mh (l:=y) (j:=4) inferInstance inferInstance rfl (by omega) _ _ rfl) (fun _=>aS) ?_
  intro _
  repeat(first|refine ak ?_ |refine eD ?_)
  repeat(first|refine bJ ?_ |(refine bN ?_;intro)|refine bK ?_ |refine bL ?_ |refine bM ?_ |refine eD ?_)
  repeat first|refine aa ?_ |intro
  exact ae (aZ (rs:=[.cell 4 117,.tmp 5]) (v:= .agg (bu (wT y)).toArray) (u:= .int .i64 ((0:Nat):Int)) (vs:=[]) rfl ⟨⟨_,rfl,aT.agg rfl⟩,rfl,trivial⟩ () rfl (U.sat (aS)))
 rw[if_neg g2]at e0 eP
 by_cases g3:hd.proto=1
 ·rw[if_pos g3]at e0
  rw[e0,eP]
  repeat first|refine aa ?_ |intro
  rw[ey]
  haveI:=sy
  haveI:=ry
  refine af rfl (RB (l:=y) (hd.proto:Int) (by omega) hd h2 (by omega)) ?_
  intro _
  repeat first|refine aa ?_ |intro
  exact ae (aZ (rs:=[.cell 4 117,.tmp 5]) (v:= .agg (bu _).toArray) (u:= .int .i64 ((lx y:Nat):Int)) (vs:=[]) rfl ⟨⟨_,rfl,aT.agg rfl⟩,rfl,trivial⟩ () rfl (U.sat (aS)))
 rw[if_neg g3]at e0
 rw[e0]
 repeat first|refine aa ?_ |intro
 exact ae (aZ (rs:=[.cell 4 117,.tmp 5]) (v:= .agg (bu bm).toArray) (u:= .int .i64 ((6:Nat):Int)) (vs:=[]) rfl ⟨⟨_,rfl,aT.agg rfl⟩,rfl,trivial⟩ () rfl (U.sat (aS)))
end
end
end Go.Proofs.YtimekbpkejemoaaGreatDoor
