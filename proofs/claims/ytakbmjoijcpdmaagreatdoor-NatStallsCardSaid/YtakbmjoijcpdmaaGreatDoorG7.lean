/-
  A part of a proof, joined by a program (wip/bundle3.py).
-/
import Derived.OrdersHeld
import Derived.Test.YtakbmjoijcpdmaaGreatDoorG1
import Derived.Test.YtakbmjoijcpdmaaGreatDoorG2
import Derived.Test.YtakbmjoijcpdmaaGreatDoorG3
import Derived.Test.YtakbmjoijcpdmaaGreatDoorG4
import Derived.Test.YtakbmjoijcpdmaaGreatDoorG6
set_option linter.unusedVariables false
set_option linter.unusedSimpArgs false
namespace Go.Proofs.YtakbmjoijcpdmaaGreatDoor
section
open Go.RowKit
set_option maxRecDepth 10000
attribute [local irreducible] EK EX ER EN EL ES EG az ba bf
variable {W:World} {F:SL} {X:Cx} {k:List KI} {σ:Env}
theorem vL (n:Nat):(km n).length=4:=rfl
theorem vK (n:Nat):(ij n).length=2:=rfl
attribute [local simp] mM vL vK
section
variable {p:Option Addr} {c i j:Nat} {l:List UInt8}
theorem xI (s:Src W F p l.length (aA l))(h:2≤l.length)(m:Nat):Spec Tryz.prog 75 [.slice p 2 m] W F (fun _:Unit=> .int .i64 (w2 l 0:Int)) (fun _=>F):=by
 haveI:=Src.pre s h
 have hl:(l.take 2).length=2:=by rw[List.length_take,Nat.min_eq_left h]
 have:=E1 (W:=W) (F:=F) p m (l.take 2) (by omega)
 rw[hl,EB]at this
 have e:w2 (l.take 2) 0=w2 l 0:=by
  have:=xV l (i:=0) (j:=2) (k:=0) (by decide)
  simpa[iW]using this
 rwa[e]at this
theorem fo (n:Nat):IntKind.u8.wrap (n:Int)=(((u8 n).toNat:Nat):Int):=by
 rw[kf,IntKind.wrap_u8]
 omega
theorem Mv (n:Nat):Spec Tryz.prog 132 [.int .u32 (n:Int)] W F (fun q:Option Addr=> .slice q 4 4) (fun q=>ao 5 1 q 4 4 (aA (km n))*F):=by
 refine Spec.of Tryz.func132 rfl Tryz.ntmps132 rfl ?_
 repeat first|refine aa ?_ |intro
 rename_i q
 refine ae (aw rfl rfl q rfl (U.sat ?_))
 rw[show(n:Int)/2^Int.toNat 24=((n/16777216:Nat):Int)from iK n 24,show(n:Int)/2^Int.toNat 16=((n/65536:Nat):Int)from iK n 16,show(n:Int)/2^Int.toNat 8=((n/256:Nat):Int)from iK n 8,fo,fo,fo,fo]
 exact U.refl _
theorem vf (n:Nat):Spec Tryz.prog 133 [.int .i64 (n:Int)] W F (fun q:Option Addr=> .slice q 2 2) (fun q=>ao 5 1 q 2 2 (aA (ij n))*F):=by
 refine Spec.of Tryz.func133 rfl Tryz.ntmps133 rfl ?_
 repeat first|refine aa ?_ |intro
 rename_i q
 refine ae (aw rfl rfl q rfl (U.sat ?_))
 rw[show(n:Int)/2^Int.toNat 8=((n/256:Nat):Int)from iK n 8,fo,fo]
 exact U.refl _
theorem tL [s:Src W F p l.length (aA l)](src dst proto:Nat)(h3:proto<256)(hl:l.length≤65535):Spec Tryz.prog 77 [.int .u32 (src:Int),.int .u32 (dst:Int),.int .i64 (proto:Int),.slice p l.length c] W F (fun _:Unit=> .int .u16 (fP src dst proto l:Int)) (fun _=>F):=by
 refine Spec.of Tryz.func77 rfl Tryz.ntmps77 rfl ?_
 repeat first|refine aa ?_ |intro
 refine ag rfl (Mv src) ?_
 intro q1
 repeat first|refine aa ?_ |intro
 refine ag rfl (Mv dst) ?_
 intro q2
 repeat first|refine aa ?_ |intro
 refine ag rfl (vf l.length) ?_
 intro q3
 repeat first|refine aa ?_ |intro
 rename_i z
 have e3:4+4+2+2+l.length=(km src++km dst++[0,u8 proto]++ij l.length++l).length:=by simp;omega
 have e4:aA (km src)++aA (km dst)++[Value.int IntKind.u8 0,Value.int IntKind.u8 (proto:Int)]++aA (ij l.length)++aA l=aA (km src++km dst++[0,u8 proto]++ij l.length++l):=by
  have:(u8 proto).toNat=proto:=by rw[kf];omega
  simp[aA,this]
 rw[e3,e4]
 refine ag rfl (Am z.1 z.2 _ (by simp;omega)) ?_
 intro _
 repeat first|refine aa ?_ |intro
 exact ae (aw rfl rfl () rfl (U.sat (aZ)))
theorem W7 (i:Nat)(part:Bool)(hl:l.length≤140737488355328)(s:Src W F p l.length (aA l))(r:Room W F p l.length c)(hi:i≤l.length):Spec Tryz.prog 42 [.slice (dO p i c 1) (l.length-i) (c-i),.bool part] W F (fun _:Unit=>rU (mX part (l.drop i)) (dw part (l.drop i))) (fun _=>F):=by
 haveI:=Src.low s r hi
 haveI:=Room.low (i:=i) r
 have h:=Ln (W:=W) (F:=F) (p:=dO p i c 1) (c:=c-i) (l:=l.drop i) part (by rw[List.length_drop];omega)
 rwa[List.length_drop]at h
set_option maxHeartbeats 1000000 in
theorem Xn [s:Src W F p l.length (aA l)][r:Room W F p l.length c](pr:Int)(TB:pr=1)(hd:fh)(hs:hd.size≤60)(hl:l.length≤65535):Spec Tryz.prog 134 [.agg #[.int .i64 pr,.int .u16 0,.int .u16 0,.int .i64 0,.int .i64 0,.int .i64 0,.bool false,.int .i64 0,.int .i64 0,.int .i64 0,.int .i64 0,.int .u32 0,.int .u32 0,.int .i64 0,.bool false],.agg (cN hd).toArray,.slice p l.length c] W F (fun _:Unit=>rV (if nI l=0 then qp hd.size l else bz) (nI l)) (fun _=>F):=by
 refine Spec.of Tryz.func134 rfl Tryz.ntmps134 rfl ?_
 subst TB
 have e0:nI l=_:=rfl
 conv at e0=>rhs;unfold nI
 by_cases g1:l.length<8
 ·rw[if_pos g1]at e0
  rw[e0]
  repeat first|refine aa ?_ |intro
  exact ae (bq (rs:=[.cell 6 129,.tmp 7]) (v:= .agg (bV bz).toArray) (u:= .int .i64 ((2:Nat):Int)) (vs:=[]) rfl ⟨⟨_,rfl,bc.agg rfl⟩,rfl,trivial⟩ () rfl (U.sat (aZ)))
 rw[if_neg g1]at e0
 have hc:=nB l
 repeat first|refine aa ?_ |intro
 refine ag rfl (Am p c l (by omega)) ?_
 intro _
 by_cases g2:cI l≠0
 ·rw[if_pos g2]at e0
  rw[e0]
  repeat first|refine aa ?_ |intro
  exact ae (bq (rs:=[.cell 6 129,.tmp 7]) (v:= .agg (bV bz).toArray) (u:= .int .i64 ((4:Nat):Int)) (vs:=[]) rfl ⟨⟨_,rfl,bc.agg rfl⟩,rfl,trivial⟩ () rfl (U.sat (aZ)))
 rw[if_neg g2]at e0
 have Df:=dH l 0
 have hU:=dH l 1
 have tv:=dK l 4
 repeat first|refine aa ?_ |intro
 rename_i x3 x4 x6 _
 refine aL 11 (iw x3 129*F) rfl rfl rfl ?_
 repeat(first|refine aq ?_ |refine eD ?_)
 repeat(first|refine bQ ?_ |(refine bU ?_;intro)|refine bR ?_ |refine bS ?_ |refine bT ?_ |refine eD ?_)
 repeat first|refine aa ?_ |intro
 refine ag rfl (oB (j:=6) inferInstance inferInstance rfl (by omega) _ _ rfl) ?_
 intro _
 by_cases g3:b1 l 0=0∨b1 l 0=8
 ·rw[if_pos g3]at e0
  by_cases g4:b1 l 1≠0
  ·rw[if_pos g4]at e0
   rw[e0]
   rcases g3 with g3|g3
   all_goals
    repeat first|refine aa ?_ |intro
    exact ae (bq (rs:=[.cell 6 129,.tmp 7]) (v:= .agg (bV bz).toArray) (u:= .int .i64 ((3:Nat):Int)) (vs:=[]) rfl ⟨⟨_,rfl,bc.agg rfl⟩,rfl,trivial⟩ () rfl (U.sat (aZ)))
  rw[if_neg g4]at e0
  have C0:b1 l 1=0:=by omega
  rw[e0,if_pos rfl,show qp hd.size l={bz with proto:=1,kind:=b1 l 0,code:=0,sp:=w2 l 4,dp:=w2 l 4}from if_pos g3,C0]
  rcases g3 with g3|g3
  all_goals
   repeat first|refine aa ?_ |intro
   exact ae (bq (rs:=[.cell 6 129,.tmp 7]) (v:= .agg (bV {bz with proto:=1,kind:=b1 l 0,code:=0,sp:=w2 l 4,dp:=w2 l 4}).toArray) (u:= .int .i64 ((0:Nat):Int)) (vs:=[]) rfl ⟨⟨_,rfl,bc.agg rfl⟩,rfl,trivial⟩ () rfl (U.sat (aZ)))
 rw[if_neg g3]at e0
 have Sb:b1 l 0≠0:=fun g=>g3 (.inl g)
 have Sc:b1 l 0≠8:=fun g=>g3 (.inr g)
 by_cases g5:ur (b1 l 0)
 ·rw[if_pos g5]at e0
  have eI:qp hd.size l=p9 (b1 l 0) (b1 l 1) hd.size (l.drop 8):=if_neg g3
  conv at e0=>rhs;unfold oV
  rcases g5 with g5|g5|g5
  all_goals
   repeat first|refine aa ?_ |intro
   refine ag rfl (W7 8 true (by omega) inferInstance inferInstance (by omega)) ?_
   intro _
   by_cases k0:dw true (l.drop 8)≠0
   ·rw[if_pos k0]at e0
    rw[e0,if_neg k0,lV (rfl:dw true (l.drop 8)=_),if_neg k0]
    repeat first|refine aa ?_ |intro
    exact ae (bq (rs:=[.cell 6 129,.tmp 7]) (v:= .agg (bV bz).toArray) (u:= .int .i64 ((dw true (l.drop 8):Nat):Int)) (vs:=[]) rfl ⟨⟨_,rfl,bc.agg rfl⟩,rfl,trivial⟩ () rfl (U.sat (aZ)))
   rw[if_neg k0]at e0
   have JD:dw true (l.drop 8)=0:=by omega
   obtain⟨k1,k2,k3,k4,k5,k6⟩:=zn JD
   rw[k6,JD]
   have eF:p9 (b1 l 0) (b1 l 1) hd.size (l.drop 8)={bz with proto:=1,kind:=b1 l 0,code:=b1 l 1,err:=true,inner:=bd (l.drop 8),pos:=hd.size+8,sp:=if(bd (l.drop 8)).proto=1 then w2 (l.drop 8) ((bd (l.drop 8)).size+4)else w2 (l.drop 8) (bd (l.drop 8)).size,dp:=if(bd (l.drop 8)).proto=1 then w2 (l.drop 8) ((bd (l.drop 8)).size+4)else w2 (l.drop 8) ((bd (l.drop 8)).size+2)}:=rfl
   have Jk:(bd (l.drop 8)).proto<256:=dH (l.drop 8) 9
   have hlen:(bd (l.drop 8)).len<65536:=dK (l.drop 8) 2
   obtain⟨hi,f0⟩:∃x,bd (l.drop 8)=x:=⟨_,rfl⟩
   rw[f0]at e0 eF k1 k2 k3 k4 Jk hlen ⊢
   have ld:(l.drop 8).length=l.length-8:=by rw[List.length_drop]
   rw[ld]at k3 e0
   have kk:8+hi.size≤l.length:=by omega
   have ey:l.length-(8+hi.size)=(l.drop (8+hi.size)).length:=by rw[List.length_drop]
   have y0:b1 (l.drop 8) hi.size=b1 (l.drop (8+hi.size)) 0:=by rw[vJ,vJ,Nat.add_zero]
   have y1:w2 (l.drop 8) hi.size=w2 (l.drop (8+hi.size)) 0:=by rw[pD,pD,Nat.add_zero]
   have y2:w2 (l.drop 8) (hi.size+2)=w2 (l.drop (8+hi.size)) 2:=by rw[pD,pD,Nat.add_assoc]
   have y4:w2 (l.drop 8) (hi.size+4)=w2 (l.drop (8+hi.size)) 4:=by rw[pD,pD,Nat.add_assoc]
   haveI sy:=Src.low s r kk
   haveI ry:=Room.low (i:=8+hi.size) r
   obtain⟨y,hy⟩:∃y,l.drop (8+hi.size)=y:=⟨_,rfl⟩
   rw[hy]at ey y0 y1 y2 y4 sy ry
   rw[y1,y2,y4]at eF
   rw[y0]at e0
   repeat first|refine aa ?_ |intro
   rename_i x9
   rw[ey]
   obtain⟨q,hq⟩:∃q,dO p (8+hi.size) c 1=q:=⟨_,rfl⟩
   obtain⟨cc,mT⟩:∃cc,c-(8+hi.size)=cc:=⟨_,rfl⟩
   rw[hq,mT]at ry
   rw[hq]at sy
   rw[hq,mT]
   haveI:=sy
   haveI:=ry
   by_cases g2:y.length<8
   ·rw[if_pos (Or.inl (by omega))]at e0
    rw[e0,decide_eq_true (show((y.length:Nat):Int)<8 by omega)]
    repeat first|refine aa ?_ |intro
    exact ae (bq (rs:=[.cell 6 129,.tmp 7]) (v:= .agg (bV bz).toArray) (u:= .int .i64 ((3:Nat):Int)) (vs:=[]) rfl ⟨⟨_,rfl,bc.agg rfl⟩,rfl,trivial⟩ () rfl (U.sat (aZ)))
   rw[decide_eq_false (show ¬((y.length:Nat):Int)<8 by omega)]
   by_cases g3:hi.len<hi.size+8
   ·rw[if_pos (Or.inr g3)]at e0
    rw[e0]
    repeat first|refine aa ?_ |intro
    exact ae (bq (rs:=[.cell 6 129,.tmp 7]) (v:= .agg (bV bz).toArray) (u:= .int .i64 ((3:Nat):Int)) (vs:=[]) rfl ⟨⟨_,rfl,bc.agg rfl⟩,rfl,trivial⟩ () rfl (U.sat (aZ)))
   rw[if_neg (fun g=>g.elim (fun g=>g2 (by omega)) g3)]at e0
   have Df:=dH y 0
   have kC:=dK y 0
   have qn:=dK y 2
   have tv:=dK y 4
   repeat first|refine aa ?_ |intro
   refine aL 9 (Obj x9 124 (cN hi)*(Obj x4 124 (cN hd)*(iw x3 129*F))) rfl rfl rfl ?_
   repeat(first|refine aq ?_ |refine eD ?_)
   repeat(first|refine bQ ?_ |(refine bU ?_;intro)|refine bR ?_ |refine bS ?_ |refine bT ?_ |refine eD ?_)
   by_cases g4:hi.proto=17∨hi.proto=6
   ·rw[if_pos g4]at e0
    rw[e0,if_pos rfl,eI,eF,if_neg (by omega),if_neg (by omega)]
    rcases g4 with g4|g4
    all_goals
     repeat first|refine aa ?_ |intro
     refine aL 11 (iw x3 129*F) rfl rfl rfl ?_
     repeat(first|refine aq ?_ |refine eD ?_)
     refine aI rfl rfl rfl rfl rfl (xI (l:=y) inferInstance (by omega) _) (fun _=>aZ) ?_
     intro _
     repeat(first|refine aq ?_ |refine eD ?_)
     refine aI rfl rfl rfl rfl rfl (oB (l:=y) (j:=4) inferInstance inferInstance rfl (by omega) _ _ rfl) (fun _=>aZ) ?_
     intro _
     repeat(first|refine aq ?_ |refine eD ?_)
     repeat(first|refine bQ ?_ |(refine bU ?_;intro)|refine bR ?_ |refine bS ?_ |refine bT ?_ |refine eD ?_)
     repeat first|refine aa ?_ |intro
     exact ae (bq (rs:=[.cell 6 129,.tmp 7]) (v:= .agg (bV {bz with proto:=1,kind:=b1 l 0,code:=b1 l 1,err:=true,inner:=hi,pos:=hd.size+8,sp:=w2 y 0,dp:=w2 y 2}).toArray) (u:= .int .i64 ((0:Nat):Int)) (vs:=[]) rfl ⟨⟨_,rfl,bc.agg rfl⟩,rfl,trivial⟩ () rfl (U.sat (aZ)))
   rw[if_neg g4]at e0
   by_cases Sd:hi.proto≠1
   ·rw[if_neg (fun g=>Sd g.1)]at e0
    rw[e0]
    repeat first|refine aa ?_ |intro
    exact ae (bq (rs:=[.cell 6 129,.tmp 7]) (v:= .agg (bV bz).toArray) (u:= .int .i64 ((6:Nat):Int)) (vs:=[]) rfl ⟨⟨_,rfl,bc.agg rfl⟩,rfl,trivial⟩ () rfl (U.sat (aZ)))
   have C4:hi.proto=1:=by omega
   by_cases g6:b1 y 0=0∨b1 y 0=8
   ·rw[if_pos ⟨C4,g6⟩]at e0
    rw[e0,if_pos rfl,eI,eF,if_pos C4,if_pos C4]
    rcases g6 with g6|g6
    all_goals
     repeat first|refine aa ?_ |intro
     refine aL 11 (iw x3 129*F) rfl rfl rfl ?_
     repeat(first|refine aq ?_ |refine eD ?_)
     refine aI rfl rfl rfl rfl rfl (oB (l:=y) (j:=6) inferInstance inferInstance rfl (by omega) _ _ rfl) (fun _=>aZ) ?_
     intro _
     repeat(first|refine aq ?_ |refine eD ?_)
     refine aI rfl rfl rfl rfl rfl (oB (l:=y) (j:=6) inferInstance inferInstance rfl (by omega) _ _ rfl) (fun _=>aZ) ?_
     intro _
     repeat(first|refine aq ?_ |refine eD ?_)
     repeat(first|refine bQ ?_ |(refine bU ?_;intro)|refine bR ?_ |refine bS ?_ |refine bT ?_ |refine eD ?_)
     repeat first|refine aa ?_ |intro
     exact ae (bq (rs:=[.cell 6 129,.tmp 7]) (v:= .agg (bV {bz with proto:=1,kind:=b1 l 0,code:=b1 l 1,err:=true,inner:=hi,pos:=hd.size+8,sp:=w2 y 4,dp:=w2 y 4}).toArray) (u:= .int .i64 ((0:Nat):Int)) (vs:=[]) rfl ⟨⟨_,rfl,bc.agg rfl⟩,rfl,trivial⟩ () rfl (U.sat (aZ)))
   rw[if_neg (fun g=>g6 g.2)]at e0
   rw[e0]
   have g61:b1 y 0≠0:=fun g=>g6 (.inl g)
   have g62:b1 y 0≠8:=fun g=>g6 (.inr g)
   repeat first|refine aa ?_ |intro
   exact ae (bq (rs:=[.cell 6 129,.tmp 7]) (v:= .agg (bV bz).toArray) (u:= .int .i64 ((6:Nat):Int)) (vs:=[]) rfl ⟨⟨_,rfl,bc.agg rfl⟩,rfl,trivial⟩ () rfl (U.sat (aZ)))
 obtain⟨g6,g7,g8⟩:=HX g5
 rw[if_neg g5]at e0
 rw[e0]
 repeat first|refine aa ?_ |intro
 exact ae (bq (rs:=[.cell 6 129,.tmp 7]) (v:= .agg (bV bz).toArray) (u:= .int .i64 ((6:Nat):Int)) (vs:=[]) rfl ⟨⟨_,rfl,bc.agg rfl⟩,rfl,trivial⟩ () rfl (U.sat (aZ)))
end
end
section
open Go.RowKit
set_option maxRecDepth 10000
attribute [local irreducible] EK EX ER EN EL ES EG az ba bf
variable {W:World} {F:SL} {X:Cx} {k:List KI} {σ:Env}
attribute [local simp] mM
instance sK.bytes (l:List UInt8)(i:Nat)(b:UInt8):sK (aA l) i 1 0 [.int .u8 ((b.toNat:Nat):Int)] (aA (l.set i b)) (i<l.length):=⟨fun h=>by
 refine⟨by simp;omega,?_⟩
 simp only[Nat.mul_one,Nat.add_zero,List.length_cons,List.length_nil,Nat.zero_add]
 rw[←LQ (by simpa using h)]
 simp[aA,List.map_set]⟩
abbrev dG (w:Option Addr)(q:aP)(out:Bool)(l:List UInt8)(F:SL):SL:=Obj w 322 [.slice q.1 l.length q.2,.bool out]*(ao 5 1 q.1 l.length q.2 (aA l)*F)
section
variable {w:Option Addr} {q:aP} {out:Bool} {l:List UInt8}
theorem ly (i:Nat)(h:i+1<l.length)(hi:i≤9000000):Spec Tryz.prog 244 [.pointer w,.int .i64 (i:Int)] W (dG w q out l F) (fun _:Unit=> .int .u16 (w2 l i:Int)) (fun _=>dG w q out l F):=by
 refine Spec.of Tryz.func244 rfl Tryz.ntmps244 rfl ?_
 have h0:=dH l i
 have h1:=dH l (i+1)
 simp only[dG]
 repeat first|refine aa ?_ |intro
 refine aL 99 (Obj w 322 [.slice q.1 l.length q.2,.bool out]*(ao 5 1 q.1 l.length q.2 (aA l)*F)) rfl rfl rfl ?_
 repeat(first|refine aq ?_ |refine eD ?_)
 repeat first|refine aa ?_ |intro
 exact ae (aw rfl rfl () (by rw[KT h0 h1];rfl) (U.sat (av)))
theorem j1 (i n:Nat)(h:i+1<l.length)(hi:i≤9000000):Spec Tryz.prog 243 [.pointer w,.int .i64 (i:Int),.int .u16 (n:Int)] W (dG w q out l F) (fun _:Unit=> .tuple #[]) (fun _=>dG w q out (st2 l i n) F):=by
 refine Spec.of Tryz.func243 rfl Tryz.ntmps243 rfl ?_
 simp only[dG,dJ]
 unfold st2
 have hs:(l.set i (u8 (n/256))).length=l.length:=List.length_set
 repeat first|refine aa ?_ |intro
 refine aL 19 (Obj w 322 [.slice q.1 l.length q.2,.bool out]*(vA 5 1 q.1 l.length q.2*F)) rfl rfl rfl ?_
 repeat(first|refine aq ?_ |refine eD ?_)
 rw[show(n:Int)/2^Int.toNat 8=((n/256:Nat):Int)from iK n 8,fo,fo]
 repeat(first|refine bQ ?_ |(refine bU ?_;intro)|refine bR ?_ |refine bS ?_ |refine bT ?_ |refine eD ?_)
 exact aN (aO rfl () rfl (U.sat (av)))
theorem WK {a b:Nat}(ha:a<65536)(hb:b<65536):bits .or .u32 (IntKind.u32.wrap ((a:Int)*2^Int.toNat 16)) (b:Int)=((a*65536+b:Nat):Int):=by
 rw[show(a:Int)*2^Int.toNat 16=((a*2^16:Nat):Int)by rw[show Int.toNat 16=16 from rfl];omega,bF.wrap (k:= .u32) (z:=((a*2^16:Nat):Int)) (by simp only[bF];omega),u32_or_nat _ _ (by omega) (by omega)]
 rw[Nat.mul_comm,←Nat.two_pow_add_eq_or_of_lt (show b<2^16 by omega) a]
theorem MJ (i:Nat)(h:i+3<l.length)(hi:i≤1000000):Spec Tryz.prog 240 [.pointer w,.int .i64 (i:Int)] W (dG w q out l F) (fun _:Unit=> .int .u32 (w4 l i:Int)) (fun _=>dG w q out l F):=by
 refine Spec.of Tryz.func240 rfl Tryz.ntmps240 rfl ?_
 have h0:=dK l i
 have h2:=dK l (i+2)
 repeat first|refine aa ?_ |intro
 refine ag rfl (ly i (by omega) (by omega)) ?_
 intro _
 repeat first|refine aa ?_ |intro
 refine ag rfl (ly (i+2) (by omega) (by omega)) ?_
 intro _
 repeat first|refine aa ?_ |intro
 exact ae (aw rfl rfl () (by rw[WK h0 h2];rfl) (U.sat (av)))
theorem MH (i n:Nat)(h:i+3<l.length)(hi:i≤1000000)(hn:n<4294967296):Spec Tryz.prog 241 [.pointer w,.int .i64 (i:Int),.int .u32 (n:Int)] W (dG w q out l F) (fun _:Unit=> .tuple #[]) (fun _=>dG w q out (st2 (st2 l i (n/65536)) (i+2) (n%65536)) F):=by
 refine Spec.of Tryz.func241 rfl Tryz.ntmps241 rfl ?_
 repeat first|refine aa ?_ |intro
 rw[show(n:Int)/2^Int.toNat 16=((n/65536:Nat):Int)from iK n 16,FC (a:=n/65536) (by omega)]
 refine ag rfl (j1 i (n/65536) (by omega) (by omega)) ?_
 intro _
 repeat first|refine aa ?_ |intro
 rw[FD]
 refine ag rfl (j1 (i+2) (n%65536) (by rw[dJ];omega) (by omega)) ?_
 intro _
 repeat first|refine aa ?_ |intro
 exact aN (aO rfl () rfl (U.sat (av)))
theorem vd (i bH now:Nat)(h:i+1<l.length)(hi:i≤1000000)(h1:bH<4294967296)(h2:now<4294967296):Spec Tryz.prog 242 [.pointer w,.int .i64 (i:Int),.int .u32 (bH:Int),.int .u32 (now:Int)] W (dG w q out l F) (fun _:Unit=> .tuple #[]) (fun _=>dG w q out (st2 l i (iB (w2 l i) bH now)) F):=by
 refine Spec.of Tryz.func242 rfl Tryz.ntmps242 rfl ?_
 repeat first|refine aa ?_ |intro
 refine ag rfl (ly i h (by omega)) ?_
 intro _
 repeat first|refine aa ?_ |intro
 refine ag rfl (OC (dK l i) h1 h2) ?_
 intro _
 repeat first|refine aa ?_ |intro
 refine ag rfl (j1 i (iB (w2 l i) bH now) h (by omega)) ?_
 intro _
 repeat first|refine aa ?_ |intro
 exact aN (aO rfl () rfl (U.sat (av)))
theorem Ml (head addr:Nat)(src:Bool)(h:head+19<l.length)(hi:head≤100000)(ha:addr<4294967296):Spec Tryz.prog 219 [.pointer w,.int .i64 (head:Int),.bool src,.int .u32 (addr:Int)] W (dG w q out l F) (fun _:Unit=> .int .u32 (w4 l (head+iU src):Int)) (fun _=>dG w q out (oL l head (head+iU src) addr) F):=by
 refine Spec.of Tryz.func219 rfl Tryz.ntmps219 rfl ?_
 cases src with
 |false=>
  rw[show iU false=16 from rfl]
  have hw:=nS l (head+16)
  repeat first|refine aa ?_ |intro
  refine ag rfl (MJ (head+16) (by omega) (by omega)) ?_
  intro _
  repeat first|refine aa ?_ |intro
  refine ag rfl (MH (head+16) addr (by omega) (by omega) ha) ?_
  intro _
  repeat first|refine aa ?_ |intro
  refine ag rfl (vd (head+10) _ addr (by rw[dJ,dJ];omega) (by omega) hw ha) ?_
  intro _
  repeat first|refine aa ?_ |intro
  exact ae (aw rfl rfl () rfl (U.sat (av)))
 |true=>
  rw[show iU true=12 from rfl]
  have hw:=nS l (head+12)
  repeat first|refine aa ?_ |intro
  refine ag rfl (MJ (head+12) (by omega) (by omega)) ?_
  intro _
  repeat first|refine aa ?_ |intro
  refine ag rfl (MH (head+12) addr (by omega) (by omega) ha) ?_
  intro _
  repeat first|refine aa ?_ |intro
  refine ag rfl (vd (head+10) _ addr (by rw[dJ,dJ];omega) (by omega) hw ha) ?_
  intro _
  repeat first|refine aa ?_ |intro
  exact ae (aw rfl rfl () rfl (U.sat (av)))
theorem Mp (i id:Nat)(h:i+5<l.length)(hi:i≤100000)(hd:id<65536):Spec Tryz.prog 221 [.pointer w,.int .i64 (i:Int),.int .u16 (id:Int)] W (dG w q out l F) (fun _:Unit=> .tuple #[]) (fun _=>dG w q out (sR l i id) F):=by
 refine Spec.of Tryz.func221 rfl Tryz.ntmps221 rfl ?_
 have e2:w2 (st2 l (i+4) id) (i+2)=w2 l (i+2):=AR l (by omega) (by omega)
 have hf:=sW (w2 l (i+2)) (w2 l (i+4)) id
 repeat first|refine aa ?_ |intro
 refine ag rfl (ly (i+4) (by omega) (by omega)) ?_
 intro _
 repeat first|refine aa ?_ |intro
 refine ag rfl (j1 (i+4) id (by omega) (by omega)) ?_
 intro _
 repeat first|refine aa ?_ |intro
 refine ag rfl (ly (i+2) (by rw[dJ];omega) (by omega)) ?_
 intro _
 rw[e2]
 repeat first|refine aa ?_ |intro
 refine ag rfl (sD (dK l (i+2)) (dK l (i+4)) hd) ?_
 intro _
 unfold sR xv
 by_cases hz:ob (w2 l (i+2)) (w2 l (i+4)) id=0
 ·rw[if_pos hz]
  repeat first|refine aa ?_ |intro
  refine ag rfl (j1 (i+2) 65535 (by rw[dJ];omega) (by omega)) ?_
  intro _
  repeat first|refine aa ?_ |intro
  exact aN (aO rfl () rfl (U.sat (av)))
 ·rw[if_neg hz]
  repeat first|refine aa ?_ |intro
  refine ag rfl (j1 (i+2) _ (by rw[dJ];omega) (by omega)) ?_
  intro _
  repeat first|refine aa ?_ |intro
  exact aN (aO rfl () rfl (U.sat (av)))
theorem AW (i:Nat)(hi:i≤1000000):Spec Tryz.prog 246 [.pointer w,.int .i64 (i:Int)] W (dG w q out l F) (fun _:Unit=> .bool (decide (i+2≤l.length))) (fun _=>dG w q out l F):=by
 refine Spec.of Tryz.func246 rfl Tryz.ntmps246 rfl ?_
 simp only[dG]
 by_cases h:i+2≤l.length
 ·rw[decide_eq_true h]
  repeat first|refine aa ?_ |intro
  exact ae (aw rfl rfl () rfl (U.sat (av)))
 ·rw[decide_eq_false h]
  repeat first|refine aa ?_ |intro
  exact ae (aw rfl rfl () rfl (U.sat (av)))
end
end
section
open Go.RowKit
variable {X:Cx} {k:List KI} {σ:Env} {H S:SL} {ops:List Oper} {fuel:Nat} {listed:Array Bool}
instance eK.here (x:Value)(l:List Value):eK (x::l) 0 1 0 x (0≤0):=⟨fun _=>rfl⟩
instance eK.there (x:Value)(l:List Value)(i:Nat)(v:Value)(φ:Prop)[g:eK l i 1 0 v φ]:eK (x::l) (i+1) 1 0 v φ:=⟨fun h=>by
 have:=g.get h
 simpa using this⟩
end
section
open Go.RowKit
set_option maxRecDepth 10000
attribute [local irreducible] EK EX ER EN EL ES EG az ba bf
variable {W:World} {F:SL} {X:Cx} {k:List KI} {σ:Env}
attribute [local simp] mM vL vK
section
variable {p:Option Addr} {c:Nat} {l:List UInt8}
theorem yW [s:Src W F p l.length (aA l)][r:Room W F p l.length c](h:l.length≤1400):Spec Tryz.prog 178 [.slice p l.length c] W F (fun _:Unit=> .slice p l.length c) (fun _=>F):=by
 refine Spec.of Tryz.func178 rfl Tryz.ntmps178 rfl ?_
 repeat first|refine aa ?_ |intro
 rw[show min (l.length:Int) 1400=(l.length:Int)by omega]
 repeat first|refine aa ?_ |intro
 exact ae (aw rfl rfl () rfl (U.sat (av)))
def pB (f t:Nat)(l:List UInt8):List UInt8:=ij f++ij t++ij (8+l.length)++[0,0]++l
def tS (src dst f t:Nat)(l:List UInt8):Nat:=if fP src dst 17 (pB f t l)=0 then 65535 else fP src dst 17 (pB f t l)
def fQ (src dst f t:Nat)(l:List UInt8):List UInt8:=st2 (pB f t l) 6 (tS src dst f t l)
theorem AM (f t:Nat)(l:List UInt8):(pB f t l).length=8+l.length:=by simp[pB];omega
theorem xT (src dst f t:Nat)(l:List UInt8):(fQ src dst f t l).length=8+l.length:=by unfold fQ;rw[dJ,AM]
set_option maxHeartbeats 1000000 in
theorem Ck [s:Src W F p l.length (aA l)][r:Room W F p l.length c](h:l.length≤1400)(src dst f t:Nat)(hf:f<65536)(ht:t<65536):Spec Tryz.prog 127 [.int .u32 (src:Int),.int .u32 (dst:Int),.int .u16 (f:Int),.int .u16 (t:Int),.slice p l.length c] W F
  (fun q:aP=> .slice q.1 (fQ src dst f t l).length q.2) (fun q=>ao 5 1 q.1 (fQ src dst f t l).length q.2 (aA (fQ src dst f t l))*F):=by
 refine Spec.of Tryz.func127 rfl Tryz.ntmps127 rfl ?_
 repeat first|refine aa ?_ |intro
 refine ag rfl (yW h) ?_
 intro _
 repeat first|refine aa ?_ |intro
 refine ag rfl (vf f) ?_
 intro q1
 repeat first|refine aa ?_ |intro
 refine ag rfl (vf t) ?_
 intro q2
 repeat first|refine aa ?_ |intro
 refine ag rfl (vf (8+l.length)) ?_
 intro q3
 repeat first|refine aa ?_ |intro
 rename_i z
 have e3:2+2+2+2+l.length=(pB f t l).length:=by rw[AM]
 have e4:aA (ij f)++aA (ij t)++aA (ij (8+l.length))++[Value.int IntKind.u8 0,Value.int IntKind.u8 0]++aA l=aA (pB f t l):=by simp[aA,pB]
 rw[e4,e3]
 have hlen:=AM f t l
 refine ag rfl (tL src dst 17 (by decide) (by omega)) ?_
 intro _
 have e5:fQ src dst f t l=_:=rfl
 conv at e5=>rhs;unfold fQ tS
 generalize pB f t l=u at*
 have hs:=uV src dst 17 u
 by_cases h0:fP src dst 17 u=0
 ·rw[if_pos h0]at e5
  rw[h0,e5,dJ]
  unfold st2
  have tt:(u.set 6 (u8 (65535/256))).length=u.length:=List.length_set
  repeat first|refine aa ?_ |intro
  rw[show(65535:Int)=((65535:Nat):Int)from rfl,show((65535:Nat):Int)/2^Int.toNat 8=((65535/256:Nat):Int)from iK 65535 8,fo,fo]
  repeat first|refine aa ?_ |intro
  exact ae (aw rfl rfl z rfl (U.sat (av)))
 ·rw[if_neg h0]at e5
  rw[e5,dJ]
  unfold st2
  have tt:(u.set 6 (u8 (fP src dst 17 u/256))).length=u.length:=List.length_set
  repeat first|refine aa ?_ |intro
  rw[show(fP src dst 17 u:Int)/2^Int.toNat 8=((fP src dst 17 u/256:Nat):Int)from iK _ 8,fo,fo]
  repeat first|refine aa ?_ |intro
  exact ae (aw rfl rfl z rfl (U.sat (av)))
def rH (eV proto src dst n:Nat):List UInt8:=[69,0]++ij n++[0,0,64,0,u8 eV,u8 proto,0,0]++km src++km dst
def wc (eV proto src dst n:Nat):List UInt8:=st2 (rH eV proto src dst n) 10 (cI (rH eV proto src dst n))
def eZ (eV proto src dst:Nat)(l:List UInt8):List UInt8:=wc eV proto src dst (20+l.length)++l
theorem Dm (eV proto src dst n:Nat):(rH eV proto src dst n).length=20:=rfl
theorem Dn (eV proto src dst n:Nat):(wc eV proto src dst n).length=20:=by unfold wc;rw[dJ,Dm]
theorem tK (eV proto src dst:Nat)(l:List UInt8):(eZ eV proto src dst l).length=20+l.length:=by unfold eZ;rw[List.length_append,Dn]
theorem E2 {n:Nat}(p:Option Addr)(c:Nat)(l:List UInt8)(hn:n=l.length)(hl:l.length≤1000000)[Src W F p n (aA l)]:Spec Tryz.prog 76 [.slice p n c] W F (fun _:Unit=> .int .u16 (cI l:Int)) (fun _=>F):=by
 subst hn
 exact Am p c l hl
set_option maxHeartbeats 1000000 in
theorem vz [s:Src W F p l.length (aA l)][r:Room W F p l.length c](h:l.length≤1480)(eV proto src dst:Nat)(h1:eV<256)(h2:proto<256):Spec Tryz.prog 74 [.agg #[.int .i64 0,.int .i64 0,.int .i64 (eV:Int),.int .i64 (proto:Int),.int .u32 (src:Int),.int .u32 (dst:Int)],.slice p l.length c] W F
  (fun q:aP=> .tuple #[.slice q.1 (eZ eV proto src dst l).length q.2,.bool true]) (fun q=>ao 5 1 q.1 (eZ eV proto src dst l).length q.2 (aA (eZ eV proto src dst l))*F):=by
 refine Spec.of Tryz.func74 rfl Tryz.ntmps74 rfl ?_
 repeat first|refine aa ?_ |intro
 rename_i q
 have g8:∀n:Nat,(n:Int)/2^Int.toNat 8=((n/256:Nat):Int):=fun n=>iK n 8
 have g16:∀n:Nat,(n:Int)/2^Int.toNat 16=((n/65536:Nat):Int):=fun n=>iK n 16
 have g24:∀n:Nat,(n:Int)/2^Int.toNat 24=((n/16777216:Nat):Int):=fun n=>iK n 24
 have gl:20+(l.length:Int)=((20+l.length:Nat):Int):=by omega
 have gt:(eV:Int)=(((u8 eV).toNat:Nat):Int):=by rw[kf];omega
 have gp:(proto:Int)=(((u8 proto).toNat:Nat):Int):=by rw[kf];omega
 have e:[Value.int .u8 69,Value.int .u8 0,Value.int .u8 (IntKind.u8.wrap ((20+(l.length:Int))/2^Int.toNat 8)),Value.int .u8 (IntKind.u8.wrap (20+(l.length:Int))),Value.int .u8 0,Value.int .u8 0,Value.int .u8 64,Value.int .u8 0,Value.int .u8 (eV:Int),Value.int .u8 (proto:Int),Value.int .u8 0,Value.int .u8 0,
   Value.int .u8 (IntKind.u8.wrap ((src:Int)/2^Int.toNat 24)),Value.int .u8 (IntKind.u8.wrap ((src:Int)/2^Int.toNat 16)),Value.int .u8 (IntKind.u8.wrap ((src:Int)/2^Int.toNat 8)),Value.int .u8 (IntKind.u8.wrap (src:Int)),
   Value.int .u8 (IntKind.u8.wrap ((dst:Int)/2^Int.toNat 24)),Value.int .u8 (IntKind.u8.wrap ((dst:Int)/2^Int.toNat 16)),Value.int .u8 (IntKind.u8.wrap ((dst:Int)/2^Int.toNat 8)),Value.int .u8 (IntKind.u8.wrap (dst:Int))]=aA (rH eV proto src dst (20+l.length)):=by
  rw[gl,g8,g8,g8,g16,g16,g24,g24,fo,fo,fo,fo,fo,fo,fo,fo,fo,fo,gt,gp]
  rfl
 rw[e]
 have e1:eZ eV proto src dst l=st2 (rH eV proto src dst (20+l.length)) 10 (cI (rH eV proto src dst (20+l.length)))++l:=rfl
 have e2:20=(rH eV proto src dst (20+l.length)).length:=(Dm _ _ _ _ _).symm
 have e3:(eZ eV proto src dst l).length=20+l.length:=tK _ _ _ _ _
 rw[e3,e1]
 generalize rH eV proto src dst (20+l.length)=u at*
 have hs:=nB u
 have h2:(st2 u 10 (cI u)).length=20:=by rw[dJ,←e2]
 have h3:(u.set 10 (u8 (cI u/256))).length=20:=by rw[List.length_set,←e2]
 refine ag rfl (E2 q 20 u e2 (by omega)) ?_
 intro _
 repeat first|refine aa ?_ |intro
 rw[show(cI u:Int)/2^Int.toNat 8=((cI u/256:Nat):Int)from iK _ 8,fo,fo]
 repeat first|refine aa ?_ |intro
 rename_i z
 rw[show aA ((u.set 10 (u8 (cI u/256))).set 11 (u8 (cI u)))++aA l=aA (st2 u 10 (cI u)++l)by simp[aA,st2]]
 exact ae (eU rfl rfl rfl z rfl (U.sat (av)))
end
def kW (src dst f t:Nat)(l:List UInt8):List UInt8:=eZ 64 17 src dst (fQ src dst f t l)
theorem RU (src dst f t:Nat)(l:List UInt8):(kW src dst f t l).length=28+l.length:=by unfold kW;rw[tK,xT];omega
section
variable {p:Option Addr} {c:Nat} {l:List UInt8}
theorem NY [s:Src W F p l.length (aA l)][r:Room W F p l.length c](h:l.length≤40)(src dst f t:Nat)(hf:f<65536)(ht:t<65536)(fl:Int):Spec Tryz.prog 73 [.agg #[.int .i64 0,.int .u32 (src:Int),.int .u32 (dst:Int),.int .u16 (f:Int),.int .u16 (t:Int),.int .i64 fl,.slice p l.length c]] W F
  (fun q:aP=> .tuple #[.slice q.1 (fQ src dst f t l).length q.2,.int .i64 17]) (fun q=>ao 5 1 q.1 (fQ src dst f t l).length q.2 (aA (fQ src dst f t l))*F):=by
 refine Spec.of Tryz.func73 rfl Tryz.ntmps73 rfl ?_
 have hm:min l.length 40=l.length:=Nat.min_eq_left h
 repeat first|refine aa ?_ |intro
 rw[hm]
 repeat first|refine aa ?_ |intro
 refine ag rfl (Ck (by omega) src dst f t hf ht) ?_
 intro z
 repeat first|refine aa ?_ |intro
 exact ae (eU rfl rfl rfl z rfl (U.sat (av)))
theorem OD [s:Src W F p l.length (aA l)][r:Room W F p l.length c](h:l.length≤40)(src dst f t:Nat)(hf:f<65536)(ht:t<65536)(fl:Int):Spec Tryz.prog 41 [.agg #[.int .i64 0,.int .u32 (src:Int),.int .u32 (dst:Int),.int .u16 (f:Int),.int .u16 (t:Int),.int .i64 fl,.slice p l.length c]] W F
  (fun q:aP=> .slice q.1 (kW src dst f t l).length q.2) (fun q=>ao 5 1 q.1 (kW src dst f t l).length q.2 (aA (kW src dst f t l))*F):=by
 refine Spec.of Tryz.func41 rfl Tryz.ntmps41 rfl ?_
 have hl:=xT src dst f t l
 repeat first|refine aa ?_ |intro
 refine ag rfl (NY h src dst f t hf ht fl) ?_
 intro z
 repeat first|refine aa ?_ |intro
 refine ag rfl (vz (l:=fQ src dst f t l) (by omega) 64 17 src dst (by decide) (by decide)) ?_
 intro y
 repeat first|refine aa ?_ |intro
 rw[show eZ 64 17 src dst (fQ src dst f t l)=kW src dst f t l from rfl]
 exact ae (aw rfl rfl y rfl (U.sat (av)))
def eQ:List UInt8:=kW 167772161 134744065 5 53 []
theorem Pn:Spec Tryz.prog 19 [.agg #[.bool true,.int .i64 0,.int .i64 0,.int .i64 0,.int .i64 0,.slice none 0 0,.int .i64 0,.int .u8 0,.int .i64 0]] W F
  (fun q:aP=> .slice q.1 eQ.length q.2) (fun q=>ao 5 1 q.1 eQ.length q.2 (aA eQ)*F):=by
 refine Spec.of Tryz.func19 rfl Tryz.ntmps19 rfl ?_
 repeat first|refine aa ?_ |intro
 refine lB rfl (by kernel_rfl) ?_
 repeat(refine cV ?_)
 repeat first|refine aa ?_ |intro
 rw[show(167772161+0%3:Int)=((167772161:Nat):Int)from rfl,show(134744065+0/3%3:Int)=((134744065:Nat):Int)from rfl]
 rename_i x
 haveI:∀H:SL,Room W H none 0 0:=fun H=>⟨fun _ _=>Nat.le_refl _⟩
 haveI:∀H:SL,Room W H none ([]:List UInt8).length 0:=fun H=>⟨fun _ _=>Nat.le_refl _⟩
 haveI:∀H:SL,Src W H none ([]:List UInt8).length (aA []):=fun H=>⟨fun _ _ i v hv=>by simp[aA]at hv,fun _ _ h=>by simp at h⟩
 refine aL 21 (Obj x 25 [.bool true,.int .i64 0,.int .i64 0,.int .i64 0,.int .i64 0,.slice none 0 0,.int .i64 0,.int .u8 0,.int .i64 0]*F) rfl rfl rfl ?_
 repeat(first|refine aq ?_ |refine eD ?_)
 repeat(first|refine bQ ?_ |(refine bU ?_;intro)|refine bR ?_ |refine bS ?_ |refine bT ?_ |refine eD ?_)
 repeat first|refine aa ?_ |intro
 rw[show(5+0%5:Int)=((5:Nat):Int)from rfl,show min 0 20=([]:List UInt8).length from rfl]
 refine ag rfl (OD (p:=none) (c:=0) (l:=[]) (by decide) 167772161 134744065 5 53 (by decide) (by decide) 0) ?_
 intro z
 rw[show kW 167772161 134744065 5 53 []=eQ from rfl]
 repeat first|refine aa ?_ |intro
 exact ae (aw rfl rfl z rfl (U.sat (av)))
end
end
section
open Go.RowKit
set_option maxRecDepth 10000
attribute [local irreducible] EK EX ER EN EL ES EG az ba bf
variable {W:World} {F:SL} {X:Cx} {k:List KI} {σ:Env}
attribute [local simp] mM vL vK
section
variable {p:Option Addr} {c:Nat} {l:List UInt8}
def sd (z:Int):UInt8:=UInt8.ofNat (z%256).toNat
theorem FA (z:Int):IntKind.u8.wrap z=(((sd z).toNat:Nat):Int):=by
 rw[IntKind.wrap_u8]
 unfold sd
 rw[UInt8.toNat_ofNat']
 omega
def pv (f t:Nat)(fl:Int)(l:List UInt8):List UInt8:=ij f++ij t++[0,0,0,0,0,0,0,0,80,sd fl,32,0,0,0,0,0]++l
def gr (src dst f t:Nat)(fl:Int)(l:List UInt8):List UInt8:=st2 (pv f t fl l) 16 (fP src dst 6 (pv f t fl l))
theorem AI (f t:Nat)(fl:Int)(l:List UInt8):(pv f t fl l).length=20+l.length:=by simp[pv];omega
theorem Ft (src dst f t:Nat)(fl:Int)(l:List UInt8):(gr src dst f t fl l).length=20+l.length:=by unfold gr;rw[dJ,AI]
set_option maxHeartbeats 1000000 in
theorem GZ [s:Src W F p l.length (aA l)][r:Room W F p l.length c](h:l.length≤1400)(src dst f t:Nat)(hf:f<65536)(ht:t<65536)(fl:Int):Spec Tryz.prog 128 [.int .u32 (src:Int),.int .u32 (dst:Int),.int .u16 (f:Int),.int .u16 (t:Int),.int .i64 fl,.slice p l.length c] W F
  (fun q:aP=> .slice q.1 (gr src dst f t fl l).length q.2) (fun q=>ao 5 1 q.1 (gr src dst f t fl l).length q.2 (aA (gr src dst f t fl l))*F):=by
 refine Spec.of Tryz.func128 rfl Tryz.ntmps128 rfl ?_
 repeat first|refine aa ?_ |intro
 refine ag rfl (vf f) ?_
 intro q1
 repeat first|refine aa ?_ |intro
 refine ag rfl (vf t) ?_
 intro q2
 repeat first|refine aa ?_ |intro
 refine ag rfl (yW h) ?_
 intro _
 repeat first|refine aa ?_ |intro
 rename_i z
 have e3:2+2+16+l.length=(pv f t fl l).length:=by rw[AI]
 rw[FA]
 have e4:aA (ij f)++aA (ij t)++[Value.int IntKind.u8 0,Value.int IntKind.u8 0,Value.int IntKind.u8 0,Value.int IntKind.u8 0,Value.int IntKind.u8 0,Value.int IntKind.u8 0,Value.int IntKind.u8 0,Value.int IntKind.u8 0,Value.int IntKind.u8 80,Value.int IntKind.u8 (((sd fl).toNat:Nat):Int),Value.int IntKind.u8 32,Value.int IntKind.u8 0,Value.int IntKind.u8 0,Value.int IntKind.u8 0,Value.int IntKind.u8 0,Value.int IntKind.u8 0]++aA l=aA (pv f t fl l):=by simp[aA,pv]
 rw[e4,e3]
 have hlen:=AI f t fl l
 refine ag rfl (tL src dst 6 (by decide) (by omega)) ?_
 intro _
 have e5:gr src dst f t fl l=st2 (pv f t fl l) 16 (fP src dst 6 (pv f t fl l)):=rfl
 rw[e5,dJ]
 unfold st2
 generalize pv f t fl l=u at*
 have hs:=uV src dst 6 u
 have tt:(u.set 16 (u8 (fP src dst 6 u/256))).length=u.length:=List.length_set
 repeat first|refine aa ?_ |intro
 rw[show(fP src dst 6 u:Int)/2^Int.toNat 8=((fP src dst 6 u/256:Nat):Int)from iK _ 8,fo,fo]
 repeat first|refine aa ?_ |intro
 exact ae (aw rfl rfl z rfl (U.sat (av)))
def oU (r:Bool)(id:Nat)(l:List UInt8):List UInt8:=[if r then 0 else 8,0,0,0]++ij id++[0,0]++l
def mP (r:Bool)(id:Nat)(l:List UInt8):List UInt8:=st2 (oU r id l) 2 (cI (oU r id l))
theorem CM (r:Bool)(id:Nat)(l:List UInt8):(oU r id l).length=8+l.length:=by simp[oU];omega
theorem CN (r:Bool)(id:Nat)(l:List UInt8):(mP r id l).length=8+l.length:=by unfold mP;rw[dJ,CM]
set_option maxHeartbeats 1000000 in
theorem A5 [s:Src W F p l.length (aA l)][r:Room W F p l.length c](h:l.length≤1400)(b:Bool)(id:Nat):Spec Tryz.prog 129 [.bool b,.int .u16 (id:Int),.slice p l.length c] W F
  (fun q:aP=> .slice q.1 (mP b id l).length q.2) (fun q=>ao 5 1 q.1 (mP b id l).length q.2 (aA (mP b id l))*F):=by
 refine Spec.of Tryz.func129 rfl Tryz.ntmps129 rfl ?_
 have e5:mP b id l=st2 (oU b id l) 2 (cI (oU b id l)):=rfl
 rw[e5,dJ]
 have hlen:=CM b id l
 have e4:[Value.int IntKind.u8 (if b=true then 0 else 8),Value.int IntKind.u8 0,Value.int IntKind.u8 0,Value.int IntKind.u8 0,Value.int IntKind.u8 (((u8 (id/256)).toNat:Nat):Int),Value.int IntKind.u8 (((u8 id).toNat:Nat):Int),Value.int IntKind.u8 0,Value.int IntKind.u8 0]++aA l=aA (oU b id l):=by cases b<;>simp[aA,oU,ij]
 have e3:8+l.length=(oU b id l).length:=by rw[CM]
 cases b
 all_goals
  simp only[Bool.false_eq_true,if_false,if_true]at e4
  repeat first|refine aa ?_ |intro
  refine ag rfl (yW h) ?_
  intro _
  repeat first|refine aa ?_ |intro
  rename_i z
  rw[show(id:Int)/2^Int.toNat 8=((id/256:Nat):Int)from iK _ 8,fo,fo,e4,e3]
  generalize oU _ id l=u at*
  refine ag rfl (E2 z.1 z.2 u rfl (by omega)) ?_
  intro _
  unfold st2
  have hs:=nB u
  have tt:(u.set 2 (u8 (cI u/256))).length=u.length:=List.length_set
  repeat first|refine aa ?_ |intro
  rw[show(cI u:Int)/2^Int.toNat 8=((cI u/256:Nat):Int)from iK _ 8,fo,fo]
  repeat first|refine aa ?_ |intro
  exact ae (aw rfl rfl z rfl (U.sat (av)))
set_option maxHeartbeats 1000000 in
theorem A6 [s:Src W F p l.length (aA l)][r:Room W F p l.length c](h:l.length≤1400)(kd cd:Int):Spec Tryz.prog 130 [.int .i64 kd,.int .i64 cd,.slice p l.length c] W F
  (fun q:{q:aP×List UInt8//q.2.length=8+l.length}=> .slice q.1.1.1 q.1.2.length q.1.1.2) (fun q=>ao 5 1 q.1.1.1 q.1.2.length q.1.1.2 (aA q.1.2)*F):=by
 refine Spec.of Tryz.func130 rfl Tryz.ntmps130 rfl ?_
 repeat first|refine aa ?_ |intro
 refine ag rfl (yW h) ?_
 intro _
 repeat first|refine aa ?_ |intro
 rename_i z
 obtain⟨u,hu⟩:∃u:List UInt8,u=[sd kd,sd cd,0,0,0,0,0,0]++l:=⟨_,rfl⟩
 have hlen:u.length=8+l.length:=by rw[hu];simp;omega
 have e4:[Value.int IntKind.u8 (((sd kd).toNat:Nat):Int),Value.int IntKind.u8 (((sd cd).toNat:Nat):Int),Value.int IntKind.u8 0,Value.int IntKind.u8 0,Value.int IntKind.u8 0,Value.int IntKind.u8 0,Value.int IntKind.u8 0,Value.int IntKind.u8 0]++aA l=aA u:=by rw[hu];simp[aA]
 rw[FA,FA,e4,←hlen]
 refine ag rfl (E2 z.1 z.2 u rfl (by omega)) ?_
 intro _
 have hs:=nB u
 have tt:(u.set 2 (u8 (cI u/256))).length=u.length:=List.length_set
 repeat first|refine aa ?_ |intro
 rw[show(cI u:Int)/2^Int.toNat 8=((cI u/256:Nat):Int)from iK _ 8,fo,fo]
 repeat first|refine aa ?_ |intro
 have h2:((u.set 2 (u8 (cI u/256))).set 3 (u8 (cI u))).length=u.length:=by simp
 exact ae (aw rfl rfl ⟨(z,(u.set 2 (u8 (cI u/256))).set 3 (u8 (cI u))),by dsimp only;omega⟩ (by dsimp only;rw[h2]) (U.sat (by dsimp only;rw[h2];exact av)))
end
end
section
open Go.RowKit
set_option maxRecDepth 10000
attribute [local irreducible] EK EX ER EN EL ES EG az ba bf
variable {W:World} {F:SL} {X:Cx} {k:List KI} {σ:Env}
attribute [local simp] mM vL vK
section
variable {p:Option Addr} {c:Nat} {l:List UInt8}
abbrev pI:=aP×List UInt8
abbrev pI.val (q:pI):Value:= .slice q.1.1 q.2.length q.1.2
abbrev pI.row (q:pI):SL:=ao 5 1 q.1.1 q.2.length q.1.2 (aA q.2)
def um (z:Int)(m:Nat):Nat:=(z%18446744073709551616).toNat%m
theorem mr (z:Int){m:Nat}(h:1≤m):um z m<m:=Nat.mod_lt _ h
theorem AN (z:Int){m:Nat}(h:1≤m):(IntKind.u64.wrap z).tmod (m:Int)=((um z m:Nat):Int):=by
 rw[IntKind.wrap_u64,Int.tmod_eq_emod_of_nonneg (by omega)]
 unfold um
 rw[Int.natCast_emod,Int.toNat_of_nonneg (by omega)]
theorem se (z:Int){m:Nat}(h:1≤m)(hm:m≤1000000):IntKind.i64.wrap ((IntKind.u64.wrap z).tmod (m:Int))=((um z m:Nat):Int):=by
 have:=mr z h
 rw[AN z h,bF.wrap (k:= .i64) (by simp only[bF];omega)]
structure NX (wt:Int)(src dst f t:Nat)(fl:Int)(l b:List UInt8)(pr:Nat):Prop where
 ge:8≤b.length
 le:b.length≤200
 lt:pr<256
 YI:um wt 7=0→b=fQ src dst f t l∧pr=17
 tcp:um wt 7=1→b=gr src dst f t fl l∧pr=6
 Rl:um wt 7=2→b=mP false f l∧pr=1
set_option maxHeartbeats 2000000 in
theorem NZ [s:Src W F p l.length (aA l)][r:Room W F p l.length c](h:l.length≤40)(wt:Int)(src dst f t:Nat)(hf:f<65536)(ht:t<65536)(fl:Int):Spec Tryz.prog 73 [.agg #[.int .i64 wt,.int .u32 (src:Int),.int .u32 (dst:Int),.int .u16 (f:Int),.int .u16 (t:Int),.int .i64 fl,.slice p l.length c]] W F
  (fun q:{q:pI×Nat//NX wt src dst f t fl l q.1.2 q.2}=> .tuple #[q.1.1.val,.int .i64 (q.1.2:Int)]) (fun q=>q.1.1.row*F):=by
 refine Spec.of Tryz.func73 rfl Tryz.ntmps73 rfl ?_
 have hm:min l.length 40=l.length:=Nat.min_eq_left h
 repeat first|refine aa ?_ |intro
 rename_i bx
 rw[hm]
 repeat first|refine aa ?_ |intro
 have hum:=mr wt (m:=7) (by decide)
 rw[show IntKind.i64.wrap ((IntKind.u64.wrap wt).tmod 7)=((um wt 7:Nat):Int)from se wt (m:=7) (by decide) (by decide)]
 generalize hg:um wt 7=g at*
 obtain rfl|rfl|rfl|rfl|rfl|rfl|rfl:g=0∨g=1∨g=2∨g=3∨g=4∨g=5∨g=6:=by omega
 ·repeat first|refine aa ?_ |intro
  refine ag rfl (Ck (by omega) src dst f t hf ht) ?_
  intro z
  repeat first|refine aa ?_ |intro
  have hl:=xT src dst f t l
  exact ae (eU rfl rfl rfl ⟨((z,fQ src dst f t l),17),⟨by dsimp only;omega,by dsimp only;omega,by dsimp only;omega,fun _=>⟨rfl,rfl⟩,fun h=>by omega,fun h=>by omega⟩⟩ rfl (U.sat (av)))
 ·repeat first|refine aa ?_ |intro
  refine ag rfl (GZ (by omega) src dst f t hf ht fl) ?_
  intro z
  repeat first|refine aa ?_ |intro
  have hl:=Ft src dst f t fl l
  exact ae (eU rfl rfl rfl ⟨((z,gr src dst f t fl l),6),⟨by dsimp only;omega,by dsimp only;omega,by dsimp only;omega,fun h=>by omega,fun _=>⟨rfl,rfl⟩,fun h=>by omega⟩⟩ rfl (U.sat (av)))
 ·repeat first|refine aa ?_ |intro
  refine ag rfl (A5 (by omega) false f) ?_
  intro z
  repeat first|refine aa ?_ |intro
  have hl:=CN false f l
  exact ae (eU rfl rfl rfl ⟨((z,mP false f l),1),⟨by dsimp only;omega,by dsimp only;omega,by dsimp only;omega,fun h=>by omega,fun h=>by omega,fun _=>⟨rfl,rfl⟩⟩⟩ rfl (U.sat (av)))
 ·repeat first|refine aa ?_ |intro
  refine ag rfl (A5 (by omega) true f) ?_
  intro z
  repeat first|refine aa ?_ |intro
  have hl:=CN true f l
  exact ae (eU rfl rfl rfl ⟨((z,mP true f l),1),⟨by dsimp only;omega,by dsimp only;omega,by dsimp only;omega,fun h=>by omega,fun h=>by omega,fun h=>by omega⟩⟩ rfl (U.sat (av)))
 ·repeat first|refine aa ?_ |intro
  refine aL 99 (Obj bx 123 [.int .i64 wt,.int .u32 (src:Int),.int .u32 (dst:Int),.int .u16 (f:Int),.int .u16 (t:Int),.int .i64 fl,.slice p l.length c]*1) rfl rfl rfl ?_
  repeat(first|refine aq ?_ |refine eD ?_)
  refine aI rfl rfl rfl rfl rfl (Ck (by omega) dst src t f ht hf) (fun _=>av) ?_
  intro z
  repeat(first|refine aq ?_ |refine eD ?_)
  have hl:=xT dst src t f l
  refine aI rfl rfl rfl rfl rfl (vz (l:=fQ dst src t f l) (by omega) 9 17 dst src (by decide) (by decide)) (fun _=>av) ?_
  intro y
  have hp:=tK 9 17 dst src (fQ dst src t f l)
  repeat(first|refine bQ ?_ |(refine bU ?_;intro)|refine bR ?_ |refine bS ?_ |refine bT ?_ |refine eD ?_)
  repeat first|refine aa ?_ |intro
  refine ag rfl (A6 (l:=eZ 9 17 dst src (fQ dst src t f l)) (by omega) 3 (fl.tmod 16)) ?_
  intro ⟨q,hq⟩
  repeat first|refine aa ?_ |intro
  exact ae (eU rfl rfl rfl ⟨(q,1),⟨by dsimp only;omega,by dsimp only;omega,by dsimp only;omega,fun h=>by omega,fun h=>by omega,fun h=>by omega⟩⟩ rfl (U.sat (av)))
 ·repeat first|refine aa ?_ |intro
  refine aL 99 (Obj bx 123 [.int .i64 wt,.int .u32 (src:Int),.int .u32 (dst:Int),.int .u16 (f:Int),.int .u16 (t:Int),.int .i64 fl,.slice p l.length c]*1) rfl rfl rfl ?_
  repeat(first|refine aq ?_ |refine eD ?_)
  refine aI rfl rfl rfl rfl rfl (GZ (by omega) dst src t f ht hf 2) (fun _=>av) ?_
  intro z
  repeat(first|refine aq ?_ |refine eD ?_)
  have hl:=Ft dst src t f 2 l
  refine aI rfl rfl rfl rfl rfl (vz (l:=gr dst src t f 2 l) (by omega) 9 6 dst src (by decide) (by decide)) (fun _=>av) ?_
  intro y
  have hp:=tK 9 6 dst src (gr dst src t f 2 l)
  repeat(first|refine bQ ?_ |(refine bU ?_;intro)|refine bR ?_ |refine bS ?_ |refine bT ?_ |refine eD ?_)
  repeat first|refine aa ?_ |intro
  obtain⟨j,hj⟩:∃j,j=28+l.length/2:=⟨_,rfl⟩
  rw[←hj]
  have I3:j=((eZ 9 6 dst src (gr dst src t f 2 l)).take j).length:=by rw[List.length_take];omega
  rw[show Value.slice y.1 j y.2=Value.slice y.1 ((eZ 9 6 dst src (gr dst src t f 2 l)).take j).length y.2 by rw[←I3]]
  refine ag rfl (A6 (s:=Src.pre inferInstance (by omega)) (r:=Room.pre inferInstance) (by omega) 11 0) ?_
  intro ⟨q,hq⟩
  repeat first|refine aa ?_ |intro
  exact ae (eU rfl rfl rfl ⟨(q,1),⟨by dsimp only;omega,by dsimp only;omega,by dsimp only;omega,fun h=>by omega,fun h=>by omega,fun h=>by omega⟩⟩ rfl (U.sat (av)))
 ·repeat first|refine aa ?_ |intro
  refine aL 99 (Obj bx 123 [.int .i64 wt,.int .u32 (src:Int),.int .u32 (dst:Int),.int .u16 (f:Int),.int .u16 (t:Int),.int .i64 fl,.slice p l.length c]*1) rfl rfl rfl ?_
  repeat(first|refine aq ?_ |refine eD ?_)
  refine aI rfl rfl rfl rfl rfl (A5 (by omega) false t) (fun _=>av) ?_
  intro z
  repeat(first|refine aq ?_ |refine eD ?_)
  have hl:=CN false t l
  refine aI rfl rfl rfl rfl rfl (vz (l:=mP false t l) (by omega) 9 1 dst src (by decide) (by decide)) (fun _=>av) ?_
  intro y
  have hp:=tK 9 1 dst src (mP false t l)
  repeat(first|refine bQ ?_ |(refine bU ?_;intro)|refine bR ?_ |refine bS ?_ |refine bT ?_ |refine eD ?_)
  repeat first|refine aa ?_ |intro
  refine ag rfl (A6 (l:=eZ 9 1 dst src (mP false t l)) (by omega) 3 1) ?_
  intro ⟨q,hq⟩
  repeat first|refine aa ?_ |intro
  exact ae (eU rfl rfl rfl ⟨(q,1),⟨by dsimp only;omega,by dsimp only;omega,by dsimp only;omega,fun h=>by omega,fun h=>by omega,fun h=>by omega⟩⟩ rfl (U.sat (av)))
structure OH (wt:Int)(src dst f t:Nat)(fl:Int)(l b:List UInt8):Prop where
 ge:28≤b.length
 le:b.length≤220
 YI:um wt 7=0→b=kW src dst f t l
 tcp:um wt 7=1→b=eZ 64 6 src dst (gr src dst f t fl l)
 Rl:um wt 7=2→b=eZ 64 1 src dst (mP false f l)
theorem OE [s:Src W F p l.length (aA l)][r:Room W F p l.length c](h:l.length≤40)(wt:Int)(src dst f t:Nat)(hf:f<65536)(ht:t<65536)(fl:Int):Spec Tryz.prog 41 [.agg #[.int .i64 wt,.int .u32 (src:Int),.int .u32 (dst:Int),.int .u16 (f:Int),.int .u16 (t:Int),.int .i64 fl,.slice p l.length c]] W F
  (fun q:{q:pI//OH wt src dst f t fl l q.2}=>q.1.val) (fun q=>q.1.row*F):=by
 refine Spec.of Tryz.func41 rfl Tryz.ntmps41 rfl ?_
 repeat first|refine aa ?_ |intro
 refine ag rfl (NZ h wt src dst f t hf ht fl) ?_
 intro ⟨⟨⟨z,b⟩,pr⟩,hz⟩
 obtain⟨h1,h2,h3,h4,h5,h6⟩:=hz
 dsimp only at h1 h2 h3 h4 h5 h6
 repeat first|refine aa ?_ |intro
 refine ag rfl (vz (l:=b) (by omega) 64 pr src dst (by decide) h3) ?_
 intro y
 repeat first|refine aa ?_ |intro
 have hl:=tK 64 pr src dst b
 exact ae (aw rfl rfl ⟨(y,eZ 64 pr src dst b),⟨by dsimp only;omega,by dsimp only;omega,fun e=>by obtain⟨rfl,rfl⟩:=h4 e;rfl,fun e=>by obtain⟨rfl,rfl⟩:=h5 e;rfl,fun e=>by obtain⟨rfl,rfl⟩:=h6 e;rfl⟩⟩ rfl (U.sat (av)))
end
end
section
open Go.RowKit
variable {X:Cx} {k:List KI} {σ:Env} {H S:SL} {ops:List Oper} {fuel L:Nat} {listed:Array Bool}
def vl (X:Cx)(k:List KI)(ops:List Oper)(S:SL)(L fuel:Nat)(listed:Array Bool)(σ:Env)(H:SL):List Nat→Prop
 |[]=>True
 |i::l=>EI X k ops S L fuel listed i σ H∧vl X k ops S L fuel listed σ H l
theorem vl.all:∀ {l:List Nat},vl X k ops S L fuel listed σ H l→∀i∈l,EI X k ops S L fuel listed i σ H
 |[],_,i,hi=>by cases hi
 |j::l,h,i,hi=>by
  rcases List.mem_cons.1 hi with rfl|hi
  ·exact h.1
  ·exact vl.all h.2 i hi
theorem fA {i:Nat}{l:List Nat}(h:vl X k ops S L fuel listed σ H (i::l))(hr:Region.ready .any ops.toArray listed=i::l:=by decide+kernel):EG X k ops S L (fuel+1) listed σ H:=fun a w ha hw=>
 ⟨fun h0=>(by rw[hr]at h0;cases h0),fun j hj=>by
  rw[hr]at hj
  exact h.all j hj a w ha hw⟩
theorem b7 {σ':Env}{H':SL}(h:EG X k ops S L fuel listed σ' H')(hw:Env.within σ σ')(he:U H H'):EG X k ops S L fuel listed σ H:=fun a w ha hs=>h a w (ha.within hw) (he.sat _ hs)
theorem A0 {φ:Prop}(h:∀w,Sat X.W w H→φ)(q:φ→EK X k σ H):EK X k σ H:=fun a w ha hs=>q (h w hs) a w ha hs
theorem fy {γ:Type}{fuel':Nat}{ls':Array Bool}(φ:γ→Prop)(σ':γ→Env)(H':γ→SL)(h1:∀g,φ g→EG X k ops S L fuel' ls' (σ' g) (H' g))(h2:(∀g,φ g→EG X k ops S L fuel' ls' (σ' g) (H' g))→EG X k ops S L fuel listed σ H):EG X k ops S L fuel listed σ H:=h2 h1
theorem b9 {α:Type}{r:α→Value}{H':α→SL}{d:Nat}{op:Op}{ty:TypeId}{pos:String}{aft:Array Edge}{g:Option (Nat×Bool)}{i:Nat}(hi:ops.toArray[i]? =some ⟨some d,op,ty,pos,aft,g⟩)(hd:Nat.blt d X.N=true)
  (hg:rD ops σ g=some true) (hv:ba X σ H ⟨some d,op,ty,pos,aft,none⟩ r H') {ls:Array Bool} (hl:listed.setIfInBounds i true=ls)
  (hS:∀x,U (H' x) S) (h:∀x,EG X k ops S L fuel ls ((d,r x)::σ) (H' x)):EI X k ops S L fuel listed i σ H:=by
 subst hl
 intro a w ha hw
 obtain⟨x,w',h1,h2⟩:=hv a w ha hw
 have C7:(execOp a.eval ⟨some d,op,ty,pos,aft,g⟩).run X.P w= .ok (.value (r x)) w':=h1
 unfold wpOp
 rw[hi]
 simp only[vZ ha hg,Oper.wp,C7,Oper.upon,if_true]
 exact .inl ⟨fun _=>(hS x).sat _ h2,h x _ _ (ha.put hd _) h2⟩
end
section
open Go.RowKit
section
variable {P:Program} {md:Region.Mode} {ops:Array Oper} {Q:Exit→Act→World→Prop} {S:World→Prop} {L:Nat}
theorem HL {listed:Array Bool}{i:Nat}(o6:i≠L):lQ ops (listed.setIfInBounds i true) L↔lQ ops listed L:=by
 unfold lQ
 rw[Array.getD_eq_getD_getElem?,Array.getD_eq_getD_getElem?,Array.getElem?_setIfInBounds_ne o6]
theorem ZF {i:Nat}{oi:Oper}{v:Value}(hi:ops[i]? =some oi)(kB:∀(j:Nat) (o:Oper) cs b,ops[j]? =some o→o.op≠ .select cs b)
  (hQ:∀c a w,Q (.panic c) (a.put oi.dst v) w→Q (.panic c) a w) (o6:i≠L):
  ∀(fuel:Nat) (listed:Array Bool) (a:Act) (w:World),
   (∀j oj,ops[j]? =some oj→j≠i→listed.getD j true=false→(∀e∈oj.after,Region.binds md e=true→e.on≠i)→oi.apart ops oj=true)→
   i∈Region.ready md ops listed→YieldsIf P ops (fun _=>True) oi v a→(¬lQ ops listed L→S w)→
   wpAnyL P md ops Q S L fuel (listed.setIfInBounds i true) (a.put oi.dst v) w→wpAnyL P md ops Q S L (fuel+1) listed a w:=by
 intro fuel
 induction fuel with
 |zero=>
  intro listed a w _ hr hy hS H
  refine⟨fun h=>(by rw[h]at hr;cases hr),fun j hj=> ?_⟩
  by_cases eT:j=i
  ·subst eT;exact hy.wpOp hi trivial ⟨fun h=>hS h.2,H⟩
  ·have:=ready_mono hj eT
   rw[H.1]at this
   cases this
 |succ fuel ih=>
  intro listed a w mZ hr hy hS H
  refine⟨fun h=>(by rw[h]at hr;cases hr),fun j hj=> ?_⟩
  by_cases eT:j=i
  ·subst eT;exact hy.wpOp hi trivial ⟨fun h=>hS h.2,H⟩
  ·have h1:=H.2 j (ready_mono hj eT)
   obtain⟨nc,oj,jO,iC⟩:=mem_ready.1 hj
   have tj:∀e∈oj.after,Region.binds md e=true→e.on≠i:=fun e he hb heq=>by
    have h1:=iC e he hb
    rw[heq,Iw (mem_ready.1 hr).1]at h1
    cases h1
   have h2:=wpOp_putIf jO (mZ j oj jO eT nc tj) (fun cs b=>kB i oi cs b hi) (fun cs b=>kB j oj cs b jO) hQ hy h1
   have s6:∀k ok,ops[k]? =some ok→k≠i→(listed.setIfInBounds j true).getD k true=false→
     (∀e∈ok.after,Region.binds md e=true→e.on≠i)→oi.apart ops ok=true:=fun k ok hk te jS hY=>by
    refine mZ k ok hk te ?_ hY
    by_cases l5:j=k
    ·subst l5;exact nc
    ·rw[getD_set_ne true l5]at jS;exact jS
   refine wpOp_mono (fun a' w' h3=>⟨fun e=>h3.2.1 ⟨e.1,fun d=>e.2 ((HL o6).1 d)⟩,ih (listed.setIfInBounds j true) a' w' s6 (ready_mono hr (Ne.symm eT)) h3.1 (fun hd=>h3.2.1 ⟨?_,?_⟩) ?_⟩) h2
   ·rw[Array.setIfInBounds_comm _ _ eT]
    exact h3.2.2
   ·intro e
    refine hd ?_
    subst e
    exact⟨⟨_,jO⟩,by
     have ck:j<listed.size:=by
      rcases Nat.lt_or_ge j listed.size with g|g
      ·exact g
      ·simp[Array.getElem?_eq_none g]at nc
     simp[ck]⟩
   ·intro d
    refine hd ?_
    have hd:=(HL o6).1 d
    refine⟨hd.1,?_⟩
    by_cases wy:j=L
    ·subst wy
     have ck:j<listed.size:=by
      rcases Nat.lt_or_ge j listed.size with g|g
      ·exact g
      ·simp[Array.getElem?_eq_none g]at nc
     simp[ck]
    ·rw[Array.getD_eq_getD_getElem?,Array.getElem?_setIfInBounds_ne wy,←Array.getD_eq_getD_getElem?]
     exact hd.2
end
variable {X:Cx} {k:List KI} {σ:Env} {H S:SL} {ops:List Oper} {fuel L:Nat} {listed:Array Bool}
theorem RC {o:Oper}{v:Value}{a:Act}(h:sS σ o.op=some v)(ha:Fits X.N a σ)(w:World):(execOp a.eval o).run X.P w= .ok (.value v) w:=
 gP (X:={X with W:=w}) (H:=1) h a w ha (Sat.start w)
theorem aY (n:Nat){d:Nat}{v:Value}{op:Op}{ty:TypeId}{pos:String}{aft:Array Edge}{i:Nat}(hn:mf listed.toList n 0=some i)(hi:ops.toArray[i]? =some ⟨some d,op,ty,pos,aft,none⟩)(hd:Nat.blt d X.N=true)
  (hv:sS σ op=some v)
  (hb:(Region.noSelect ops.toArray&&Region.free .any ops.toArray listed i&&(Region.ready .any ops.toArray listed).contains i&& !(i==L))=true) (hS:U H S) {ls:Array Bool} (hl:listed.setIfInBounds i true=ls)
  (h:EG X k ops S L fuel ls ((d,v)::σ) H):EG X k ops S L (fuel+1) listed σ H:=by
 subst hl
 simp only[Bool.and_eq_true,Bool.not_eq_true',beq_eq_false_iff_ne]at hb
 obtain⟨⟨⟨hs,hf⟩,hr⟩,o6⟩:=hb
 intro a w ha hw
 exact ZF hi (Region.noSelect_spec hs) (fun _ _ _ h=>h.elim) o6 fuel listed a w (Region.free_spec hi hf) (by simpa using hr) (.inl ⟨rfl,fun w _=>RC (o:=⟨some d,op,ty,pos,aft,none⟩) hv ha w⟩) (fun _=>hS.sat _ hw) (h _ _ (ha.put hd v) hw)
theorem my {H':SL}{op:Op}{ty:TypeId}{pos:String}{aft:Array Edge}(hi:ops.toArray[L]? =some ⟨none,op,ty,pos,aft,none⟩)
  (hv:bf X σ H ⟨none,op,ty,pos,aft,none⟩ H') (hr:Region.ready .any ops.toArray listed=[L]) {ls:Array Bool} (hl:listed.setIfInBounds L true=ls) (h:EG X k ops S L fuel ls σ H'):EG X k ops S L (fuel+1) listed σ H:=by
 subst hl
 intro a w ha hw
 refine oH hr ?_
 obtain⟨w',h1,h2⟩:=hv a w ha hw
 unfold wpOp
 rw[hi]
 simp only[Region.wanted,Oper.wp,h1,Oper.upon,if_true]
 exact .inl ⟨fun e=>absurd rfl e.1,h _ _ ha h2⟩
theorem mz {H':SL}{op:Op}{ty:TypeId}{pos:String}{aft:Array Edge}{i:Nat}(hn:mf listed.toList 0 0=some i)(hi:ops.toArray[i]? =some ⟨none,op,ty,pos,aft,none⟩)
  (hv:bf X σ H ⟨none,op,ty,pos,aft,none⟩ H') (hr:Region.ready .any ops.toArray listed=[i]) (mV:((ops.toArray[L]?).isSome&&listed.getD L false)=true) {ls:Array Bool} (hl:listed.setIfInBounds i true=ls)
  (h:EG X k ops S L fuel ls σ H'):EG X k ops S L (fuel+1) listed σ H:=by
 subst hl
 intro a w ha hw
 refine oH hr ?_
 obtain⟨w',h1,h2⟩:=hv a w ha hw
 unfold wpOp
 rw[hi]
 simp only[Region.wanted,Oper.wp,h1,Oper.upon,if_true]
 have hd:lQ ops.toArray listed L:=by
  rw[Bool.and_eq_true]at mV
  exact⟨Option.isSome_iff_exists.1 mV.1,mV.2⟩
 exact .inl ⟨fun e=>absurd hd e.2,h _ _ ha h2⟩
theorem gu {v:Value}{d:Nat}{op:Op}{ty:TypeId}{pos:String}{aft:Array Edge}{i:Nat}(hn:mf listed.toList 0 0=some i)(hi:ops.toArray[i]? =some ⟨some d,op,ty,pos,aft,none⟩)(hd:Nat.blt d X.N=true)
  (hv:az X σ H ⟨some d,op,ty,pos,aft,none⟩ v) (hr:Region.ready .any ops.toArray listed=[i]) (mV:((ops.toArray[L]?).isSome&&listed.getD L false)=true) {ls:Array Bool} (hl:listed.setIfInBounds i true=ls)
  (h:EG X k ops S L fuel ls ((d,v)::σ) H):EG X k ops S L (fuel+1) listed σ H:=by
 subst hl
 intro a w ha hw
 refine oH hr ?_
 unfold wpOp
 rw[hi]
 simp only[Region.wanted,Oper.wp,hv a w ha hw,Oper.upon,if_true]
 have Dl:lQ ops.toArray listed L:=by
  rw[Bool.and_eq_true]at mV
  exact⟨Option.isSome_iff_exists.1 mV.1,mV.2⟩
 exact .inl ⟨fun e=>absurd Dl e.2,h _ _ (ha.put hd _) hw⟩
end
section
open Go.RowKit
structure fS where
 w:Int
 o:Int
 lo:Int
 hi:Int
 b:Int
 r:Int
def lC (z:Int):Prop:= -9223372036854775808≤z∧z≤9223372036854775807
structure fS.Fit (c:fS):Prop where
 w:lC c.w
 o:0≤c.o∧c.o≤4294967295
 lo:lC c.lo
 hi:lC c.hi
 b:lC c.b
 r:lC c.r
def fS.cells (c:fS):List Value:=[.int .i64 c.w,.int .u32 c.o,.int .i64 c.lo,.int .i64 c.hi,.int .i64 c.b,.int .i64 c.r]
def iI (b:Int):Prop:=b=2∨b=4∨b=8∨b=16∨b=32∨b=64∨b=128∨b=256∨b=512∨b=1024
instance (b:Int):Decidable (iI b):=by unfold iI;infer_instance
def iv (c:fS):List UInt8:=
 if ¬(1≤c.w∧c.w≤64)then [119,111,114,107,101,114,115]
 else if c.o=0∨c.o=4294967295 then [111,117,116,101,114]
 else if c.lo<1∨c.hi>65535∨c.hi<c.lo∨c.hi-c.lo≥1024 then [112,111,114,116,115]
 else if ¬iI c.b then [98,117,99,107,101,116,115]
 else if ¬(1≤c.r∧c.r≤256)then [114,105,110,103]
 else []
structure fS.Good (c:fS):Prop where
 w:1≤c.w∧c.w≤64
 o:¬c.o=0∧¬c.o=4294967295
 p:1≤c.lo∧c.hi≤65535∧c.lo≤c.hi∧c.hi-c.lo<1024
 b:iI c.b
 r:1≤c.r∧c.r≤256
theorem tY {c:fS}:iv c=[]↔c.Good:=by
 unfold iv
 constructor
 ·intro h
  split at h; ·simp at h
  split at h; ·simp at h
  split at h; ·simp at h
  split at h; ·simp at h
  split at h; ·simp at h
  rename_i h1 h2 h3 h4 h5
  exact⟨by omega,by omega,by omega,Classical.not_not.1 h4,by omega⟩
 ·intro h
  obtain⟨h1,h2,h3,h4,h5⟩:=h
  rw[if_neg (by omega),if_neg (by omega),if_neg (by omega),if_neg (Classical.not_not.2 h4),if_neg (by omega)]
def gk (c:fS):Int:=if iv c=[]then c.hi-c.lo+1 else 0
theorem tJ (c:fS):0≤gk c∧gk c≤1024:=by
 unfold gk
 split
 ·rename_i h
  have:=(tY.1 h).p
  omega
 ·omega
def yb (c:fS):Int:=(gk c+31)/32
def fX (p:Int):Int:=if p=1 then 0 else if p=6 then 1 else if p=17 then 2 else-1
def oA (k:Int):Int:=if k=0 then 1 else if k=1 then 6 else 17
def iH (c:fS)(proto port:Int):Int:=if gk c=0∨fX proto<0∨¬(c.lo≤port∧port≤c.hi)then-1 else fX proto*gk c+port-c.lo
def tI (c:fS)(place:Int):Int×Int:=if gk c=0∨¬(0≤place∧place≤3*gk c-1)then(0,0)else(oA (place/gk c),c.lo+place%gk c)
theorem UK (k:Int)(h:0≤k)(h2:k≤2):fX (oA k)=k:=by
 have:k=0∨k=1∨k=2:=by omega
 rcases this with rfl|rfl|rfl<;>decide
end
section
open Go.RowKit
structure dQ where
 proto:Nat
 addr:Nat
 port:Nat
deriving DecidableEq
def qc:dQ:=⟨0,0,0⟩
structure qJ where
 ar:dQ
 port:Nat
 pA:Nat
 seen:Nat
deriving DecidableEq
def uM (h:fh)(p:gQ):dQ:=if p.err then⟨p.inner.proto,p.inner.dst,p.dp⟩else⟨h.proto,h.src,p.sp⟩
def Ah (h:fh)(p:gQ):dQ:=if p.err then⟨p.inner.proto,p.inner.src,p.sp⟩else⟨h.proto,h.dst,p.dp⟩
def dv (l:List UInt8):gQ:=ll (bd l) l
def cQ (out:Bool)(l:List UInt8):dQ:=if out then uM (bd l) (dv l)else Ah (bd l) (dv l)
def jj (o:Nat)(out:Bool)(l:List UInt8):Nat:=
 if dz l≠0 then dz l else if out=false∧((bd l).dst≠o∨(cQ out l).addr≠o)then 7 else 0
def su (o:Nat)(out:Bool)(l:List UInt8):dQ:=if jj o out l=0 then cQ out l else qc
def kU (out:Bool)(l:List UInt8):Bool:=out&&decide (dz l=0)&& !(dv l).err&&lJ (dv l).proto (dv l).kind (dv l).flags
structure qY (p:gQ):Prop where
 sp:p.sp<65536
 dp:p.dp<65536
 flags:p.flags<256
 kind:p.kind<256
 zU:p.inner.proto<256
 Uh:p.inner.src<4294967296
 T9:p.inner.dst<4294967296
 proto:p.proto<256
theorem qY.of (h:fh)(l:List UInt8):qY (ll h l):=by
 have z:(0:Nat)<256:=by decide
 have z2:(0:Nat)<65536:=by decide
 have z4:(0:Nat)<4294967296:=by decide
 unfold ll
 split
 ·exact⟨dK _ _,dK _ _,z,z,z,z4,z4,by show 17<256;decide⟩
 split
 ·exact⟨dK _ _,dK _ _,dH _ _,z,z,z4,z4,by show 6<256;decide⟩
 unfold qp
 split
 ·exact⟨dK _ _,dK _ _,z,dH _ _,z,z4,z4,by show 1<256;decide⟩
 ·refine⟨?_,?_,z,dH _ _,dH _ _,nS _ _,nS _ _,by show 1<256;decide⟩
  ·unfold p9
   dsimp only
   split<;>exact dK _ _
  ·unfold p9
   dsimp only
   split<;>exact dK _ _
theorem Mt (out:Bool)(l:List UInt8):(cQ out l).proto<256∧(cQ out l).addr<4294967296∧(cQ out l).port<65536:=by
 have r:qY (dv l):=qY.of (bd l) l
 have h1:(bd l).proto<256:=dH l 9
 have h2:(bd l).src<4294967296:=nS l 12
 have h3:(bd l).dst<4294967296:=nS l 16
 unfold cQ uM Ah
 split<;>split
 ·exact⟨r.zU,r.T9,r.dp⟩
 ·exact⟨h1,h2,r.sp⟩
 ·exact⟨r.zU,r.Uh,r.sp⟩
 ·exact⟨h1,h3,r.dp⟩
end
section
open Go.RowKit
theorem E4:∀(l:List UInt8) (e:Bool) (i:Nat) (v:UInt8),i<l.length→bY e (l.set i v)+(l.getD i 0).toNat*(if decide (i%2=0)=e then 256 else 1)=bY e l+v.toNat*(if decide (i%2=0)=e then 256 else 1)
 |[],_,_,_,h=>by simp at h
 |a::l,e,0,v,_=>by
  cases e
  ·rw[List.set_cons_zero]
   show v.toNat+bY true l+(a.toNat)*1=a.toNat+bY true l+v.toNat*1
   omega
  ·rw[List.set_cons_zero]
   show v.toNat*256+bY false l+a.toNat*256=a.toNat*256+bY false l+v.toNat*256
   omega
 |a::l,e,i+1,v,h=>by
  have ih:=E4 l (!e) i v (by simpa using h)
  have hw:(if decide ((i+1)%2=0)=e then 256 else 1)=(if decide (i%2=0)= !e then 256 else 1):=by
   have:(i+1)%2=0↔¬i%2=0:=by omega
   by_cases g:i%2=0
   ·have g2:¬(i+1)%2=0:=fun q=>this.1 q g
    cases e<;>simp[g,g2]
   ·have g2:(i+1)%2=0:=this.2 g
    cases e<;>simp[g,g2]
  rw[hw,List.set_cons_succ]
  have hg:(a::l).getD (i+1) 0=l.getD i 0:=rfl
  rw[hg]
  cases e
  ·show a.toNat+bY true (l.set i v)+_=a.toNat+bY true l+_
   have ih:bY true (l.set i v)+_=bY true l+_:=ih
   omega
  ·show a.toNat*256+bY false (l.set i v)+_=a.toNat*256+bY false l+_
   have ih:bY false (l.set i v)+_=bY false l+_:=ih
   omega
theorem Xf {l:List UInt8}{i n:Nat}(hi:i+1<l.length)(h2:i%2=0)(hn:n<65536):bY true (st2 l i n)+w2 l i=bY true l+n:=by
 have h1:=E4 l true i (u8 (n/256)) (by omega)
 have h3:=E4 (l.set i (u8 (n/256))) true (i+1) (u8 n) (by rw[List.length_set];omega)
 rw[if_pos (by simp[h2])]at h1
 rw[if_neg (by simp;omega)]at h3
 have hg:(l.set i (u8 (n/256))).getD (i+1) 0=l.getD (i+1) 0:=by
  simp[List.getD_eq_getElem?_getD,List.getElem?_set]
 rw[hg,kf]at h3
 rw[kf]at h1
 unfold st2 w2 b1
 omega
theorem Qz {l:List UInt8}:cI l=0↔0<bY true l∧bY true l%65535=0:=by
 unfold cI db
 split
 ·rename_i h;rw[h];simp
 ·rename_i h
  constructor
  ·intro g;omega
  ·intro ⟨g1,g2⟩;omega
theorem RT (n:Nat):db n%65535=n%65535:=by
 unfold db
 split
 ·rename_i h;rw[h]
 ·omega
end
section
section
variable {l x b:List UInt8} {i n S D f t pr m:Nat}
set_option maxRecDepth 4000
theorem HJ (hi:i+1<l.length)(h2:i%2=0)(h0:w2 l i=0)(hn:n<65536)(hm:n%65535=cI l%65535)(hp:n=cI l∨0<n):cI (st2 l i n)=0:=by
 have h1:=Xf hi h2 hn
 have h3:=RT (bY true l)
 have h4:=rp (bY true l)
 rw[h0]at h1
 unfold cI at hm hp
 refine Qz.2 ⟨?_,by omega⟩
 rcases hp with e|e
 ·by_cases q:bY true l=0
  ·rw[q,show db 0=0 from rfl]at e
   omega
  ·omega
 ·omega
theorem X8 {p:List UInt8}(hi:i+1<x.length):p++st2 x i n=st2 (p++x) (p.length+i) n:=by
 unfold st2
 rw[List.set_append_right _ _ (by omega),List.set_append_right _ _ (by omega)]
 rw[show p.length+i-p.length=i by omega,show p.length+i+1-p.length=i+1 by omega]
theorem Hb {p:List UInt8}:b1 (p++x) (p.length+i)=b1 x i:=by
 unfold b1
 rw[List.getD_eq_getElem?_getD,List.getElem?_append_right (by omega),show p.length+i-p.length=i by omega,←List.getD_eq_getElem?_getD]
theorem Zv {p:List UInt8}:w2 (p++x) (p.length+i)=w2 x i:=by
 unfold w2
 rw[Hb,show p.length+i+1=p.length+(i+1)by omega,Hb]
theorem Le (hi:i+1<x.length)(h2:i%2=0)(h0:w2 x i=0)(hn:n<65536)(hm:n%65535=fP S D pr x%65535)(hp:n=fP S D pr x∨0<n):fP S D pr (st2 x i n)=0:=by
 unfold fP at*
 rw[dJ]
 generalize hP:km S++km D++[0,u8 pr]++ij x.length=p at*
 have hl:p.length=12:=by rw[←hP];rfl
 rw[X8 hi]
 exact HJ (by rw[List.length_append];omega) (by omega) (by rw[Zv];exact h0) hn hm hp
theorem P1 (h:n<65536):(u8 (n/256)).toNat*256+(u8 n).toNat=n:=by
 rw[kf,kf];omega
theorem sk (h1:b1 l i=(u8 (n/256)).toNat)(h2:b1 l (i+1)=(u8 n).toNat)(h:n<65536):w2 l i=n:=by
 unfold w2
 rw[h1,h2];exact P1 h
theorem Hm (h:n<4294967296):((u8 (n/16777216)).toNat*256+(u8 (n/65536)).toNat)*65536+((u8 (n/256)).toNat*256+(u8 n).toNat)=n:=by
 rw[kf,kf,kf,kf];omega
theorem Lm (hm:x.length≤1480)(hS:S<4294967296)(hD:D<4294967296)(hp:pr<256):dw false (eZ 64 pr S D x)=0∧bd (eZ 64 pr S D x)=⟨20,20+x.length,64,pr,S,D⟩∧mK ⟨20,20+x.length,64,pr,S,D⟩ (eZ 64 pr S D x)=x:=by
 have hl:=tK 64 pr S D x
 have e0:b1 (eZ 64 pr S D x) 0=69:=rfl
 have e2:w2 (eZ 64 pr S D x) 2=20+x.length:=sk (n:=20+x.length) rfl rfl (by omega)
 have e6:w2 (eZ 64 pr S D x) 6=16384:=sk (n:=16384) rfl rfl (by decide)
 have e8:b1 (eZ 64 pr S D x) 8=64:=rfl
 have e9:b1 (eZ 64 pr S D x) 9=pr:=by
  show(u8 pr).toNat=pr
  rw[kf];omega
 have Rc:w4 (eZ 64 pr S D x) 12=S:=Hm hS
 have yP:w4 (eZ 64 pr S D x) 16=D:=Hm hD
 have ht:(eZ 64 pr S D x).take 20=wc 64 pr S D (20+x.length):=List.take_left' (Dn ..)
 have hc:cI ((eZ 64 pr S D x).take 20)=0:=by
  rw[ht]
  unfold wc
  exact HJ (by rw[Dm];omega) (by decide) (sk (n:=0) rfl rfl (by decide)) (nB _) rfl (.inl rfl)
 refine⟨?_,?_,?_⟩
 ·unfold dw
  rw[hl,e0,e2,e6]
  rw[if_neg (by omega),if_neg (by omega),if_neg (by omega),if_neg (by omega),if_neg (by omega),if_neg (fun q=>q.2 hc),if_neg (by omega)]
 ·unfold bd
  rw[e0,e2,e8,e9,Rc,yP]
 ·unfold mK
  dsimp only
  rw[List.take_of_length_le (by omega)]
  exact List.drop_left' (Dn ..)
theorem YK (hl:l.length≤40)(hS:S<4294967296)(hD:D<4294967296)(hf:f<65536)(ht:t<65536):dz (kW S D f t l)=0∧bd (kW S D f t l)=⟨20,28+l.length,64,17,S,D⟩∧dv (kW S D f t l)=nk (fQ S D f t l)∧w2 (fQ S D f t l) 0=f:=by
 have hb:=xT S D f t l
 obtain⟨h1,h2,h3⟩:=Lm (x:=fQ S D f t l) (S:=S) (D:=D) (pr:=17) (by omega) hS hD (by decide)
 rw[hb,show 20+(8+l.length)=28+l.length by omega]at h2 h3
 have hn:tS S D f t l<65536:=by
  unfold tS
  have:fP S D 17 (pB f t l)<65536:=nB _
  split<;>omega
 have hlen:=AM f t l
 have TZ:w2 (fQ S D f t l) 6=tS S D f t l:=xW _ hn (by omega)
 have tv:w2 (fQ S D f t l) 4=8+l.length:=by
  unfold fQ
  rw[AR _ (by omega) (.inl (by omega))]
  exact sk (n:=8+l.length) rfl rfl (by omega)
 have kC:w2 (fQ S D f t l) 0=f:=by
  unfold fQ
  rw[AR _ (by omega) (.inl (by omega))]
  exact sk rfl rfl hf
 have DW:fP S D 17 (fQ S D f t l)=0:=by
  unfold fQ
  refine Le (by omega) (by decide) (sk (n:=0) rfl rfl (by decide)) hn ?_ ?_
  ·unfold tS
   split
   ·rename_i e;rw[e]
   ·rfl
  ·right
   unfold tS
   split<;>omega
 refine⟨?_,h2,?_,kC⟩
 ·unfold dz kW
  rw[if_pos h1]
  have h2:bd (eZ 64 17 S D (fQ S D f t l))=_:=h2
  rw[h2]
  unfold iG
  dsimp only
  rw[if_pos rfl]
  rw[h3]
  unfold pC
  rw[hb,tv,if_neg (by omega),if_neg (by omega),if_neg (fun q=>q.2 DW)]
 ·have h2:bd (kW S D f t l)=_:=h2
  unfold dv
  rw[h2]
  unfold ll
  dsimp only
  rw[if_pos rfl]
  exact congrArg nk h3
theorem Yt (hl:l.length≤40)(hS:S<4294967296)(hD:D<4294967296)(hf:f<65536)(ht:t<65536):dz (eZ 64 6 S D (gr S D f t 2 l))=0∧bd (eZ 64 6 S D (gr S D f t 2 l))=⟨20,40+l.length,64,6,S,D⟩∧dv (eZ 64 6 S D (gr S D f t 2 l))=r9 (gr S D f t 2 l)∧w2 (gr S D f t 2 l) 0=f∧b1 (gr S D f t 2 l) 13=2:=by
 have hb:=Ft S D f t 2 l
 obtain⟨h1,h2,h3⟩:=Lm (x:=gr S D f t 2 l) (S:=S) (D:=D) (pr:=6) (by omega) hS hD (by decide)
 rw[hb,show 20+(20+l.length)=40+l.length by omega]at h2 h3
 have hlen:=AI f t 2 l
 have qe:b1 (gr S D f t 2 l) 12=80:=rfl
 have oX:b1 (gr S D f t 2 l) 13=2:=rfl
 have kC:w2 (gr S D f t 2 l) 0=f:=by
  unfold gr
  rw[AR _ (by omega) (.inl (by omega))]
  exact sk rfl rfl hf
 have DW:fP S D 6 (gr S D f t 2 l)=0:=by
  unfold gr
  exact Le (by omega) (by decide) (sk (n:=0) rfl rfl (by decide)) (nB _) rfl (.inl rfl)
 refine⟨?_,h2,?_,kC,oX⟩
 ·unfold dz
  rw[if_pos h1,h2]
  unfold iG
  dsimp only
  rw[if_neg (by decide),if_pos rfl,h3]
  unfold pz
  rw[hb,qe,if_neg (by omega),if_neg (by omega),if_neg (fun q=>q DW)]
 ·unfold dv
  rw[h2]
  unfold ll
  dsimp only
  rw[if_neg (by decide),if_pos rfl]
  exact congrArg r9 h3
structure pH (b:List UInt8)(pr S f:Nat):Prop where
 read:dz b=0
 fR:∀o,jj o true b=0
 cQ:cQ true b=⟨pr,S,f⟩
 ct:kU true b=true
 err:(dv b).err=false
theorem YJ (hl:l.length≤40)(hS:S<4294967296)(hD:D<4294967296)(hf:f<65536)(ht:t<65536):pH (kW S D f t l) 17 S f:=by
 obtain⟨h1,h2,h3,h4⟩:=YK hl hS hD hf ht
 refine⟨h1,fun o=> ?_,?_,?_,by rw[h3];rfl⟩
 ·unfold jj
  rw[h1,if_neg (fun q=>q rfl),if_neg (fun q=>by cases q.1)]
 ·unfold Go.Proofs.YtakbmjoijcpdmaaGreatDoor.cQ uM
  rw[if_pos rfl,h2,h3,if_neg (by simp[nk,bz])]
  show(⟨17,S,w2 _ 0⟩:dQ)=_
  rw[h4]
 ·unfold kU
  rw[h1,h3];rfl
theorem Ys (hl:l.length≤40)(hS:S<4294967296)(hD:D<4294967296)(hf:f<65536)(ht:t<65536):pH (eZ 64 6 S D (gr S D f t 2 l)) 6 S f:=by
 obtain⟨h1,h2,h3,h4,h5⟩:=Yt hl hS hD hf ht
 refine⟨h1,fun o=> ?_,?_,?_,by rw[h3];rfl⟩
 ·unfold jj
  rw[h1,if_neg (fun q=>q rfl),if_neg (fun q=>by cases q.1)]
 ·unfold Go.Proofs.YtakbmjoijcpdmaaGreatDoor.cQ uM
  rw[if_pos rfl,h2,h3,if_neg (by simp[r9,bz])]
  show(⟨6,S,w2 _ 0⟩:dQ)=_
  rw[h4]
 ·unfold kU
  rw[h1,h3]
  unfold r9 lJ
  dsimp only
  rw[h5];rfl
end
end
section
open Go.RowKit
set_option maxRecDepth 10000
attribute [local irreducible] EK EX ER EN EL ES EG az ba bf
variable {W:World} {F:SL} {X:Cx} {k:List KI} {σ:Env}
attribute [local simp] mM vL vK
section
variable {p:Option Addr} {c:Nat} {l:List UInt8}
set_option maxHeartbeats 4000000 in
theorem Po [s:Src W F p l.length (aA l)][r:Room W F p l.length c](hl:l.length≤140737488355328)(wt fR port lK tick:Int)(tw:wt=0∨wt=1):Spec Tryz.prog 19 [.agg #[.bool true,.int .i64 wt,.int .i64 fR,.int .i64 port,.int .i64 2,.slice p l.length c,.int .i64 lK,.int .u8 0,.int .i64 tick]] W F
  (fun q:{q:pI//q.2.length≤220∧pH q.2 (if wt=0 then 17 else 6) (167772161+um fR 3) (5+um port 5)}=>q.1.val) (fun q=>q.1.row*F):=by
 refine Spec.of Tryz.func19 rfl Tryz.ntmps19 rfl ?_
 repeat first|refine aa ?_ |intro
 rename_i bx
 have w0:∀z:Int,0≤IntKind.u64.wrap z∧IntKind.u64.wrap z<18446744073709551616:=fun z=>by rw[IntKind.wrap_u64];omega
 have w1:=w0 fR
 have w2:=w0 port
 have w3:=w0 wt
 have w4:=w0 lK
 have u1:=AN fR (m:=3) (by decide)
 have u2:=AN port (m:=5) (by decide)
 refine lB rfl (by kernel_rfl) ?_
 repeat(refine cV ?_)
 repeat first|refine aa ?_ |intro
 refine aL 21 (Obj bx 25 [.bool true,.int .i64 wt,.int .i64 fR,.int .i64 port,.int .i64 2,.slice p l.length c,.int .i64 lK,.int .u8 0,.int .i64 tick]*F) rfl rfl rfl ?_
 repeat(first|refine aq ?_ |refine eD ?_)
 repeat(first|refine bQ ?_ |(refine bU ?_;intro)|refine bR ?_ |refine bS ?_ |refine bT ?_ |refine eD ?_)
 rename_i px
 have um3:=mr fR (m:=3) (by decide)
 have um5:=mr port (m:=5) (by decide)
 obtain⟨S,hS,wb⟩:∃S:Nat,(167772161+IntKind.u64.wrap fR%3:Int)=(S:Int)∧S=167772161+um fR 3:=⟨_,by rw[Int.tmod_eq_emod_of_nonneg w1.1]at u1;omega,rfl⟩
 obtain⟨D,hD,IE⟩:∃D:Nat,(134744065+IntKind.u64.wrap fR/3%3:Int)=(D:Int)∧D<4294967296:=⟨(134744065+IntKind.u64.wrap fR/3%3:Int).toNat,by omega,by omega⟩
 obtain⟨P,hP,St⟩:∃P:Nat,(5+IntKind.u64.wrap port%5:Int)=(P:Int)∧P=5+um port 5:=⟨_,by rw[Int.tmod_eq_emod_of_nonneg w2.1]at u2;omega,rfl⟩
 rw[hS,hD,hP]
 have adT:min l.length 20≤20:=Nat.min_le_right _ _
 have u7:=se wt (m:=7) (by decide) (by decide)
 have n7:((7:Nat):Int)=7:=rfl
 rw[n7]at u7
 have YM:um wt 7=0∧wt=0∨um wt 7=1∧wt=1:=by rcases tw with e|e<;>subst e<;>decide
 have g7:IntKind.u64.wrap wt%7=((um wt 7:Nat):Int):=by
  have:=AN wt (m:=7) (by decide)
  rw[Int.tmod_eq_emod_of_nonneg w3.1]at this
  exact this
 have h3:¬um wt 7=3:=by omega
 have h2:¬um wt 7=2:=by omega
 have h6:¬um wt 7=6:=by omega
 repeat first|refine aa ?_ |intro
 rw[show(!true)=false from rfl]
 repeat first|refine aa ?_ |intro
 have DI:min l.length 20≤l.length:=Nat.min_le_left _ _
 generalize min l.length 20=m at*
 have nh:(l.take m).length=m:=by rw[List.length_take];exact Nat.min_eq_left DI
 rw[show Value.slice p m c=Value.slice p (l.take m).length c by rw[nh]]
 refine ag rfl (OE (s:=Src.pre inferInstance DI) (r:=Room.pre inferInstance) (by omega) wt S D P 53 (by omega) (by decide) 2) ?_
 intro ⟨⟨z,b⟩,hz⟩
 obtain⟨hU,lU,rG,IP, -⟩:=hz
 dsimp only at hU lU rG IP ⊢
 have hk:pH b (if wt=0 then 17 else 6) (167772161+um fR 3) (5+um port 5):=by
  rw[←wb,←St]
  rcases YM with ⟨e1,e2⟩|⟨e1,e2⟩
  ·rw[if_pos e2,rG e1]
   exact YJ (by omega) (by omega) IE (by omega) (by decide)
  ·rw[if_neg (by omega),IP e1]
   exact Ys (by omega) (by omega) IE (by omega) (by decide)
 repeat first|refine aa ?_ |intro
 exact ae (aw rfl rfl (⟨(z,b),lU,hk⟩:{q:pI//q.2.length≤220∧pH q.2 (if wt=0 then 17 else 6) (167772161+um fR 3) (5+um port 5)}) rfl (U.sat (av)))
theorem Ij [s:Src W F p l.length (aA l)][r:Room W F p l.length c](hl:l.length≤140737488355328)(out:Bool)(wt fR port fl lK tick:Int)(pT:Nat):Spec Tryz.prog 7 [.agg #[.bool out,.int .i64 wt,.int .i64 fR,.int .i64 port,.int .i64 fl,.slice p l.length c,.int .i64 lK,.int .u8 (pT:Int),.int .i64 tick]] W F
  (fun q:{q:pI//q.2.length≤220∧pH q.2 (if((um wt 2:Nat):Int)=0 then 17 else 6) (167772161+um fR 3) (5+um port 5)}=>q.1.val) (fun q=>q.1.row*F):=by
 refine Spec.of Tryz.func7 rfl Tryz.ntmps7 rfl ?_
 repeat first|refine aa ?_ |intro
 have u2:=se wt (m:=2) (by decide) (by decide)
 have n2:((2:Nat):Int)=2:=rfl
 rw[n2]at u2
 have um2:=mr wt (m:=2) (by decide)
 rw[u2]
 refine ag rfl (Po hl ((um wt 2:Nat):Int) fR port lK tick (by omega)) ?_
 intro q
 repeat first|refine aa ?_ |intro
 exact ae (aw rfl rfl q rfl (U.sat (av)))
end
end
end Go.Proofs.YtakbmjoijcpdmaaGreatDoor
