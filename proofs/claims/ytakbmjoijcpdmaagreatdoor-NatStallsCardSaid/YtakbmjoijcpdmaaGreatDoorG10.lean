/-
  A part of a proof, joined by a program (wip/bundle3.py).
-/
import Derived.Test.YtakbmjoijcpdmaaGreatDoorG2
import Derived.Test.YtakbmjoijcpdmaaGreatDoorG4
import Derived.Test.YtakbmjoijcpdmaaGreatDoorG8
import Derived.Test.YtakbmjoijcpdmaaGreatDoorG9
set_option linter.unusedVariables false
set_option linter.unusedSimpArgs false
namespace Go.Proofs.YtakbmjoijcpdmaaGreatDoor
section
open Go.RowKit
set_option maxRecDepth 10000
attribute [local irreducible] EK EX ER EN EL ES EG az ba bf
variable {W:World} {F:SL} {X:Cx} {k:List KI} {σ:Env} {p g:Option Addr} {ws:List Nat}
abbrev jk (w:aJ):Value:= .agg #[.int .i64 (w.st:Int),.int .i64 (w.gen:Int),.int .i64 (w.tr:Int),.int .i64 (w.sn:Int)]
theorem xY (a b:Int):Spec Tryz.prog 160 [.int .i64 a,.int .i64 b] W F (fun _:Unit=> .bool (decide (0≤a∧a≤b))) (fun _=>F):=by
 refine Spec.of Tryz.func160 rfl Tryz.ntmps160 rfl ?_
 by_cases h1:0≤a
 ·by_cases h2:a≤b
  ·repeat first|refine aa ?_ |intro
   exact ae (aw rfl rfl () (by rw[decide_eq_true ⟨h1,h2⟩]) (U.sat (U.refl _)))
  ·repeat first|refine aa ?_ |intro
   exact ae (aw rfl rfl () (by rw[decide_eq_false (fun e=>h2 e.2)]) (U.sat (U.refl _)))
 ·repeat first|refine aa ?_ |intro
  exact ae (aw rfl rfl () (by rw[decide_eq_false (fun e=>h1 e.1)]) (U.sat (U.refl _)))
theorem Lv {w:aJ}(h:w.ok):Spec Tryz.prog 208 [jk w] W F (fun _:Unit=> .bool true) (fun _=>F):=by
 obtain⟨h1,h2,h3,h4⟩:=h
 refine Spec.of Tryz.func208 rfl Tryz.ntmps208 rfl ?_
 repeat first|refine aa ?_ |intro
 refine ag rfl (xY _ _) ?_
 intro _
 rw[decide_eq_true ⟨by omega,by omega⟩]
 repeat first|refine aa ?_ |intro
 refine ag rfl (xY _ _) ?_
 intro _
 rw[decide_eq_true (p:=0≤(w.gen:Int)∧(w.gen:Int)≤65535) ⟨by omega,by omega⟩]
 repeat first|refine aa ?_ |intro
 refine ag rfl (xY _ _) ?_
 intro _
 rw[decide_eq_true (p:=0≤(w.tr:Int)∧(w.tr:Int)≤7) ⟨by omega,by omega⟩]
 repeat first|refine aa ?_ |intro
 refine ag rfl (xY _ _) ?_
 intro _
 rw[decide_eq_true (p:=0≤(w.sn:Int)∧(w.sn:Int)≤4294967295) ⟨by omega,by omega⟩]
 repeat first|refine aa ?_ |intro
 exact ae (aw rfl rfl () rfl (U.sat U.last))
theorem Wk {w:aJ}(h:w.ok):bits .or .u64 (bits .or .u64 (bits .or .u64 (w.st:Int) (IntKind.u64.wrap ((w.tr:Int)*2^Int.toNat 8))) (IntKind.u64.wrap ((w.gen:Int)*2^Int.toNat 16))) (IntKind.u64.wrap ((w.sn:Int)*2^Int.toNat 32))=(w.num:Int):=by
 obtain⟨h1,h2,h3,h4⟩:=h
 rw[show IntKind.u64.wrap ((w.tr:Int)*2^Int.toNat 8)=((w.tr*2^8:Nat):Int)from nR w.tr 8 (by omega),show IntKind.u64.wrap ((w.gen:Int)*2^Int.toNat 16)=((w.gen*2^16:Nat):Int)from nR w.gen 16 (by omega),
  show IntKind.u64.wrap ((w.sn:Int)*2^Int.toNat 32)=((w.sn*2^32:Nat):Int)from nR w.sn 32 (by omega),sc (by omega) (by omega),sc (by omega) (by omega),sc (by omega) (by omega)]
 rfl
theorem YO {n:Nat}(hn:n<18446744073709551616):(Value.agg #[.int .i64 (IntKind.i64.wrap (bits .and .u64 (n:Int) 3)),.int .i64 (IntKind.i64.wrap (bits .and .u64 ((n:Int)/2^Int.toNat 16) 65535)),.int .i64 (IntKind.i64.wrap (bits .and .u64 ((n:Int)/2^Int.toNat 8) 7)),.int .i64 (IntKind.i64.wrap ((n:Int)/2^Int.toNat 32))])=jk (aJ.of n):=by
 rw[show bits .and .u64 (n:Int) 3=((n%2^2:Nat):Int)from qC 2 hn (by decide),show(n:Int)/2^Int.toNat 16=((n/2^16:Nat):Int)from mj n 16,show(n:Int)/2^Int.toNat 8=((n/2^8:Nat):Int)from mj n 8,show(n:Int)/2^Int.toNat 32=((n/2^32:Nat):Int)from mj n 32,
  show bits .and .u64 ((n/2^16:Nat):Int) 65535=((n/2^16%2^16:Nat):Int)from qC 16 (by omega) (by decide),show bits .and .u64 ((n/2^8:Nat):Int) 7=((n/2^8%2^3:Nat):Int)from qC 3 (by omega) (by decide),
  lg (by omega),lg (by omega),lg (by omega),lg (by omega)]
 rfl
theorem KK {w:aJ}(h:w.ok):Spec Tryz.prog 153 [jk w] W F (fun _:Unit=> .int .u64 (w.num:Int)) (fun _=>F):=by
 refine Spec.of Tryz.func153 rfl Tryz.ntmps153 rfl ?_
 have h':=h
 obtain⟨h1,h2,h3,h4⟩:=h'
 repeat first|refine aa ?_ |intro
 exact ae (aw rfl rfl () (by rw[Wk h]) (U.sat U.last))
theorem Pw {n:Nat}(hn:n<18446744073709551616):Spec Tryz.prog 60 [.int .u64 (n:Int)] W F (fun _:Unit=>jk (aJ.of n)) (fun _=>F):=by
 refine Spec.of Tryz.func60 rfl Tryz.ntmps60 rfl ?_
 repeat first|refine aa ?_ |intro
 exact ae (kO (rv:= .cell 2 78) rfl ⟨_,rfl,bc.agg rfl⟩ () (YO hn) (U.sat U.last))
theorem Iv {a:Nat}(h:a≤65535):bits .and .i64 ((a:Int)+1) 65535=(((a+1)%65536:Nat):Int):=D9 (a+1) 16 (by omega) (by decide)
theorem yT {a b:aJ}:(@decide (([.int .i64 (b.st:Int),.int .i64 (b.gen:Int),.int .i64 (b.tr:Int),.int .i64 (b.sn:Int)]:List Value)=[.int .i64 (b.st:Int),.int .i64 (a.gen:Int),.int .i64 (a.tr:Int),.int .i64 (a.sn:Int)]) (Classical.propDecidable _))=decide (b={a with st:=b.st}):=by
 obtain⟨a1,a2,a3,a4⟩:=a
 obtain⟨b1,b2,b3,b4⟩:=b
 rw[decide_eq_decide]
 simp only[List.cons.injEq,Value.int.injEq,aJ.mk.injEq,and_true,true_and,Int.natCast_inj]
theorem OX {a b:aJ}(ha:a.ok)(hb:b.ok):Spec Tryz.prog 152 [jk a,jk b] W F (fun _:Unit=> .bool (kE a b)) (fun _=>F):=by
 refine Spec.of Tryz.func152 rfl Tryz.ntmps152 rfl ?_
 have ha1:=ha.1
 have De:=ha.2.1
 repeat first|refine aa ?_ |intro
 refine ag rfl (Lv ha) ?_
 intro _
 repeat first|refine aa ?_ |intro
 refine ag rfl (Lv hb) ?_
 intro _
 have cJ:a.st=0∨a.st=1∨a.st=2∨a.st=3:=by omega
 rcases cJ with e|e|e|e
 ·by_cases e1:b.st=1
  ·repeat first|refine aa ?_ |intro
   refine ae (aw rfl rfl () ?_ (U.sat U.last))
   rw[Ep e,Iv De]
   rw[decide_eq_true e1,Bool.true_and];simp only[Int.natCast_inj]
  ·repeat first|refine aa ?_ |intro
   refine ae (aw rfl rfl () ?_ (U.sat U.last))
   rw[Ep e]
   rw[decide_eq_false e1,Bool.false_and]
 ·by_cases e1:b.st=2
  ·repeat first|refine aa ?_ |intro
   refine ae (aw rfl rfl () ?_ (U.sat U.last))
   rw[xq e,yT]
   rw[decide_eq_true e1,Bool.true_or,Bool.true_and]
  ·by_cases e2:b.st=0
   ·repeat first|refine aa ?_ |intro
    refine ae (aw rfl rfl () ?_ (U.sat U.last))
    rw[xq e,yT]
    rw[decide_eq_true e2,Bool.or_true,Bool.true_and]
   ·repeat first|refine aa ?_ |intro
    refine ae (aw rfl rfl () ?_ (U.sat U.last))
    rw[xq e]
    rw[decide_eq_false e1,decide_eq_false e2,Bool.or_false,Bool.false_and]
 ·by_cases e1:b.st=2
  ·by_cases e2:b.gen=a.gen
   ·repeat first|refine aa ?_ |intro
    refine ae (aw rfl rfl () ?_ (U.sat U.last))
    rw[xr e]
    rw[if_pos e1,decide_eq_true e2,Bool.true_and];simp only[ge_iff_le,Int.ofNat_le]
   ·repeat first|refine aa ?_ |intro
    refine ae (aw rfl rfl () ?_ (U.sat U.last))
    rw[xr e]
    rw[if_pos e1,decide_eq_false e2,Bool.false_and]
  ·by_cases e2:b.st=3
   ·repeat first|refine aa ?_ |intro
    refine ae (aw rfl rfl () ?_ (U.sat U.last))
    rw[xr e,yT]
    rw[if_neg e1,decide_eq_true e2,Bool.true_and]
   ·repeat first|refine aa ?_ |intro
    refine ae (aw rfl rfl () ?_ (U.sat U.last))
    rw[xr e]
    rw[if_neg e1,decide_eq_false e2,Bool.false_and]
 ·by_cases e1:b.st=0
  ·repeat first|refine aa ?_ |intro
   refine ae (aw rfl rfl () ?_ (U.sat U.last))
   rw[Ku e,yT]
   rw[decide_eq_true e1,Bool.true_and]
  ·repeat first|refine aa ?_ |intro
   refine ae (aw rfl rfl () ?_ (U.sat U.last))
   rw[Ku e]
   rw[decide_eq_false e1,Bool.false_and]
theorem Ol {α:Sort _}{ops l:List Oper}{F:SL}{P:α→SL}(h:∀a,EL X k ops l σ (P a*F)):EL X k ops l σ (SL.ex P*F):=by
 unfold EL at h ⊢
 exact fun a w ha hs=>let⟨x,hx⟩:=hs.iX;h x a w ha hx
abbrev iS (p g:Option Addr)(ws:List Nat)(F:SL):SL:=Obj p 146 [.pointer g]*(cz g ws*F)
def qX (p:Option Addr)(ws:List Nat)(g:Option Addr):SL:=Obj p 146 [.pointer g]*cz g ws
def aM (p:Option Addr)(ws:List Nat):SL:=SL.ex (qX p ws)
theorem qX.eq (p:Option Addr)(ws:List Nat)(g:Option Addr)(F:SL):qX p ws g*F=iS p g ws F:=by
 unfold qX iS
 rw[SL.cb]
theorem aM.open (H:∀g,EK X k σ (iS p g ws F)):EK X k σ (aM p ws*F):=nT fun g=>by
 rw[qX.eq];exact H g
theorem aM.shut {g:Option Addr}:U (iS p g ws F) (aM p ws*F):=U.ex g (by rw[qX.eq];exact U.refl _)
instance (priority:=2000)(p:Option Addr)(ws:List Nat)(F:SL):bO (aM p ws*F) p (aM p ws) F:=⟨rfl⟩
instance (p:Option Addr)(ws:List Nat):kR (aM p ws) p:=⟨fun W w F H=>by
 obtain⟨g,H⟩:=H.iX
 rw[qX.eq]at H
 exact(Obj.root p _ _).nn W w _ H⟩
theorem Pc {n:Nat}(h1:1≤n)(h2:n≤3072):Spec Tryz.prog 35 [.int .i64 (n:Int)] W F (fun p:Option Addr=> .tuple #[.pointer p,.int .i64 0]) (fun p=>aM p (List.replicate (2*n) 0)*F):=by
 refine Spec.of Tryz.func35 rfl Tryz.ntmps35 rfl ?_
 repeat first|refine aa ?_ |intro
 rw[show(2:Int)*(n:Int)=((2*n:Nat):Int)by omega]
 refine ag rfl (yj (2*n) (by omega) (by omega)) ?_
 intro g
 repeat first|refine aa ?_ |intro
 rename_i x
 refine ae (eU rfl rfl rfl x rfl (U.sat (U.trans ?_ (aM.shut (g:=g)))))
 exact ad
theorem GM {n:Nat}(hl:ws.length=2*n)(h2:n≤3072):Spec Tryz.prog 26 [.pointer p] W (iS p g ws F) (fun _:Unit=> .int .i64 (n:Int)) (fun _=>iS p g ws F):=by
 refine Spec.of Tryz.func26 rfl Tryz.ntmps26 rfl ?_
 simp only[iS]
 repeat first|refine aa ?_ |intro
 refine ag rfl (Spec.aV g (yB g ws)) ?_
 intro _
 rw[hl]
 repeat first|refine aa ?_ |intro
 refine ae (aw rfl rfl () ?_ (U.sat ?_))
 ·rw[show((2*n:Nat):Int)/2=(n:Int)by omega]
 ·exact ad
theorem GL {n:Nat}(hl:ws.length=2*n)(h2:n≤3072):Spec Tryz.prog 26 [.pointer p] W (aM p ws*F) (fun _:Unit=> .int .i64 (n:Int)) (fun _=>aM p ws*F):=by
 intro w hs
 obtain⟨g,hs⟩:=hs.iX
 rw[qX.eq]at hs
 refine Calls.mono (GM hl h2 w hs) ?_
 rintro e w' ⟨u,h1,h3⟩
 exact⟨u,h1,aM.shut.sat w' h3⟩
theorem AK {n i:Nat}(hl:ws.length=2*n)(h2:n≤3072)(hi:i<n):Spec Tryz.prog 59 [.pointer p,.int .i64 (i:Int)] W (iS p g ws F) (fun _:Unit=> .bool true) (fun _=>iS p g ws F):=by
 refine Spec.of Tryz.func59 rfl Tryz.ntmps59 rfl ?_
 simp only[iS]
 repeat first|refine aa ?_ |intro
 refine ag rfl (GM hl h2) ?_
 intro _
 simp only[iS]
 repeat first|refine aa ?_ |intro
 exact ae (aw rfl rfl () rfl (U.sat (U.refl _)))
theorem yy {n i:Nat}(hl:ws.length=2*n)(h2:n≤3072)(hi:i<n)(hw:∀j,ws.getD j 0<18446744073709551616):Spec Tryz.prog 27 [.pointer p,.int .i64 (i:Int)] W (aM p ws*F) (fun _:Unit=>jk (aJ.of (ws.getD (2*i) 0))) (fun _=>aM p ws*F):=by
 refine Spec.of Tryz.func27 rfl Tryz.ntmps27 rfl ?_
 refine aM.open fun g=> ?_
 simp only[iS]
 repeat first|refine aa ?_ |intro
 rename_i y
 refine ag rfl (Spec.fE p g (AK hl h2 hi)) ?_
 intro _
 simp only[iS]
 repeat first|refine aa ?_ |intro
 rw[show(2:Int)*(i:Int)=((2*i:Nat):Int)by omega]
 refine ag rfl (Spec.aV g (fC g ws (2*i) (by omega) (by omega))) ?_
 intro _
 repeat first|refine aa ?_ |intro
 refine ag rfl (Pw (hw (2*i))) ?_
 intro _
 repeat first|refine aa ?_ |intro
 refine ae (kO (rv:= .cell 4 78) rfl ⟨_,rfl,bc.agg rfl⟩ () rfl (U.sat (U.trans ?_ (aM.shut (g:=g)))))
 exact ad
theorem Pb {n i:Nat}{a b:aJ}(hl:ws.length=2*n)(h2:n≤3072)(hi:i<n)(ha:a.ok)(hb:b.ok):Spec Tryz.prog 94 [.pointer p,.int .i64 (i:Int),jk a,jk b] W (aM p ws*F) (fun _:Unit=> .bool (kE a b&&decide (ws.getD (2*i) 0=a.num)))
  (fun _=>aM p (if kE a b=true∧ws.getD (2*i) 0=a.num then ws.set (2*i) b.num else ws)*F):=by
 refine Spec.of Tryz.func94 rfl Tryz.ntmps94 rfl ?_
 refine aM.open fun g=> ?_
 simp only[iS]
 repeat first|refine aa ?_ |intro
 rename_i x1 x2
 refine aL 99 (Obj x2 78 b.vs*(Obj x1 78 a.vs*(Obj p 146 [.pointer g]*1))) rfl rfl rfl ?_
 repeat(first|refine aq ?_ |refine eD ?_)
 refine aI rfl rfl rfl rfl rfl (Spec.fE p g (AK hl h2 hi)) (fun _=>by simp only[iS];exact ad) ?_
 intro _
 simp only[iS]
 repeat(first|refine aq ?_ |refine eD ?_)
 refine aI rfl rfl rfl rfl rfl (OX ha hb) (fun _=>ad) ?_
 intro _
 cases hm:kE a b with
 |false=>
  repeat(first|refine aq ?_ |refine eD ?_)
  repeat first|refine aa ?_ |intro
  refine ae (aw rfl rfl () (by rw[Bool.false_and]) (U.sat (U.trans ?_ (aM.shut (g:=g)))))
  rw[if_neg (by simp)]
  exact ad
 |true=>
  repeat(first|refine aq ?_ |refine eD ?_)
  rw[show(2:Int)*(i:Int)=((2*i:Nat):Int)by omega]
  refine aI rfl rfl rfl rfl rfl (KK ha) (fun _=>ad) ?_
  intro _
  repeat(first|refine aq ?_ |refine eD ?_)
  refine aI rfl rfl rfl rfl rfl (KK hb) (fun _=>ad) ?_
  intro _
  repeat(first|refine aq ?_ |refine eD ?_)
  refine aI rfl rfl rfl rfl rfl (Spec.aV g (mw g ws (2*i) a.num b.num (by omega) (by omega))) (fun _=>ad) ?_
  intro _
  repeat(first|refine aq ?_ |refine eD ?_)
  repeat first|refine aa ?_ |intro
  refine ae (aw rfl rfl () (by rw[Bool.true_and]) (U.sat (U.trans ?_ (aM.shut (g:=g)))))
  rw[show(if true=true∧ws.getD (2*i) 0=a.num then ws.set (2*i) b.num else ws)=if ws.getD (2*i) 0=a.num then ws.set (2*i) b.num else ws by simp]
  exact ad
theorem UG {n:Nat}(h:n<18446744073709551616):(Value.agg #[.int .i64 (IntKind.i64.wrap ((n:Int)/2^Int.toNat 48)),.int .u32 (IntKind.u32.wrap ((n:Int)/2^Int.toNat 16)),.int .u16 (IntKind.u16.wrap (n:Int))])=
  .agg #[.int .i64 ((n/281474976710656:Nat):Int),.int .u32 ((n/65536%4294967296:Nat):Int),.int .u16 ((n%65536:Nat):Int)]:=by
 rw[show(n:Int)/2^Int.toNat 48=((n/281474976710656:Nat):Int)from mj n 48,show(n:Int)/2^Int.toNat 16=((n/65536:Nat):Int)from mj n 16,lg (by omega),IntKind.wrap_u32,IntKind.wrap_u16]
 simp only[Int.natCast_emod]
 rfl
theorem Cc {n i:Nat}(hl:ws.length=2*n)(h2:n≤3072)(hi:i<n)(hw:∀j,ws.getD j 0<18446744073709551616):Spec Tryz.prog 29 [.pointer p,.int .i64 (i:Int)] W (aM p ws*F)
  (fun _:Unit=> .agg #[.int .i64 ((ws.getD (2*i+1) 0/281474976710656:Nat):Int),.int .u32 ((ws.getD (2*i+1) 0/65536%4294967296:Nat):Int),.int .u16 ((ws.getD (2*i+1) 0%65536:Nat):Int)]) (fun _=>aM p ws*F):=by
 refine Spec.of Tryz.func29 rfl Tryz.ntmps29 rfl ?_
 refine aM.open fun g=> ?_
 simp only[iS]
 repeat first|refine aa ?_ |intro
 rename_i y
 refine ag rfl (Spec.fE p g (AK hl h2 hi)) ?_
 intro _
 simp only[iS]
 repeat first|refine aa ?_ |intro
 rw[show(2:Int)*(i:Int)+1=((2*i+1:Nat):Int)by omega]
 refine ag rfl (Spec.aV g (fC g ws (2*i+1) (by omega) (by omega))) ?_
 intro _
 repeat first|refine aa ?_ |intro
 refine ae (kO (rv:= .cell 4 53) rfl ⟨_,rfl,bc.agg rfl⟩ () (UG (hw _)) (U.sat (U.trans ?_ (aM.shut (g:=g)))))
 exact ad
theorem Pp {n i a b c:Nat}(hl:ws.length=2*n)(h2:n≤3072)(hi:i<n)(ha:a≤255)(hb:b<4294967296)(hc:c<65536):Spec Tryz.prog 104 [.pointer p,.int .i64 (i:Int),.agg #[.int .i64 (a:Int),.int .u32 (b:Int),.int .u16 (c:Int)]] W (aM p ws*F)
  (fun _:Unit=> .int .i64 0) (fun _=>aM p (ws.set (2*i+1) (gz a b c))*F):=by
 refine Spec.of Tryz.func104 rfl Tryz.ntmps104 rfl ?_
 refine aM.open fun g=> ?_
 simp only[iS]
 repeat first|refine aa ?_ |intro
 refine ag rfl (Spec.fE p g (AK hl h2 hi)) ?_
 intro _
 simp only[iS]
 repeat first|refine aa ?_ |intro
 refine ag rfl (xY _ _) ?_
 intro _
 rw[decide_eq_true (p:=0≤(a:Int)∧(a:Int)≤255) ⟨by omega,by omega⟩]
 repeat first|refine aa ?_ |intro
 refine jD 20 rfl (by kernel_rfl) rfl rfl ?_
 repeat(refine cV ?_)
 rw[show IntKind.u64.wrap ((a:Int)*2^Int.toNat 48)=((a*2^48:Nat):Int)from nR a 48 (by omega),show IntKind.u64.wrap ((b:Int)*2^Int.toNat 16)=((b*2^16:Nat):Int)from nR b 16 (by omega),JE (by omega) hb hc,show(2:Int)*(i:Int)+1=((2*i+1:Nat):Int)by omega]
 refine ag rfl (Spec.aV g (yC g ws (2*i+1) (gz a b c) (by omega) (by omega))) ?_
 intro _
 repeat first|refine aa ?_ |intro
 refine ae (aw rfl rfl () rfl (U.sat (U.trans ?_ (aM.shut (g:=g)))))
 exact ad
end
section
open Go.RowKit
set_option maxRecDepth 10000
attribute [local irreducible] EK EX ER EN EL ES EG az ba bf
variable {W:World} {F:SL} {X:Cx} {k:List KI} {σ:Env} {p g:Option Addr} {ws:List Nat}
theorem X6 {n:Nat}:Spec Tryz.prog 233 [.int .u64 (n:Int)] W F (fun _:Unit=> .int .u64 (oF n:Int)) (fun _=>F):=by
 refine Spec.of Tryz.func233 rfl Tryz.ntmps233 rfl ?_
 repeat first|refine aa ?_ |intro
 refine ae (aw rfl rfl () ?_ (U.sat U.last))
 have h1:n*11400714819323198485%18446744073709551616<18446744073709551616:=Nat.mod_lt _ (by decide)
 rw[show(n:Int)*11400714819323198485=(n:Int)*((11400714819323198485:Nat):Int)from rfl,Kx,ML h1]
 have h2:=ZM h1
 rw[show ∀a:Nat,(a:Int)*13787848793156543929=(a:Int)*((13787848793156543929:Nat):Int)from fun _=>rfl,Kx,ML (Nat.mod_lt _ (by decide))]
 rfl
theorem Ib (b:Int):Spec Tryz.prog 71 [.int .i64 b] W F (fun _:Unit=> .bool (fH b)) (fun _=>F):=by
 refine Spec.of Tryz.func71 rfl Tryz.ntmps71 rfl ?_
 by_cases h1:2≤b
 ·by_cases h2:b≤1024
  ·obtain⟨k,rfl⟩:∃k:Nat,b=(k:Int):=⟨b.toNat,by omega⟩
   repeat first|refine aa ?_ |intro
   exact ae (aw rfl rfl () (by rw[RP (by omega) (by omega)]) (U.sat U.last))
  ·repeat first|refine aa ?_ |intro
   exact ae (aw rfl rfl () (by rw[Ia (fun e=>h2 e.2)]) (U.sat U.last))
 ·repeat first|refine aa ?_ |intro
  exact ae (aw rfl rfl () (by rw[Ia (fun e=>h1 e.1)]) (U.sat U.last))
theorem Xi {u i:Nat}(hu:u<18446744073709551616):IntKind.i64.wrap (bits .and .u64 ((u:Int)/2^(12*(i:Int)).toNat) 4095)=((u/2^(12*i)%4096:Nat):Int):=by
 have h1:u/2^(12*i)<18446744073709551616:=Nat.lt_of_le_of_lt (Nat.div_le_self _ _) hu
 rw[show(12*(i:Int))=((12*i:Nat):Int)by omega,mj,show bits .and .u64 ((u/2^(12*i):Nat):Int) 4095=((u/2^(12*i)%2^12:Nat):Int)from qC 12 h1 (by decide),lg (by omega)]
theorem iJ {u i:Nat}(hu:u<18446744073709551616)(hi:i<4):Spec Tryz.prog 198 [.int .u64 (u:Int),.int .i64 (i:Int)] W F (fun _:Unit=> .int .i64 (bM u i)) (fun _=>F):=by
 refine Spec.of Tryz.func198 rfl Tryz.ntmps198 rfl ?_
 repeat first|refine aa ?_ |intro
 exact ae (aw rfl rfl () (by rw[Xi hu];exact congrArg _ (bF.wrap (by simp only[bF];omega))) (U.sat U.last))
theorem tX {u:Nat}(id:Int)(hu:u<18446744073709551616):Spec Tryz.prog 190 [.int .u64 (u:Int),.int .i64 id] W F (fun _:Unit=> .int .i64 (dY u id)) (fun _=>F):=by
 refine Spec.of Tryz.func190 rfl Tryz.ntmps190 rfl ?_
 repeat first|refine aa ?_ |intro
 refine ff (γ:=Nat) (fun i=>i≤4∧∀j,j<i→bM u j≠id) (fun i=>[(0,.int .u64 (u:Int)),(1,.int .i64 id),(6,.int .i64 (i:Int))]) (fun _=>F) (fun i=>4-i) 0 ⟨Nat.zero_le _,fun j hj=>by omega⟩ ⟨rfl,rfl,rfl,trivial⟩ (U.sat (U.refl _)) ?_
 intro i ⟨hi,hj⟩
 by_cases lZ:i<4
 ·repeat first|refine aa ?_ |intro
  refine ag rfl (iJ hu lZ) ?_
  intro _
  by_cases hx:bM u i=id
  ·repeat first|refine aa ?_ |intro
   refine ae (aw rfl rfl () ?_ (U.sat (U.refl _)))
   unfold dY
   match i,lZ,hx,hj with
   |0,_,hx,_=>rw[if_pos hx];rfl
   |1,_,hx,hj=>rw[if_neg (hj 0 (by decide)),if_pos hx];rfl
   |2,_,hx,hj=>rw[if_neg (hj 0 (by decide)),if_neg (hj 1 (by decide)),if_pos hx];rfl
   |3,_,hx,hj=>rw[if_neg (hj 0 (by decide)),if_neg (hj 1 (by decide)),if_neg (hj 2 (by decide)),if_pos hx];rfl
  ·repeat first|refine aa ?_ |intro
   refine cT (i+1) ⟨by omega,fun j h=> ?_⟩ (by omega) ⟨rfl,rfl,rfl,trivial⟩ (U.sat (U.refl _))
   rcases Nat.lt_succ_iff_lt_or_eq.1 h with h|rfl
   ·exact hj j h
   ·exact hx
 ·repeat first|refine aa ?_ |intro
  refine ae (aw rfl rfl () ?_ (U.sat (U.refl _)))
  unfold dY
  rw[if_neg (hj 0 (by omega)),if_neg (hj 1 (by omega)),if_neg (hj 2 (by omega)),if_neg (hj 3 (by omega))]
theorem Lc {i v:Nat}(hi:i<4)(hv:v<4096):v*2^(12*i)<281474976710656:=by
 match i,hi with
 |0,_=>omega
 |1,_=>omega
 |2,_=>omega
 |3,_=>omega
theorem Yr {u i v:Nat}(hu:u<18446744073709551616)(hi:i<4)(hv:v<4096):IntKind.u64.wrap (bits .or .u64 (bits .andNot .u64 (u:Int) (IntKind.u64.wrap (4095*2^(12*(i:Int)).toNat))) (IntKind.u64.wrap ((v:Int)*2^(12*(i:Int)).toNat))+281474976710656)=(kV u i v:Int):=by
 have h1:=Lc hi hv
 have h2:=Lc hi (v:=4095) (by decide)
 rw[show(12*(i:Int))=((12*i:Nat):Int)by omega,show IntKind.u64.wrap ((4095:Int)*2^((12*i:Nat):Int).toNat)=((4095*2^(12*i):Nat):Int)from nR 4095 (12*i) (by omega),nR v (12*i) (by omega),
  u64_andNot_nat _ _ hu (by omega),u64_or_nat _ _ (Nat.lt_of_le_of_lt Nat.and_le_left hu) (by omega),IntKind.wrap_u64]
 unfold kV
 omega
theorem L7 {u i v:Nat}(hu:u<18446744073709551616)(hi:i<4)(hv:v<4096):Spec Tryz.prog 234 [.int .u64 (u:Int),.int .i64 (i:Int),.int .u64 (v:Int)] W F (fun _:Unit=> .int .u64 (kV u i v:Int)) (fun _=>F):=by
 refine Spec.of Tryz.func234 rfl Tryz.ntmps234 rfl ?_
 repeat first|refine aa ?_ |intro
 exact ae (aw rfl rfl () (by rw[Yr hu hi hv]) (U.sat U.last))
theorem Mr (u:Nat)(id:Int):dY u id<4∧ -1≤dY u id:=by
 unfold dY
 repeat(first|(split; ·omega)|omega)
theorem uv {u:Nat}(hu:u<18446744073709551616):Spec Tryz.prog 199 [.int .u64 (u:Int)] W F (fun _:Unit=> .bool (cZ u)) (fun _=>F):=by
 refine Spec.of Tryz.func199 rfl Tryz.ntmps199 rfl ?_
 repeat first|refine aa ?_ |intro
 refine ag rfl (tX _ hu) ?_
 intro _
 repeat first|refine aa ?_ |intro
 exact ae (aw rfl rfl () rfl (U.sat U.last))
theorem Mx {u:Nat}{id:Int}(hu:u<18446744073709551616)(h1:0≤id)(h2:id<4095)(hf:cZ u=false):Spec Tryz.prog 206 [.int .u64 (u:Int),.int .i64 id] W F (fun _:Unit=> .int .u64 (iO u id:Int)) (fun _=>F):=by
 refine Spec.of Tryz.func206 rfl Tryz.ntmps206 rfl ?_
 have hw:=Mr u (-1)
 have kC:0≤dY u (-1):=by unfold cZ at hf;have:=of_decide_eq_false hf;omega
 obtain⟨i,hi⟩:∃i:Nat,dY u (-1)=(i:Int):=⟨(dY u (-1)).toNat,by omega⟩
 obtain⟨k,rfl⟩:∃k:Nat,id=(k:Int):=⟨id.toNat,by omega⟩
 have gx:iO u (k:Int)=kV u i (k+1):=by unfold iO;rw[hi];rfl
 repeat first|refine aa ?_ |intro
 refine ag rfl (tX _ hu) ?_
 intro _
 rw[hi]
 repeat first|refine aa ?_ |intro
 rw[show((k:Int)+1)=((k+1:Nat):Int)by omega]
 refine ag rfl (L7 hu (by omega) (by omega)) ?_
 intro _
 repeat first|refine aa ?_ |intro
 exact ae (aw rfl rfl () (by rw[gx]) (U.sat U.last))
abbrev y6 (a:Int)(b c:Nat):Value:= .agg #[.int .i64 a,.int .u32 (b:Int),.int .u16 (c:Int)]
def xg (a:Int)(b c:Nat):Nat:=gz ((a%65536).toNat) b c
def qz (a:Int)(b c:Nat)(k:Int):Int×Int:=if fH k=true then(((gq (xg a b c) k.toNat).1:Int),((gq (xg a b c) k.toNat).2:Int))else(0,0)
theorem GU (a:Int){b c:Nat}(k:Int)(hb:b<4294967296)(hc:c<65536):Spec Tryz.prog 188 [y6 a b c,.int .i64 k] W F (fun _:Unit=> .tuple #[.int .i64 (qz a b c k).1,.int .i64 (qz a b c k).2]) (fun _=>F):=by
 refine Spec.of Tryz.func188 rfl Tryz.ntmps188 rfl ?_
 repeat first|refine aa ?_ |intro
 refine ag rfl (Ib k) ?_
 intro _
 cases hf:fH k with
 |false=>
  repeat first|refine aa ?_ |intro
  exact ae (eU rfl rfl rfl () (by unfold qz;rw[hf];rfl) (U.sat U.last))
 |true=>
  have hk:2≤k∧k≤1024:=by unfold fH at hf;have:=of_decide_eq_true hf;omega
  obtain⟨n,rfl⟩:∃n:Nat,k=(n:Int):=⟨k.toNat,by omega⟩
  repeat first|refine aa ?_ |intro
  obtain⟨x,hx,o8⟩:∃x:Nat,IntKind.u64.wrap a=(x:Int)∧x%65536=(a%65536).toNat:=⟨(a%18446744073709551616).toNat,by rw[IntKind.wrap_u64];omega,by omega⟩
  rw[hx,YF x,show IntKind.u64.wrap ((b:Int)*2^Int.toNat 16)=((b*2^16:Nat):Int)from nR b 16 (by omega),JE (Nat.mod_lt _ (by decide)) hb hc,o8]
  refine ag rfl X6 ?_
  intro _
  have hs:=X5 (gz (a%65536).toNat b c)
  have rO:qz a b c (n:Int)=(((gq (gz (a%65536).toNat b c) n).1:Int),((gq (gz (a%65536).toNat b c) n).2:Int)):=by unfold qz xg;rw[if_pos hf];rfl
  rw[rO]
  unfold gq
  generalize oF (gz (a%65536).toNat b c)=y at*
  haveI:Pos n:=⟨by omega⟩
  have hyn:y%n<n:=Nat.mod_lt _ (by omega)
  obtain⟨m,hm⟩:∃m,n=m+1:=⟨n-1,by omega⟩
  haveI:Pos m:=⟨by omega⟩
  have hdm:y/4294967296%m<m:=Nat.mod_lt _ (by omega)
  have SI:(y:Int)/2^Int.toNat 32=((y/4294967296:Nat):Int):=mj y 32
  have SJ:((y/4294967296:Nat):Int)%(m:Int)=((y/4294967296%m:Nat):Int):=(Int.natCast_emod _ _).symm
  repeat first|refine aa ?_ |intro
  rw[show(y:Int)%(n:Int)=((y%n:Nat):Int)from(Int.natCast_emod _ _).symm]
  refine lB rfl (by kernel_rfl) ?_
  repeat(refine cV ?_)
  rw[SI,show((n:Int)-1)=(m:Int)by omega]
  repeat(refine cV ?_)
  rw[SJ,lg (a:=y/4294967296%m) (by omega),show((y%n:Nat):Int)+1+((y/4294967296%m:Nat):Int)=((y%n+1+y/4294967296%m:Nat):Int)by omega,lg (by omega)]
  repeat(refine cV ?_)
  repeat first|refine aa ?_ |intro
  refine ae (eU rfl rfl rfl () ?_ (U.sat U.last))
  rw[show n-1=m by omega,←Int.natCast_emod]
end
section
open Go.RowKit
set_option maxRecDepth 10000
attribute [local irreducible] EK EX ER EN EL ES EG az ba bf
variable {W:World} {F:SL} {X:Cx} {k:List KI} {σ:Env} {p pp g:Option Addr} {ws cs pl:List Nat} {n np:Nat} {s:aU}
abbrev wL (w:aJ)(l:List Value):List Value:= .int .i64 (w.st:Int):: .int .i64 (w.gen:Int):: .int .i64 (w.tr:Int):: .int .i64 (w.sn:Int)::l
def j0 (s:aU):List Value:=(Value.int .i64 (s.kind:Int)::Value.int .i64 (s.f1:Int)::Value.int .u32 (s.f2:Int)::Value.int .u16 (s.f3:Int)::Value.int .i64 s.id::Value.int .i64 (s.a:Int)::Value.int .i64 (s.b:Int)::Value.int .i64 (s.next:Int)::Value.int .u64 (s.first:Int)::Value.int .u64 (s.word:Int)::Value.int .i64 (s.at_:Int)::Value.bool s.half::Value.int .i64 (s.seen.st:Int)::Value.int .i64 (s.seen.gen:Int)::Value.int .i64 (s.seen.tr:Int)::Value.int .i64 (s.seen.sn:Int)::Value.int .u64 (s.still:Int)::Value.int .i64 (s.m.phase:Int)::Value.int .i64 (s.m.id:Int)::Value.int .i64 (s.m.fr:Int)::Value.int .i64 (s.m.to:Int)::Value.int .i64 (s.m.version:Int)::Value.int .i64 (s.m.aS:Int)::Value.int .i64 (s.v:Int)::Value.int .i64 (s.u:Int)::Value.int .i64 (s.o0:Int)::Value.int .i64 (s.o1:Int)::Value.int .i64 (s.o2:Int)::Value.int .i64 (s.o3:Int)::Value.int .u64 (s.g0:Int)::Value.int .u64 (s.g1:Int)::Value.int .u64 (s.g2:Int)::Value.int .u64 (s.g3:Int)::Value.int .i64 (s.cA:Int)::Value.bool s.second::Value.int .i64 s.found::Value.int .i64 (s.aQ.st:Int)::Value.int .i64 (s.aQ.gen:Int)::Value.int .i64 (s.aQ.tr:Int)::Value.int .i64 (s.aQ.sn:Int)::Value.int .i64 (s.end_:Int)::Value.bool s.done::[])
abbrev eE (s:aU):List Value:=(Value.int .i64 (s.kind:Int)::Value.int .i64 (s.f1:Int)::Value.int .u32 (s.f2:Int)::Value.int .u16 (s.f3:Int)::Value.int .i64 s.id::Value.int .i64 (s.a:Int)::Value.int .i64 (s.b:Int)::Value.int .i64 (s.next:Int)::Value.int .u64 (s.first:Int)::Value.int .u64 (s.word:Int)::Value.int .i64 (s.at_:Int)::Value.bool s.half::Value.int .i64 (s.seen.st:Int)::Value.int .i64 (s.seen.gen:Int)::Value.int .i64 (s.seen.tr:Int)::Value.int .i64 (s.seen.sn:Int)::Value.int .u64 (s.still:Int)::Value.int .i64 (s.m.phase:Int)::Value.int .i64 (s.m.id:Int)::Value.int .i64 (s.m.fr:Int)::Value.int .i64 (s.m.to:Int)::Value.int .i64 (s.m.version:Int)::Value.int .i64 (s.m.aS:Int)::Value.int .i64 (s.v:Int)::Value.int .i64 (s.u:Int)::Value.int .i64 (s.o0:Int)::Value.int .i64 (s.o1:Int)::Value.int .i64 (s.o2:Int)::Value.int .i64 (s.o3:Int)::Value.int .u64 (s.g0:Int)::Value.int .u64 (s.g1:Int)::Value.int .u64 (s.g2:Int)::Value.int .u64 (s.g3:Int)::Value.int .i64 (s.cA:Int)::Value.bool s.second::Value.int .i64 s.found::Value.int .i64 (s.aQ.st:Int)::Value.int .i64 (s.aQ.gen:Int)::Value.int .i64 (s.aQ.tr:Int)::Value.int .i64 (s.aQ.sn:Int)::Value.int .i64 (s.end_:Int)::Value.bool s.done::[])
def ay (p:Option Addr)(s:aU):SL:=Obj p 267 (j0 s)
theorem ay.open (H:EK X k σ (Obj p 267 (Value.int .i64 (s.kind:Int)::Value.int .i64 (s.f1:Int)::Value.int .u32 (s.f2:Int)::Value.int .u16 (s.f3:Int)::Value.int .i64 s.id::Value.int .i64 (s.a:Int)::Value.int .i64 (s.b:Int)::Value.int .i64 (s.next:Int)::Value.int .u64 (s.first:Int)::Value.int .u64 (s.word:Int)::Value.int .i64 (s.at_:Int)::Value.bool s.half::Value.int .i64 (s.seen.st:Int)::Value.int .i64 (s.seen.gen:Int)::Value.int .i64 (s.seen.tr:Int)::Value.int .i64 (s.seen.sn:Int)::Value.int .u64 (s.still:Int)::Value.int .i64 (s.m.phase:Int)::Value.int .i64 (s.m.id:Int)::Value.int .i64 (s.m.fr:Int)::Value.int .i64 (s.m.to:Int)::Value.int .i64 (s.m.version:Int)::Value.int .i64 (s.m.aS:Int)::Value.int .i64 (s.v:Int)::Value.int .i64 (s.u:Int)::Value.int .i64 (s.o0:Int)::Value.int .i64 (s.o1:Int)::Value.int .i64 (s.o2:Int)::Value.int .i64 (s.o3:Int)::Value.int .u64 (s.g0:Int)::Value.int .u64 (s.g1:Int)::Value.int .u64 (s.g2:Int)::Value.int .u64 (s.g3:Int)::Value.int .i64 (s.cA:Int)::Value.bool s.second::Value.int .i64 s.found::Value.int .i64 (s.aQ.st:Int)::Value.int .i64 (s.aQ.gen:Int)::Value.int .i64 (s.aQ.tr:Int)::Value.int .i64 (s.aQ.sn:Int)::Value.int .i64 (s.end_:Int)::Value.bool s.done::[])*F)):EK X k σ (ay p s*F):=H
theorem ay.jx {ops o:List Oper}(H:EL X k ops o σ (Obj p 267 (Value.int .i64 (s.kind:Int)::Value.int .i64 (s.f1:Int)::Value.int .u32 (s.f2:Int)::Value.int .u16 (s.f3:Int)::Value.int .i64 s.id::Value.int .i64 (s.a:Int)::Value.int .i64 (s.b:Int)::Value.int .i64 (s.next:Int)::Value.int .u64 (s.first:Int)::Value.int .u64 (s.word:Int)::Value.int .i64 (s.at_:Int)::Value.bool s.half::Value.int .i64 (s.seen.st:Int)::Value.int .i64 (s.seen.gen:Int)::Value.int .i64 (s.seen.tr:Int)::Value.int .i64 (s.seen.sn:Int)::Value.int .u64 (s.still:Int)::Value.int .i64 (s.m.phase:Int)::Value.int .i64 (s.m.id:Int)::Value.int .i64 (s.m.fr:Int)::Value.int .i64 (s.m.to:Int)::Value.int .i64 (s.m.version:Int)::Value.int .i64 (s.m.aS:Int)::Value.int .i64 (s.v:Int)::Value.int .i64 (s.u:Int)::Value.int .i64 (s.o0:Int)::Value.int .i64 (s.o1:Int)::Value.int .i64 (s.o2:Int)::Value.int .i64 (s.o3:Int)::Value.int .u64 (s.g0:Int)::Value.int .u64 (s.g1:Int)::Value.int .u64 (s.g2:Int)::Value.int .u64 (s.g3:Int)::Value.int .i64 (s.cA:Int)::Value.bool s.second::Value.int .i64 s.found::Value.int .i64 (s.aQ.st:Int)::Value.int .i64 (s.aQ.gen:Int)::Value.int .i64 (s.aQ.tr:Int)::Value.int .i64 (s.aQ.sn:Int)::Value.int .i64 (s.end_:Int)::Value.bool s.done::[])*F)):EL X k ops o σ (ay p s*F):=H
theorem ay.shut {l:List Value}(h:l=j0 s):U (Obj p 267 l*F) (ay p s*F):=by subst h;exact U.refl _
theorem ay.bX {l:List Value}{G:SL}(h:l=j0 s)(k:U F G):U (Obj p 267 l*F) (ay p s*G):=U.trans (ay.shut h) (U.cons k)
instance (priority:=2000)(p:Option Addr)(s:aU)(F:SL):bO (ay p s*F) p (ay p s) F:=⟨rfl⟩
instance (p:Option Addr)(s:aU):kR (ay p s) p:=⟨fun W w F H=>(Obj.root p _ _).nn W w _ H⟩
abbrev kS (p pp g:Option Addr)(n:Nat)(cs:List Nat)(F:SL):SL:=Obj p 161 [.pointer pp,.pointer g,.int .i64 (n:Int)]*(cz g cs*F)
def sM (p pp:Option Addr)(n:Nat)(cs:List Nat)(g:Option Addr):SL:=Obj p 161 [.pointer pp,.pointer g,.int .i64 (n:Int)]*cz g cs
def aK (p pp:Option Addr)(n:Nat)(cs:List Nat):SL:=SL.ex (sM p pp n cs)
theorem sM.eq (p pp:Option Addr)(n:Nat)(cs:List Nat)(g:Option Addr)(F:SL):sM p pp n cs g*F=kS p pp g n cs F:=by
 unfold sM kS
 rw[SL.cb]
theorem aK.open (H:∀g,EK X k σ (kS p pp g n cs F)):EK X k σ (aK p pp n cs*F):=nT fun g=>by
 rw[sM.eq];exact H g
theorem aK.shut {g:Option Addr}:U (kS p pp g n cs F) (aK p pp n cs*F):=U.ex g (by rw[sM.eq];exact U.refl _)
instance (priority:=2000)(p pp:Option Addr)(n:Nat)(cs:List Nat)(F:SL):bO (aK p pp n cs*F) p (aK p pp n cs) F:=⟨rfl⟩
instance (p pp:Option Addr)(n:Nat)(cs:List Nat):kR (aK p pp n cs) p:=⟨fun W w F H=>by
 obtain⟨g,H⟩:=H.iX
 rw[sM.eq]at H
 exact(Obj.root p _ _).nn W w _ H⟩
theorem Pr {m:Nat}(hf:fH (n:Int)=true)(hl:ws.length=2*m)(hm:m≤3072):Spec Tryz.prog 37 [.pointer pp,.int .i64 (n:Int)] W (aM pp ws*F) (fun p:Option Addr=> .tuple #[.pointer p,.int .i64 0]) (fun p=>aK p pp n (List.replicate (n+1) 0)*(aM pp ws*F)):=by
 refine Spec.of Tryz.func37 rfl Tryz.ntmps37 rfl ?_
 have hk:2≤(n:Int)∧(n:Int)≤1024:=by unfold fH at hf;have:=of_decide_eq_true hf;omega
 repeat first|refine aa ?_ |intro
 refine ag rfl (Ib _) ?_
 intro _
 rw[hf]
 repeat first|refine aa ?_ |intro
 refine ag rfl (GL hl hm) ?_
 intro _
 repeat first|refine aa ?_ |intro
 rw[show(n:Int)+1=((n+1:Nat):Int)by omega]
 refine ag rfl (yj (n+1) (by omega) (by omega)) ?_
 intro g
 repeat first|refine aa ?_ |intro
 rename_i x
 refine ae (eU rfl rfl rfl x rfl (U.sat (U.trans ?_ (aK.shut (g:=g)))))
 exact ad
theorem L6 {kd f1 f2 f3 nx:Nat}{id:Int}(hf:fH (n:Int)=true)(h1:f1≤255)(h2:f2<4294967296)(h3:f3<65536):Spec Tryz.prog 146 [.pointer p,.int .i64 (kd:Int),y6 (f1:Int) f2 f3,.int .i64 id,.int .i64 (nx:Int)] W (aK p pp n cs*F) (fun g:Option Addr=> .pointer g)
  (fun g=>ay g (pk kd f1 f2 f3 id nx n)*(aK p pp n cs*F)):=by
 refine Spec.of Tryz.func146 rfl Tryz.ntmps146 rfl ?_
 have hk:2≤(n:Int)∧(n:Int)≤1024:=by unfold fH at hf;have:=of_decide_eq_true hf;omega
 have rO:qz (f1:Int) f2 f3 (n:Int)=(((gq (gz f1 f2 f3) n).1:Int),((gq (gz f1 f2 f3) n).2:Int)):=by
  unfold qz xg;rw[if_pos hf,show((f1:Int)%65536).toNat=f1 by omega];rfl
 refine aK.open fun g=> ?_
 simp only[kS]
 repeat first|refine aa ?_ |intro
 rename_i y
 refine aL 99 (Obj y 53 [.int .i64 (f1:Int),.int .u32 (f2:Int),.int .u16 (f3:Int)]*(Obj p 161 [.pointer pp,.pointer g,.int .i64 (n:Int)]*1)) rfl rfl rfl ?_
 repeat(first|refine aq ?_ |refine eD ?_)
 refine aI rfl rfl rfl rfl rfl (GU _ _ h2 h3) (fun _=>ad) ?_
 intro _
 rw[rO]
 repeat(first|refine aq ?_ |refine eD ?_)
 repeat first|refine aa ?_ |intro
 rename_i x
 refine ae (aw rfl rfl x rfl (U.sat (U.trans ?_ (ay.shut (s:=pk kd f1 f2 f3 id nx n) rfl))))
 refine U.obj x rfl (U.trans ?_ (aK.shut (g:=g)))
 exact ad
theorem GV {f1 f2 f3:Nat}(hf:fH (n:Int)=true)(h1:f1≤255)(h2:f2<4294967296)(h3:f3<65536):Spec Tryz.prog 87 [.pointer p,y6 (f1:Int) f2 f3] W (aK p pp n cs*F) (fun g:Option Addr=> .pointer g)
  (fun g=>ay g (pk 0 f1 f2 f3 (-1) 0 n)*(aK p pp n cs*F)):=by
 refine Spec.of Tryz.func87 rfl Tryz.ntmps87 rfl ?_
 repeat first|refine aa ?_ |intro
 refine ag rfl (Spec.aV p (L6 (kd:=0) (nx:=0) hf h1 h2 h3)) ?_
 intro g
 repeat first|refine aa ?_ |intro
 exact ae (aw rfl rfl g rfl (U.sat (ad)))
theorem Ps {f1 f2 f3:Nat}{id:Int}(hf:fH (n:Int)=true)(h1:f1≤255)(h2:f2<4294967296)(h3:f3<65536):Spec Tryz.prog 163 [.pointer p,y6 (f1:Int) f2 f3,.int .i64 id] W (aK p pp n cs*F) (fun g:Option Addr=> .pointer g)
  (fun g=>ay g (pk 1 f1 f2 f3 id 0 n)*(aK p pp n cs*F)):=by
 refine Spec.of Tryz.func163 rfl Tryz.ntmps163 rfl ?_
 repeat first|refine aa ?_ |intro
 refine ag rfl (Spec.aV p (L6 (kd:=1) (nx:=0) hf h1 h2 h3)) ?_
 intro g
 repeat first|refine aa ?_ |intro
 exact ae (aw rfl rfl g rfl (U.sat (ad)))
theorem sV {e:Nat}:Spec Tryz.prog 191 [.pointer p,.int .i64 (e:Int)] W (ay p s*F) (fun _:Unit=> .tuple #[]) (fun _=>ay p (jr s e)*F):=by
 refine Spec.of Tryz.func191 rfl Tryz.ntmps191 rfl ?_
 refine ay.open ?_
 repeat first|refine aa ?_ |intro
 exact aN (aO rfl () rfl (U.sat (ay.shut (by rfl))))
theorem Fu {u nx:Nat}:Spec Tryz.prog 203 [.pointer p,.int .u64 (u:Int),.int .i64 (nx:Int)] W (ay p s*F) (fun _:Unit=> .tuple #[]) (fun _=>ay p (nQ s u nx)*F):=by
 refine Spec.of Tryz.func203 rfl Tryz.ntmps203 rfl ?_
 refine ay.open ?_
 repeat first|refine aa ?_ |intro
 exact aN (aO rfl () rfl (U.sat (ay.shut (by rfl))))
theorem P6 (hk:s.kind≤2)(hw:s.first<18446744073709551616):Spec Tryz.prog 205 [.pointer p] W (ay p s*F) (fun _:Unit=> .int .i64 (nv s:Int)) (fun _=>ay p s*F):=by
 refine Spec.of Tryz.func205 rfl Tryz.ntmps205 rfl ?_
 refine ay.open ?_
 by_cases h0:s.kind=0
 ·repeat first|refine aa ?_ |intro
  exact ae (aw rfl rfl () (by unfold nv;rw[if_pos h0];rfl) (U.sat (ay.shut (by rfl))))
 ·repeat first|refine aa ?_ |intro
  refine ag rfl (uv hw) ?_
  intro _
  cases qi:cZ s.first with
  |true=>
   repeat first|refine aa ?_ |intro
   exact ae (aw rfl rfl () (by unfold nv;rw[if_neg h0,qi];rfl) (U.sat (ay.shut (by rfl))))
  |false=>
   repeat first|refine aa ?_ |intro
   exact ae (aw rfl rfl () (by unfold nv;rw[if_neg h0,qi];rfl) (U.sat (ay.shut (by rfl))))
end
section
open Go.RowKit
set_option maxRecDepth 10000
attribute [local irreducible] EK EX ER EN EL ES EG az ba bf
variable {W:World} {F:SL} {X:Cx} {k:List KI} {σ:Env} {p pp g q:Option Addr} {ws cs pl:List Nat} {n np:Nat} {s:aU}
set_option maxHeartbeats 2000000 in
theorem JM (h:GC n np cs pl s):Spec Tryz.prog 204 [.pointer p,.pointer q] W (ay q s*(Obj p 161 [.pointer pp,.pointer g,.int .i64 (n:Int)]*(aM pp pl*F))) (fun _:Unit=> .bool (dx pl s).2)
  (fun _=>ay q (dx pl s).1*(Obj p 161 [.pointer pp,.pointer g,.int .i64 (n:Int)]*(aM pp pl*F))):=by
 refine Spec.of Tryz.func204 rfl Tryz.ntmps204 rfl ?_
 have cJ:=Fl (word:=s.word) (id:=s.id) 4 s.at_ (by omega)
 have hle:=Fk s.word s.id 4 s.at_ h.nY
 have gG:=h.word
 repeat first|refine aa ?_ |intro
 refine yl (γ:=aU) (fun t=>t={s with at_:=gn s.word s.id 4 s.at_}) (fun _=>[(0,.pointer p),(1,.pointer q),(4,.bool false)]) (fun t=>ay q t*(Obj p 161 [.pointer pp,.pointer g,.int .i64 (n:Int)]*(aM pp pl*F))) ?_ ?_
 ·refine ff (γ:=Nat×aU) (fun g=>g.2.at_≤4∧4≤g.2.at_+g.1∧gn s.word s.id g.1 g.2.at_=gn s.word s.id 4 s.at_∧g.2={s with at_:=g.2.at_}) (fun _=>[(0,.pointer p),(1,.pointer q),(4,.bool false)]) (fun i=>ay q i.2*(Obj p 161 [.pointer pp,.pointer g,.int .i64 (n:Int)]*(aM pp pl*F))) (fun g=>4-g.2.at_) (4,s) ⟨h.nY,by dsimp only;omega,rfl,rfl⟩ ⟨rfl,rfl,rfl,trivial⟩ (U.sat (U.refl _)) ?_
  intro ⟨fu,t⟩ ⟨hi,qi,uF,ht⟩;dsimp only at hi qi uF ht ⊢
  have fI:t.word=s.word:=by rw[ht]
  have jQ:t.id=s.id:=by rw[ht]
  have he:=uF
  rw[←fI,←jQ]at he
  rw[←fI]at gG
  refine ay.open ?_
  repeat first|refine aa ?_ |intro
  by_cases lZ:t.at_<4
  ·obtain⟨f,rfl⟩:∃f,fu=f+1:=⟨fu-1,by omega⟩
   have Jn:=h.refs t.at_ lZ
   rw[←fI]at Jn
   refine aL 99 (Obj q 267 (eE t)*1) rfl rfl rfl ?_
   repeat(first|refine aq ?_ |refine eD ?_)
   refine aI rfl rfl rfl rfl rfl (iJ gG lZ) (fun _=>ad) ?_
   intro _
   by_cases h1:bM t.word t.at_<0
   ·repeat(first|refine aq ?_ |refine eD ?_)
    repeat first|refine aa ?_ |intro
    refine cT (f,{t with at_:=t.at_+1}) ⟨by dsimp only;omega,by dsimp only;omega,by dsimp only;rw[←fI,←jQ,←he,gn,if_pos ⟨lZ,.inl h1⟩],by dsimp only;rw[ht]⟩ (by dsimp only;omega) ⟨rfl,rfl,rfl,trivial⟩ (U.sat ?_)
    exact ay.shut (by rfl)
   ·by_cases h2:bM t.word t.at_=t.id
    ·repeat(first|refine aq ?_ |refine eD ?_)
     refine aI rfl rfl rfl rfl rfl (iJ gG lZ) (fun _=>ad) ?_
     intro _
     repeat(first|refine aq ?_ |refine eD ?_)
     repeat first|refine aa ?_ |intro
     refine cT (f,{t with at_:=t.at_+1}) ⟨by dsimp only;omega,by dsimp only;omega,by dsimp only;rw[←fI,←jQ,←he,gn,if_pos ⟨lZ,.inr h2⟩],by dsimp only;rw[ht]⟩ (by dsimp only;omega) ⟨rfl,rfl,rfl,trivial⟩ (U.sat ?_)
     exact ay.shut (by rfl)
    ·repeat(first|refine aq ?_ |refine eD ?_)
     refine aI rfl rfl rfl rfl rfl (iJ gG lZ) (fun _=>ad) ?_
     intro _
     repeat(first|refine aq ?_ |refine eD ?_)
     repeat first|refine aa ?_ |intro
     have Dp:gn s.word s.id (f+1) t.at_=t.at_:=by rw[←fI,←jQ,gn,if_neg (fun e=>e.2.elim h1 h2)]
     rw[Dp]at uF
     refine ei t (by rw[ht,←uF]) ⟨rfl,rfl,rfl,trivial⟩ (U.sat ?_)
     exact ay.shut (by rfl)
  ·refine aL 99 (Obj q 267 (eE t)*1) rfl rfl rfl ?_
   repeat(first|refine aq ?_ |refine eD ?_)
   repeat first|refine aa ?_ |intro
   have Dp:gn s.word s.id fu t.at_=t.at_:=by
    cases fu with
    |zero=>rfl
    |succ f=>rw[gn,if_neg (fun e=>lZ e.1)]
   rw[Dp]at uF
   refine ei t (by rw[ht,←uF]) ⟨rfl,rfl,rfl,trivial⟩ (U.sat ?_)
   exact ay.shut (by rfl)
 ·intro t ht
  have fI:t.word=s.word:=by rw[ht]
  have jQ:t.id=s.id:=by rw[ht]
  have zM:t.at_=gn s.word s.id 4 s.at_:=by rw[ht]
  have s5:t.f1≤255:=by rw[ht];exact h.f1
  have o5:t.f2<4294967296:=by rw[ht];exact h.f2
  have SR:t.f3<65536:=by rw[ht];exact h.f3
  rw[←zM,←fI,←jQ]at cJ
  rw[←zM]at hle
  rw[←fI]at gG
  have DX:=h.pw
  have jb:=h.mg
  have c3:=h.jw
  rw[show dx pl s=jv pl t by unfold dx;rw[ht]]
  have hrefs:=h.refs
  rw[←fI]at hrefs
  clear ht zM fI jQ
  refine ay.open ?_
  by_cases h4:t.at_=4
  ·repeat first|refine aa ?_ |intro
   have e:jv pl t=(t,true):=by unfold jv;rw[if_pos h4]
   rw[e]
   exact ae (aw rfl rfl () rfl (U.sat (ay.shut (by rfl))))
  ·have lZ:t.at_<4:=by omega
   have Jn:=hrefs t.at_ lZ
   have hr0:¬bM t.word t.at_<0:=fun e=>cJ ⟨lZ,.inl e⟩
   obtain⟨j,hj⟩:∃j:Nat,bM t.word t.at_=(j:Int):=⟨(bM t.word t.at_).toNat,by omega⟩
   repeat first|refine aa ?_ |intro
   refine aL 99 (Obj q 267 (eE t)*1) rfl rfl rfl ?_
   repeat(first|refine aq ?_ |refine eD ?_)
   refine aI rfl rfl rfl rfl rfl (iJ gG lZ) (fun _=>ad) ?_
   intro _
   rw[hj]
   repeat(first|refine aq ?_ |refine eD ?_)
   cases hh:t.half with
   |false=>
    repeat first|refine aa ?_ |intro
    refine ag rfl (Spec.aV pp (yy jb c3 (by omega) DX)) ?_
    intro _
    have e:jv pl t=if(aJ.of (pl.getD (2*j) 0)).st=1∨(aJ.of (pl.getD (2*j) 0)).st=2 then({t with seen:=aJ.of (pl.getD (2*j) 0),half:=true},false)else({t with seen:=aJ.of (pl.getD (2*j) 0),at_:=t.at_+1},decide (t.at_+1=4)):=by
     unfold jv;rw[if_neg h4,hj,if_pos hh,Int.toNat_natCast]
    rw[e]
    generalize aJ.of (pl.getD (2*j) 0)=w at*
    by_cases w1:w.st=1
    ·repeat first|refine aa ?_ |intro
     rw[if_pos (.inl w1)]
     exact ae (aw rfl rfl () rfl (U.sat (ay.bX (by rfl) (ad))))
    ·by_cases w2:w.st=2
     ·repeat first|refine aa ?_ |intro
      rw[if_pos (.inr w2)]
      exact ae (aw rfl rfl () rfl (U.sat (ay.bX (by rfl) (ad))))
     ·repeat first|refine aa ?_ |intro
      rw[if_neg (fun e=>e.elim w1 w2)]
      refine ae (aw rfl rfl () ?_ (U.sat (ay.bX (by unfold j0;dsimp only;rw[hh];rfl) (ad))))
      exact congrArg _ (decide_eq_decide.2 (by omega))
   |true=>
    repeat first|refine aa ?_ |intro
    refine aL 99 (Obj p 161 [.pointer pp,.pointer g,.int .i64 (n:Int)]*(Obj q 267 (eE {t with half:=false})*1)) rfl rfl rfl ?_
    repeat(first|refine aq ?_ |refine eD ?_)
    refine aI rfl rfl rfl rfl rfl (Spec.aV pp (Cc jb c3 (by omega) DX)) (fun _=>ad) ?_
    intro _
    repeat(first|refine aq ?_ |refine eD ?_)
    dsimp only
    rw[UE (DX (2*j+1)) s5 o5 SR]
    have e:jv pl t=if pl.getD (2*j+1) 0=gz t.f1 t.f2 t.f3 then({t with half:=false,found:=(j:Int),aQ:=t.seen,done:=true,end_:=if t.kind=1 then 10 else 0},false)else({t with half:=false,at_:=t.at_+1},decide (t.at_+1=4)):=by
     unfold jv;rw[if_neg h4,hj,hh];rfl
    rw[e]
    by_cases hk:pl.getD (2*j+1) 0=gz t.f1 t.f2 t.f3
    ·rw[if_pos hk,decide_eq_true hk]
     repeat first|refine aa ?_ |intro
     refine ag rfl (Spec.pre (sV (p:=q) (e:=0) (s:={t with half:=false,found:=(j:Int),aQ:=t.seen})) (ay.bX (by rfl) (U.refl _))) ?_
     intro _
     refine ay.jx ?_
     dsimp only[jr]
     by_cases bl:t.kind=1
     ·repeat first|refine aa ?_ |intro
      rw[if_pos bl]
      exact ae (aw rfl rfl () rfl (U.sat (ay.bX (by rfl) (ad))))
     ·repeat first|refine aa ?_ |intro
      rw[if_neg bl]
      exact ae (aw rfl rfl () rfl (U.sat (ay.bX (by rfl) (ad))))
    ·rw[if_neg hk,decide_eq_false hk]
     repeat first|refine aa ?_ |intro
     refine ae (aw rfl rfl () ?_ (U.sat (ay.bX (by rfl) (ad))))
     exact congrArg _ (decide_eq_decide.2 (by omega))
end
section
open Go.RowKit
set_option maxRecDepth 10000
attribute [local irreducible] EK EX ER EN EL ES EG az ba bf
variable {W:World} {F:SL} {X:Cx} {k:List KI} {σ:Env} {p pp g q:Option Addr} {ws cs pl:List Nat} {n np:Nat} {s:aU}
set_option maxHeartbeats 2000000 in
theorem XL (h:GC n np cs pl s):Spec Tryz.prog 150 [.pointer p,.pointer q] W (ay q s*(aK p pp n cs*(aM pp pl*F))) (fun _:Unit=> .tuple #[])
  (fun _=>ay q (ib cs pl s).2*(aK p pp n (ib cs pl s).1*(aM pp pl*F))):=by
 refine Spec.of Tryz.func150 rfl Tryz.ntmps150 rfl ?_
 have ha:=h.a
 have hb:=h.b
 have iD:=h.vR
 have ka:=h.n2
 have zE:=h.next
 refine cW p (aK.open fun g=> ?_)
 simp only[kS]
 refine cW q (ay.open ?_)
 have jt:s.next=0∨s.next=1∨s.next=2∨s.next=3∨s.next=4∨s.next=5:=by omega
 rcases jt with e|e|e|e|e|e
 ·have es:ib cs pl s=(cs,nQ {s with first:=cs.getD s.a 0} (cs.getD s.a 0) 1):=by unfold ib;rw[if_pos e]
  rw[es]
  repeat first|refine aa ?_ |intro
  refine aL 12 (Obj p 161 [.pointer pp,.pointer g,.int .i64 (n:Int)]*(Obj q 267 (eE s)*1)) rfl rfl rfl ?_
  repeat(first|refine aq ?_ |refine eD ?_)
  refine aI rfl rfl rfl rfl rfl (Spec.aV g (fC g cs s.a (by omega) (by omega))) (fun _=>ad) ?_
  intro _
  repeat(first|refine aq ?_ |refine eD ?_)
  repeat(first|refine bQ ?_ |(refine bU ?_;intro)|refine bR ?_ |refine bS ?_ |refine bT ?_ |refine eD ?_)
  repeat first|refine aa ?_ |intro
  refine ag rfl (Spec.pre (Fu (p:=q) (s:={s with first:=cs.getD s.a 0}) (u:=cs.getD s.a 0) (nx:=1)) (ay.bX (by rfl) (U.refl _))) ?_
  intro _
  repeat first|refine aa ?_ |intro
  exact aN (aO rfl () rfl (U.sat (U.cons (U.trans (ad) (aK.shut (g:=g))))))
 ·repeat first|refine aa ?_ |intro
  refine ag rfl (Spec.pre (JM h (p:=p) (q:=q) (g:=g) (pp:=pp) (F:=cz g cs*F)) (ay.bX (by rfl) (ad))) ?_
  intro _
  have es:ib cs pl s=(cs,if(dx pl s).2=true then {(dx pl s).1 with next:=2}else(dx pl s).1):=by unfold ib;simp only[e];rfl
  rw[es]
  have zx:(dx pl s).1.first=s.first∧(dx pl s).1.kind=s.kind:=by
   unfold dx jv
   split
   ·exact⟨rfl,rfl⟩
   ·dsimp only
    split
    ·split<;>exact⟨rfl,rfl⟩
    ·split<;>exact⟨rfl,rfl⟩
  generalize dx pl s=L at*
  cases hL:L.2 with
  |true=>
   refine ay.jx ?_
   repeat first|refine aa ?_ |intro
   rw[if_pos rfl]
   exact aN (aO rfl () rfl (U.sat (ay.bX (by rfl) (U.trans (ad) (aK.shut (g:=g))))))
  |false=>
   repeat first|refine aa ?_ |intro
   rw[if_neg (by decide)]
   exact aN (aO rfl () rfl (U.sat (U.cons (U.trans (ad) (aK.shut (g:=g))))))
 ·have es:ib cs pl s=(cs,nQ s (cs.getD s.b 0) 3):=by unfold ib;simp only[e];rfl
  rw[es]
  repeat first|refine aa ?_ |intro
  refine aL 10 (Obj p 161 [.pointer pp,.pointer g,.int .i64 (n:Int)]*(Obj q 267 (eE s)*1)) rfl rfl rfl ?_
  repeat(first|refine aq ?_ |refine eD ?_)
  refine aI rfl rfl rfl rfl rfl (Spec.aV g (fC g cs s.b (by omega) (by omega))) (fun _=>ad) ?_
  intro _
  repeat(first|refine aq ?_ |refine eD ?_)
  refine kh rfl rfl rfl rfl (Spec.aV q (Spec.pre (Fu (p:=q) (s:=s) (u:=cs.getD s.b 0) (nx:=3)) (ay.bX (by rfl) (U.refl _)))) ?_
  intro _
  repeat(first|refine aq ?_ |refine eD ?_)
  repeat first|refine aa ?_ |intro
  exact aN (aO rfl () rfl (U.sat (U.cons (U.trans (ad) (aK.shut (g:=g))))))
 ·repeat first|refine aa ?_ |intro
  refine ag rfl (Spec.pre (JM h (p:=p) (q:=q) (g:=g) (pp:=pp) (F:=cz g cs*F)) (ay.bX (by rfl) (ad))) ?_
  intro _
  have es:ib cs pl s=(cs,if(dx pl s).2=true then {(dx pl s).1 with next:=nv (dx pl s).1}else(dx pl s).1):=by unfold ib;simp only[e];rfl
  rw[es]
  have zx:(dx pl s).1.first=s.first∧(dx pl s).1.kind=s.kind:=by
   unfold dx jv
   split
   ·exact⟨rfl,rfl⟩
   ·dsimp only
    split
    ·split<;>exact⟨rfl,rfl⟩
    ·split<;>exact⟨rfl,rfl⟩
  generalize dx pl s=L at*
  cases hL:L.2 with
  |true=>
   repeat first|refine aa ?_ |intro
   refine ag rfl (P6 (by rw[zx.2];exact h.kind) (by rw[zx.1];exact h.first)) ?_
   intro _
   refine ay.jx ?_
   repeat first|refine aa ?_ |intro
   rw[if_pos rfl]
   exact aN (aO rfl () rfl (U.sat (ay.bX (by rfl) (U.trans (ad) (aK.shut (g:=g))))))
  |false=>
   repeat first|refine aa ?_ |intro
   rw[if_neg (by decide)]
   exact aN (aO rfl () rfl (U.sat (U.cons (U.trans (ad) (aK.shut (g:=g))))))
 ·have es:ib cs pl s=(cs,if cs.getD s.a 0=s.first then jr s 7 else nQ {s with first:=cs.getD s.a 0} (cs.getD s.a 0) 1):=by unfold ib;simp only[e];rfl
  rw[es]
  repeat first|refine aa ?_ |intro
  refine jD 8 rfl (by kernel_rfl) rfl rfl ?_
  repeat(refine cV ?_)
  refine ag rfl (Spec.aV g (fC g cs s.a (by omega) (by omega))) ?_
  intro _
  by_cases hu:cs.getD s.a 0=s.first
  ·rw[if_pos hu]
   repeat first|refine aa ?_ |intro
   refine ag rfl (Spec.aV q (Spec.pre (sV (p:=q) (e:=7) (s:=s)) (ay.bX (by rfl) (U.refl _)))) ?_
   intro _
   repeat first|refine aa ?_ |intro
   exact ae (dB rfl () rfl (U.sat (U.cons (U.trans (ad) (aK.shut (g:=g))))))
  ·rw[if_neg hu]
   repeat first|refine aa ?_ |intro
   refine ag rfl (Spec.pre (Fu (p:=q) (s:={s with first:=cs.getD s.a 0}) (u:=cs.getD s.a 0) (nx:=1)) (ay.bX (by rfl) (U.refl _))) ?_
   intro _
   repeat first|refine aa ?_ |intro
   exact aN (aO rfl () rfl (U.sat (U.cons (U.trans (ad) (aK.shut (g:=g))))))
 ·have es:ib cs pl s=if cs.getD s.a 0=s.first then(cs.set s.a (iO s.first s.id),jr {s with next:=0} 0)else(cs,{s with next:=0}):=by unfold ib;simp only[e];rfl
  rw[es]
  repeat first|refine aa ?_ |intro
  refine aL 99 (Obj p 161 [.pointer pp,.pointer g,.int .i64 (n:Int)]*(Obj q 267 (eE {s with next:=0})*1)) rfl rfl rfl ?_
  repeat(first|refine aq ?_ |refine eD ?_)
  refine aI rfl rfl rfl rfl rfl (Mx (id:=s.id) h.first (h.link e).1 (by have:=h.uL;have:=h.jw;omega) (h.link e).2) (fun _=>ad) ?_
  intro _
  repeat(first|refine aq ?_ |refine eD ?_)
  refine aI rfl rfl rfl rfl rfl (Spec.aV g (mw g cs s.a s.first (iO s.first s.id) (by omega) (by omega))) (fun _=>ad) ?_
  intro _
  repeat(first|refine aq ?_ |refine eD ?_)
  by_cases hu:cs.getD s.a 0=s.first
  ·rw[if_pos hu,if_pos hu,decide_eq_true hu]
   repeat first|refine aa ?_ |intro
   refine ag rfl (Spec.aV q (Spec.pre (sV (p:=q) (e:=0) (s:={s with next:=0})) (ay.bX (by rfl) (U.refl _)))) ?_
   intro _
   repeat first|refine aa ?_ |intro
   exact aN (aO rfl () rfl (U.sat (U.cons (U.trans (ad) (aK.shut (g:=g))))))
  ·rw[if_neg hu,if_neg hu,decide_eq_false hu]
   repeat first|refine aa ?_ |intro
   refine aN (aO rfl () rfl (U.sat ?_))
   have hq:∀A B C:SL,A*(B*C)=B*(A*C):=fun A B C=>by ac_rfl
   rw[hq]
   exact ay.bX (by rfl) (U.trans (ad) (aK.shut (g:=g)))
theorem ub:Spec Tryz.prog 89 [.pointer q] W (ay q s*F) (fun _:Unit=> .int .i64 (s.end_:Int)) (fun _=>ay q s*F):=by
 refine Spec.of Tryz.func89 rfl Tryz.ntmps89 rfl ?_
 refine ay.open ?_
 repeat first|refine aa ?_ |intro
 exact ae (aw rfl rfl () rfl (U.sat (ay.bX (by rfl) (U.refl _))))
theorem A7:Spec Tryz.prog 91 [.pointer q] W (ay q s*F) (fun _:Unit=> .tuple #[.int .i64 s.found,jk s.aQ]) (fun _=>ay q s*F):=by
 refine Spec.of Tryz.func91 rfl Tryz.ntmps91 rfl ?_
 refine ay.open ?_
 repeat first|refine aa ?_ |intro
 refine aL 9 (Obj q 267 (eE s)*1) rfl rfl rfl ?_
 repeat(first|refine aq ?_ |refine eD ?_)
 repeat(first|refine bQ ?_ |(refine bU ?_;intro)|refine bR ?_ |refine bS ?_ |refine bT ?_ |refine eD ?_)
 repeat first|refine aa ?_ |intro
 refine ae (bq (rs:=[.tmp 2,.cell 3 78]) (v:= .int .i64 s.found) (u:=jk s.aQ) (vs:=[]) rfl ⟨rfl,⟨_,rfl,bc.agg rfl⟩,trivial⟩ () rfl (U.sat ?_))
 exact U.trans U.drop (ay.bX (by rfl) (U.refl _))
end
section
open Go.RowKit
set_option maxRecDepth 10000
attribute [local irreducible] EK EX ER EN EL ES EG az ba bf
variable {W:World} {F:SL} {X:Cx} {k:List KI} {σ:Env} {p pp g q:Option Addr} {ws cs pl:List Nat} {n np:Nat} {s:aU}
def mu (u:Nat)(id:Int):Nat:=kV u (dY u id).toNat 0
def p8 (s:aU):Nat:=if s.second=true then s.b else s.a
def iY (s:aU):aU:=if s.second=true then {jr s 0 with second:=true}else {s with second:=true}
def hN (cs:List Nat)(s:aU):List Nat×aU:=
 if s.next=24 then
  if cs.getD (p8 s) 0=s.word then(cs.set (p8 s) (mu s.word s.id),iY {s with next:=23})else(cs,{s with next:=23})
 else if 0≤dY (cs.getD (p8 s) 0) s.id∧0≤s.id then(cs,{s with word:=cs.getD (p8 s) 0,next:=24})
 else(cs,iY {s with word:=cs.getD (p8 s) 0})
structure O6 (n:Nat)(cs:List Nat)(s:aU):Prop where
 vR:cs.length=n+1
 n2:n≤1024
 cw:∀j,cs.getD j 0<18446744073709551616
 a:s.a<n
 b:s.b<n
 next:s.next=23∨s.next=24
 word:s.word<18446744073709551616
 out:s.next=24→0≤dY s.word s.id
 done:s.done=false
theorem AU {u:Nat}{id:Int}(hu:u<18446744073709551616)(h1:0≤dY u id):Spec Tryz.prog 189 [.int .u64 (u:Int),.int .i64 id] W F (fun _:Unit=> .int .u64 (mu u id:Int)) (fun _=>F):=by
 refine Spec.of Tryz.func189 rfl Tryz.ntmps189 rfl ?_
 have hw:=Mr u id
 obtain⟨i,hi⟩:∃i:Nat,dY u id=(i:Int):=⟨(dY u id).toNat,by omega⟩
 have gx:mu u id=kV u i 0:=by unfold mu;rw[hi];rfl
 repeat first|refine aa ?_ |intro
 refine ag rfl (tX _ hu) ?_
 intro _
 rw[hi]
 repeat first|refine aa ?_ |intro
 refine ag rfl (L7 (v:=0) hu (by omega) (by decide)) ?_
 intro _
 repeat first|refine aa ?_ |intro
 exact ae (aw rfl rfl () (by rw[gx]) (U.sat U.last))
set_option maxHeartbeats 2000000 in
theorem Q4 (h:O6 n cs s):Spec Tryz.prog 147 [.pointer p,.pointer q] W (ay q s*(aK p pp n cs*F)) (fun _:Unit=> .tuple #[])
  (fun _=>ay q (hN cs s).2*(aK p pp n (hN cs s).1*F)):=by
 refine Spec.of Tryz.func147 rfl Tryz.ntmps147 rfl ?_
 have ha:=h.a
 have hb:=h.b
 have iD:=h.vR
 have ka:=h.n2
 have gG:=h.word
 refine cW p (aK.open fun g=> ?_)
 simp only[kS]
 refine cW q (ay.open ?_)
 cases ot:s.second with
 |true=>
  have oe:p8 s=s.b:=by unfold p8;rw[ot];rfl
  rcases h.next with e|e
  ·repeat first|refine aa ?_ |intro
   refine ag rfl (Spec.aV g (fC g cs s.b (by omega) (by omega))) ?_
   intro _
   have hu:=h.cw s.b
   obtain⟨t,ht⟩:∃t:aU,t={s with word:=cs.getD s.b 0}:=⟨_,rfl⟩
   have fI:t.word=cs.getD s.b 0:=by rw[ht]
   have jQ:t.id=s.id:=by rw[ht]
   have D2:t.second=s.second:=by rw[ht]
   repeat first|refine aa ?_ |intro
   refine jE (G:=Obj q 267 (eE t)*(cz g cs*(Obj p 161 [.pointer pp,.pointer g,.int .i64 (n:Int)]*F))) (by rw[ht];dsimp only[eE];rw[ot];exact ad) ?_
   refine aL 99 (Obj q 267 (eE t)*1) rfl rfl rfl ?_
   repeat(first|refine aq ?_ |refine eD ?_)
   have D3:t.word<18446744073709551616:=by rw[fI];exact hu
   refine aI rfl rfl rfl rfl rfl (tX t.id D3) (fun _=>ad) ?_
   intro _
   have ql:t.second=true:=by rw[D2,ot]
   by_cases hp:0≤dY t.word t.id
   ·by_cases hq:0≤t.id
    ·have hE:hN cs s=(cs,{t with next:=24}):=by unfold hN;rw[if_neg (show ¬s.next=24 by omega),oe,←fI,←jQ,if_pos ⟨hp,hq⟩,ht]
     rw[hE]
     repeat(first|refine aq ?_ |refine eD ?_)
     repeat first|refine aa ?_ |intro
     exact ae (dB rfl () rfl (U.sat (ay.bX (by rfl) (U.trans (ad) (aK.shut (g:=g))))))
    ·have hE:hN cs s=(cs,iY t):=by unfold hN;rw[if_neg (show ¬s.next=24 by omega),oe,←fI,←jQ,if_neg (fun z=>hq z.2),ht]
     rw[hE]
     repeat(first|refine aq ?_ |refine eD ?_)
     repeat first|refine aa ?_ |intro
     refine vn (by rw[ql];rfl) ?_
     repeat first|refine aa ?_ |intro
     refine ag rfl (Spec.aV q (Spec.pre (sV (p:=q) (e:=0) (s:=t)) (ay.bX (by rfl) (U.refl _)))) ?_
     intro _
     refine ay.jx ?_
     dsimp only[jr]
     repeat first|refine aa ?_ |intro
     have eg:iY t={jr t 0 with second:=true}:=by unfold iY;rw[if_pos ql]
     rw[eg]
     exact aN (aO rfl () rfl (U.sat (ay.bX (by rfl) (U.trans (ad) (aK.shut (g:=g))))))
   ·have hE:hN cs s=(cs,iY t):=by unfold hN;rw[if_neg (show ¬s.next=24 by omega),oe,←fI,←jQ,if_neg (fun z=>hp z.1),ht]
    rw[hE]
    repeat(first|refine aq ?_ |refine eD ?_)
    repeat first|refine aa ?_ |intro
    refine vn (by rw[ql];rfl) ?_
    repeat first|refine aa ?_ |intro
    refine ag rfl (Spec.aV q (Spec.pre (sV (p:=q) (e:=0) (s:=t)) (ay.bX (by rfl) (U.refl _)))) ?_
    intro _
    refine ay.jx ?_
    dsimp only[jr]
    repeat first|refine aa ?_ |intro
    have eg:iY t={jr t 0 with second:=true}:=by unfold iY;rw[if_pos ql]
    rw[eg]
    exact aN (aO rfl () rfl (U.sat (ay.bX (by rfl) (U.trans (ad) (aK.shut (g:=g))))))
  ·repeat first|refine aa ?_ |intro
   refine aL 99 (Obj p 161 [.pointer pp,.pointer g,.int .i64 (n:Int)]*(Obj q 267 (eE {s with next:=23,second:=true})*1)) rfl rfl rfl ?_
   repeat(first|refine aq ?_ |refine eD ?_)
   refine aI rfl rfl rfl rfl rfl (AU (id:=s.id) gG (h.out e)) (fun _=>ad) ?_
   intro _
   repeat(first|refine aq ?_ |refine eD ?_)
   refine aI rfl rfl rfl rfl rfl (Spec.aV g (mw g cs s.b s.word (mu s.word s.id) (by omega) (by omega))) (fun _=>ad) ?_
   intro _
   repeat(first|refine aq ?_ |refine eD ?_)
   by_cases hu:cs.getD s.b 0=s.word
   ·have hE:hN cs s=(cs.set s.b (mu s.word s.id),iY {s with next:=23}):=by unfold hN;rw[if_pos e,oe,if_pos hu]
    rw[hE,if_pos hu,decide_eq_true hu]
    repeat first|refine aa ?_ |intro
    refine ag rfl (Spec.aV q (Spec.pre (sV (p:=q) (e:=0) (s:={s with next:=23})) (ay.bX (by unfold j0;rw[ot];rfl) (U.refl _)))) ?_
    intro _
    refine ay.jx ?_
    dsimp only[jr]
    repeat first|refine aa ?_ |intro
    have eg:iY {s with next:=23}={jr {s with next:=23} 0 with second:=true}:=by unfold iY;rw[if_pos ot]
    rw[eg]
    exact aN (aO rfl () rfl (U.sat (ay.bX (by rfl) (U.trans (ad) (aK.shut (g:=g))))))
   ·have hE:hN cs s=(cs,{s with next:=23}):=by unfold hN;rw[if_pos e,oe,if_neg hu]
    rw[hE,if_neg hu,decide_eq_false hu]
    repeat first|refine aa ?_ |intro
    refine ae (dB rfl () rfl (U.sat ?_))
    rw[show ∀A B C:SL,A*(B*C)=B*(A*C)from fun A B C=>by ac_rfl]
    exact ay.bX (by unfold j0;dsimp only;rw[ot];rfl) (U.trans (ad) (aK.shut (g:=g)))
 |false=>
  have oe:p8 s=s.a:=by unfold p8;rw[ot];rfl
  rcases h.next with e|e
  ·repeat first|refine aa ?_ |intro
   refine ag rfl (Spec.aV g (fC g cs s.a (by omega) (by omega))) ?_
   intro _
   have hu:=h.cw s.a
   obtain⟨t,ht⟩:∃t:aU,t={s with word:=cs.getD s.a 0}:=⟨_,rfl⟩
   have fI:t.word=cs.getD s.a 0:=by rw[ht]
   have jQ:t.id=s.id:=by rw[ht]
   have D2:t.second=s.second:=by rw[ht]
   repeat first|refine aa ?_ |intro
   refine jE (G:=Obj q 267 (eE t)*(cz g cs*(Obj p 161 [.pointer pp,.pointer g,.int .i64 (n:Int)]*F))) (by rw[ht];dsimp only[eE];rw[ot];exact ad) ?_
   refine aL 99 (Obj q 267 (eE t)*1) rfl rfl rfl ?_
   repeat(first|refine aq ?_ |refine eD ?_)
   have D3:t.word<18446744073709551616:=by rw[fI];exact hu
   refine aI rfl rfl rfl rfl rfl (tX t.id D3) (fun _=>ad) ?_
   intro _
   have ql:t.second=false:=by rw[D2,ot]
   by_cases hp:0≤dY t.word t.id
   ·by_cases hq:0≤t.id
    ·have hE:hN cs s=(cs,{t with next:=24}):=by unfold hN;rw[if_neg (show ¬s.next=24 by omega),oe,←fI,←jQ,if_pos ⟨hp,hq⟩,ht]
     rw[hE]
     repeat(first|refine aq ?_ |refine eD ?_)
     repeat first|refine aa ?_ |intro
     exact ae (dB rfl () rfl (U.sat (ay.bX (by rfl) (U.trans (ad) (aK.shut (g:=g))))))
    ·have hE:hN cs s=(cs,iY t):=by unfold hN;rw[if_neg (show ¬s.next=24 by omega),oe,←fI,←jQ,if_neg (fun z=>hq z.2),ht]
     rw[hE]
     repeat(first|refine aq ?_ |refine eD ?_)
     repeat first|refine aa ?_ |intro
     refine vm (by rw[ql];rfl) ?_
     repeat first|refine aa ?_ |intro
     have eg:iY t={t with second:=true}:=by unfold iY;rw[if_neg (by rw[ql];decide)]
     rw[eg]
     exact aN (aO rfl () rfl (U.sat (ay.bX (by rfl) (U.trans (ad) (aK.shut (g:=g))))))
   ·have hE:hN cs s=(cs,iY t):=by unfold hN;rw[if_neg (show ¬s.next=24 by omega),oe,←fI,←jQ,if_neg (fun z=>hp z.1),ht]
    rw[hE]
    repeat(first|refine aq ?_ |refine eD ?_)
    repeat first|refine aa ?_ |intro
    refine vm (by rw[ql];rfl) ?_
    repeat first|refine aa ?_ |intro
    have eg:iY t={t with second:=true}:=by unfold iY;rw[if_neg (by rw[ql];decide)]
    rw[eg]
    exact aN (aO rfl () rfl (U.sat (ay.bX (by rfl) (U.trans (ad) (aK.shut (g:=g))))))
  ·repeat first|refine aa ?_ |intro
   refine aL 99 (Obj p 161 [.pointer pp,.pointer g,.int .i64 (n:Int)]*(Obj q 267 (eE {s with next:=23,second:=false})*1)) rfl rfl rfl ?_
   repeat(first|refine aq ?_ |refine eD ?_)
   refine aI rfl rfl rfl rfl rfl (AU (id:=s.id) gG (h.out e)) (fun _=>ad) ?_
   intro _
   repeat(first|refine aq ?_ |refine eD ?_)
   refine aI rfl rfl rfl rfl rfl (Spec.aV g (mw g cs s.a s.word (mu s.word s.id) (by omega) (by omega))) (fun _=>ad) ?_
   intro _
   repeat(first|refine aq ?_ |refine eD ?_)
   by_cases hu:cs.getD s.a 0=s.word
   ·have hE:hN cs s=(cs.set s.a (mu s.word s.id),iY {s with next:=23}):=by unfold hN;rw[if_pos e,oe,if_pos hu]
    rw[hE,if_pos hu,decide_eq_true hu]
    repeat first|refine aa ?_ |intro
    have eg:iY {s with next:=23}={{s with next:=23}with second:=true}:=by unfold iY;rw[if_neg (by rw[ot];decide)]
    rw[eg]
    exact aN (aO rfl () rfl (U.sat (ay.bX (by rfl) (U.trans (ad) (aK.shut (g:=g))))))
   ·have hE:hN cs s=(cs,{s with next:=23}):=by unfold hN;rw[if_pos e,oe,if_neg hu]
    rw[hE,if_neg hu,decide_eq_false hu]
    repeat first|refine aa ?_ |intro
    refine ae (dB rfl () rfl (U.sat ?_))
    rw[show ∀A B C:SL,A*(B*C)=B*(A*C)from fun A B C=>by ac_rfl]
    exact ay.bX (by unfold j0;dsimp only;rw[ot];rfl) (U.trans (ad) (aK.shut (g:=g)))
end
section
open Go.RowKit
set_option maxRecDepth 10000
attribute [local irreducible] EK EX ER EN EL ES EG az ba bf
variable {W:World} {F:SL} {X:Cx} {k:List KI} {σ:Env} {p pp g q:Option Addr} {ws cs pl:List Nat} {n np:Nat} {s:aU} {m:eM}
structure eM.Ok (m:eM):Prop where
 phase:m.phase<4
 id:m.id<4096
 fr:m.fr<1024
 to:m.to<1024
 version:m.version<65536
 aS:m.aS≤16384
def lh (u:Nat):eM:=⟨u%4,u/4%4096,u/16384%1024,u/16777216%1024,u/17179869184%65536,u/1125899906842624⟩
def jW (m:eM):Nat:=m.phase+m.id*4+m.fr*16384+m.to*16777216+m.version*17179869184+m.aS%16384*1125899906842624
abbrev Ab (m:eM):Value:= .agg #[.int .i64 (m.phase:Int),.int .i64 (m.id:Int),.int .i64 (m.fr:Int),.int .i64 (m.to:Int),.int .i64 (m.version:Int),.int .i64 (m.aS:Int)]
theorem VW {u:Nat}(h:u<18446744073709551616):(lh u).Ok:=by
 unfold lh
 exact⟨by dsimp only;omega,by dsimp only;omega,by dsimp only;omega,by dsimp only;omega,by dsimp only;omega,by dsimp only;omega⟩
theorem Mi {u:Nat}(hu:u<18446744073709551616):Spec Tryz.prog 193 [.int .u64 (u:Int)] W F (fun _:Unit=> .int .i64 ((u/281474976710656:Nat):Int)) (fun _=>F):=by
 refine Spec.of Tryz.func193 rfl Tryz.ntmps193 rfl ?_
 repeat first|refine aa ?_ |intro
 exact ae (aw rfl rfl () (by rw[show(u:Int)/2^Int.toNat 48=((u/281474976710656:Nat):Int)from mj u 48,lg (by omega)]) (U.sat U.last))
theorem V0 {u:Nat}(hu:u<18446744073709551616):(Value.agg #[.int .i64 (IntKind.i64.wrap (bits .and .u64 (u:Int) 3)),.int .i64 (IntKind.i64.wrap (bits .and .u64 ((u:Int)/2^Int.toNat 2) 4095)),.int .i64 (IntKind.i64.wrap (bits .and .u64 ((u:Int)/2^Int.toNat 14) 1023)),
  .int .i64 (IntKind.i64.wrap (bits .and .u64 ((u:Int)/2^Int.toNat 24) 1023)),.int .i64 (IntKind.i64.wrap (bits .and .u64 ((u:Int)/2^Int.toNat 34) 65535)),.int .i64 (IntKind.i64.wrap ((u:Int)/2^Int.toNat 50))])=Ab (lh u):=by
 rw[show bits .and .u64 (u:Int) 3=((u%2^2:Nat):Int)from qC 2 hu (by decide),show(u:Int)/2^Int.toNat 2=((u/2^2:Nat):Int)from mj u 2,show(u:Int)/2^Int.toNat 14=((u/2^14:Nat):Int)from mj u 14,show(u:Int)/2^Int.toNat 24=((u/2^24:Nat):Int)from mj u 24,
  show(u:Int)/2^Int.toNat 34=((u/2^34:Nat):Int)from mj u 34,show(u:Int)/2^Int.toNat 50=((u/2^50:Nat):Int)from mj u 50,
  show bits .and .u64 ((u/2^2:Nat):Int) 4095=((u/2^2%2^12:Nat):Int)from qC 12 (by omega) (by decide),show bits .and .u64 ((u/2^14:Nat):Int) 1023=((u/2^14%2^10:Nat):Int)from qC 10 (by omega) (by decide),
  show bits .and .u64 ((u/2^24:Nat):Int) 1023=((u/2^24%2^10:Nat):Int)from qC 10 (by omega) (by decide),show bits .and .u64 ((u/2^34:Nat):Int) 65535=((u/2^34%2^16:Nat):Int)from qC 16 (by omega) (by decide),
  lg (by omega),lg (by omega),lg (by omega),lg (by omega),lg (by omega),lg (by omega)]
 rfl
theorem xu {u:Nat}(hu:u<18446744073709551616):Spec Tryz.prog 196 [.int .u64 (u:Int)] W F (fun _:Unit=>Ab (lh u)) (fun _=>F):=by
 refine Spec.of Tryz.func196 rfl Tryz.ntmps196 rfl ?_
 repeat first|refine aa ?_ |intro
 exact ae (kO (rv:= .cell 2 263) rfl ⟨_,rfl,bc.agg rfl⟩ () (V0 hu) (U.sat U.last))
theorem VV {m:eM}(h:m.Ok):bits .or .u64 (bits .or .u64 (bits .or .u64 (bits .or .u64 (bits .or .u64 (m.phase:Int) (IntKind.u64.wrap ((m.id:Int)*2^Int.toNat 2))) (IntKind.u64.wrap ((m.fr:Int)*2^Int.toNat 14))) (IntKind.u64.wrap ((m.to:Int)*2^Int.toNat 24))) (IntKind.u64.wrap ((m.version:Int)*2^Int.toNat 34))) (IntKind.u64.wrap ((m.aS:Int)*2^Int.toNat 50))=(jW m:Int):=by
 obtain⟨h1,h2,h3,h4,h5,h6⟩:=h
 rw[show IntKind.u64.wrap ((m.id:Int)*2^Int.toNat 2)=((m.id*2^2:Nat):Int)from nR m.id 2 (by omega),show IntKind.u64.wrap ((m.fr:Int)*2^Int.toNat 14)=((m.fr*2^14:Nat):Int)from nR m.fr 14 (by omega),
  show IntKind.u64.wrap ((m.to:Int)*2^Int.toNat 24)=((m.to*2^24:Nat):Int)from nR m.to 24 (by omega),show IntKind.u64.wrap ((m.version:Int)*2^Int.toNat 34)=((m.version*2^34:Nat):Int)from nR m.version 34 (by omega),
  show IntKind.u64.wrap ((m.aS:Int)*2^Int.toNat 50)=((m.aS%16384*2^50:Nat):Int)by rw[IntKind.wrap_u64,show(2:Int)^Int.toNat 50=1125899906842624 from rfl];omega,
  sc (by omega) (by omega),sc (by omega) (by omega),sc (by omega) (by omega),sc (by omega) (by omega),sc (by omega) (by omega)]
 rfl
theorem xt (h:m.Ok):Spec Tryz.prog 202 [Ab m] W F (fun _:Unit=> .int .u64 (jW m:Int)) (fun _=>F):=by
 refine Spec.of Tryz.func202 rfl Tryz.ntmps202 rfl ?_
 have h':=h
 obtain⟨h1,h2,h3,h4,h5,h6⟩:=h'
 repeat first|refine aa ?_ |intro
 exact ae (aw rfl rfl () (by rw[VV h]) (U.sat U.last))
theorem VT (h:m.aS<16384):Spec Tryz.prog 235 [Ab m] W F (fun _:Unit=> .int .u64 (jW ⟨0,0,0,0,0,m.aS+1⟩:Int)) (fun _=>F):=by
 refine Spec.of Tryz.func235 rfl Tryz.ntmps235 rfl ?_
 repeat first|refine aa ?_ |intro
 refine ag rfl (xt (m:=⟨0,0,0,0,0,m.aS+1⟩) ⟨by dsimp only;omega,by dsimp only;omega,by dsimp only;omega,by dsimp only;omega,by dsimp only;omega,by dsimp only;omega⟩) ?_
 intro _
 repeat first|refine aa ?_ |intro
 exact ae (aw rfl rfl () rfl (U.sat U.last))
def KW (pl:List Nat)(n id bucket:Nat):Nat:=if(gq (pl.getD (2*id+1) 0) n).1=bucket then(gq (pl.getD (2*id+1) 0) n).2 else(gq (pl.getD (2*id+1) 0) n).1
theorem WN {id bk:Nat}(hf:fH (n:Int)=true)(jb:pl.length=2*np)(c3:np≤3072)(hid:id<np)(hw:∀j,pl.getD j 0<18446744073709551616):Spec Tryz.prog 197 [.pointer p,.int .i64 (id:Int),.int .i64 (bk:Int)] W (Obj p 161 [.pointer pp,.pointer g,.int .i64 (n:Int)]*(aM pp pl*F))
  (fun _:Unit=> .int .i64 (KW pl n id bk:Int)) (fun _=>Obj p 161 [.pointer pp,.pointer g,.int .i64 (n:Int)]*(aM pp pl*F)):=by
 refine Spec.of Tryz.func197 rfl Tryz.ntmps197 rfl ?_
 repeat first|refine aa ?_ |intro
 refine aL 99 (Obj p 161 [.pointer pp,.pointer g,.int .i64 (n:Int)]*1) rfl rfl rfl ?_
 repeat(first|refine aq ?_ |refine eD ?_)
 refine aI rfl rfl rfl rfl rfl (Spec.aV pp (Cc jb c3 hid hw)) (fun _=>ad) ?_
 intro _
 repeat(first|refine aq ?_ |refine eD ?_)
 have hk:=hw (2*id+1)
 unfold KW
 generalize pl.getD (2*id+1) 0=key at*
 have rO:qz ((key/281474976710656:Nat):Int) (key/65536%4294967296) (key%65536) (n:Int)=(((gq key n).1:Int),((gq key n).2:Int)):=by
  unfold qz xg
  rw[if_pos hf,show gz (((key/281474976710656:Nat):Int)%65536).toNat (key/65536%4294967296) (key%65536)=key by unfold gz;omega]
  rfl
 refine aI rfl rfl rfl rfl rfl (GU _ _ (by omega) (by omega)) (fun _=>ad) ?_
 intro _
 rw[rO]
 repeat(first|refine aq ?_ |refine eD ?_)
 by_cases hb:(gq key n).1=bk
 ·repeat first|refine aa ?_ |intro
  rw[if_pos hb]
  exact ae (aw rfl rfl () rfl (U.sat (ad)))
 ·repeat first|refine aa ?_ |intro
  rw[if_neg hb]
  exact ae (aw rfl rfl () rfl (U.sat (ad)))
def Se (s:aU)(id fr to u:Nat):aU:={s with m:=⟨1,id,fr,to,u/281474976710656,(lh s.still).aS⟩,next:=12}
theorem Sf {id fr to u:Nat}(hu:u<18446744073709551616)(hs:s.still<18446744073709551616):Spec Tryz.prog 200 [.pointer q,.int .i64 (id:Int),.int .i64 (fr:Int),.int .i64 (to:Int),.int .u64 (u:Int)] W (ay q s*F) (fun _:Unit=> .tuple #[]) (fun _=>ay q (Se s id fr to u)*F):=by
 refine Spec.of Tryz.func200 rfl Tryz.ntmps200 rfl ?_
 refine ay.open ?_
 repeat first|refine aa ?_ |intro
 refine aL 15 (Obj q 267 (eE s)*1) rfl rfl rfl ?_
 repeat(first|refine aq ?_ |refine eD ?_)
 refine aI rfl rfl rfl rfl rfl (Mi hu) (fun _=>ad) ?_
 intro _
 repeat(first|refine aq ?_ |refine eD ?_)
 refine aI rfl rfl rfl rfl rfl (xu hs) (fun _=>ad) ?_
 intro _
 repeat(first|refine aq ?_ |refine eD ?_)
 repeat(first|refine bQ ?_ |(refine bU ?_;intro)|refine bR ?_ |refine bS ?_ |refine bT ?_ |refine eD ?_)
 repeat first|refine aa ?_ |intro
 exact aN (aO rfl () rfl (U.sat (ay.bX (by rfl) (U.refl _))))
def tP (s:aU)(u yes no:Nat):aU:={s with word:=u,next:=if 0≤dY u (s.m.id:Int)then yes else no}
theorem LY {u yes no:Nat}(hu:u<18446744073709551616):Spec Tryz.prog 194 [.pointer q,.int .u64 (u:Int),.int .i64 (yes:Int),.int .i64 (no:Int)] W (ay q s*F) (fun _:Unit=> .tuple #[]) (fun _=>ay q (tP s u yes no)*F):=by
 refine Spec.of Tryz.func194 rfl Tryz.ntmps194 rfl ?_
 refine ay.open ?_
 repeat first|refine aa ?_ |intro
 refine ag rfl (tX _ hu) ?_
 intro _
 by_cases hw:0≤dY u (s.m.id:Int)
 ·repeat first|refine aa ?_ |intro
  have e:tP s u yes no={s with word:=u,next:=yes}:=by unfold tP;rw[if_pos hw]
  rw[e]
  exact aN (aO rfl () rfl (U.sat (ay.bX (by rfl) (U.refl _))))
 ·repeat first|refine aa ?_ |intro
  have e:tP s u yes no={s with word:=u,next:=no}:=by unfold tP;rw[if_neg hw]
  rw[e]
  exact aN (aO rfl () rfl (U.sat (ay.bX (by rfl) (U.refl _))))
end
section
open Go.RowKit
set_option maxRecDepth 10000
attribute [local irreducible] EK EX ER EN EL ES EG az ba bf
variable {W:World} {F:SL} {X:Cx} {k:List KI} {σ:Env} {p pp g q:Option Addr} {ws cs pl:List Nat} {n np:Nat} {s:aU} {m:eM}
abbrev dq (p pp g:Option Addr)(n:Nat):SL:=Obj p 161 [.pointer pp,.pointer g,.int .i64 (n:Int)]
abbrev gJ (m:eM):List Value:=[.int .i64 (m.phase:Int),.int .i64 (m.id:Int),.int .i64 (m.fr:Int),.int .i64 (m.to:Int),.int .i64 (m.version:Int),.int .i64 (m.aS:Int)]
theorem VZ {a b:eM}:(!@decide (gJ a=gJ b) (Classical.propDecidable _))= !decide (a=b):=by
 obtain⟨a1,a2,a3,a4,a5,a6⟩:=a
 obtain⟨b1,b2,b3,b4,b5,b6⟩:=b
 congr 1
 rw[decide_eq_decide]
 simp only[gJ,List.cons.injEq,Value.int.injEq,eM.mk.injEq,and_true,true_and,Int.natCast_inj]
def CP (cs:List Nat)(n:Nat)(s:aU):aU:=
 if(lh (cs.getD n 0)).phase=0∨{lh (cs.getD n 0)with phase:=s.m.phase}≠s.m then {s with next:=0}
 else {s with m:={s.m with phase:=(lh (cs.getD n 0)).phase},next:=if(lh (cs.getD n 0)).phase=1 then 14 else if(lh (cs.getD n 0)).phase=2 then 17 else 19}
set_option maxHeartbeats 1000000 in
theorem RG (iD:cs.length=n+1)(ka:n≤1024)(hw:∀j,cs.getD j 0<18446744073709551616):Spec Tryz.prog 192 [.pointer p,.pointer q] W (ay q s*(dq p pp g n*(cz g cs*F))) (fun _:Unit=> .tuple #[])
  (fun _=>ay q (CP cs n s)*(dq p pp g n*(cz g cs*F))):=by
 refine Spec.of Tryz.func192 rfl Tryz.ntmps192 rfl ?_
 have lb:=VW (hw n)
 have gx:=hw n
 refine qQ ?_
 refine kN (γ:=Option Addr) (fun _=>True) (fun x=>[(0,.pointer p),(1,.pointer q),(4,.pointer x)]) (fun x=>Obj x 263 (gJ (lh (cs.getD n 0)))*(ay q s*(dq p pp g n*(cz g cs*F)))) ?_ ?_
 ·repeat first|refine aa ?_ |intro
  refine aL 11 (dq p pp g n*1) rfl rfl rfl ?_
  repeat(first|refine aq ?_ |refine eD ?_)
  refine qP (i:=8) (j:=10) (sx rfl rfl rfl rfl (Spec.aV g (fC g cs n (by omega) (by omega))) (fun _=>ad) ?_) (sA rfl rfl (pO rfl) rfl (fun _=>ad) ?_)
  ·intro _
   refine qP (i:=9) (j:=10) (sx rfl rfl rfl rfl (xu gx) (fun _=>ad) ?_) (sA rfl rfl (pO rfl) rfl (fun _=>ad) ?_)
   ·intro _
    repeat(first|refine bQ ?_ |(refine bU ?_;intro)|refine bR ?_ |refine bS ?_ |refine bT ?_ |refine eD ?_)
    rename_i x
    repeat first|refine aa ?_ |intro
    exact ei x trivial ⟨rfl,rfl,rfl,trivial⟩ (U.sat (ad))
   ·intro x
    refine aI rfl rfl rfl rfl rfl (xu gx) (fun _=>ad) ?_
    intro _
    repeat(first|refine bQ ?_ |(refine bU ?_;intro)|refine bR ?_ |refine bS ?_ |refine bT ?_ |refine eD ?_)
    repeat first|refine aa ?_ |intro
    exact ei x trivial ⟨rfl,rfl,rfl,trivial⟩ (U.sat (ad))
  ·intro x
   refine aI rfl rfl rfl rfl rfl (Spec.aV g (fC g cs n (by omega) (by omega))) (fun _=>ad) ?_
   intro _
   refine aI rfl rfl rfl rfl rfl (xu gx) (fun _=>ad) ?_
   intro _
   repeat(first|refine bQ ?_ |(refine bU ?_;intro)|refine bR ?_ |refine bS ?_ |refine bT ?_ |refine eD ?_)
   repeat first|refine aa ?_ |intro
   exact ei x trivial ⟨rfl,rfl,rfl,trivial⟩ (U.sat (ad))
 intro x _
 unfold CP
 generalize lh (cs.getD n 0)=m at*
 refine cW q (ay.open ?_)
 by_cases hp:m.phase=0
 ·repeat first|refine aa ?_ |intro
  refine aL 99 1 rfl rfl rfl ?_
  repeat(first|refine aq ?_ |refine eD ?_)
  repeat first|refine aa ?_ |intro
  rw[if_pos (.inl hp)]
  exact ae (dB rfl () rfl (U.sat (ay.bX (by rfl) (ad))))
 ·repeat first|refine aa ?_ |intro
  refine aL 99 (Obj x 263 (gJ {m with phase:=s.m.phase})*(Obj q 267 (eE s)*1)) rfl rfl rfl ?_
  repeat(first|refine aq ?_ |refine eD ?_)
  rw[VZ]
  by_cases hm:{m with phase:=s.m.phase}=s.m
  ·rw[if_neg (fun e=>e.elim hp (fun e=>e hm)),decide_eq_true hm]
   by_cases h1:m.phase=1
   ·repeat first|refine aa ?_ |intro
    rw[if_pos h1]
    exact aN (aO rfl () rfl (U.sat (ay.bX (by rfl) (ad))))
   ·by_cases h2:m.phase=2
    ·repeat first|refine aa ?_ |intro
     rw[if_neg h1,if_pos h2]
     exact aN (aO rfl () rfl (U.sat (ay.bX (by rfl) (ad))))
    ·repeat first|refine aa ?_ |intro
     rw[if_neg h1,if_neg h2]
     exact aN (aO rfl () rfl (U.sat (ay.bX (by rfl) (ad))))
  ·rw[if_pos (.inr hm),decide_eq_false hm]
   repeat first|refine aa ?_ |intro
   exact ae (dB rfl () rfl (U.sat (ay.bX (by rfl) (ad))))
end
end Go.Proofs.YtakbmjoijcpdmaaGreatDoor
